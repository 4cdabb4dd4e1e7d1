/- The document's readers of messages: what is read without a fault was written so. Conditions: numbers that fit. -/
import Derived.Test.YtpgamibdlinhjaaGreatLwi
set_option linter.unusedVariables false
set_option linter.unusedSimpArgs false
namespace Go.Hay.YtpgamibdlinhjaaGreat
open Go Go.Hay Go.Proofs

def mustE (e : Int) (ok : Bool) : Int := if ok = true then e else if e = 0 then 170 else e
theorem fD89 {e : Int} {ok : Bool} (h : mustE e ok = 0) : e = 0 ∧ ok = true := by
  unfold mustE at h
  split at h
  · rename_i h1; exact ⟨h, h1⟩
  · split at h
    · cases h
    · rename_i h1; exact absurd h h1
def rB (s : RS) : RS × Int := (((hiX s.1 s.2.1 1).1.1, (hiX s.1 s.2.1 1).1.2, s.2.2), (((hiX s.1 s.2.1 1).2 : Nat) : Int))
def fA79 (s : RS) : RS × Bool := (((hiX s.1 s.2.1 1).1.1, mustE (hiX s.1 s.2.1 1).1.2 (decide ((((hiX s.1 s.2.1 1).2 : Nat) : Int) < 2)), s.2.2), decide ((((hiX s.1 s.2.1 1).2 : Nat) : Int) = 1))
def rrRow (s : RS) : RS × List V :=
  (((textR s.1 s.2.1 16777216).1.1, mustE (textR s.1 s.2.1 16777216).1.2 (Rw.decode (textR s.1 s.2.1 16777216).2).isSome, s.2.2), (Rw.decode (textR s.1 s.2.1 16777216).2).getD [])
def rrIns (s : RS) : RS × Ins := ((rrRow (rWord (rSeg s).1).1).1, ((rSeg s).2, ((0, (rWord (rSeg s).1).2), ((rrRow (rWord (rSeg s).1).1).2, 0))))
def rrVer (s : RS) : RS × Ver := ((rLong (rrRow (rName s).1).1).1, ((rName s).2, ((rrRow (rName s).1).2, (rLong (rrRow (rName s).1).1).2)))
theorem rB_cod : Cod wByte (fun n => oByte n 255) (fun _ => True) rB where
  back x rest _ ho := by
    have h := (fC80 255 (by decide)).back x rest trivial ho
    have e1 : (rByte (wByte x ++ rest, 0, false) 255).1.1 = rest := congrArg (fun t => t.1.1) h
    have e2 : (rByte (wByte x ++ rest, 0, false) 255).1.2.1 = 0 := congrArg (fun t => t.1.2.1) h
    have e3 : (rByte (wByte x ++ rest, 0, false) 255).2 = x := congrArg (fun t => t.2) h
    exact Prod.ext (Prod.ext e1 (Prod.ext e2 rfl)) e3
  forth b b' x h := by
    have e1 : (hiX b 0 1).1.1 = b' := congrArg (fun t => t.1.1) h
    have e2 : (hiX b 0 1).1.2 = 0 := congrArg (fun t => t.1.2.1) h
    have h0 : hiX b 0 1 = ((b', 0), (hiX b 0 1).2) := Prod.ext (Prod.ext e1 e2) rfl
    have hx : x = (((hiX b 0 1).2 : Nat) : Int) := (congrArg (fun t => t.2) h).symm
    obtain ⟨h1, h2⟩ := fD92 h0
    refine ⟨fD81.2 ⟨by omega, by omega⟩, trivial, ?_⟩
    rw [hx, fA119 (by omega)]
    exact h2
  stays s b' x h := by
    have e1 : (hiX s.1 s.2.1 1).1.2 = 0 := congrArg (fun t => t.1.2.1) h
    have e2 : s.2.2 = false := congrArg (fun t => t.1.2.2) h
    exact Prod.ext (fC93 (Prod.ext (Prod.ext rfl e1) rfl : hiX s.1 s.2.1 1 = (((hiX s.1 s.2.1 1).1.1, 0), (hiX s.1 s.2.1 1).2))) e2
  le s := hi_le _ _ _
theorem fA98 : Cod wTruth (fun _ => true) (fun _ => True) fA79 where
  back x rest _ _ := by
    have h := rB_cod.back (if x = true then 1 else 0) rest trivial (by cases x <;> rfl)
    have e : wByte (if x = true then 1 else 0) = wTruth x := by cases x <;> rfl
    rw [e] at h
    have e1 : (hiX (wTruth x ++ rest) 0 1).1.1 = rest := congrArg (fun t => t.1.1) h
    have e2 : (hiX (wTruth x ++ rest) 0 1).1.2 = 0 := congrArg (fun t => t.1.2.1) h
    have e3 : (((hiX (wTruth x ++ rest) 0 1).2 : Nat) : Int) = if x = true then 1 else 0 := congrArg (fun t => t.2) h
    unfold fA79
    dsimp only
    rw [e1, e2, e3]
    cases x <;> rfl
  forth b b' x h := by
    have e1 : (hiX b 0 1).1.1 = b' := congrArg (fun t => t.1.1) h
    have e2 : mustE (hiX b 0 1).1.2 (decide ((((hiX b 0 1).2 : Nat) : Int) < 2)) = 0 := congrArg (fun t => t.1.2.1) h
    have e3 : decide ((((hiX b 0 1).2 : Nat) : Int) = 1) = x := congrArg (fun t => t.2) h
    obtain ⟨e4, e5⟩ := fD89 e2
    have h0 : hiX b 0 1 = ((b', 0), (hiX b 0 1).2) := Prod.ext (Prod.ext e1 e4) rfl
    obtain ⟨h1, h2⟩ := fD92 h0
    have e6 := of_decide_eq_true e5
    refine ⟨rfl, trivial, ?_⟩
    rw [h2]
    generalize (hiX b 0 1).2 = n at e3 e6
    rcases (show n = 0 ∨ n = 1 by omega) with rfl | rfl
    · subst e3; rfl
    · subst e3; rfl
  stays s b' x h := by
    have e2 : mustE (hiX s.1 s.2.1 1).1.2 (decide ((((hiX s.1 s.2.1 1).2 : Nat) : Int) < 2)) = 0 := congrArg (fun t => t.1.2.1) h
    have e3 : s.2.2 = false := congrArg (fun t => t.1.2.2) h
    have e1 := (fD89 e2).1
    exact Prod.ext (fC93 (Prod.ext (Prod.ext rfl e1) rfl : hiX s.1 s.2.1 1 = (((hiX s.1 s.2.1 1).1.1, 0), (hiX s.1 s.2.1 1).2))) e3
  le s := hi_le _ _ _
theorem fC127 : Cod wRow Rw.rights Rw.fitsL rrRow where
  back x rest hf ho := by
    have hl := Rw.fA141 ho
    have := fA130 (Rw.enc x) 16777216 rest (by omega) (by omega)
    unfold rrRow wRow
    rw [if_pos ho, this]
    simp only
    rw [Rw.fC121 ho hf]
    rfl
  forth b b' x h := by
    have e1 : (textR b 0 16777216).1.1 = b' := congrArg (fun t => t.1.1) h
    have e2 : mustE (textR b 0 16777216).1.2 (Rw.decode (textR b 0 16777216).2).isSome = 0 := congrArg (fun t => t.1.2.1) h
    have e4 : (Rw.decode (textR b 0 16777216).2).getD [] = x := congrArg (fun t => t.2) h
    obtain ⟨e5, e6⟩ := fD89 e2
    have h0 : textR b 0 16777216 = ((b', 0), (textR b 0 16777216).2) := Prod.ext (Prod.ext e1 e5) rfl
    cases hd : Rw.decode (textR b 0 16777216).2 with
    | none => rw [hd] at e6; cases e6
    | some l =>
      rw [hd] at e4
      simp only [Option.getD_some] at e4
      subst e4
      obtain ⟨g1, g2, g3⟩ := Rw.fB119 hd
      refine ⟨g1, g2, ?_⟩
      unfold wRow
      rw [if_pos g1, g3]
      exact fC120 h0
  stays s b' x h := by
    have e2 : mustE (textR s.1 s.2.1 16777216).1.2 (Rw.decode (textR s.1 s.2.1 16777216).2).isSome = 0 := congrArg (fun t => t.1.2.1) h
    have e3 : s.2.2 = false := congrArg (fun t => t.1.2.2) h
    have e1 := (fD89 e2).1
    exact Prod.ext (fA122 (Prod.ext (Prod.ext rfl e1) rfl : textR s.1 s.2.1 16777216 = (((textR s.1 s.2.1 16777216).1.1, 0), (textR s.1 s.2.1 16777216).2))) e3
  le s := fC143 _ _ _
theorem fC151 : Cod wVer oVer FVer rrVer := by
  refine (fA89.pair (fC127.pair fD2)).map id id (fun y hf ho => ⟨⟨⟨hf.1, hf.2.1⟩, hf.2.2.1, hf.2.2.2⟩, ?_, rfl, ?_⟩) fun x hf ho => ⟨⟨hf.1.1, hf.1.2, hf.2.1, hf.2.2⟩, ?_, ?_⟩
  · have : Rw.rights y.2.1 = true := ho
    simp only [id_eq]
    rw [this]
    rfl
  · unfold wVer
    simp only [id_eq, List.append_assoc]
  · simp only [Bool.and_eq_true] at ho
    exact ho.2.1
  · unfold wVer
    simp only [id_eq, List.append_assoc]
theorem fD150 : Cod wIns oIns FIns rrIns := by
  refine (fD78.pair (fA88.pair fC127)).map (fun x => (x.1, ((0, x.2.1), (x.2.2, 0)))) (fun y => (y.1, (y.2.1.2, y.2.2.1))) (fun y hf ho => ?_) fun x hf ho => ?_
  · unfold oIns at ho
    simp only [Bool.and_eq_true, decide_eq_true_eq] at ho
    obtain ⟨⟨h1, h2⟩, h3, h4, h5⟩ := ho
    obtain ⟨f1, f2, f3, f4, f5, f6⟩ := hf
    refine ⟨⟨⟨f1, f2⟩, f4, f5⟩, by simp only; rw [h3, h4, h5]; rfl, ?_, ?_⟩
    · obtain ⟨a, ⟨⟨b, c⟩, d, e⟩⟩ := y
      simp only at h1 h2 ⊢
      subst h1; subst h2
      rfl
    · unfold wIns
      simp only [List.append_assoc]
  · simp only [Bool.and_eq_true] at ho
    obtain ⟨⟨h1, h2⟩, h3, h4⟩ := ho
    refine ⟨⟨hf.1.1, hf.1.2, ⟨Int.le_refl 0, show (0 : Int) < 18446744073709551616 by decide⟩, hf.2.1, hf.2.2, ⟨Int.le_refl 0, show (0 : Int) < 18446744073709551616 by decide⟩⟩, ?_, ?_⟩
    · unfold oIns
      simp only
      rw [h1, h2, h4]
      rfl
    · unfold wIns
      simp only [List.append_assoc]

def fo2 (c : Let) (m : Msg) : Bool := match c with
  | .p => m.jP.all oIns && m.jP1.all oErs | .a => oPlace m.jO_.1 && oPlace m.jO_.2 | .v => m.jQ.all oVer | .d => oByte m.jK 255 | _ => true
def fr2 (c : Let) (z : RS) (o : Msg) : RS × Msg := match c with
  | .x => ((rLong z).1, { o with jD := (rLong z).2 }) | .b => ((rLong z).1, { o with jE := (rLong z).2 })
  | .p => ((rList rErs (rList rrIns z).1).1, { o with jP := (rList rrIns z).2, jP1 := (rList rErs (rList rrIns z).1).2 })
  | .y => ((fA79 z).1, { o with jL := (fA79 z).2 }) | .e => ((rLong z).1, { o with jF := (rLong z).2 }) | .m => ((rLong z).1, { o with jH := (rLong z).2 }) | .q => ((rLong z).1, { o with jI := (rLong z).2 })
  | .a => ((rSeg z).1, { o with jO_ := (rSeg z).2 }) | .n => ((fA79 z).1, { o with jM := (fA79 z).2 }) | .v => ((rList rrVer z).1, { o with jQ := (rList rrVer z).2 })
  | .w => ((fA79 z).1, { o with jN := (fA79 z).2 }) | .d => ((rB z).1, { o with jK := (rB z).2 }) | .t => ((rLong z).1, { o with jJ := (rLong z).2 }) | .s => ((rLong z).1, { o with jG := (rLong z).2 })

structure Let2Ok (c : Let) : Prop where
  back : ∀ m o rest, fF c m → fo2 c m = true → fr2 c (fw c m ++ rest, 0, false) o = ((rest, 0, false), copy c m o)
  forth : ∀ b b' m o, fr2 c (b, 0, false) o = ((b', 0, false), m) → fo2 c m = true ∧ fF c m ∧ b = fw c m ++ b' ∧ m = copy c m o
  stays : ∀ z b' m o, fr2 c z o = ((b', 0, false), m) → z.2 = (0, false)
  le : ∀ z o, (fr2 c z o).1.1.length ≤ z.1.length

theorem fD77 {α : Type} {c : Let} {w : α → List UInt8} {o : α → Bool} {F : α → Prop} {r : RS → RS × α} (h : Cod w o F r) (get : Msg → α) (set : α → Msg → Msg) (hg : ∀ x m, get (set x m) = x)
    (h1 : ∀ m, fw c m = w (get m)) (h2 : ∀ m, fo2 c m = o (get m)) (h3 : ∀ m, fF c m ↔ F (get m)) (h4 : ∀ m o, copy c m o = set (get m) o) (h5 : ∀ z m, fr2 c z m = ((r z).1, set (r z).2 m)) : Let2Ok c where
  back m o rest hf ho := by rw [h5, h1, h.back (get m) rest ((h3 m).1 hf) (by rw [← h2]; exact ho), h4]
  forth b b' m o h0 := by
    rw [h5] at h0
    have e1 : (r (b, 0, false)).1 = (b', 0, false) := congrArg (fun t => t.1) h0
    have e2 : set (r (b, 0, false)).2 o = m := congrArg (fun t => t.2) h0
    obtain ⟨a1, a2, a3⟩ := h.forth b b' (r (b, 0, false)).2 (Prod.ext e1 rfl)
    have e3 : get m = (r (b, 0, false)).2 := by rw [← e2, hg]
    exact ⟨by rw [h2, e3]; exact a1, (h3 m).2 (by rw [e3]; exact a2), by rw [h1, e3]; exact a3, by rw [h4, e3]; exact e2.symm⟩
  stays z b' m o h0 := by
    rw [h5] at h0
    have e1 : (r z).1 = (b', 0, false) := congrArg (fun t => t.1) h0
    exact h.stays z b' (r z).2 (Prod.ext e1 rfl)
  le z o := by rw [h5]; exact h.le z

theorem fB125 : ∀ c : Let, Let2Ok c
  | .x => fD77 fD2 (·.jD) (fun x m => { m with jD := x }) (fun _ _ => rfl) (fun _ => rfl) (fun _ => rfl) (fun _ => Iff.rfl) (fun _ _ => rfl) fun _ _ => rfl
  | .b => fD77 fD2 (·.jE) (fun x m => { m with jE := x }) (fun _ _ => rfl) (fun _ => rfl) (fun _ => rfl) (fun _ => Iff.rfl) (fun _ _ => rfl) fun _ _ => rfl
  | .p => fD77 (fD150.list.pair fB93.list) (fun m => (m.jP, m.jP1)) (fun x m => { m with jP := x.1, jP1 := x.2 }) (fun _ _ => rfl) (fun _ => rfl) (fun _ => rfl) (fun _ => Iff.rfl) (fun _ _ => rfl) fun _ _ => rfl
  | .y => fD77 fA98 (·.jL) (fun x m => { m with jL := x }) (fun _ _ => rfl) (fun _ => rfl) (fun _ => rfl) (fun _ => Iff.rfl) (fun _ _ => rfl) fun _ _ => rfl
  | .e => fD77 fD2 (·.jF) (fun x m => { m with jF := x }) (fun _ _ => rfl) (fun _ => rfl) (fun _ => rfl) (fun _ => Iff.rfl) (fun _ _ => rfl) fun _ _ => rfl
  | .m => fD77 fD2 (·.jH) (fun x m => { m with jH := x }) (fun _ _ => rfl) (fun _ => rfl) (fun _ => rfl) (fun _ => Iff.rfl) (fun _ _ => rfl) fun _ _ => rfl
  | .q => fD77 fD2 (·.jI) (fun x m => { m with jI := x }) (fun _ _ => rfl) (fun _ => rfl) (fun _ => rfl) (fun _ => Iff.rfl) (fun _ _ => rfl) fun _ _ => rfl
  | .a => fD77 fD78 (·.jO_) (fun x m => { m with jO_ := x }) (fun _ _ => rfl) (fun _ => rfl) (fun _ => rfl) (fun _ => Iff.rfl) (fun _ _ => rfl) fun _ _ => rfl
  | .n => fD77 fA98 (·.jM) (fun x m => { m with jM := x }) (fun _ _ => rfl) (fun _ => rfl) (fun _ => rfl) (fun _ => Iff.rfl) (fun _ _ => rfl) fun _ _ => rfl
  | .v => fD77 fC151.list (·.jQ) (fun x m => { m with jQ := x }) (fun _ _ => rfl) (fun _ => rfl) (fun _ => rfl) (fun _ => Iff.rfl) (fun _ _ => rfl) fun _ _ => rfl
  | .w => fD77 fA98 (·.jN) (fun x m => { m with jN := x }) (fun _ _ => rfl) (fun _ => rfl) (fun _ => rfl) (fun _ => Iff.rfl) (fun _ _ => rfl) fun _ _ => rfl
  | .d => fD77 rB_cod (·.jK) (fun x m => { m with jK := x }) (fun _ _ => rfl) (fun _ => rfl) (fun _ => rfl) (fun _ => Iff.rfl) (fun _ _ => rfl) fun _ _ => rfl
  | .t => fD77 fD2 (·.jJ) (fun x m => { m with jJ := x }) (fun _ _ => rfl) (fun _ => rfl) (fun _ => rfl) (fun _ => Iff.rfl) (fun _ _ => rfl) fun _ _ => rfl
  | .s => fD77 fD2 (·.jG) (fun x m => { m with jG := x }) (fun _ _ => rfl) (fun _ => rfl) (fun _ => rfl) (fun _ => Iff.rfl) (fun _ _ => rfl) fun _ _ => rfl

/-- A field of two messages is the same. -/
structure Alike2 (c : Let) (m m2 : Msg) : Prop where
  w : fw c m = fw c m2
  o : fo2 c m = fo2 c m2
  F : fF c m ↔ fF c m2
  copy : ∀ z, Go.Hay.YtpgamibdlinhjaaGreat.copy c m z = Go.Hay.YtpgamibdlinhjaaGreat.copy c m2 z
theorem Alike2.refl (c : Let) (m : Msg) : Alike2 c m m := ⟨rfl, rfl, Iff.rfl, fun _ => rfl⟩
theorem Alike2.trans {c : Let} {m o z : Msg} (h : Alike2 c m o) (k : Alike2 c o z) : Alike2 c m z := ⟨h.w.trans k.w, h.o.trans k.o, h.F.trans k.F, fun x => (h.copy x).trans (k.copy x)⟩
theorem fB139 {c c2 : Let} (h : c ≠ c2) (m o : Msg) : Alike2 c (copy c2 m o) o := by
  cases c2 <;> cases c <;> first | exact absurd rfl h | exact ⟨rfl, rfl, Iff.rfl, fun _ => rfl⟩
def frs2 : List Let → RS → Msg → RS × Msg
  | [], z, o => (z, o)
  | c :: l, z, o => frs2 l (fr2 c z o).1 (fr2 c z o).2
theorem fC89 {c : Let} : ∀ {l : List Let}, c ∉ l → ∀ m o, Alike2 c (copies l m o) o
  | [], _, m, o => .refl _ _
  | c2 :: l, h, m, o => (fC89 (fun hm => h (List.mem_cons_of_mem _ hm)) m (copy c2 m o)).trans (fB139 (fun e => h (by rw [e]; exact List.mem_cons_self ..)) m o)
theorem fD127 : ∀ (l : List Let) (m o : Msg) (rest : List UInt8), (∀ c ∈ l, fF c m ∧ fo2 c m = true) → frs2 l (l.flatMap (fun c => fw c m) ++ rest, 0, false) o = ((rest, 0, false), copies l m o)
  | [], m, o, rest, _ => rfl
  | c :: l, m, o, rest, h => by
    obtain ⟨h1, h2⟩ := h c (List.mem_cons_self ..)
    have h3 := (fB125 c).back m o (l.flatMap (fun c => fw c m) ++ rest) h1 h2
    rw [List.flatMap_cons, List.append_assoc, frs2, h3]
    exact fD127 l m _ rest fun c2 hd => h c2 (List.mem_cons_of_mem _ hd)
theorem fA103 : ∀ (l : List Let) (z : RS) (o m : Msg) (b' : List UInt8), frs2 l z o = ((b', 0, false), m) → z.2 = (0, false)
  | [], z, o, m, b', h => by rw [frs2] at h; cases h; rfl
  | c :: l, z, o, m, b', h => by
    rw [frs2] at h
    have q := rs_of (fA103 l _ _ _ _ h)
    exact (fB125 c).stays z (fr2 c z o).1.1 (fr2 c z o).2 o (Prod.ext q rfl)
theorem fB122 : ∀ (l : List Let) (b b' : List UInt8) (o m : Msg), l.Nodup → frs2 l (b, 0, false) o = ((b', 0, false), m) →
    (∀ c ∈ l, fF c m ∧ fo2 c m = true) ∧ b = l.flatMap (fun c => fw c m) ++ b' ∧ m = copies l m o
  | [], b, b', o, m, _, h => by rw [frs2] at h; cases h; exact ⟨by simp, by simp, rfl⟩
  | c :: l, b, b', o, m, hn, h => by
    rw [frs2] at h
    have q := rs_of (fA103 l _ _ _ _ h)
    obtain ⟨a1, a2, a3, a4⟩ := (fB125 c).forth b (fr2 c (b, 0, false) o).1.1 (fr2 c (b, 0, false) o).2 o (Prod.ext q rfl)
    rw [q] at h
    have hn' := List.nodup_cons.1 hn
    obtain ⟨g1, g2, g3⟩ := fB122 l _ b' _ m hn'.2 h
    have al : Alike2 c m (fr2 c (b, 0, false) o).2 := by rw [g3]; exact fC89 hn'.1 _ _
    refine ⟨fun c2 hd => ?_, ?_, ?_⟩
    · rcases List.mem_cons.1 hd with rfl | hd
      · exact ⟨al.F.2 a2, by rw [al.o]; exact a1⟩
      · exact g1 c2 hd
    · rw [List.flatMap_cons, List.append_assoc, ← g2, al.w]
      exact a3
    · rw [copies, al.copy, ← a4]
      exact g3

def rr3 (s : RS) : RS × (Int × Int × Int) := ((rB (rB (rB s).1).1).1, ((rB s).2, (rB (rB s).1).2, (rB (rB (rB s).1).1).2))
theorem fB145 : Cod (fun x : Int × Int × Int => wByte x.1 ++ (wByte x.2.1 ++ wByte x.2.2)) (fun x => oByte x.1 255 && (oByte x.2.1 255 && oByte x.2.2 255)) (fun x => True ∧ True ∧ True) rr3 := rB_cod.pair (rB_cod.pair rB_cod)
def rrAll (s : RS) : RS × Msg := frs2 (fA1 (rr3 s).2.1) (rr3 s).1 (head (rr3 s).2.1 (rr3 s).2.2.1 (rr3 s).2.2.2)
theorem byte8 {n : Int} (h : oByte n 8 = true) : oByte n 255 = true := by
  obtain ⟨h1, h2⟩ := fD81.1 h
  exact fD81.2 ⟨h1, by omega⟩
theorem fo2_of {c : Let} {m : Msg} (h : fo c m = true) : fo2 c m = true := by
  cases c <;> first | exact h | exact byte8 h | rfl
theorem fD121 (m : Msg) (hf : FM m) (ho : okM m = true) : rrAll (body m, 0, false) = (([], 0, false), taken m) := by
  obtain ⟨h1, h2, h3, h4, h5⟩ := fD100 ho
  have e : body m = (wByte m.jA ++ (wByte m.jB_ ++ wByte m.jC_)) ++ ((fA1 m.jA).flatMap (fun c => fw c m) ++ []) := by unfold body; simp only [List.append_assoc, List.append_nil]
  have q := fB145.back (m.jA, m.jB_, m.jC_) ((fA1 m.jA).flatMap (fun c => fw c m) ++ []) ⟨trivial, trivial, trivial⟩ (by simp only; rw [h1, byte8 h2, byte8 h3]; rfl)
  unfold rrAll
  rw [e, q]
  dsimp only
  rw [fD127 (fA1 m.jA) m (head m.jA m.jB_ m.jC_) [] fun c hc => ⟨hf c, fo2_of (h4 c hc)⟩]
  rfl
theorem fC139 {b : List UInt8} {m : Msg} (h : rrAll (b, 0, false) = (([], 0, false), m)) : b = body m ∧ taken m = m ∧ ∀ c, fF c m ∧ fo2 c m = true := by
  unfold rrAll at h
  generalize hx : (rr3 (b, 0, false)).2 = kft at h
  obtain ⟨k, f, t⟩ := kft
  dsimp only at h
  have q0 := rs_of (fA103 _ _ _ _ _ h)
  obtain ⟨a1, _, a3⟩ := fB145.forth b (rr3 (b, 0, false)).1.1 (k, f, t) (Prod.ext q0 hx)
  rw [q0] at h
  obtain ⟨g1, g2, g3⟩ := fB122 _ _ _ _ _ (fD104 k) h
  obtain ⟨c1, c2, c3⟩ := fD97 (fA1 k) m (head k f t)
  rw [← g3] at c1 c2 c3
  have c1' : m.jA = k := c1
  have c2' : m.jB_ = f := c2
  have c3' : m.jC_ = t := c3
  refine ⟨?_, ?_, fun c => ?_⟩
  · unfold body
    rw [c1', c2', c3', a3, g2]
    simp only [List.append_assoc, List.append_nil]
  · unfold taken
    rw [c1', c2', c3', ← g3]
  · by_cases hc : c ∈ fA1 k
    · exact g1 c hc
    · have al := fC89 hc m (head k f t)
      rw [← g3] at al
      obtain ⟨h1, h2⟩ := fD122 c k f t
      exact ⟨al.F.2 h1, by rw [al.o]; exact fo2_of h2⟩
theorem fA156 {m : Msg} (h : ∀ c, fF c m ∧ fo2 c m = true) : BM m := by
  have hp := (h .p).2
  have hv := (h .v).2
  simp only [fo2, Bool.and_eq_true, List.all_eq_true] at hp hv
  refine ⟨fun c => (h c).1, fun x hx => ⟨(h .p).1.1.1 x hx, ?_⟩, fun x hx => (h .p).1.2.1 x hx, fun x hx => ⟨(h .v).1.1 x hx, ?_⟩⟩
  · have := hp.1 x hx
    unfold oIns at this
    simp only [Bool.and_eq_true] at this
    have := fB116 this.2.2.2
    omega
  · have := fB116 (hv x hx)
    omega
/- The readers as they run. -/
def Q (B b : List UInt8) : Int := ((B.length - b.length : Nat) : Int)
section
variable {B : List UInt8}
theorem fB81 {s : RS} (h : s.1 <:+ B) : (rLong s).1.1 <:+ B := hi_suf h _ _
theorem fC117 {s : RS} (h : s.1 <:+ B) : (rWord s).1.1 <:+ B := hi_suf h _ _
theorem suf_b {s : RS} (h : s.1 <:+ B) : (rB s).1.1 <:+ B := hi_suf h _ _
theorem fC112 {s : RS} (h : s.1 <:+ B) : (fA79 s).1.1 <:+ B := hi_suf h _ _
theorem fA115 {s : RS} (h : s.1 <:+ B) : (rPlace s).1.1 <:+ B := fC90 h _ _
theorem fC123 {s : RS} (h : s.1 <:+ B) : (rrRow s).1.1 <:+ B := fB133 h _ _
theorem fB91 {s : RS} (h : s.1 <:+ B) : (rSeg s).1.1 <:+ B := fA115 (fA115 h)
theorem fC101 {s : RS} (h : s.1 <:+ B) : (rName s).1.1 <:+ B := fC117 (fB81 h)
theorem fD123 {s : RS} (h : s.1 <:+ B) : (rrIns s).1.1 <:+ B := fC123 (fC117 (fB91 h))
theorem fD140 {s : RS} (h : s.1 <:+ B) : (rErs s).1.1 <:+ B := fC101 (fB91 h)
theorem fD141 {s : RS} (h : s.1 <:+ B) : (rrVer s).1.1 <:+ B := fB81 (fC123 (fC101 h))
theorem suf_L {α : Type} {r : RS → RS × α} (hr : ∀ s, s.1 <:+ B → (r s).1.1 <:+ B) : ∀ (n : Nat) (s : RS) (l : List α), s.1 <:+ B → (rL r n s l).1.1 <:+ B
  | 0, s, l, h => h
  | n + 1, s, l, h => by
    rw [rL]
    split
    · exact h
    · exact suf_L hr n _ _ (hr s h)
theorem fC103 {α : Type} {r : RS → RS × α} (hr : ∀ s, s.1 <:+ B → (r s).1.1 <:+ B) {s : RS} (h : s.1 <:+ B) : (rList r s).1.1 <:+ B := suf_L hr _ _ _ (fC90 h _ _)
theorem flag_L {α : Type} {r : RS → RS × α} (hr : ∀ s, (r s).1.2.2 = s.2.2) : ∀ (n : Nat) (s : RS) (l : List α), (rL r n s l).1.2.2 = s.2.2
  | 0, s, l => rfl
  | n + 1, s, l => by
    rw [rL]
    split
    · rfl
    · exact (flag_L hr n _ _).trans (hr s)
theorem fD161 {s : RS} (h : s.1 <:+ B) (hB : B.length ≤ 1000000000000) : s.1.length ≤ 1000000000000 := Nat.le_trans h.length_le hB

theorem q_long (k : Nat) {s : RS} (h : s.1 <:+ B) (hB : B.length ≤ 1000000000000) : fB4.run (k + 20) B (Q B s.1) s.2.1 (8 : Int) = some ((B, Q B (rLong s).1.1, (rLong s).1.2.1, ()), (rLong s).2, ()) := go_o (rf_get (k + 11) h (by omega) s.2.1 8 (by omega)) rfl
theorem q_word (k : Nat) {s : RS} (h : s.1 <:+ B) (hB : B.length ≤ 1000000000000) : fB4.run (k + 20) B (Q B s.1) s.2.1 (4 : Int) = some ((B, Q B (rWord s).1.1, (rWord s).1.2.1, ()), (rWord s).2, ()) := go_o (rf_get (k + 11) h (by omega) s.2.1 4 (by omega)) rfl
theorem q_b (k : Nat) {s : RS} (h : s.1 <:+ B) (hB : B.length ≤ 1000000000000) : fB4.run (k + 20) B (Q B s.1) s.2.1 (1 : Int) = some ((B, Q B (rB s).1.1, (rB s).1.2.1, ()), (rB s).2, ()) := go_o (rf_get (k + 11) h (by omega) s.2.1 1 (by omega)) rfl
theorem fD134 (s : RS) : IntKind.u32.wrap (rWord s).2 = (rWord s).2 := by
  have := hi_lt s.1 s.2.1 4
  show IntKind.u32.wrap (((hiX s.1 s.2.1 4).2 : Nat) : Int) = (((hiX s.1 s.2.1 4).2 : Nat) : Int)
  rw [w_u32]; omega
theorem q_must (N : Nat) (p e : Int) (ok_ : Bool) : fA67.run N B p e ok_ = some ((B, p, mustE e ok_, ()), ()) := by
  cases ok_
  · refine go_t rfl (go_o (v := (decide (e = 0), ())) rfl ?_)
    by_cases h : e = 0
    · exact go_d h (by unfold mustE; rw [if_neg (by decide), if_pos h])
    · exact go_n h (by unfold mustE; rw [if_neg (by decide), if_neg h])
  · exact go_f rfl rfl
theorem q_many (k : Nat) {s : RS} (h : s.1 <:+ B) (hB : B.length ≤ 1000000000000) (most : Nat) (hm : most ≤ 2147483647) :
    fA27.run (k + 20) B (Q B s.1) s.2.1 (most : Int) = some ((B, Q B (varR s.1 s.2.1 most).1.1, (varR s.1 s.2.1 most).1.2, ()), (((varR s.1 s.2.1 most).2 : Nat) : Int), ()) := by
  have hv := fD124 s.1 s.2.1 most (by omega)
  have hq := fD126 (k + 11) h (by omega) s.2.1 (most : Int) false (most : Int) rfl
  refine go_o hq ?_
  dsimp only
  rw [wrap_nat _ (by omega)]
  rfl
theorem fA145 (k : Nat) {s : RS} (h : s.1 <:+ B) (hB : B.length ≤ 1000000000000) : fA27.run (k + 20) B (Q B s.1) s.2.1 (2147483647 : Int) = some ((B, Q B (rPlace s).1.1, (rPlace s).1.2.1, ()), (rPlace s).2, ()) := q_many k h hB 2147483647 (by omega)
theorem fA124 (k : Nat) {s : RS} (h : s.1 <:+ B) (hB : B.length ≤ 1000000000000) : fA27.run (k + 20) B (Q B s.1) s.2.1 (16777216 : Int) = some ((B, Q B (varR s.1 s.2.1 16777216).1.1, (varR s.1 s.2.1 16777216).1.2, ()), (((varR s.1 s.2.1 16777216).2 : Nat) : Int), ()) := q_many k h hB 16777216 (by omega)
theorem q_seg (k : Nat) {s : RS} (h : s.1 <:+ B) (hB : B.length ≤ 1000000000000) : fB32.run (k + 20) B (Q B s.1) s.2.1 = some ((B, Q B (rSeg s).1.1, (rSeg s).1.2.1, ()), (rSeg s).2, ()) :=
  go_o (fA145 k h hB) (go_o (fA145 k (fA115 h) hB) rfl)
theorem q_name (k : Nat) {s : RS} (h : s.1 <:+ B) (hB : B.length ≤ 1000000000000) : fB67.run (k + 20) B (Q B s.1) s.2.1 = some ((B, Q B (rName s).1.1, (rName s).1.2.1, ()), (rName s).2, ()) := by
  refine go_o (q_long k h hB) (go_o (q_word k (fB81 h) hB) ?_)
  dsimp only
  rw [fD134]
  rfl
theorem q_row (k : Nat) (hk : 17000000 ≤ k) {s : RS} (h : s.1 <:+ B) (hB : B.length ≤ 1000000000000) : fC73.run (k + 20) B (Q B s.1) s.2.1 = some ((B, Q B (rrRow s).1.1, (rrRow s).1.2.1, ()), (rrRow s).2, ()) := by
  have hf := fD117 s.1 s.2.1 16777216
  have hs := fD161 h hB
  have hq := Rw.fB132 (k + 11) (by omega) (textR s.1 s.2.1 16777216).2 (by omega)
  unfold Rw.decR at hq
  refine go_o (fB148 (k + 11) h (by omega) s.2.1 16777216 (by decide) (by decide)) ?_
  unfold rrRow
  cases hd : Rw.decode (textR s.1 s.2.1 16777216).2 with
  | none => rw [hd] at hq; exact go_o hq (go_o (q_must _ _ _ _) rfl)
  | some l => rw [hd] at hq; exact go_o hq (go_o (q_must _ _ _ _) rfl)
theorem fB126 (k : Nat) {s : RS} (h : s.1 <:+ B) (hB : B.length ≤ 1000000000000) : fC65.run (k + 20) B (Q B s.1) s.2.1 = some ((B, Q B (fA79 s).1.1, (fA79 s).1.2.1, ()), (fA79 s).2, ()) :=
  go_o (q_b k h hB) (go_o (q_must _ _ _ _) rfl)
theorem fA118 {s : RS} (hw : s.2.2 = false) : failed s = !decide (s.2.1 = 0) := by unfold failed; rw [hw]; rfl
theorem fA143 (k : Nat) (hk : 17000000 ≤ k) (hB : B.length ≤ 1000000000000) (er : List Ers) (n : Nat) (hn : n ≤ 16777216) : ∀ (d i : Nat) (s : RS) (l : List Ins) (fuel : Nat), n = i + d → l.length = i → s.1 <:+ B → s.2.2 = false → d < fuel →
    fB55.go (k + 20) fuel B (Q B s.1) s.2.1 l er (n : Int) (i : Int) = some ((B, Q B (rL rrIns d s l).1.1, (rL rrIns d s l).1.2.1, ()), ((rL rrIns d s l).2, er, ()), ())
  | _, _, _, _, 0, _, _, _, _, h => absurd h (Nat.not_lt_zero _)
  | 0, i, s, l, fuel + 1, e, _, _, _, _ => go_n (by omega) rfl
  | d + 1, i, s, l, fuel + 1, e, hl, hs, hw, hf => by
    refine go_d (by omega) (go_o (v := (decide (s.2.1 = 0), ())) rfl ?_)
    rw [rL, fA118 hw]
    by_cases h0 : s.2.1 = 0
    · rw [decide_eq_true h0, Bool.not_true, if_neg (by decide)]
      refine go_t rfl (go_o (q_seg k hs hB) (go_o (q_word k (fB91 hs) hB) (go_o (q_row k hk (fC117 (fB91 hs)) hB) (go_t (room_t (by omega) (by omega)) ?_))))
      rw [wrap_succ i (by omega), fD134]
      exact fA143 k hk hB er n hn d (i + 1) (rrIns s).1 (l ++ [(rrIns s).2]) fuel (by omega) (by simp [hl]) (fD123 hs) hw (by omega)
    · rw [decide_eq_false h0, Bool.not_false, if_pos rfl]
      exact go_f rfl rfl
theorem fC145 (k : Nat) (hB : B.length ≤ 1000000000000) (ins : List Ins) (n : Nat) (hn : n ≤ 16777216) : ∀ (d i : Nat) (s : RS) (l : List Ers) (fuel : Nat), n = i + d → l.length = i → s.1 <:+ B → s.2.2 = false → d < fuel →
    fD56.go (k + 20) fuel B (Q B s.1) s.2.1 ins l (n : Int) (i : Int) = some ((B, Q B (rL rErs d s l).1.1, (rL rErs d s l).1.2.1, ()), (ins, (rL rErs d s l).2, ()), ())
  | _, _, _, _, 0, _, _, _, _, h => absurd h (Nat.not_lt_zero _)
  | 0, i, s, l, fuel + 1, e, _, _, _, _ => go_n (by omega) rfl
  | d + 1, i, s, l, fuel + 1, e, hl, hs, hw, hf => by
    refine go_d (by omega) (go_o (v := (decide (s.2.1 = 0), ())) rfl ?_)
    rw [rL, fA118 hw]
    by_cases h0 : s.2.1 = 0
    · rw [decide_eq_true h0, Bool.not_true, if_neg (by decide)]
      refine go_t rfl (go_o (q_seg k hs hB) (go_o (q_name k (fB91 hs) hB) (go_t (room_t (by omega) (by omega)) ?_)))
      rw [wrap_succ i (by omega)]
      exact fC145 k hB ins n hn d (i + 1) (rErs s).1 (l ++ [(rErs s).2]) fuel (by omega) (by simp [hl]) (fD140 hs) hw (by omega)
    · rw [decide_eq_false h0, Bool.not_false, if_pos rfl]
      exact go_f rfl rfl
theorem fC141 (k : Nat) (hk : 17000000 ≤ k) (hB : B.length ≤ 1000000000000) (n : Nat) (hn : n ≤ 16777216) : ∀ (d i : Nat) (s : RS) (l : List Ver) (fuel : Nat), n = i + d → l.length = i → s.1 <:+ B → s.2.2 = false → d < fuel →
    fA30.go (k + 20) fuel B (Q B s.1) s.2.1 l (n : Int) (i : Int) = some ((B, Q B (rL rrVer d s l).1.1, (rL rrVer d s l).1.2.1, ()), (rL rrVer d s l).2, ())
  | _, _, _, _, 0, _, _, _, _, h => absurd h (Nat.not_lt_zero _)
  | 0, i, s, l, fuel + 1, e, _, _, _, _ => go_n (by omega) rfl
  | d + 1, i, s, l, fuel + 1, e, hl, hs, hw, hf => by
    refine go_d (by omega) (go_o (v := (decide (s.2.1 = 0), ())) rfl ?_)
    rw [rL, fA118 hw]
    by_cases h0 : s.2.1 = 0
    · rw [decide_eq_true h0, Bool.not_true, if_neg (by decide)]
      refine go_t rfl (go_o (q_name k hs hB) (go_o (q_row k hk (fC101 hs) hB) (go_o (q_long k (fC123 (fC101 hs)) hB) (go_t (room_t (by omega) (by omega)) ?_))))
      rw [wrap_succ i (by omega)]
      exact fC141 k hk hB n hn d (i + 1) (rrVer s).1 (l ++ [(rrVer s).2]) fuel (by omega) (by simp [hl]) (fD141 hs) hw (by omega)
    · rw [decide_eq_false h0, Bool.not_false, if_pos rfl]
      exact go_f rfl rfl
theorem fD96 {α : Type} {r : RS → RS × α} (hr : ∀ s, (r s).1.2.2 = s.2.2) (s : RS) : (rList r s).1.2.2 = s.2.2 := flag_L hr _ _ _
theorem fA137 (s : RS) : (rrIns s).1.2.2 = s.2.2 := rfl
theorem fB155 (s : RS) : (rErs s).1.2.2 = s.2.2 := rfl
theorem fB157 (s : RS) : (rrVer s).1.2.2 = s.2.2 := rfl
theorem q_part (k : Nat) (hk : 17000000 ≤ k) {s : RS} (h : s.1 <:+ B) (hB : B.length ≤ 1000000000000) (hw : s.2.2 = false) :
    fB20.run (k + 20) B (Q B s.1) s.2.1 = some ((B, Q B (rList rErs (rList rrIns s).1).1.1, (rList rErs (rList rrIns s).1).1.2.1, ()), ((rList rrIns s).2, (rList rErs (rList rrIns s).1).2), ()) := by
  have v1 := fB82 s.1 s.2.1
  have v2 := fB82 (rList rrIns s).1.1 (rList rrIns s).1.2.1
  have hs1 := fC103 (fun s => fD123) h
  have hw1 : (rList rrIns s).1.2.2 = false := (fD96 fA137 s).trans hw
  refine go_o (fA124 k h hB) (go_o (fA143 k hk hB [] _ v1 _ 0 ((varR s.1 s.2.1 16777216).1.1, (varR s.1 s.2.1 16777216).1.2, s.2.2) [] (k + 20) (by omega) rfl (fC90 h _ _) hw (by omega)) (go_o (fA124 k (s := (rList rrIns s).1) hs1 hB) (go_o (fC145 k hB _ _ v2 _ 0 ((varR (rList rrIns s).1.1 (rList rrIns s).1.2.1 16777216).1.1, (varR (rList rrIns s).1.1 (rList rrIns s).1.2.1 16777216).1.2, (rList rrIns s).1.2.2) [] (k + 20) (by omega) rfl (fC90 hs1 _ _) hw1 (by omega)) rfl)))
theorem q_vers (k : Nat) (hk : 17000000 ≤ k) {s : RS} (h : s.1 <:+ B) (hB : B.length ≤ 1000000000000) (hw : s.2.2 = false) :
    fA19.run (k + 20) B (Q B s.1) s.2.1 = some ((B, Q B (rList rrVer s).1.1, (rList rrVer s).1.2.1, ()), (rList rrVer s).2, ()) := by
  have v1 := fB82 s.1 s.2.1
  exact go_o (fA124 k h hB) (go_o (fC141 k hk hB _ v1 _ 0 ((varR s.1 s.2.1 16777216).1.1, (varR s.1 s.2.1 16777216).1.2, s.2.2) [] (k + 20) (by omega) rfl (fC90 h _ _) hw (by omega)) rfl)
theorem b_wrap (s : RS) : IntKind.i64.wrap (rB s).2 = (rB s).2 := by
  have := hi_lt s.1 s.2.1 1
  exact wrap_nat _ (by omega)
theorem fD159 (k : Nat) (hk : 17000000 ≤ k) (m : Msg) (c : Let) {s : RS} (h : s.1 <:+ B) (hB : B.length ≤ 1000000000000) (hw : s.2.2 = false) :
    fA32.run (k + 20) B (Q B s.1) s.2.1 (den m) (code c) = some ((B, Q B (fr2 c s m).1.1, (fr2 c s m).1.2.1, ()), den (fr2 c s m).2, ()) := by
  unfold fA32.run
  rw [Hay.u8_byte]
  cases c
  · exact go_o (go_d (by decide) (go_o (q_long k h hB) rfl)) rfl
  · exact go_o (go_n (by decide) (go_d (by decide) (go_o (q_long k h hB) rfl))) rfl
  · exact go_o (go_n (by decide) (go_n (by decide) (go_d (by decide) (go_o (q_part k hk h hB hw) rfl)))) rfl
  · exact go_o (go_n (by decide) (go_n (by decide) (go_n (by decide) (go_d (by decide) (go_o (fB126 k h hB) rfl))))) rfl
  · exact go_o (go_n (by decide) (go_n (by decide) (go_n (by decide) (go_n (by decide) (go_d (by decide) (go_o (q_long k h hB) rfl)))))) rfl
  · exact go_o (go_n (by decide) (go_n (by decide) (go_n (by decide) (go_n (by decide) (go_n (by decide) (go_d (by decide) (go_o (q_long k h hB) rfl))))))) rfl
  · exact go_o (go_n (by decide) (go_n (by decide) (go_n (by decide) (go_n (by decide) (go_n (by decide) (go_n (by decide) (go_d (by decide) (go_o (q_long k h hB) rfl)))))))) rfl
  · exact go_o (go_n (by decide) (go_n (by decide) (go_n (by decide) (go_n (by decide) (go_n (by decide) (go_n (by decide) (go_n (by decide) (go_d (by decide) (go_o (q_seg k h hB) rfl))))))))) rfl
  · exact go_o (go_n (by decide) (go_n (by decide) (go_n (by decide) (go_n (by decide) (go_n (by decide) (go_n (by decide) (go_n (by decide) (go_n (by decide) (go_d (by decide) (go_o (fB126 k h hB) rfl)))))))))) rfl
  · exact go_o (go_n (by decide) (go_n (by decide) (go_n (by decide) (go_n (by decide) (go_n (by decide) (go_n (by decide) (go_n (by decide) (go_n (by decide) (go_n (by decide) (go_d (by decide) (go_o (q_vers k hk h hB hw) rfl))))))))))) rfl
  · exact go_o (go_n (by decide) (go_n (by decide) (go_n (by decide) (go_n (by decide) (go_n (by decide) (go_n (by decide) (go_n (by decide) (go_n (by decide) (go_n (by decide) (go_n (by decide) (go_d (by decide) (go_o (fB126 k h hB) rfl)))))))))))) rfl
  · refine go_o (go_n (by decide) (go_n (by decide) (go_n (by decide) (go_n (by decide) (go_n (by decide) (go_n (by decide) (go_n (by decide) (go_n (by decide) (go_n (by decide) (go_n (by decide) (go_n (by decide) (go_d (by decide) (go_o (q_b k h hB) rfl))))))))))))) ?_
    dsimp only
    rw [b_wrap]
    rfl
  · exact go_o (go_n (by decide) (go_n (by decide) (go_n (by decide) (go_n (by decide) (go_n (by decide) (go_n (by decide) (go_n (by decide) (go_n (by decide) (go_n (by decide) (go_n (by decide) (go_n (by decide) (go_n (by decide) (go_d (by decide) (go_o (q_long k h hB) rfl)))))))))))))) rfl
  · exact go_o (go_n (by decide) (go_n (by decide) (go_n (by decide) (go_n (by decide) (go_n (by decide) (go_n (by decide) (go_n (by decide) (go_n (by decide) (go_n (by decide) (go_n (by decide) (go_n (by decide) (go_n (by decide) (go_n (by decide) (go_d (by decide) (go_o (q_long k h hB) rfl))))))))))))))) rfl
theorem fD144 (c : Let) (m : Msg) {s : RS} (h : s.1 <:+ B) : (fr2 c s m).1.1 <:+ B := by
  cases c
  · exact fB81 h
  · exact fB81 h
  · exact fC103 (fun s => fD140) (fC103 (fun s => fD123) h)
  · exact fC112 h
  · exact fB81 h
  · exact fB81 h
  · exact fB81 h
  · exact fB91 h
  · exact fC112 h
  · exact fC103 (fun s => fD141) h
  · exact fC112 h
  · exact suf_b h
  · exact fB81 h
  · exact fB81 h
theorem fA133 (c : Let) (m : Msg) (s : RS) : (fr2 c s m).1.2.2 = s.2.2 := by
  cases c
  case p => exact (fD96 fB155 _).trans (fD96 fA137 _)
  case v => exact fD96 fB157 _
  all_goals rfl
theorem q_dec0 (k : Nat) (hk : 17000000 ≤ k) (hB : B.length ≤ 1000000000000) (ls : List Let) (hl : ls.length ≤ 100) : ∀ (suf pre : List Let) (s : RS) (m : Msg) (fuel : Nat), ls = pre ++ suf → s.1 <:+ B → s.2.2 = false → suf.length < fuel →
    fC56.go (k + 20) fuel B (Q B s.1) s.2.1 m.jA m.jB_ m.jC_ m.jD m.jE m.jF m.jG m.jH m.jI m.jJ m.jK m.jL m.jM m.jN m.jO_.1 m.jO_.2 m.jP m.jP1 m.jQ (ls.map code) (pre.length : Int) =
      some ((B, Q B (frs2 suf s m).1.1, (frs2 suf s m).1.2.1, ()), ((frs2 suf s m).2.jA, (frs2 suf s m).2.jB_, (frs2 suf s m).2.jC_, (frs2 suf s m).2.jD, (frs2 suf s m).2.jE, (frs2 suf s m).2.jF, (frs2 suf s m).2.jG, (frs2 suf s m).2.jH, (frs2 suf s m).2.jI, (frs2 suf s m).2.jJ, (frs2 suf s m).2.jK, (frs2 suf s m).2.jL, (frs2 suf s m).2.jM, (frs2 suf s m).2.jN, (frs2 suf s m).2.jO_.1, (frs2 suf s m).2.jO_.2, (frs2 suf s m).2.jP, (frs2 suf s m).2.jP1, (frs2 suf s m).2.jQ, ()), ())
  | _, _, _, _, 0, _, _, _, h => absurd h (Nat.not_lt_zero _)
  | [], pre, s, m, fuel + 1, e, _, _, _ => go_n (by rw [e]; simp) rfl
  | c :: suf, pre, s, m, fuel + 1, e, hs, hw, hf => by
    have hlt : pre.length < ls.length := by rw [e]; simp
    have hg : (ls.map code)[pre.length]? = some (code c) := by rw [e]; simp
    have ih := q_dec0 k hk hB ls hl suf (pre ++ [c]) (fr2 c s m).1 (fr2 c s m).2 fuel (by rw [e]; simp) (fD144 c m hs) ((fA133 c m s).trans hw) (by simp at hf; omega)
    rw [show ((pre ++ [c]).length : Int) = ((pre.length + 1 : Nat) : Int) by simp] at ih
    refine go_d (by rw [List.length_map]; omega) (go_t (inB_nat (by rw [List.length_map]; exact hlt)) ?_)
    rw [fC81 hg, Hay.u8_byte]
    refine go_o (fD159 k hk m c hs hB hw) ?_
    rw [wrap_succ pre.length (by omega)]
    exact ih
theorem fA136 : ∀ (l : List Let) (s : RS) (m : Msg), s.1 <:+ B → (frs2 l s m).1.1 <:+ B
  | [], s, m, h => h
  | c :: l, s, m, h => fA136 l _ _ (fD144 c m h)
theorem fC130 : ∀ (l : List Let) (s : RS) (m : Msg), (frs2 l s m).1.2.2 = s.2.2
  | [], s, m => rfl
  | c :: l, s, m => (fC130 l _ _).trans (fA133 c m s)
end
theorem D_of {raw : List UInt8} (h1 : (unf raw).2.2 = 0) (h2 : (unf raw).2.1 = (raw.length : Int)) {m : Msg} (hm : ∀ c, fF c m ∧ fo2 c m = true) (hx : (unf raw).1 = body m) (ho : okM m = true) (ht : taken m = m) : D raw = (m, 0) := by
  have hr := fD149 m [] (fun c => (hm c).1) ho
  rw [List.append_nil] at hr
  unfold D
  rw [hx, hr, if_pos ⟨h1, h2, rfl⟩, ht]
theorem fA148 (k : Nat) (hk : 17000000 ≤ k) (raw : List UInt8) (hb : raw.length ≤ 16777216) : fD47.run (k + 20) raw = some (den (D raw).1, (D raw).2, ()) := by
  have hle := unf_le raw
  refine go_o (fB147 k raw (by omega) (by omega) (by omega)) ?_
  by_cases h1 : (unf raw).2.2 = 0
  · refine go_nd h1 ?_
    by_cases h2 : (unf raw).2.1 = (raw.length : Int)
    · refine go_nd h2 ?_
      have hdz : ∀ (P : Prop), (D raw).2 = 0 ∨ D raw = (zero, 170) := fun _ => by
        by_cases h : (D raw).2 = 0
        · exact .inl h
        · exact .inr (D_no h)
      generalize hx : (unf raw).1 = x at hle
      have hB : x.length ≤ 1000000000000 := by omega
      have hs : x <:+ x := List.suffix_refl x
      have q0 : Q x x = 0 := by unfold Q; rw [Nat.sub_self]; rfl
      have g1 := q_b k (s := (x, 0, false)) hs hB
      rw [q0] at g1
      have g2 := q_b k (s := (rB (x, 0, false)).1) (suf_b (s := (x, 0, false)) hs) hB
      have g3 := q_b k (s := (rB (rB (x, 0, false)).1).1) (suf_b (suf_b (s := (x, 0, false)) hs)) hB
      refine go_o g1 (go_o g2 (go_o g3 ?_))
      dsimp only
      rw [b_wrap, b_wrap, b_wrap]
      have hl := fC98 (rB (x, 0, false)).2
      have hs3 := suf_b (suf_b (suf_b (s := (x, 0, false)) hs))
      refine go_o (fD109 _ _) (go_o (q_dec0 k hk hB (fA1 (rB (x, 0, false)).2) (by omega) (fA1 (rB (x, 0, false)).2) [] (rB (rB (rB (x, 0, false)).1).1).1 (head (rB (x, 0, false)).2 (rB (rB (x, 0, false)).1).2 (rB (rB (rB (x, 0, false)).1).1).2) (k + 20) rfl hs3 rfl (by omega)) ?_)
      have hsr := fA136 (B := x) (fA1 (rB (x, 0, false)).2) (rB (rB (rB (x, 0, false)).1).1).1 (head (rB (x, 0, false)).2 (rB (rB (x, 0, false)).1).2 (rB (rB (rB (x, 0, false)).1).1).2) hs3
      have hfl := fC130 (fA1 (rB (x, 0, false)).2) (rB (rB (rB (x, 0, false)).1).1).1 (head (rB (x, 0, false)).2 (rB (rB (x, 0, false)).1).2 (rB (rB (rB (x, 0, false)).1).1).2)
      have hall : rrAll (x, 0, false) = frs2 (fA1 (rB (x, 0, false)).2) (rB (rB (rB (x, 0, false)).1).1).1 (head (rB (x, 0, false)).2 (rB (rB (x, 0, false)).1).2 (rB (rB (rB (x, 0, false)).1).1).2) := rfl
      rw [← hall] at hsr hfl ⊢
      generalize hz : rrAll (x, 0, false) = z at hsr hfl ⊢
      obtain ⟨⟨b, e, w⟩, m⟩ := z
      dsimp only at hsr hfl ⊢
      have hw : w = false := hfl
      subst hw
      have hend := rf_end (k + 20) hsr e
      obtain ⟨y, i1, i2⟩ := end_ok (k + 20) b e
      rw [i1] at hend
      refine go_o hend ?_
      by_cases hy : y = 0
      · obtain ⟨he, hb0⟩ := i2.1 hy
        subst he; subst hb0
        obtain ⟨a1, a2, a3⟩ := fC139 hz
        have hBM := fA156 a3
        refine go_nd hy (go_o (fC149 k hk m hBM (by rw [← a1]; omega)) ?_)
        by_cases ho : okM m = true
        · rw [D_of h1 h2 a3 (hx.trans a1) ho a2]
          exact go_nd (E_zero.2 ⟨ho, a2⟩) rfl
        · refine go_nn (fun h => ho (E_zero.1 h).1) ?_
          rcases hdz True with hd | hd
          · obtain ⟨d1, d2, d3, d4, d5⟩ := D_ok hd
            have hu := fA129 (body (D raw).1) [] d5
            rw [List.append_nil, ← d3] at hu
            have hxb : x = body (D raw).1 := hx.symm.trans (congrArg (fun t => t.1) hu)
            have hrr := fD121 (D raw).1 d4.F d1
            rw [← hxb, hz, d2] at hrr
            have : m = (D raw).1 := congrArg (fun t => t.2) hrr
            rw [this] at ho
            exact absurd d1 ho
          · rw [hd]; rfl
      · refine go_nn hy ?_
        rcases hdz True with hd | hd
        · obtain ⟨d1, d2, d3, d4, d5⟩ := D_ok hd
          have hu := fA129 (body (D raw).1) [] d5
          rw [List.append_nil, ← d3] at hu
          have hxb : x = body (D raw).1 := hx.symm.trans (congrArg (fun t => t.1) hu)
          have hrr := fD121 (D raw).1 d4.F d1
          rw [← hxb, hz] at hrr
          exact absurd (i2.2 ⟨congrArg (fun t => t.1.2.1) hrr, congrArg (fun t => t.1.1) hrr⟩) hy
        · rw [hd]; rfl
    · rw [D_bad (.inr h2)]
      exact go_nn h2 rfl
  · rw [D_bad (.inl h1)]
    exact go_nn h1 rfl
theorem D_sm {raw : List UInt8} (k : Nat) (hk : 17000000 ≤ k) : SM (D raw).1 (k + 20) := by
  by_cases h : (D raw).2 = 0
  · exact (D_ok h).2.2.2.1.sm hk
  · rw [D_no h]; exact fC162.sm hk
theorem fB146 (k : Nat) (hk : 17000000 ≤ k) (raw : List UInt8) (hb : raw.length ≤ 16777216) : law_WireReads.run (k + 20) raw = some (true, ()) := by
  refine go_t (room_t (by omega) (by omega)) (go_o (fC96 k hk raw (by omega)) (go_o (fA148 k hk raw hb) (go_o (fC157 k) (go_t rfl (go_d rfl (go_o (fA135 (k + 20) (D raw).1 (D raw).1 (D_sm k hk)) ?_))))))
  rw [decide_eq_true rfl]
  refine go_t rfl ?_
  rw [decide_eq_true rfl]
end Go.Hay.YtpgamibdlinhjaaGreat
