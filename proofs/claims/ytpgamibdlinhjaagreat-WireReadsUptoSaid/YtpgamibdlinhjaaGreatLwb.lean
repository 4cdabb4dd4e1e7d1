/- Messages as bytes: lists, fields by their fA1, whole messages. Conditions: numbers that fit. -/
import Derived.Test.YtpgamibdlinhjaaGreatLwa
set_option linter.unusedVariables false
set_option linter.unusedSimpArgs false
namespace Go.Hay.YtpgamibdlinhjaaGreat
open Go Go.Hay Go.Proofs

section
variable {α β : Type} {w1 : α → List UInt8} {o1 : α → Bool} {F1 : α → Prop} {r1 : RS → RS × α} {w2 : β → List UInt8} {o2 : β → Bool} {F2 : β → Prop} {r2 : RS → RS × β}

theorem rs_of {s : RS} (h : s.2 = (0, false)) : s = (s.1, 0, false) := Prod.ext rfl h
theorem Cod.pair (c1 : Cod w1 o1 F1 r1) (c2 : Cod w2 o2 F2 r2) : Cod (fun x : α × β => w1 x.1 ++ w2 x.2) (fun x => o1 x.1 && o2 x.2) (fun x => F1 x.1 ∧ F2 x.2) (fun s => ((r2 (r1 s).1).1, ((r1 s).2, (r2 (r1 s).1).2))) where
  back x rest hf ho := by
    simp only [Bool.and_eq_true] at ho
    have h1 := c1.back x.1 (w2 x.2 ++ rest) hf.1 ho.1
    have h2 := c2.back x.2 rest hf.2 ho.2
    rw [List.append_assoc, h1]
    simp only
    rw [h2]
  forth b b' x h := by
    have e1 : (r2 (r1 (b, 0, false)).1).1 = (b', 0, false) := congrArg (fun t => t.1) h
    have e2 : (r1 (b, 0, false)).2 = x.1 := congrArg (fun t => t.2.1) h
    have e3 : (r2 (r1 (b, 0, false)).1).2 = x.2 := congrArg (fun t => t.2.2) h
    have q2 : r2 (r1 (b, 0, false)).1 = ((b', 0, false), x.2) := Prod.ext e1 e3
    have hs := c2.stays _ _ _ q2
    have q0 := rs_of hs
    have q1 : r1 (b, 0, false) = (((r1 (b, 0, false)).1.1, 0, false), x.1) := Prod.ext q0 e2
    rw [q0] at q2
    obtain ⟨a1, a2, a3⟩ := c1.forth _ _ _ q1
    obtain ⟨b1, b2, b3⟩ := c2.forth _ _ _ q2
    refine ⟨by rw [a1, b1]; rfl, ⟨a2, b2⟩, ?_⟩
    rw [List.append_assoc, ← b3]
    exact a3
  stays s b' x h := by
    have e1 : (r2 (r1 s).1).1 = (b', 0, false) := congrArg (fun t => t.1) h
    have q2 : r2 (r1 s).1 = ((b', 0, false), (r2 (r1 s).1).2) := Prod.ext e1 rfl
    have q0 := rs_of (c2.stays _ _ _ q2)
    exact c1.stays s (r1 s).1.1 (r1 s).2 (Prod.ext q0 rfl)
  le s := Nat.le_trans (c2.le _) (c1.le s)

theorem Cod.map (c1 : Cod w1 o1 F1 r1) (f : α → β) (g : β → α) (h1 : ∀ y, F2 y → o2 y = true → F1 (g y) ∧ o1 (g y) = true ∧ f (g y) = y ∧ w2 y = w1 (g y)) (h2 : ∀ x, F1 x → o1 x = true → F2 (f x) ∧ o2 (f x) = true ∧ w2 (f x) = w1 x) :
    Cod w2 o2 F2 (fun s => ((r1 s).1, f (r1 s).2)) where
  back y rest hf ho := by
    obtain ⟨q1, q2, q3, q4⟩ := h1 y hf ho
    rw [q4, c1.back (g y) rest q1 q2]
    simp only
    rw [q3]
  forth b b' y h := by
    have e1 : (r1 (b, 0, false)).1 = (b', 0, false) := congrArg (fun t => t.1) h
    have e2 : f (r1 (b, 0, false)).2 = y := congrArg (fun t => t.2) h
    obtain ⟨a1, a2, a3⟩ := c1.forth b b' (r1 (b, 0, false)).2 (Prod.ext e1 rfl)
    obtain ⟨q1, q2, q3⟩ := h2 _ a2 a1
    rw [e2] at q1 q2 q3
    exact ⟨q2, q1, by rw [q3]; exact a3⟩
  stays s b' x h := by
    have e1 : (r1 s).1 = (b', 0, false) := congrArg (fun t => t.1) h
    exact c1.stays s b' (r1 s).2 (Prod.ext e1 rfl)
  le s := c1.le s

theorem fB129 (b : List UInt8) : failed (b, 0, false) = false := rfl
theorem fA151 {s : RS} (h : failed s = false) : s = (s.1, 0, false) := by
  unfold failed at h
  obtain ⟨h1, h2⟩ := Bool.or_eq_false_iff.1 h
  have h3 : s.2.1 = 0 := by simpa using h2
  exact Prod.ext rfl (Prod.ext h3 h1)
theorem fC144 (c1 : Cod w1 o1 F1 r1) (rest : List UInt8) : ∀ (l acc : List α), (∀ x ∈ l, F1 x) → l.all o1 = true → rL r1 l.length (l.flatMap w1 ++ rest, 0, false) acc = ((rest, 0, false), acc ++ l)
  | [], acc, _, _ => by simp [rL]
  | x :: l, acc, hf, ho => by
    simp only [List.all_cons, Bool.and_eq_true] at ho
    have h1 := c1.back x (l.flatMap w1 ++ rest) (hf x (List.mem_cons_self ..)) ho.1
    have ih := fC144 c1 rest l (acc ++ [x]) (fun y hy => hf y (List.mem_cons_of_mem _ hy)) ho.2
    rw [List.flatMap_cons, List.append_assoc, List.length_cons, rL, fB129, if_neg (by decide), h1]
    simp only
    rw [ih, List.append_assoc]
    rfl
theorem fB118 (c1 : Cod w1 o1 F1 r1) : ∀ (n : Nat) (s : RS) (acc : List α) (b' : List UInt8) (l : List α), rL r1 n s acc = ((b', 0, false), l) → s.2 = (0, false)
  | 0, s, acc, b', l, h => by rw [rL] at h; cases h; rfl
  | n + 1, s, acc, b', l, h => by
    rw [rL] at h
    split at h
    · cases h; rfl
    · rename_i hq
      have := fA151 (s := s) (by simpa using hq)
      rw [this]
theorem fC132 (c1 : Cod w1 o1 F1 r1) : ∀ (n : Nat) (b : List UInt8) (acc : List α) (b' : List UInt8) (l : List α), rL r1 n (b, 0, false) acc = ((b', 0, false), l) →
    ∃ m, l = acc ++ m ∧ m.length = n ∧ m.all o1 = true ∧ (∀ x ∈ m, F1 x) ∧ b = m.flatMap w1 ++ b'
  | 0, b, acc, b', l, h => by
    rw [rL] at h
    cases h
    exact ⟨[], by simp, rfl, rfl, by simp, by simp⟩
  | n + 1, b, acc, b', l, h => by
    rw [rL, fB129, if_neg (by decide)] at h
    have q0 := rs_of (fB118 c1 n _ _ _ _ h)
    obtain ⟨a1, a2, a3⟩ := c1.forth b (r1 (b, 0, false)).1.1 (r1 (b, 0, false)).2 (Prod.ext q0 rfl)
    rw [q0] at h
    obtain ⟨m, g1, g2, g3, g4, g5⟩ := fC132 c1 n _ _ _ _ h
    refine ⟨(r1 (b, 0, false)).2 :: m, by rw [g1, List.append_assoc]; rfl, by simp [g2], by simp [a1, g3], ?_, ?_⟩
    · intro x hx
      rcases List.mem_cons.1 hx with rfl | hx
      · exact a2
      · exact g4 x hx
    · rw [List.flatMap_cons, List.append_assoc, ← g5]
      exact a3
theorem rL_le (c1 : Cod w1 o1 F1 r1) : ∀ (n : Nat) (s : RS) (acc : List α), (rL r1 n s acc).1.1.length ≤ s.1.length
  | 0, s, acc => Nat.le_refl _
  | n + 1, s, acc => by
    rw [rL]
    split
    · exact Nat.le_refl _
    · exact Nat.le_trans (rL_le c1 n _ _) (c1.le s)
/-- A list. -/
theorem Cod.list (c1 : Cod w1 o1 F1 r1) : Cod (wList w1) (fun l => l.all o1) (fun l => (∀ x ∈ l, F1 x) ∧ l.length ≤ 16777216) (rList r1) where
  back l rest hf ho := by
    have h1 := fD138 l.length 16777216 (l.flatMap w1 ++ rest) (by have := hf.2; omega) (by have := hf.2; omega)
    unfold rList wList
    rw [List.append_assoc, h1]
    simp only
    rw [fC144 c1 rest l [] hf.1 ho, List.nil_append]
  forth b b' l h := by
    unfold rList at h
    have e0 := fB118 c1 _ _ _ _ _ h
    have e1 : (varR b 0 16777216).1.2 = 0 := congrArg (fun t => t.1) e0
    have q : varR b 0 16777216 = (((varR b 0 16777216).1.1, 0), (varR b 0 16777216).2) := Prod.ext (Prod.ext rfl e1) rfl
    obtain ⟨h1, h2, h3⟩ := fB130 q
    have hh : rL r1 (varR b 0 16777216).2 ((varR b 0 16777216).1.1, 0, false) [] = ((b', 0, false), l) := by
      have h' : rL r1 (varR b 0 16777216).2 ((varR b 0 16777216).1.1, (varR b 0 16777216).1.2, false) [] = ((b', 0, false), l) := h
      rw [e1] at h'
      exact h'
    obtain ⟨m, g1, g2, g3, g4, g5⟩ := fC132 c1 _ _ _ _ _ hh
    rw [List.nil_append] at g1
    subst g1
    refine ⟨g3, ⟨g4, by omega⟩, ?_⟩
    unfold wList
    rw [List.append_assoc, ← g5, g2]
    exact h3
  stays s b' l h := by
    unfold rList at h
    have e0 := fB118 c1 _ _ _ _ _ h
    have e1 : (varR s.1 s.2.1 16777216).1.2 = 0 := congrArg (fun t => t.1) e0
    have e2 : s.2.2 = false := congrArg (fun t => t.2) e0
    exact Prod.ext (fC128 (Prod.ext (Prod.ext rfl e1) rfl : varR s.1 s.2.1 16777216 = (((varR s.1 s.2.1 16777216).1.1, 0), (varR s.1 s.2.1 16777216).2))) e2
  le s := Nat.le_trans (rL_le c1 _ _ _) (var_le _ _ _)
end

theorem fD78 : Cod (fun x : Int × Int => wPlace x.1 ++ wPlace x.2) (fun x => oPlace x.1 && oPlace x.2) (fun x => I64 x.1 ∧ I64 x.2) rSeg := fB80.pair fB80
theorem fA89 : Cod (fun x : Int × Int => wLong x.1 ++ wWord x.2) (fun x => true && true) (fun x => U64 x.1 ∧ U32 x.2) rName := fD2.pair fA88
theorem fB93 : Cod wErs oErs FErs rErs := by
  refine (fD78.pair fA89).map id id (fun y hf ho => ⟨⟨⟨hf.1, hf.2.1⟩, hf.2.2⟩, ?_, rfl, ?_⟩) fun x hf ho => ⟨⟨hf.1.1, hf.1.2, hf.2⟩, ?_, ?_⟩
  · have : oErs y = true := ho
    unfold oErs at this
    simp only [id_eq]
    rw [this]
    rfl
  · unfold wErs
    simp only [id_eq, List.append_assoc]
  · simp only [Bool.and_eq_true] at ho
    unfold oErs
    simp only [id_eq]
    rw [ho.1.1, ho.1.2]
    rfl
  · unfold wErs
    simp only [id_eq, List.append_assoc]
theorem fD91 : Cod wVer oVer FVer rVer := by
  refine (fA89.pair (fA102.pair fD2)).map id id (fun y hf ho => ⟨⟨⟨hf.1, hf.2.1⟩, hf.2.2.1, hf.2.2.2⟩, ?_, rfl, ?_⟩) fun x hf ho => ⟨⟨hf.1.1, hf.1.2, hf.2.1, hf.2.2⟩, ?_, ?_⟩
  · have : Rw.rights y.2.1 = true := ho
    simp only [id_eq]
    rw [this]
    rfl
  · unfold wVer
    simp only [id_eq, List.append_assoc]
  · simp only [Bool.and_eq_true] at ho
    exact ho.2.1
  · unfold wVer
    simp only [id_eq, List.append_assoc]
theorem fD101 : Cod wIns oIns FIns rIns := by
  refine (fD78.pair (fA88.pair fA102)).map (fun x => (x.1, ((0, x.2.1), (x.2.2, 0)))) (fun y => (y.1, (y.2.1.2, y.2.2.1))) (fun y hf ho => ?_) fun x hf ho => ?_
  · unfold oIns at ho
    simp only [Bool.and_eq_true, decide_eq_true_eq] at ho
    obtain ⟨⟨h1, h2⟩, h3, h4, h5⟩ := ho
    obtain ⟨f1, f2, f3, f4, f5, f6⟩ := hf
    refine ⟨⟨⟨f1, f2⟩, f4, f5⟩, by simp only; rw [h3, h4, h5]; rfl, ?_, ?_⟩
    · obtain ⟨a, ⟨⟨b, c⟩, d, e⟩⟩ := y
      simp only at h1 h2 ⊢
      subst h1; subst h2
      rfl
    · unfold wIns
      simp only [List.append_assoc]
  · simp only [Bool.and_eq_true] at ho
    obtain ⟨⟨h1, h2⟩, h3, h4⟩ := ho
    refine ⟨⟨hf.1.1, hf.1.2, ⟨Int.le_refl 0, show (0 : Int) < 18446744073709551616 by decide⟩, hf.2.1, hf.2.2, ⟨Int.le_refl 0, show (0 : Int) < 18446744073709551616 by decide⟩⟩, ?_, ?_⟩
    · unfold oIns
      simp only
      rw [h1, h2, h4]
      rfl
    · unfold wIns
      simp only [List.append_assoc]

/-- The fA1 of the fields. -/
inductive Let where | x | b | p | y | e | m | q | a | n | v | w | d | t | s
  deriving DecidableEq
def fw (c : Let) (m : Msg) : List UInt8 := match c with
  | .x => wLong m.jD | .b => wLong m.jE | .p => wList wIns m.jP ++ wList wErs m.jP1 | .y => wTruth m.jL | .e => wLong m.jF | .m => wLong m.jH | .q => wLong m.jI
  | .a => wPlace m.jO_.1 ++ wPlace m.jO_.2 | .n => wTruth m.jM | .v => wList wVer m.jQ | .w => wTruth m.jN | .d => wByte m.jK | .t => wLong m.jJ | .s => wLong m.jG
def fo (c : Let) (m : Msg) : Bool := match c with
  | .p => m.jP.all oIns && m.jP1.all oErs | .a => oPlace m.jO_.1 && oPlace m.jO_.2 | .v => m.jQ.all oVer | .d => oByte m.jK 8 | _ => true
def fF (c : Let) (m : Msg) : Prop := match c with
  | .x => U64 m.jD | .b => U64 m.jE | .p => ((∀ x ∈ m.jP, FIns x) ∧ m.jP.length ≤ 16777216) ∧ ((∀ x ∈ m.jP1, FErs x) ∧ m.jP1.length ≤ 16777216) | .y => True | .e => U64 m.jF | .m => U64 m.jH | .q => U64 m.jI
  | .a => I64 m.jO_.1 ∧ I64 m.jO_.2 | .n => True | .v => (∀ x ∈ m.jQ, FVer x) ∧ m.jQ.length ≤ 16777216 | .w => True | .d => True | .t => U64 m.jJ | .s => U64 m.jG
def copy (c : Let) (m o : Msg) : Msg := match c with
  | .x => { o with jD := m.jD } | .b => { o with jE := m.jE } | .p => { o with jP := m.jP, jP1 := m.jP1 } | .y => { o with jL := m.jL } | .e => { o with jF := m.jF } | .m => { o with jH := m.jH } | .q => { o with jI := m.jI }
  | .a => { o with jO_ := m.jO_ } | .n => { o with jM := m.jM } | .v => { o with jQ := m.jQ } | .w => { o with jN := m.jN } | .d => { o with jK := m.jK } | .t => { o with jJ := m.jJ } | .s => { o with jG := m.jG }
def fr (c : Let) (z : RS) (o : Msg) : RS × Msg := match c with
  | .x => ((rLong z).1, { o with jD := (rLong z).2 }) | .b => ((rLong z).1, { o with jE := (rLong z).2 })
  | .p => ((rList rErs (rList rIns z).1).1, { o with jP := (rList rIns z).2, jP1 := (rList rErs (rList rIns z).1).2 })
  | .y => ((rTruth z).1, { o with jL := (rTruth z).2 }) | .e => ((rLong z).1, { o with jF := (rLong z).2 }) | .m => ((rLong z).1, { o with jH := (rLong z).2 }) | .q => ((rLong z).1, { o with jI := (rLong z).2 })
  | .a => ((rSeg z).1, { o with jO_ := (rSeg z).2 }) | .n => ((rTruth z).1, { o with jM := (rTruth z).2 }) | .v => ((rList rVer z).1, { o with jQ := (rList rVer z).2 })
  | .w => ((rTruth z).1, { o with jN := (rTruth z).2 }) | .d => ((rByte z 8).1, { o with jK := (rByte z 8).2 }) | .t => ((rLong z).1, { o with jJ := (rLong z).2 }) | .s => ((rLong z).1, { o with jG := (rLong z).2 })

structure LetOk (c : Let) : Prop where
  back : ∀ m o rest, fF c m → fo c m = true → fr c (fw c m ++ rest, 0, false) o = ((rest, 0, false), copy c m o)
  forth : ∀ b b' m o, fr c (b, 0, false) o = ((b', 0, false), m) → fo c m = true ∧ fF c m ∧ b = fw c m ++ b' ∧ m = copy c m o
  stays : ∀ z b' m o, fr c z o = ((b', 0, false), m) → z.2 = (0, false)
  le : ∀ z o, (fr c z o).1.1.length ≤ z.1.length

theorem let_of {α : Type} {c : Let} {w : α → List UInt8} {o : α → Bool} {F : α → Prop} {r : RS → RS × α} (h : Cod w o F r) (get : Msg → α) (set : α → Msg → Msg) (hg : ∀ x m, get (set x m) = x)
    (h1 : ∀ m, fw c m = w (get m)) (h2 : ∀ m, fo c m = o (get m)) (h3 : ∀ m, fF c m ↔ F (get m)) (h4 : ∀ m o, copy c m o = set (get m) o) (h5 : ∀ z m, fr c z m = ((r z).1, set (r z).2 m)) : LetOk c where
  back m o rest hf ho := by rw [h5, h1, h.back (get m) rest ((h3 m).1 hf) (by rw [← h2]; exact ho), h4]
  forth b b' m o h0 := by
    rw [h5] at h0
    have e1 : (r (b, 0, false)).1 = (b', 0, false) := congrArg (fun t => t.1) h0
    have e2 : set (r (b, 0, false)).2 o = m := congrArg (fun t => t.2) h0
    obtain ⟨a1, a2, a3⟩ := h.forth b b' (r (b, 0, false)).2 (Prod.ext e1 rfl)
    have e3 : get m = (r (b, 0, false)).2 := by rw [← e2, hg]
    exact ⟨by rw [h2, e3]; exact a1, (h3 m).2 (by rw [e3]; exact a2), by rw [h1, e3]; exact a3, by rw [h4, e3]; exact e2.symm⟩
  stays z b' m o h0 := by
    rw [h5] at h0
    have e1 : (r z).1 = (b', 0, false) := congrArg (fun t => t.1) h0
    exact h.stays z b' (r z).2 (Prod.ext e1 rfl)
  le z o := by rw [h5]; exact h.le z

theorem let_ok : ∀ c : Let, LetOk c
  | .x => let_of fD2 (·.jD) (fun x m => { m with jD := x }) (fun _ _ => rfl) (fun _ => rfl) (fun _ => rfl) (fun _ => Iff.rfl) (fun _ _ => rfl) fun _ _ => rfl
  | .b => let_of fD2 (·.jE) (fun x m => { m with jE := x }) (fun _ _ => rfl) (fun _ => rfl) (fun _ => rfl) (fun _ => Iff.rfl) (fun _ _ => rfl) fun _ _ => rfl
  | .p => let_of (fD101.list.pair fB93.list) (fun m => (m.jP, m.jP1)) (fun x m => { m with jP := x.1, jP1 := x.2 }) (fun _ _ => rfl) (fun _ => rfl) (fun _ => rfl) (fun _ => Iff.rfl) (fun _ _ => rfl) fun _ _ => rfl
  | .y => let_of fB86 (·.jL) (fun x m => { m with jL := x }) (fun _ _ => rfl) (fun _ => rfl) (fun _ => rfl) (fun _ => Iff.rfl) (fun _ _ => rfl) fun _ _ => rfl
  | .e => let_of fD2 (·.jF) (fun x m => { m with jF := x }) (fun _ _ => rfl) (fun _ => rfl) (fun _ => rfl) (fun _ => Iff.rfl) (fun _ _ => rfl) fun _ _ => rfl
  | .m => let_of fD2 (·.jH) (fun x m => { m with jH := x }) (fun _ _ => rfl) (fun _ => rfl) (fun _ => rfl) (fun _ => Iff.rfl) (fun _ _ => rfl) fun _ _ => rfl
  | .q => let_of fD2 (·.jI) (fun x m => { m with jI := x }) (fun _ _ => rfl) (fun _ => rfl) (fun _ => rfl) (fun _ => Iff.rfl) (fun _ _ => rfl) fun _ _ => rfl
  | .a => let_of fD78 (·.jO_) (fun x m => { m with jO_ := x }) (fun _ _ => rfl) (fun _ => rfl) (fun _ => rfl) (fun _ => Iff.rfl) (fun _ _ => rfl) fun _ _ => rfl
  | .n => let_of fB86 (·.jM) (fun x m => { m with jM := x }) (fun _ _ => rfl) (fun _ => rfl) (fun _ => rfl) (fun _ => Iff.rfl) (fun _ _ => rfl) fun _ _ => rfl
  | .v => let_of fD91.list (·.jQ) (fun x m => { m with jQ := x }) (fun _ _ => rfl) (fun _ => rfl) (fun _ => rfl) (fun _ => Iff.rfl) (fun _ _ => rfl) fun _ _ => rfl
  | .w => let_of fB86 (·.jN) (fun x m => { m with jN := x }) (fun _ _ => rfl) (fun _ => rfl) (fun _ => rfl) (fun _ => Iff.rfl) (fun _ _ => rfl) fun _ _ => rfl
  | .d => let_of (fC80 8 (by decide)) (·.jK) (fun x m => { m with jK := x }) (fun _ _ => rfl) (fun _ => rfl) (fun _ => rfl) (fun _ => Iff.rfl) (fun _ _ => rfl) fun _ _ => rfl
  | .t => let_of fD2 (·.jJ) (fun x m => { m with jJ := x }) (fun _ _ => rfl) (fun _ => rfl) (fun _ => rfl) (fun _ => Iff.rfl) (fun _ _ => rfl) fun _ _ => rfl
  | .s => let_of fD2 (·.jG) (fun x m => { m with jG := x }) (fun _ _ => rfl) (fun _ => rfl) (fun _ => rfl) (fun _ => Iff.rfl) (fun _ _ => rfl) fun _ _ => rfl

/-- A field of two messages is the same. -/
structure Alike (c : Let) (m m2 : Msg) : Prop where
  w : fw c m = fw c m2
  o : fo c m = fo c m2
  F : fF c m ↔ fF c m2
  copy : ∀ z, Go.Hay.YtpgamibdlinhjaaGreat.copy c m z = Go.Hay.YtpgamibdlinhjaaGreat.copy c m2 z
theorem Alike.refl (c : Let) (m : Msg) : Alike c m m := ⟨rfl, rfl, Iff.rfl, fun _ => rfl⟩
theorem Alike.trans {c : Let} {m o z : Msg} (h : Alike c m o) (k : Alike c o z) : Alike c m z := ⟨h.w.trans k.w, h.o.trans k.o, h.F.trans k.F, fun x => (h.copy x).trans (k.copy x)⟩
theorem fB149 {c c2 : Let} (h : c ≠ c2) (m o : Msg) : Alike c (copy c2 m o) o := by
  cases c2 <;> cases c <;> first | exact absurd rfl h | exact ⟨rfl, rfl, Iff.rfl, fun _ => rfl⟩
def copies : List Let → Msg → Msg → Msg
  | [], _, o => o
  | c :: l, m, o => copies l m (copy c m o)
def frs : List Let → RS → Msg → RS × Msg
  | [], z, o => (z, o)
  | c :: l, z, o => frs l (fr c z o).1 (fr c z o).2
theorem fA93 {c : Let} : ∀ {l : List Let}, c ∉ l → ∀ m o, Alike c (copies l m o) o
  | [], _, m, o => .refl _ _
  | c2 :: l, h, m, o => (fA93 (fun hm => h (List.mem_cons_of_mem _ hm)) m (copy c2 m o)).trans (fB149 (fun e => h (by rw [e]; exact List.mem_cons_self ..)) m o)
theorem fD152 (c : Let) (m o : Msg) : (copy c m o).jA = o.jA ∧ (copy c m o).jB_ = o.jB_ ∧ (copy c m o).jC_ = o.jC_ := by cases c <;> exact ⟨rfl, rfl, rfl⟩
theorem fD97 : ∀ (l : List Let) (m o : Msg), (copies l m o).jA = o.jA ∧ (copies l m o).jB_ = o.jB_ ∧ (copies l m o).jC_ = o.jC_
  | [], m, o => ⟨rfl, rfl, rfl⟩
  | c :: l, m, o => by
    obtain ⟨h1, h2, h3⟩ := fD97 l m (copy c m o)
    obtain ⟨g1, g2, g3⟩ := fD152 c m o
    exact ⟨h1.trans g1, h2.trans g2, h3.trans g3⟩

theorem fC135 : ∀ (l : List Let) (m o : Msg) (rest : List UInt8), (∀ c ∈ l, fF c m ∧ fo c m = true) → frs l (l.flatMap (fun c => fw c m) ++ rest, 0, false) o = ((rest, 0, false), copies l m o)
  | [], m, o, rest, _ => rfl
  | c :: l, m, o, rest, h => by
    obtain ⟨h1, h2⟩ := h c (List.mem_cons_self ..)
    have h3 := (let_ok c).back m o (l.flatMap (fun c => fw c m) ++ rest) h1 h2
    rw [List.flatMap_cons, List.append_assoc, frs, h3]
    exact fC135 l m _ rest fun c2 hd => h c2 (List.mem_cons_of_mem _ hd)
theorem fD110 : ∀ (l : List Let) (z : RS) (o m : Msg) (b' : List UInt8), frs l z o = ((b', 0, false), m) → z.2 = (0, false)
  | [], z, o, m, b', h => by rw [frs] at h; cases h; rfl
  | c :: l, z, o, m, b', h => by
    rw [frs] at h
    have q := rs_of (fD110 l _ _ _ _ h)
    exact (let_ok c).stays z (fr c z o).1.1 (fr c z o).2 o (Prod.ext q rfl)
theorem fB128 : ∀ (l : List Let) (b b' : List UInt8) (o m : Msg), l.Nodup → frs l (b, 0, false) o = ((b', 0, false), m) →
    (∀ c ∈ l, fF c m ∧ fo c m = true) ∧ b = l.flatMap (fun c => fw c m) ++ b' ∧ m = copies l m o
  | [], b, b', o, m, _, h => by rw [frs] at h; cases h; exact ⟨by simp, by simp, rfl⟩
  | c :: l, b, b', o, m, hn, h => by
    rw [frs] at h
    have q := rs_of (fD110 l _ _ _ _ h)
    obtain ⟨a1, a2, a3, a4⟩ := (let_ok c).forth b (fr c (b, 0, false) o).1.1 (fr c (b, 0, false) o).2 o (Prod.ext q rfl)
    rw [q] at h
    have hn' := List.nodup_cons.1 hn
    obtain ⟨g1, g2, g3⟩ := fB128 l _ b' _ m hn'.2 h
    have al : Alike c m (fr c (b, 0, false) o).2 := by rw [g3]; exact fA93 hn'.1 _ _
    refine ⟨fun c2 hd => ?_, ?_, ?_⟩
    · rcases List.mem_cons.1 hd with rfl | hd
      · exact ⟨al.F.2 a2, by rw [al.o]; exact a1⟩
      · exact g1 c2 hd
    · rw [List.flatMap_cons, List.append_assoc, ← g2, al.w]
      exact a3
    · rw [copies, al.copy, ← a4]
      exact g3

/-- What a jA names. -/
def fA1 (k : Int) : List Let :=
  if k = 1 then [.x, .b, .p] else if k = 2 then [.x, .y] else if k = 3 then [.e, .x] else if k = 4 then [.e, .m] else if k = 5 then [.q, .e, .a] else if k = 6 then [.q, .a, .n, .v] else if k = 7 then [.q, .e, .w]
  else if k = 8 then [.d, .t, .a, .s, .e] else if k = 9 then [.t, .a, .s, .e, .m, .v] else if k = 10 then [.t, .e] else if k = 11 then [.m] else if k = 12 then [.q] else []
theorem fD104 (k : Int) : (fA1 k).Nodup := by
  unfold fA1
  repeat' split
  all_goals decide
def zero : Msg := ⟨0, 0, 0, 0, 0, 0, 0, 0, 0, 0, 0, false, false, false, (0, 0), [], [], []⟩
def head (k f t : Int) : Msg := { zero with jA := k, jB_ := f, jC_ := t }
/-- A message with only what its jA names. -/
def taken (m : Msg) : Msg := copies (fA1 m.jA) m (head m.jA m.jB_ m.jC_)
def body (m : Msg) : List UInt8 := wByte m.jA ++ (wByte m.jB_ ++ (wByte m.jC_ ++ (fA1 m.jA).flatMap (fun c => fw c m)))
def okM (m : Msg) : Bool := oByte m.jA 255 && (oByte m.jB_ 8 && (oByte m.jC_ 8 && ((fA1 m.jA).all (fun c => fo c m) && !(fA1 m.jA).isEmpty)))
def FM (m : Msg) : Prop := ∀ c, fF c m
def rHead (s : RS) : RS × (Int × Int × Int) := ((rByte (rByte (rByte s 255).1 8).1 8).1, ((rByte s 255).2, (rByte (rByte s 255).1 8).2, (rByte (rByte (rByte s 255).1 8).1 8).2))
def rBody (s : RS) (k f t : Int) : RS × Msg := (((frs (fA1 k) s (head k f t)).1.1, (frs (fA1 k) s (head k f t)).1.2.1, (frs (fA1 k) s (head k f t)).1.2.2 || (fA1 k).isEmpty), (frs (fA1 k) s (head k f t)).2)
def rAll (s : RS) : RS × Msg := rBody (rHead s).1 (rHead s).2.1 (rHead s).2.2.1 (rHead s).2.2.2

theorem fB127 : Cod (fun x : Int × Int × Int => wByte x.1 ++ (wByte x.2.1 ++ wByte x.2.2)) (fun x => oByte x.1 255 && (oByte x.2.1 8 && oByte x.2.2 8)) (fun x => True ∧ True ∧ True) rHead :=
  (fC80 255 (by decide)).pair ((fC80 8 (by decide)).pair (fC80 8 (by decide)))
theorem fD100 {m : Msg} (h : okM m = true) : oByte m.jA 255 = true ∧ oByte m.jB_ 8 = true ∧ oByte m.jC_ 8 = true ∧ (∀ c ∈ fA1 m.jA, fo c m = true) ∧ (fA1 m.jA).isEmpty = false := by
  unfold okM at h
  simp only [Bool.and_eq_true, List.all_eq_true, Bool.not_eq_true'] at h
  exact ⟨h.1, h.2.1, h.2.2.1, h.2.2.2.1, h.2.2.2.2⟩
theorem fD149 (m : Msg) (rest : List UInt8) (hf : FM m) (ho : okM m = true) : rAll (body m ++ rest, 0, false) = ((rest, 0, false), taken m) := by
  obtain ⟨h1, h2, h3, h4, h5⟩ := fD100 ho
  have e : body m ++ rest = (wByte m.jA ++ (wByte m.jB_ ++ wByte m.jC_)) ++ ((fA1 m.jA).flatMap (fun c => fw c m) ++ rest) := by unfold body; simp only [List.append_assoc]
  have q := fB127.back (m.jA, m.jB_, m.jC_) ((fA1 m.jA).flatMap (fun c => fw c m) ++ rest) ⟨trivial, trivial, trivial⟩ (by simp only; rw [h1, h2, h3]; rfl)
  unfold rAll
  rw [e, q]
  simp only
  unfold rBody
  rw [fC135 (fA1 m.jA) m (head m.jA m.jB_ m.jC_) rest fun c hc => ⟨hf c, h4 c hc⟩, h5]
  rfl
theorem fC147 {b b' : List UInt8} {m : Msg} (h : rAll (b, 0, false) = ((b', 0, false), m)) : okM m = true ∧ b = body m ++ b' ∧ taken m = m ∧ ∀ c ∈ fA1 m.jA, fF c m := by
  unfold rAll rBody at h
  generalize hx : (rHead (b, 0, false)).2 = kft at h
  obtain ⟨k, f, t⟩ := kft
  simp only at h
  have e1 : (frs (fA1 k) (rHead (b, 0, false)).1 (head k f t)).1.1 = b' := congrArg (fun t => t.1.1) h
  have e2 : (frs (fA1 k) (rHead (b, 0, false)).1 (head k f t)).1.2.1 = 0 := congrArg (fun t => t.1.2.1) h
  have e3 : ((frs (fA1 k) (rHead (b, 0, false)).1 (head k f t)).1.2.2 || (fA1 k).isEmpty) = false := congrArg (fun t => t.1.2.2) h
  have e4 : (frs (fA1 k) (rHead (b, 0, false)).1 (head k f t)).2 = m := congrArg (fun t => t.2) h
  obtain ⟨e5, e6⟩ := Bool.or_eq_false_iff.1 e3
  have q : frs (fA1 k) (rHead (b, 0, false)).1 (head k f t) = ((b', 0, false), m) := Prod.ext (Prod.ext e1 (Prod.ext e2 e5)) e4
  have q0 := rs_of (fD110 _ _ _ _ _ q)
  obtain ⟨a1, _, a3⟩ := fB127.forth b (rHead (b, 0, false)).1.1 (k, f, t) (Prod.ext q0 hx)
  rw [q0] at q
  obtain ⟨g1, g2, g3⟩ := fB128 _ _ _ _ _ (fD104 k) q
  obtain ⟨c1, c2, c3⟩ := fD97 (fA1 k) m (head k f t)
  rw [← g3] at c1 c2 c3
  have c1' : m.jA = k := c1
  have c2' : m.jB_ = f := c2
  have c3' : m.jC_ = t := c3
  simp only [Bool.and_eq_true] at a1
  refine ⟨?_, ?_, ?_, ?_⟩
  · unfold okM
    rw [c1', c2', c3', a1.1, a1.2.1, a1.2.2, e6]
    simp only [Bool.true_and, Bool.not_false, Bool.and_true, List.all_eq_true]
    exact fun c hc => (g1 c hc).2
  · unfold body
    rw [c1', c2', c3', a3, g2]
    simp only [List.append_assoc]
  · unfold taken
    rw [c1', c2', c3', ← g3]
  · rw [c1']
    exact fun c hc => (g1 c hc).1
end Go.Hay.YtpgamibdlinhjaaGreat
