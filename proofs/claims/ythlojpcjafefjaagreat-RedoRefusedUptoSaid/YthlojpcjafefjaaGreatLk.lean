/- What was framed is read. Conditions: sizes below a bound. -/
import Derived.Test.YthlojpcjafefjaaGreatLj
import Derived.Test.YthlojpcjafefjaaGreatLma
set_option linter.unusedVariables false
set_option linter.unusedSimpArgs false
namespace Go.Hay.YthlojpcjafefjaaGreat
open Go Go.Hay Go.Proofs

theorem fA75 : ∀ (l : List (List UInt8)) (r : List UInt8), (∀ t ∈ l, t.length ≤ 16777216) → lst l.length (l.flatMap textB ++ r) = (l, (r, 0))
  | [], r, _ => by simp [lst]
  | t :: l, r, h => by
    have ht := h t List.mem_cons_self
    have e := fB95 t (l.flatMap textB ++ r) (by omega) 16777216 (by omega)
    have e0 : (t :: l).flatMap textB ++ r = textB t ++ (l.flatMap textB ++ r) := by simp
    rw [e0, List.length_cons, lst_ok (by rw [e]), e]
    have ih := fA75 l r fun x hx => h x (List.mem_cons_of_mem _ hx)
    simp only [ih]
theorem tl_mem {l : List (List UInt8)} {t : List UInt8} (h : t ∈ l) : t.length ≤ tl l := by
  induction l with
  | nil => cases h
  | cons a l ih =>
    rw [fC48]
    rcases List.mem_cons.1 h with rfl | h
    · omega
    · have := ih h; omega
theorem fD71 (l : List (List UInt8)) (hl : Small l) : full (recB l) 16777216 = (l, ([], 0)) := by
  have hs := Small.tl hl
  have hv : varR (recB l) 0 16777216 = ((l.flatMap textB, 0), l.length) := by
    unfold varR recB
    rw [if_neg (by decide), fA76 l.length (by omega) _ 16777216 (by omega)]
    simp only [List.drop_left]
  have h1 := fA75 l [] fun t ht => by have := tl_mem ht; omega
  rw [List.append_nil] at h1
  unfold full
  rw [hv, if_pos rfl]
  exact h1
theorem fA95 (l : List (List UInt8)) (hl : Small l) : okB' (recB l) := by
  unfold okB'
  rw [fD71 l hl]
  exact ⟨rfl, rfl⟩

/-- Frames one behind the other. -/
def F2 (bs : List (List (List UInt8))) : List UInt8 := bs.flatMap fun l => frame (recB l)
theorem fC54 (l : List (List UInt8)) (bs : List (List (List UInt8))) : F2 (l :: bs) = frame (recB l) ++ F2 bs := by simp [F2]
theorem fC59 : ∀ (bs : List (List (List UInt8))) (P r : List UInt8) (l : List (List UInt8)) (n : Nat), (∀ x ∈ bs, Small x) → (r = [] ∨ (unf r).2.2 = 10) → (F2 bs ++ r).length < n →
    readA n (P ++ (F2 bs ++ r)) l P.length = (l ++ bs.flatten, ((P.length + (F2 bs).length : Nat) : Int), 0)
  | bs, P, r, l, 0, _, _, h => absurd h (Nat.not_lt_zero _)
  | [], P, r, l, n + 1, _, hr, hn => by
    have e0 : F2 [] = [] := rfl
    rw [e0, List.nil_append]
    by_cases h : P.length < (P ++ r).length
    · have hd : (P ++ r).drop P.length = r := List.drop_left
      rcases hr with rfl | hr
      · simp at h
      · rw [fA50 h (by rw [hd]; exact hr)]; simp
    · rw [fA53 h]; simp
  | x :: bs, P, r, l, n + 1, hb, hr, hn => by
    have hx := hb x List.mem_cons_self
    have hlen := fB47 x
    have hx' : tot x + 9 ≤ 16777216 := hx
    have fl := fA51 (recB x)
    have hd : (P ++ (F2 (x :: bs) ++ r)).drop P.length = frame (recB x) ++ (F2 bs ++ r) := by rw [List.drop_left, fC54, List.append_assoc]
    have hu := fA90 (recB x) (F2 bs ++ r) (by omega)
    have hlt : P.length < (P ++ (F2 (x :: bs) ++ r)).length := by rw [fC54]; simp only [List.length_append]; omega
    rw [fC57 hlt (by rw [hd, hu]) (by rw [hd, hu]; exact fA95 x hx), hd, hu, Int.toNat_natCast, fD71 x hx]
    have ih := fC59 bs (P ++ frame (recB x)) r (l ++ x) n (fun y hy => hb y (List.mem_cons_of_mem _ hy)) hr (by rw [fC54] at hn; simp only [List.length_append] at hn ⊢; omega)
    have e1 : P ++ (F2 (x :: bs) ++ r) = P ++ frame (recB x) ++ (F2 bs ++ r) := by rw [fC54]; simp
    have e2 : P.length + ((recB x).length + 12) = (P ++ frame (recB x)).length := by rw [List.length_append, fl]
    rw [e1]
    show readA n _ (l ++ x) (P.length + ((recB x).length + 12)) = _
    rw [e2, ih]
    have e3 : l ++ x ++ bs.flatten = l ++ (x :: bs).flatten := by simp
    rw [e3, fC54]
    simp only [List.length_append, Prod.mk.injEq, true_and, and_true]
    omega
theorem fD80 (bs : List (List (List UInt8))) (r : List UInt8) (hb : ∀ x ∈ bs, Small x) (hr : r = [] ∨ (unf r).2.2 = 10) : readP (F2 bs ++ r) = (bs.flatten, ((F2 bs).length : Int), 0) := by
  have h := fC59 bs [] r [] ((F2 bs ++ r).length + 1) hb hr (by omega)
  simp only [List.nil_append, List.length_nil, Nat.zero_add] at h
  exact h

theorem fB78 (N : Nat) (a : List (List UInt8)) (ha : a.length ≤ 1000000000000) : ∀ (d i fuel : Nat), a.length = i + d → d < fuel → fA39.go N fuel a a (i : Int) = some (.inr ())
  | _, _, 0, _, h => absurd h (Nat.not_lt_zero _)
  | 0, i, fuel + 1, e, _ => go_n (by omega) rfl
  | d + 1, i, fuel + 1, e, h => by
    have hi : i < a.length := by omega
    refine go_d (by omega) (go_t (inB_nat hi) (go_d hi (go_t (inB_nat hi) (go_d hi (go_nd rfl ?_)))))
    rw [wrap_succ i (by omega)]
    exact fB78 N a ha d (i + 1) fuel (by omega) (by omega)
theorem fC83 (N : Nat) (a : List (List UInt8)) (ha : a.length ≤ 1000000000000) (hN : a.length < N) : fC18.run N a a = some (true, ()) :=
  go_nd rfl (go_o (fB78 N a ha a.length 0 N (by omega) hN) rfl)

/-! ### Logs on a disk with one file -/
def Lg (room : Int) (name : DNm) (b : List UInt8) (d : DD) : Prop := d.dead = false ∧ d.left = -1 ∧ (∃ c, d.files = [(name, (b, c))]) ∧ d.used = (b.length : Int) ∧ d.room = room

theorem fB51 {d : DD} (h : d.left = -1) : dStep d = ({ d with steps := wr (d.steps + 1) }, false) := by unfold dStep; rw [h]; rfl
theorem fB82 (name : DNm) (v w : DFl) : mapPut [(name, v)] name w = [(name, w)] := by simp [mapPut]
theorem fB54 (name : DNm) (v d : DFl) : mapGet [(name, v)] name d = v := by simp [mapGet]
theorem fC82 (name : DNm) (v : DFl) : mapHas [(name, v)] name = true := by simp [mapHas]

theorem fD89 {room : Int} {name : DNm} {b : List UInt8} {d : DD} (h : Lg room name b d) (hn : nameOk name = true) (hr : room < 4611686018427387904) (x : List UInt8) (hf : ((b.length + x.length : Nat) : Int) ≤ room) : (dAppend d name x).2 = 0 ∧ Lg room name (b ++ x) (dAppend d name x).1 := by
  obtain ⟨h1, h2, ⟨c, h3⟩, h4, h5⟩ := h
  have hg : dGet d name = (b, c) := by unfold dGet; rw [h3, fB54]
  have hw : ¬ ((x.length : Int) > wr (d.room - d.used)) := by
    rw [h4, h5, show wr (room - (b.length : Int)) = room - (b.length : Int) from wrap_i64 (by omega) (by omega)]; omega
  have e : dAppend d name x = ((dStep (dLay d name ((dGet d name).1 ++ x, (dGet d name).2))).1, bif (dStep (dLay d name ((dGet d name).1 ++ x, (dGet d name).2))).2 then 44 else 0) := by
    unfold dAppend
    rw [h1, hn, decide_eq_false hw]; rfl
  have hl : (dLay d name ((dGet d name).1 ++ x, (dGet d name).2)).left = -1 := h2
  rw [e, fB51 hl]
  refine ⟨rfl, h1, h2, ⟨c, ?_⟩, ?_, h5⟩
  · show mapPut d.files name ((dGet d name).1 ++ x, (dGet d name).2) = _
    rw [h3, fB82, hg]
  · show wr (d.used + wr ((((dGet d name).1 ++ x).length : Int) - ((dGet d name).1.length : Int))) = _
    rw [hg, h4]
    simp only [List.length_append]
    rw [show wr (((b.length + x.length : Nat) : Int) - (b.length : Int)) = (x.length : Int) by rw [show ((b.length + x.length : Nat) : Int) - (b.length : Int) = (x.length : Int) by omega]; exact wrap_i64 (by omega) (by omega)]
    rw [show wr ((b.length : Int) + (x.length : Int)) = (b.length : Int) + (x.length : Int) from wrap_i64 (by omega) (by omega)]
    omega
theorem fB70 {room : Int} {name : DNm} {b : List UInt8} {d : DD} (h : Lg room name b d) (hr : room < 4611686018427387904) (hf : (b.length : Int) ≤ room) : (dSync d name).2 = 0 ∧ Lg room name b (dSync d name).1 := by
  obtain ⟨h1, h2, ⟨c, h3⟩, h4, h5⟩ := h
  have hg : dGet d name = (b, c) := by unfold dGet; rw [h3, fB54]
  have e : dSync d name = (dLay (dStep d).1 name ((dGet d name).1, ((dGet d name).1.length : Int)), 0) := by
    unfold dSync dDo
    rw [h1, show mapHas d.files name = true by rw [h3, fC82], fB51 h2]; rfl
  rw [e, fB51 h2]
  refine ⟨rfl, h1, h2, ⟨(b.length : Int), ?_⟩, ?_, h5⟩
  · show mapPut d.files name ((dGet d name).1, ((dGet d name).1.length : Int)) = _
    rw [h3, fB82, hg]
  · show wr (d.used + wr (((dGet d name).1.length : Int) - (mapGet d.files name f0).1.length)) = _
    rw [hg, h4, h3, fB54]
    simp only [Int.sub_self]
    rw [show wr 0 = 0 from rfl, Int.add_zero]
    exact wrap_i64 (by omega) (by omega)
theorem lg_new {room : Int} {name : DNm} (hn : nameOk name = true) (h0 : 0 ≤ room) (hr : room < 4611686018427387904) : (dAppend (dNew room) name []).2 = 0 ∧ Lg room name [] (dAppend (dNew room) name []).1 := by
  have hm : max room 0 = room := by omega
  have hw : ¬ ((([] : List UInt8).length : Int) > wr ((dNew room).room - (dNew room).used)) := by
    show ¬ ((0 : Int) > wr (max room 0 - 0))
    rw [hm, Int.sub_zero, show wr room = room from wrap_i64 (by omega) (by omega)]; omega
  have e : dAppend (dNew room) name [] = ((dStep (dLay (dNew room) name ([], 0))).1, bif (dStep (dLay (dNew room) name ([], 0))).2 then 44 else 0) := by
    unfold dAppend
    rw [show (dNew room).dead = false from rfl, hn, decide_eq_false hw]; rfl
  rw [e, fB51 (d := dLay (dNew room) name ([], 0)) rfl]
  exact ⟨rfl, rfl, rfl, ⟨0, rfl⟩, rfl, hm⟩

section
variable {N : Nat}
/-- What a log is: the disk's file has frames. -/
theorem fB89 (hN : 8796093022208 ≤ N) {room : Int} {name : DNm} (hn : nameOk name = true) (hl : name.length ≤ 32) (h0 : 0 ≤ room) (hr : room < 4611686018427387904) :
    ∃ d : DD, fC10.run N (dNew room).room (dNew room).used (dNew room).files (dNew room).steps (dNew room).left (dNew room).dead name = some (.inr (d.t, ((), name, [], 0, ()), 0, ())) ∧ Lg room name [] d := by
  obtain ⟨a1, a2⟩ := lg_new hn h0 hr
  obtain ⟨s1, s2⟩ := fB70 a2 hr (by simp; omega)
  refine ⟨(dSync (dAppend (dNew room) name []).1 name).1, ?_, s2⟩
  have hread := Dk.fC49 (N := N) (dNew room) name (by show (0 : Nat) ≤ _; omega)
  have happ := Dk.fD52 (N := N) hN (dNew room) name [] (by omega) (by show (0 : Nat) + 0 ≤ _; omega)
  have hsync := Dk.fC51 (N := N) (dAppend (dNew room) name []).1 name
  rw [a1] at happ
  rw [s1] at hsync
  have f1 : fC26.run N (dNew room).room (dNew room).used (dNew room).files (dNew room).steps (dNew room).left (dNew room).dead name = some ((dNew room).t, 0, ()) := go_o hread rfl
  have hrow : fA46.run N (dNew room).room (dNew room).used (dNew room).files (dNew room).steps (dNew room).left (dNew room).dead name = some ((dSync (dAppend (dNew room) name []).1 name).1.t, 0, ()) :=
    go_o f1 (go_nd rfl (go_o (v := ((dAppend (dNew room) name []).1.t, 0, ())) (go_o happ rfl) (go_nd rfl (go_o (v := ((dSync (dAppend (dNew room) name []).1 name).1.t, 0, ())) (go_o hsync rfl) (go_nd rfl rfl)))))
  exact go_o hrow (go_nd rfl rfl)

theorem fB86 (room used : Int) (files : DFs) (steps left : Int) (dead : Bool) (name : DNm) (size : Int) (rs : List (List UInt8)) (hrs : rs.length ≤ 1000000000) (ht : tl rs ≤ 1000000000000) : ∀ (suf pre l : List (List UInt8)) (fuel : Nat), rs = pre ++ suf → l.length + suf.length ≤ 1000000000000 → suf.length < fuel →
    fB15.go N fuel room used files steps left dead name l size rs (rs.length : Int) (pre.length : Int) = some ((room, used, (), steps, left, dead, ()), ((), name, l ++ suf, size, ()), ())
  | _, _, _, 0, _, _, h => absurd h (Nat.not_lt_zero _)
  | [], pre, l, fuel + 1, hp, _, hf => go_n (by rw [hp]; simp) (by simp)
  | t :: suf, pre, l, fuel + 1, hp, hll, hf => by
    have hlt : pre.length < rs.length := by rw [hp]; simp
    have hgd : rs.getD ((pre.length : Int)).toNat ([] : List UInt8) = t := by rw [hp]; exact fC29 _ _ _ _
    have htl := tl_mem (l := rs) (t := t) (by rw [hp]; simp)
    simp only [List.length_cons] at hll hf
    refine go_d (by omega) (go_t (inB_nat hlt) (go_d hlt ?_))
    rw [hgd]
    refine go_o (Dk.fD43 t (by omega)) (go_t (room_t (by omega) (by omega)) ?_)
    rw [wrap_succ pre.length (by omega)]
    have ih := fB86 room used files steps left dead name size rs hrs ht suf (pre ++ [t]) (l ++ [t]) fuel (by rw [hp]; simp) (by simp only [List.length_append, List.length_singleton]; omega) (by omega)
    rw [show ((pre ++ [t]).length : Int) = ((pre.length + 1 : Nat) : Int) by simp] at ih
    exact ih.trans (by simp)

/-- What an Append writes. -/
def apB (rs : List (List UInt8)) : List UInt8 := if rs = [] then [] else frame (recB rs)
theorem app_ok (hN : 8796093022208 ≤ N) {room : Int} {name : DNm} {b : List UInt8} {d : DD} (h : Lg room name b d) (hn : nameOk name = true) (hl : name.length ≤ 32) (hr : room < 4611686018427387904) {rs l : List (List UInt8)} (hs : Small rs) (hb : b.length ≤ 1000000000000) (hll : l.length ≤ 1000000000) (size : Int)
    (hf : ((b.length + (apB rs).length : Nat) : Int) ≤ room) (hz : 0 ≤ size ∧ size ≤ 1000000000000) :
    ∃ d' : DD, fB6.run N d.room d.used d.files d.steps d.left d.dead name l size rs = some (d'.t, ((), name, l ++ rs, size + ((apB rs).length : Int), ()), 0, ()) ∧ Lg room name (b ++ apB rs) d' := by
  obtain ⟨k, rfl⟩ : ∃ k, N = k + 20 := ⟨N - 20, by omega⟩
  by_cases h0 : rs = []
  · subst h0
    refine ⟨d, ?_, by simpa [apB] using h⟩
    have e : fB6.run (k + 20) d.room d.used d.files d.steps d.left d.dead name l size [] = some (d.t, ((), name, l, size, ()), 0, ()) := go_d rfl rfl
    rw [e]; simp [apB]
  · have hpos : ¬ ((rs.length : Int) = 0) := by
      intro e
      exact h0 (List.eq_nil_of_length_eq_zero (by omega))
    have hst := Small.tl hs
    have htt := tl_tot rs
    have hsm : tot rs + 9 ≤ 16777216 := hs
    have e1 : apB rs = frame (recB rs) := by unfold apB; rw [if_neg h0]
    rw [e1] at hf ⊢
    have hrl := fB47 rs
    have hfl := fA51 (recB rs)
    obtain ⟨a1, a2⟩ := fD89 h hn hr (frame (recB rs)) hf
    obtain ⟨s1, s2⟩ := fB70 a2 hr (by rw [List.length_append]; exact hf)
    have hg : (dGet d name).1 = b := by obtain ⟨_, _, ⟨c, h3⟩, _⟩ := h; unfold dGet; rw [h3, fB54]
    have happ := Dk.fD52 (N := k + 20) hN d name (frame (recB rs)) (by omega) (by rw [hg]; omega)
    have hsync := Dk.fC51 (N := k + 20) (dAppend d name (frame (recB rs))).1 name
    rw [a1] at happ
    rw [s1] at hsync
    refine ⟨(dSync (dAppend d name (frame (recB rs))).1 name).1, ?_, s2⟩
    have hrow : fC33.run (k + 20) d.room d.used d.files d.steps d.left d.dead name l size (frame (recB rs)) = some ((dSync (dAppend d name (frame (recB rs))).1 name).1.t, 0, ()) :=
      go_o (v := ((dAppend d name (frame (recB rs))).1.t, 0, ())) (go_o happ rfl) (go_nd rfl (go_o (v := ((dSync (dAppend d name (frame (recB rs))).1 name).1.t, 0, ())) (go_o hsync rfl) (go_nd rfl rfl)))
    have h0' := fB86 (N := k + 20) (dSync (dAppend d name (frame (recB rs))).1 name).1.room (dSync (dAppend d name (frame (recB rs))).1 name).1.used (dSync (dAppend d name (frame (recB rs))).1 name).1.files (dSync (dAppend d name (frame (recB rs))).1 name).1.steps (dSync (dAppend d name (frame (recB rs))).1 name).1.left (dSync (dAppend d name (frame (recB rs))).1 name).1.dead name size rs (by omega) (by omega) rs [] l (k + 20) rfl (by omega) (by omega)
    refine go_n hpos (go_o (fA82 k rs hs (by omega)) (go_nd rfl (go_o hrow (go_d rfl (go_o h0' ?_)))))
    show some ((dSync (dAppend d name (frame (recB rs))).1 name).1.t, ((), name, l ++ rs, IntKind.i64.wrap (size + ((frame (recB rs)).length : Int)), ()), (0 : Int), ()) = _
    rw [wrap_i64 (by omega) (by omega)]

theorem fC101 (hN : 8796093022208 ≤ N) {room : Int} {name : DNm} {bs : List (List (List UInt8))} {d : DD} (h : Lg room name (F2 bs) d) (hr : room < 4611686018427387904) (hf : ((F2 bs).length : Int) ≤ room) (hb : ∀ x ∈ bs, Small x) (hlen : (F2 bs).length ≤ 1000000000) :
    ∃ d' : DD, fD5.run N d.room d.used d.files d.steps d.left d.dead name = some (.inr (d'.t, ((), name, bs.flatten, ((F2 bs).length : Int), ()), 0, ())) ∧ Lg room name (F2 bs) d' := by
  obtain ⟨k, rfl⟩ : ∃ k, N = k + 20 := ⟨N - 20, by omega⟩
  obtain ⟨s1, s2⟩ := fB70 h hr hf
  have hg : (dGet d name).1 = F2 bs := by obtain ⟨_, _, ⟨c, h3⟩, _⟩ := h; unfold dGet; rw [h3, fB54]
  have hhas : mapHas d.files name = true := by obtain ⟨_, _, ⟨c, h3⟩, _⟩ := h; rw [h3, fC82]
  have hread := Dk.fC49 (N := k + 20) d name (by rw [hg]; omega)
  have hsync := Dk.fC51 (N := k + 20) d name
  have hrd := fB79 k (F2 bs) hlen (by omega)
  have hp := fD80 bs [] hb (.inl rfl)
  rw [List.append_nil] at hp
  rw [hp] at hrd
  rw [hg, hhas] at hread
  rw [s1] at hsync
  refine ⟨(dSync d name).1, ?_, s2⟩
  have hrow : fA42.run (k + 20) ((F2 bs).length : Int) (F2 bs) d.room d.used d.files d.steps d.left d.dead name = some ((dSync d name).1.t, 0, ()) :=
    go_o (v := (d.t, 0, ())) (go_n (by omega) rfl) (go_nd rfl (go_o (v := ((dSync d name).1.t, 0, ())) (go_o hsync rfl) (go_nd rfl rfl)))
  exact go_o hread (go_o (Dk.fD51 (N := k + 20) d) (go_f h.1 (go_f rfl (go_o hrd (go_nd rfl (go_o hrow (go_nd rfl rfl)))))))

theorem fC80 (l : List (List UInt8)) (hl : l.length ≤ 1000000000) (ht : tl l ≤ 1000000000000) : ∀ (suf pre : List (List UInt8)) (fuel : Nat), l = pre ++ suf → suf.length < fuel →
    fC13.go N fuel 0 pre l (l.length : Int) (pre.length : Int) = some ((l, ()), (0, (), (), (), (), ()), ())
  | _, _, 0, _, h => absurd h (Nat.not_lt_zero _)
  | [], pre, fuel + 1, hp, hf => go_n (by rw [hp]; simp) (by rw [hp]; simp)
  | t :: suf, pre, fuel + 1, hp, hf => by
    have hlt : pre.length < l.length := by rw [hp]; simp
    have hgd : l.getD ((pre.length : Int)).toNat ([] : List UInt8) = t := by rw [hp]; exact fC29 _ _ _ _
    have htl := tl_mem (l := l) (t := t) (by rw [hp]; simp)
    simp only [List.length_cons] at hf
    refine go_d (by omega) (go_t (inB_nat hlt) (go_d hlt ?_))
    rw [hgd]
    refine go_o (Dk.fD43 t (by omega)) (go_d rfl (go_o (v := ((pre ++ [t], ()), ())) (go_t (room_t (by omega) (by omega)) rfl) ?_))
    rw [wrap_succ pre.length (by omega)]
    have ih := fC80 l hl ht suf (pre ++ [t]) fuel (by rw [hp]; simp) (by omega)
    rw [show ((pre ++ [t]).length : Int) = ((pre.length + 1 : Nat) : Int) by simp] at ih
    exact ih
theorem fD101 (d : DD) (name : DNm) (l : List (List UInt8)) (size : Int) (hl : l.length ≤ 1000000000) (ht : tl l ≤ 1000000000000) (hN : l.length < N) :
    law_gone.run N d.room d.used d.files d.steps d.left d.dead name l size = some (d.t, ((), name, l, size, ()), l, ()) := by
  have h := fC80 (N := N) l hl ht l [] N rfl hN
  exact go_o (v := (d.t, ((), name, l, size, ()), (((), ()), ()), ())) rfl (go_o (v := ((l, ()), (0, (), (), (), (), ()), ())) (go_o h rfl) (go_d rfl rfl))

theorem fC93 (hN : 8796093022208 ≤ N) : law_alive.run N = some (true, ()) := by
  have s1 : Small [[7]] := by unfold Small; decide
  have s2 : Small [[8], []] := by unfold Small; decide
  obtain ⟨d1, e1, l1⟩ := fB89 (N := N) hN (room := 1000) (name := [114]) (by decide) (by decide) (by decide) (by decide)
  have c1 : (apB [[7]]).length = 15 := by decide +kernel
  have c2 : (apB [[8], []]).length = 16 := by decide +kernel
  obtain ⟨d2, e2, l2⟩ := app_ok (N := N) hN l1 (by decide) (by decide) (by decide) (l := []) s1 (by simp) (by simp) 0 (by rw [c1]; decide) (by decide)
  obtain ⟨d3, e3, l3⟩ := app_ok (N := N) hN l2 (by decide) (by decide) (by decide) (l := [] ++ [[7]]) s2 (by simp [c1]) (by simp) (0 + ((apB [[7]]).length : Int)) (by rw [c2]; simp [c1]) (by rw [c1]; decide)
  have ef : ([] : List UInt8) ++ apB [[7]] ++ apB [[8], []] = F2 [[[7]], [[8], []]] := by simp [F2, apB]
  rw [ef] at l3
  have hlen : (F2 [[[7]], [[8], []]]).length = 31 := by decide +kernel
  obtain ⟨d4, e4, l4⟩ := fC101 (N := N) hN l3 (by decide) (by rw [hlen]; decide) (fun x hx => by
    simp only [List.mem_cons, List.not_mem_nil, or_false] at hx
    rcases hx with rfl | rfl
    · exact s1
    · exact s2) (by rw [hlen]; decide)
  have hg := fD101 (N := N) d4 [114] [[7], [8], []] ((F2 [[[7]], [[8], []]]).length : Int) (by decide) (by decide) (by simp; omega)
  have hsame := fC83 N [[7], [8], []] (by decide) (by simp; omega)
  rw [hlen] at e4 hg
  refine go_o (Dk.new_ok 1000) (go_o (v := .inr (d1.t, ((), [114], [], 0, ()), 0, ())) (go_o e1 rfl) ?_)
  refine go_nd rfl (go_o e2 (go_nd rfl (go_o e3 (go_nd rfl ?_))))
  refine go_o (v := .inr (d4.t, 0, ((), [114], [[7], [8], []], ((31 : Nat) : Int), ()), ())) (go_o e4 rfl) ?_
  exact go_d rfl (go_o (v := (3, ())) rfl (go_d rfl (go_o (v := (((31 : Nat) : Int), ())) rfl (go_d rfl (go_o (v := (3, ())) rfl (go_d rfl (go_o hg (go_o hsame rfl))))))))
end
end Go.Hay.YthlojpcjafefjaaGreat
