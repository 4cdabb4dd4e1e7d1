/- Laws of logs: reading, torn frames, batches, spoilt bits. Conditions: sizes below a bound. -/
import Derived.Test.YthlojpcjafefjaaLk
set_option linter.unusedVariables false
set_option linter.unusedSimpArgs false
namespace Go.Hay.Ythlojpcjafefjaa
open Go Go.Hay Go.Proofs

section
variable {N : Nat}

theorem readA_few : ∀ (n : Nat) (b : List UInt8) (l : List (List UInt8)) (at_ : Nat), at_ ≤ b.length → (readA n b l at_).1.length ≤ l.length + (b.length - at_)
  | 0, b, l, at_, _ => by unfold readA; simp
  | n + 1, b, l, at_, ha => by
    by_cases hlt : at_ < b.length
    · by_cases h10 : (unf (b.drop at_)).2.2 = 10
      · rw [readA_short hlt h10]; simp
      · by_cases h : (unf (b.drop at_)).2.2 = 0 ∧ okB' (unf (b.drop at_)).1
        · obtain ⟨m, m1, m2, m3, m4⟩ := unf_len h.1
          rw [List.length_drop] at m3
          have hf := full_few (unf (b.drop at_)).1 16777216
          rw [readA_ok hlt h.1 h.2, m1, Int.toNat_natCast]
          have ih := readA_few n b (l ++ (full (unf (b.drop at_)).1 16777216).1) (at_ + m) (by omega)
          rw [List.length_append] at ih
          omega
        · rw [readA_bad hlt h10 h]; simp
    · rw [readA_end hlt]; simp

/-! ### Torn frames -/
theorem F2_take {l : List (List (List UInt8))} {i : Nat} (h : i < l.length) : F2 (l.take (i + 1)) = F2 (l.take i) ++ frame (recB l[i]) := by rw [take_succ' h, F2_snoc]
theorem F2_mono (l : List (List (List UInt8))) (i j : Nat) (h : i ≤ j) : (F2 (l.take i)).length ≤ (F2 (l.take j)).length := by
  have : l.take j = l.take i ++ (l.take j).drop i := by
    have h1 := List.take_append_drop i (l.take j)
    rw [List.take_take, Nat.min_eq_left h] at h1
    exact h1.symm
  rw [this, F2_append, List.length_append]; omega
theorem F2_le (l : List (List (List UInt8))) (i : Nat) : (F2 (l.take i)).length ≤ (F2 l).length := by
  have := F2_mono l i (max i l.length) (by omega)
  rw [List.take_of_length_le (i := max i l.length) (by omega)] at this
  exact this
theorem F2_many (l : List (List (List UInt8))) : 12 * l.length ≤ (F2 l).length := by
  induction l with
  | nil => simp [F2]
  | cons x l ih => rw [F2_cons, List.length_append, frame_len, List.length_cons]; omega
theorem flat_take {l : List (List (List UInt8))} {i : Nat} (h : i < l.length) : (l.take (i + 1)).flatten = (l.take i).flatten ++ l[i] := by rw [take_succ' h, List.flatten_append, List.flatten_cons, List.flatten_nil, List.append_nil]
theorem flat_le (l : List (List (List UInt8))) (i : Nat) : (l.take i).flatten.length ≤ l.flatten.length := by
  conv => rhs; rw [← List.take_append_drop i l]
  rw [List.flatten_append, List.length_append]; omega

abbrev Torn := List UInt8 × List (List UInt8) × Int
def TornQ (l : List (List (List UInt8))) (cut : Int) (i : Nat) (b : Torn) : Prop :=
  b.1 = F2 (l.take i) ∧ ∃ j, j ≤ i ∧ b.2.1 = (l.take j).flatten ∧ b.2.2 = ((F2 (l.take j)).length : Int) ∧ (0 ≤ cut → ((F2 (l.take j)).length : Int) ≤ cut) ∧ (j < i → cut < ((F2 (l.take (j + 1))).length : Int))

/-! ### Appends -/
def ap (l : List (List (List UInt8))) : List UInt8 := l.flatMap apB
def ne (l : List (List (List UInt8))) : List (List (List UInt8)) := l.filter fun x => !x.isEmpty
theorem ap_F2 (l : List (List (List UInt8))) : ap l = F2 (ne l) := by
  induction l with
  | nil => rfl
  | cons x l ih =>
    have e : ap (x :: l) = apB x ++ ap l := by simp [ap]
    rw [e, ih]
    cases x with
    | nil => simp [apB, ne]
    | cons t x => simp [apB, ne, F2]
theorem ne_flat (l : List (List (List UInt8))) : (ne l).flatten = l.flatten := by
  induction l with
  | nil => rfl
  | cons x l ih =>
    cases x with
    | nil => simpa [ne] using ih
    | cons t x => simp [ne] at ih ⊢; exact ih
theorem ap_take {l : List (List (List UInt8))} {i : Nat} (h : i < l.length) : ap (l.take (i + 1)) = ap (l.take i) ++ apB l[i] := by unfold ap; rw [take_succ' h, List.flatMap_append, List.flatMap_cons, List.flatMap_nil, List.append_nil]
theorem ap_le (l : List (List (List UInt8))) (i : Nat) : (ap (l.take i)).length ≤ (ap l).length := by
  have : ap l = ap (l.take i) ++ ap (l.drop i) := by
    unfold ap
    rw [← List.flatMap_append, List.take_append_drop]
  rw [this, List.length_append]; omega
theorem tl_flat_mem {l : List (List (List UInt8))} {x : List (List UInt8)} (h : x ∈ l) : x.length ≤ l.flatten.length := by
  induction l with
  | nil => cases h
  | cons a l ih =>
    rw [List.flatten_cons, List.length_append]
    rcases List.mem_cons.1 h with rfl | h
    · omega
    · have := ih h; omega

theorem app0_b_ok (room used : Int) (files : DFs) (steps left : Int) (dead : Bool) (name : DNm) (size : Int) (rs : List (List UInt8)) (hrs : rs.length ≤ 1000000000) (ht : tl rs ≤ 1000000000000) : ∀ (suf pre l : List (List UInt8)) (fuel : Nat), rs = pre ++ suf → l.length + suf.length ≤ 1000000000000 → suf.length < fuel →
    redo_Log_Append_b_0.go N fuel room used files steps left dead name l size rs (rs.length : Int) (pre.length : Int) = some ((room, used, (), steps, left, dead, ()), ((), name, l ++ suf, size, ()), ())
  | _, _, _, 0, _, _, h => absurd h (Nat.not_lt_zero _)
  | [], pre, l, fuel + 1, hp, _, hf => go_n (by rw [hp]; simp) (by simp)
  | t :: suf, pre, l, fuel + 1, hp, hll, hf => by
    have hlt : pre.length < rs.length := by rw [hp]; simp
    have hgd : rs.getD ((pre.length : Int)).toNat ([] : List UInt8) = t := by rw [hp]; exact getD_mid _ _ _ _
    have htl := tl_mem (l := rs) (t := t) (by rw [hp]; simp)
    simp only [List.length_cons] at hll hf
    refine go_d (by omega) (go_t (inB_nat hlt) ?_)
    rw [hgd]
    refine go_o (Dk.clone_ok t (by omega)) (go_t (room_t (by omega) (by omega)) ?_)
    rw [wrap_succ pre.length (by omega)]
    have ih := app0_b_ok room used files steps left dead name size rs hrs ht suf (pre ++ [t]) (l ++ [t]) fuel (by rw [hp]; simp) (by simp only [List.length_append, List.length_singleton]; omega) (by omega)
    rw [show ((pre ++ [t]).length : Int) = ((pre.length + 1 : Nat) : Int) by simp] at ih
    exact ih.trans (by simp)
theorem app_b_ok (hN : 8796093022208 ≤ N) {room : Int} {name : DNm} {b : List UInt8} {d : DD} (h : Lg room name b d) (hn : nameOk name = true) (hl : name.length ≤ 32) (hr : room < 4611686018427387904) {rs l : List (List UInt8)} (hs : Small rs) (hb : b.length ≤ 1000000000000) (hll : l.length ≤ 1000000000) (size : Int)
    (hf : ((b.length + (apB rs).length : Nat) : Int) ≤ room) (hz : 0 ≤ size ∧ size ≤ 1000000000000) :
    ∃ d' : DD, redo_Log_Append_b.run N d.room d.used d.files d.steps d.left d.dead name l size rs = some (d'.t, ((), name, l ++ rs, size + ((apB rs).length : Int), ()), 0, ()) ∧ Lg room name (b ++ apB rs) d' := by
  obtain ⟨k, rfl⟩ : ∃ k, N = k + 20 := ⟨N - 20, by omega⟩
  by_cases h0 : rs = []
  · subst h0
    refine ⟨d, ?_, by simpa [apB] using h⟩
    have e : redo_Log_Append_b.run (k + 20) d.room d.used d.files d.steps d.left d.dead name l size [] = some (d.t, ((), name, l, size, ()), 0, ()) := go_d rfl rfl
    rw [e]; simp [apB]
  · have hpos : ¬ ((rs.length : Int) = 0) := by
      intro e
      exact h0 (List.eq_nil_of_length_eq_zero (by omega))
    have hst := Small.tl hs
    have htt := tl_tot rs
    have hsm : tot rs + 9 ≤ 16777216 := hs
    have e1 : apB rs = frame (recB rs) := by unfold apB; rw [if_neg h0]
    rw [e1] at hf ⊢
    have hrl := recB_len rs
    have hfl := frame_len (recB rs)
    obtain ⟨a1, a2⟩ := lg_append h hn hr (frame (recB rs)) hf
    obtain ⟨s1, s2⟩ := lg_sync a2 hr (by rw [List.length_append]; exact hf)
    have hg : (dGet d name).1 = b := by obtain ⟨_, _, ⟨c, h3⟩, _⟩ := h; unfold dGet; rw [h3, get_one]
    have happ := Dk.append_ok (N := k + 20) hN d name (frame (recB rs)) (by omega) (by rw [hg]; omega)
    have hsync := Dk.sync_ok (N := k + 20) (dAppend d name (frame (recB rs))).1 name
    rw [a1] at happ
    rw [s1] at hsync
    refine ⟨(dSync (dAppend d name (frame (recB rs))).1 name).1, ?_, s2⟩
    have hrow : redo_row_b.run (k + 20) d.room d.used d.files d.steps d.left d.dead name l size (frame (recB rs)) = some ((dSync (dAppend d name (frame (recB rs))).1 name).1.t, 0, ()) :=
      go_o (v := ((dAppend d name (frame (recB rs))).1.t, 0, ())) (go_o happ rfl) (go_nd rfl (go_o (v := ((dSync (dAppend d name (frame (recB rs))).1 name).1.t, 0, ())) (go_o hsync rfl) (go_nd rfl rfl)))
    have h0' := app0_b_ok (N := k + 20) (dSync (dAppend d name (frame (recB rs))).1 name).1.room (dSync (dAppend d name (frame (recB rs))).1 name).1.used (dSync (dAppend d name (frame (recB rs))).1 name).1.files (dSync (dAppend d name (frame (recB rs))).1 name).1.steps (dSync (dAppend d name (frame (recB rs))).1 name).1.left (dSync (dAppend d name (frame (recB rs))).1 name).1.dead name size rs (by omega) (by omega) rs [] l (k + 20) rfl (by omega) (by omega)
    refine go_n hpos (go_o (frames_ok k rs hs (by omega)) (go_nd rfl (go_o hrow (go_d rfl (go_o h0' ?_)))))
    show some ((dSync (dAppend d name (frame (recB rs))).1 name).1.t, ((), name, l ++ rs, IntKind.i64.wrap (size + ((frame (recB rs)).length : Int)), ()), (0 : Int), ()) = _
    rw [wrap_i64 (by omega) (by omega)]
end
end Go.Hay.Ythlojpcjafefjaa
