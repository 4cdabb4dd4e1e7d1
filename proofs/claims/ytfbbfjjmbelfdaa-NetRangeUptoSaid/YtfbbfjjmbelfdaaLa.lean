/- What the functions of the net, of its reference and of the statements come to. Conditions: sizes below a bound. -/
import Derived.Test.YtfbbfjjmbelfdaaFa
import Derived.Test.YtfbbfjjmbelfdaaHayPl
set_option linter.unusedVariables false
set_option linter.unusedSimpArgs false
namespace Go.Hay.Ytfbbfjjmbelfdaa
open Go Go.Hay Go.Proofs

abbrev Msg := Int × List UInt8
abbrev d0 : Msg := (0, [])

theorem clone_ok (N : Nat) (s : List UInt8) (h : s.length ≤ 1099511627776) : slices_Clone_byte_byte.run N s = some (s, ()) :=
  go_p (go_t (room_t (by omega) (by omega)) rfl) fun hb => by
    have : s = [] := List.eq_nil_of_length_eq_zero (Nat.eq_of_beq_eq_true hb)
    subst this; rfl
theorem clone_b_ok (N : Nat) (s : List UInt8) (h : s.length ≤ 1099511627776) : slices_Clone_byte_byte_b.run N s = some (s, ()) :=
  go_p (go_t (room_t (by omega) (by omega)) rfl) fun hb => by
    have : s = [] := List.eq_nil_of_length_eq_zero (Nat.eq_of_beq_eq_true hb)
    subst this; rfl
theorem clone_l_ok (N : Nat) (s : List Msg) (h : s.length ≤ 1099511627776) : slices_Clone_net_one_net_one.run N s = some (s, ()) :=
  go_p (go_t (room_t (by omega) (by omega)) rfl) fun hb => by
    have : s = [] := List.eq_nil_of_length_eq_zero (Nat.eq_of_beq_eq_true hb)
    subst this; rfl

/-- What is sent. -/
def sendL (r : Int) (l : List Msg) (m : Msg) : List Msg := if (l.length : Int) = r then l else l ++ [m]
def sendE (r : Int) (l : List Msg) : Int := if (l.length : Int) = r then 50 else 0

theorem send_ok (N : Nat) (r : Int) (l : List Msg) (to : Int) (b : List UInt8) (hb : b.length ≤ 1099511627776) (hl : l.length ≤ 1099511627776) : net_Net_Send.run N r l to b = some ((r, sendL r l (to, b), ()), sendE r l, ()) := by
  unfold sendL sendE
  by_cases h : (l.length : Int) = r
  · rw [if_pos h, if_pos h]; exact go_d h rfl
  · rw [if_neg h, if_neg h]; exact go_n h (go_o (clone_ok N b hb) (go_t (room_t (by omega) (by omega)) rfl))
theorem send_b_ok (N : Nat) (r : Int) (l : List Msg) (to : Int) (b : List UInt8) (hb : b.length ≤ 1099511627776) (hl : l.length ≤ 1099511627776) : net_Net_Send_b.run N r l to b = some ((r, sendL r l (to, b), ()), sendE r l, ()) := by
  unfold sendL sendE
  by_cases h : (l.length : Int) = r
  · rw [if_pos h, if_pos h]; exact go_d h rfl
  · rw [if_neg h, if_neg h]; exact go_n h (go_o (clone_b_ok N b hb) (go_t (room_t (by omega) (by omega)) rfl))

/-- Is there such a place? -/
def there (l : List Msg) (i : Int) : Bool := decide (0 ≤ i) && decide (i < (l.length : Int))
theorem there_ok (N : Nat) (r : Int) (l : List Msg) (i : Int) : net_Net_there.run N r l i = some (there l i, ()) := by
  unfold there
  by_cases h : i ≥ 0
  · rw [decide_eq_true h]; exact go_d h rfl
  · rw [decide_eq_false h]; exact go_n h rfl
theorem there_t {l : List Msg} {i : Int} (h : there l i = true) : 0 ≤ i ∧ i < (l.length : Int) := by simpa [there] using h

/-- What stands at a place. -/
def atL (l : List Msg) (i : Int) : Msg := if there l i = true then l.getD i.toNat d0 else d0
theorem at_ok (N : Nat) (r : Int) (l : List Msg) (i : Int) (hb : ∀ m ∈ l, m.2.length ≤ 1099511627776) : net_Net_At.run N r l i = some ((atL l i).1, (atL l i).2, there l i, ()) := by
  refine go_o (there_ok N r l i) ?_
  unfold atL
  cases h : there l i with
  | false => rfl
  | true =>
    obtain ⟨h0, h1⟩ := there_t h
    have hlt : i.toNat < l.length := by omega
    refine go_f rfl (go_t (inB_t h0 h1) (go_d hlt (go_t (inB_t h0 h1) (go_d hlt (go_o (clone_b_ok N _ ?_) rfl)))))
    rw [List.getD_eq_getElem?_getD, List.getElem?_eq_getElem hlt]
    exact hb _ (List.getElem_mem hlt)

/-- The list without a place. -/
def dropL (l : List Msg) (i : Int) : List Msg := if there l i = true then l.take i.toNat ++ l.drop (i.toNat + 1) else l

theorem grow_ok (N : Nat) (n : Int) (h0 : 0 ≤ n) (h : n ≤ 1099511627776) : slices_Grow_net_one_net_one.run N n = some ([], ()) := by
  have e1 : IntKind.i64.wrap (n - 0) = n := by rw [wrap_i64] <;> omega
  have e2 : (decide ((0 : Int) ≤ n) && room n.toNat 32) = true := by simp [h0]; exact room_t (by omega) (by omega)
  refine go_n (by omega) ?_
  rw [e1]
  by_cases hn : n > 0
  · exact go_d hn (go_t e2 (go_t (okB_t (by simp) (by simp) (Int.natCast_nonneg _)) (by simp)))
  · exact go_n hn rfl

theorem concat0_ok (N k : Nat) (a b : List Msg) (h : a.length + b.length ≤ 1099511627776) : slices_Concat_net_one_net_one_0.go N (k + 3) 0 [a, b] 2 0 = some (((a.length + b.length : Nat) : Int), ()) := by
  have w1 : IntKind.i64.wrap (0 + (a.length : Int)) = a.length := by rw [wrap_i64] <;> omega
  have w2 : IntKind.i64.wrap ((a.length : Int) + b.length) = ((a.length + b.length : Nat) : Int) := by rw [wrap_i64] <;> omega
  have w3 : IntKind.i64.wrap ((0 : Int) + 1) = 1 := rfl
  have w4 : IntKind.i64.wrap ((1 : Int) + 1) = 2 := rfl
  refine go_t rfl (go_t rfl (go_t rfl ?_))
  show (bif decide (IntKind.i64.wrap (0 + (a.length : Int)) < 0) then none else slices_Concat_net_one_net_one_0.go N (k + 2) (IntKind.i64.wrap (0 + (a.length : Int))) [a, b] 2 (IntKind.i64.wrap ((0 : Int) + 1))) = _
  rw [w1, w3]
  refine go_n (by omega) (go_t rfl (go_t rfl (go_t rfl ?_)))
  show (bif decide (IntKind.i64.wrap ((a.length : Int) + (b.length : Int)) < 0) then none else slices_Concat_net_one_net_one_0.go N (k + 1) (IntKind.i64.wrap ((a.length : Int) + (b.length : Int))) [a, b] 2 (IntKind.i64.wrap ((1 : Int) + 1))) = _
  rw [w2, w4]
  exact go_n (by omega) (go_f rfl rfl)

theorem concat1_ok (N k : Nat) (a b : List Msg) (h : a.length + b.length ≤ 1099511627776) : slices_Concat_net_one_net_one_1.go N (k + 3) [] [a, b] 2 0 = some (a ++ b, ()) := by
  have w3 : IntKind.i64.wrap ((0 : Int) + 1) = 1 := rfl
  have w4 : IntKind.i64.wrap ((1 : Int) + 1) = 2 := rfl
  refine go_t rfl (go_t rfl (go_t rfl ?_))
  show (bif room (([] : List Msg).length + a.length) 32 then slices_Concat_net_one_net_one_1.go N (k + 2) ([] ++ a) [a, b] 2 (IntKind.i64.wrap ((0 : Int) + 1)) else none) = _
  rw [w3]
  refine go_t (room_t (by simp; omega) (by simp; omega)) (go_t rfl (go_t rfl (go_t rfl ?_)))
  show (bif room (([] ++ a : List Msg).length + b.length) 32 then slices_Concat_net_one_net_one_1.go N (k + 1) ([] ++ a ++ b) [a, b] 2 (IntKind.i64.wrap ((1 : Int) + 1)) else none) = _
  rw [w4]
  exact go_t (room_t (by simp; omega) (by simp; omega)) (go_f rfl rfl)

theorem concat_ok (k : Nat) (a b : List Msg) (h : a.length + b.length ≤ 1099511627776) : slices_Concat_net_one_net_one.run (k + 3) [a, b] = some (a ++ b, ()) :=
  go_o (concat0_ok (k + 3) k a b h) (go_o (grow_ok (k + 3) _ (by omega) (by omega)) (go_o (concat1_ok (k + 3) k a b h) rfl))

theorem drop_ok (k : Nat) (r : Int) (l : List Msg) (i : Int) (hl : l.length ≤ 1099511627776) : net_Net_Drop.run (k + 3) r l i = some ((r, dropL l i, ()), there l i, ()) := by
  refine go_o (there_ok _ r l i) ?_
  unfold dropL
  cases h : there l i with
  | false => rfl
  | true =>
    obtain ⟨h0, h1⟩ := there_t h
    have w1 : IntKind.i64.wrap (i + 1) = i + 1 := by rw [wrap_i64] <;> omega
    refine go_f rfl ?_
    rw [w1]
    refine go_t (okB_t (by omega) (by omega) (by omega)) (go_t (okB_t (by omega) (by omega) (by omega)) (go_o (v := (l.take i.toNat ++ l.drop (i.toNat + 1), ())) ?_ rfl))
    have e1 : (l.drop 0).take (i - 0).toNat = l.take i.toNat := by simp
    have e2 : (l.drop (i + 1).toNat).take ((l.length : Int) - (i + 1)).toNat = l.drop (i.toNat + 1) := by
      rw [show (i + 1).toNat = i.toNat + 1 by omega]
      apply List.take_of_length_le
      rw [List.length_drop]; omega
    rw [e1, e2]
    exact concat_ok k _ _ (by rw [List.length_take, List.length_drop]; omega)

theorem take_ok (k : Nat) (r : Int) (l : List Msg) (i : Int) (hb : ∀ m ∈ l, m.2.length ≤ 1099511627776) (hl : l.length ≤ 1099511627776) :
    net_Net_Take.run (k + 3) r l i = some ((r, dropL l i, ()), (atL l i).1, (atL l i).2, there l i, ()) :=
  go_o (at_ok _ r l i hb) (go_o (drop_ok k r l i hl) rfl)

def doubleL (r : Int) (l : List Msg) (i : Int) : List Msg := if there l i = true then sendL r l (atL l i) else l
def doubleE (r : Int) (l : List Msg) (i : Int) : Int := if there l i = true then sendE r l else 51
theorem double_ok (N : Nat) (r : Int) (l : List Msg) (i : Int) (hb : ∀ m ∈ l, m.2.length ≤ 1099511627776) (hl : l.length ≤ 1099511627776) : net_Net_Double.run N r l i = some ((r, doubleL r l i, ()), doubleE r l i, ()) := by
  refine go_o (there_ok N r l i) ?_
  unfold doubleL doubleE atL
  cases h : there l i with
  | false => rfl
  | true =>
    obtain ⟨h0, h1⟩ := there_t h
    have hlt : i.toNat < l.length := by omega
    refine go_f rfl (go_t (inB_t h0 h1) (go_d hlt (go_t (inB_t h0 h1) (go_d hlt (go_o (send_b_ok N r l _ _ ?_ hl) rfl)))))
    rw [List.getD_eq_getElem?_getD, List.getElem?_eq_getElem hlt]
    exact hb _ (List.getElem_mem hlt)

theorem len_ok (N : Nat) (r : Int) (l : List Msg) : net_Net_Len.run N r l = some ((l.length : Int), ()) := rfl

theorem begun_ok (k : Nat) (room : Int) : law_begun.run (k + 3) room = some ((max room 0, [], ()), true, ()) := by
  refine go_o (v := ((2, [], ()), ())) rfl (go_o (send_ok _ 2 [] 3 [7] (by simp) (by simp)) (go_nd rfl (go_o (double_ok _ 2 [(3, [7])] 0 (by simp) (by simp)) (go_nd rfl
    (go_o (send_ok _ 2 [(3, [7]), (3, [7])] 3 [] (by simp) (by simp)) (go_nd rfl (go_o (take_ok k 2 [(3, [7]), (3, [7])] 1 (by simp) (by simp)) ?_)))))))
  rfl

theorem new_ok (N : Nat) (room : Int) : ref_New.run N room = some ((max room 0, []), ()) := rfl

/-- The net's list stays within its room. -/
theorem sendL_len {r : Int} {l : List Msg} {m : Msg} (h : (l.length : Int) ≤ r) : ((sendL r l m).length : Int) ≤ r ∧ (sendL r l m).length ≤ l.length + 1 := by
  unfold sendL
  split
  · exact ⟨h, by omega⟩
  · simp only [List.length_append, List.length_cons, List.length_nil]; omega
theorem sendL_mem {r : Int} {l : List Msg} {m x : Msg} (h : x ∈ sendL r l m) : x ∈ l ∨ x = m := by
  unfold sendL at h
  split at h
  · exact .inl h
  · simpa using h
theorem atL_mem {l : List Msg} {i : Int} (h : there l i = true) : atL l i ∈ l := by
  obtain ⟨h0, h1⟩ := there_t h
  unfold atL
  rw [if_pos h, List.getD_eq_getElem?_getD, List.getElem?_eq_getElem (show i.toNat < l.length by omega)]
  exact List.getElem_mem _
theorem dropL_mem {l : List Msg} {i : Int} {x : Msg} (h : x ∈ dropL l i) : x ∈ l := by
  unfold dropL at h
  split at h
  · rcases List.mem_append.1 h with h | h
    · exact List.mem_of_mem_take h
    · exact List.mem_of_mem_drop h
  · exact h
theorem dropL_len (l : List Msg) (i : Int) : (dropL l i).length ≤ l.length := by
  unfold dropL
  split
  · simp only [List.length_append, List.length_take, List.length_drop]; omega
  · exact Nat.le_refl _
theorem doubleL_len {r : Int} {l : List Msg} {i : Int} (h : (l.length : Int) ≤ r) : ((doubleL r l i).length : Int) ≤ r ∧ (doubleL r l i).length ≤ l.length + 1 := by
  unfold doubleL
  split
  · exact sendL_len h
  · exact ⟨h, by omega⟩
theorem doubleL_mem {r : Int} {l : List Msg} {i : Int} {x : Msg} (h : x ∈ doubleL r l i) : x ∈ l := by
  unfold doubleL at h
  split at h
  · rename_i ht
    rcases sendL_mem h with h | h
    · exact h
    · rw [h]; exact atL_mem ht
  · exact h

/- The reference. -/
theorem ref_send_ok (N : Nat) (r : Int) (l : List Msg) (to : Int) (b : List UInt8) (hr : (l.length : Int) ≤ r) (hl : l.length ≤ 1099511627776) : ref_Send.run N (r, l) to b = some ((r, sendL r l (to, b)), sendE r l, ()) := by
  unfold sendL sendE
  by_cases h : (l.length : Int) = r
  · rw [if_pos h, if_pos h]; exact go_d (by show (l.length : Int) ≥ r; omega) rfl
  · rw [if_neg h, if_neg h]
    exact go_n (by show ¬ (l.length : Int) ≥ r; omega) (go_t (room_t (by show l.length * 32 ≤ _; omega) (by show l.length ≤ _; omega)) (go_t (room_t (by show (l.length + 1) * 32 ≤ _; omega) (by show l.length + 1 ≤ _; omega)) rfl))
theorem ref_there_ok (N : Nat) (r : Int) (l : List Msg) (i : Int) : ref_There.run N (r, l) i = some (there l i, ()) := by
  unfold there
  by_cases h : i ≥ 0
  · rw [decide_eq_true h]; exact go_d h rfl
  · rw [decide_eq_false h]; exact go_n h rfl
theorem ref_double_ok (N : Nat) (r : Int) (l : List Msg) (i : Int) (hr : (l.length : Int) ≤ r) (hl : l.length ≤ 1099511627776) : ref_Double.run N (r, l) i = some ((r, doubleL r l i), doubleE r l i, ()) := by
  refine go_o (ref_there_ok N r l i) ?_
  unfold doubleL doubleE atL
  cases h : there l i with
  | false => rfl
  | true =>
    obtain ⟨h0, h1⟩ := there_t h
    exact go_f rfl (go_t (inB_t h0 h1) (go_t (inB_t h0 h1) (go_o (ref_send_ok N r l _ _ hr hl) rfl)))
end Go.Hay.Ytfbbfjjmbelfdaa
