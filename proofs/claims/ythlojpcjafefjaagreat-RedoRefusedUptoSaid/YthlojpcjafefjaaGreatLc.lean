/- What fixes the readings; each number has one form; lists written; the document's readers. Conditions: sizes below a bound. -/
import Derived.Test.YthlojpcjafefjaaGreatLb
set_option linter.unusedVariables false
set_option linter.unusedSimpArgs false
namespace Go.Hay.YthlojpcjafefjaaGreat
open Go Go.Hay Go.Proofs

/-- A text's bytes. -/
def textB (t : List UInt8) : List UInt8 := varB t.length ++ t
theorem fC52 (t : List UInt8) : (textB t).length ≤ t.length + 9 := by
  have := (fC47 t.length).1
  simp only [textB, List.length_append]; omega
theorem fA55 (n : Nat) (h : n ≤ 100000000000000) : IntKind.u64.wrap (n : Int) = (n : Int) := by rw [w_u64]; omega
theorem fD83 (k : Nat) (b t : List UInt8) (hb : b.length ≤ 10000000000000) (ht : t.length ≤ 10000000000000) : fC21.run (k + 9) b t = some ((b ++ textB t, ()), ()) := by
  have hv := wr_var k t.length b hb
  rw [← fA55 t.length (by omega)] at hv
  have hl := (fC47 t.length).1
  refine go_o hv (go_o (v := ((b ++ varB t.length ++ t, ()), ())) (go_t (room_t (by simp only [List.length_append]; omega) (by simp only [List.length_append]; omega)) rfl) ?_)
  simp [textB]
theorem fC99 (k : Nat) (t : List UInt8) (ht : t.length ≤ 10000000000000) : fC46.run (k + 9) t = some (textB t, ()) := by
  have hv := rf_var k t.length (by omega)
  rw [← fA55 t.length (by omega)] at hv
  have hl := (fC47 t.length).1
  exact go_o hv (go_t (room_t (by omega) (by omega)) rfl)

def tot (l : List (List UInt8)) : Nat := (l.map fun t => t.length + 9).sum
theorem fC65 (t : List UInt8) (l : List (List UInt8)) : tot (t :: l) = t.length + 9 + tot l := by simp [tot]
theorem fB85 (k : Nat) (l : List (List UInt8)) (hl : l.length ≤ 10000000000000) : ∀ (suf pre : List (List UInt8)) (b : List UInt8) (fuel : Nat), l = pre ++ suf → b.length + tot suf ≤ 10000000000000 → suf.length < fuel →
    fC14.go (k + 9) fuel b l (l.length : Int) (pre.length : Int) = some ((b ++ suf.flatMap textB, ()), ())
  | _, _, _, 0, _, _, h => absurd h (Nat.not_lt_zero _)
  | [], pre, b, fuel + 1, e, _, _ => go_n (by rw [e]; simp) (by simp)
  | t :: suf, pre, b, fuel + 1, e, hb, hf => by
    have hlt : pre.length < l.length := by rw [e]; simp
    have hgd : l.getD ((pre.length : Int)).toNat ([] : List UInt8) = t := by rw [e]; exact fC29 _ _ _ _
    rw [fC65] at hb
    have h1 := fC52 t
    refine go_d (by omega) (go_t (inB_nat hlt) ?_)
    rw [hgd]
    refine go_o (v := ((b ++ textB t, ()), ())) (go_o (fD83 k b t (by omega) (by omega)) rfl) ?_
    rw [wrap_succ pre.length (by omega)]
    have ih := fB85 k l hl suf (pre ++ [t]) (b ++ textB t) fuel (by rw [e]; simp) (by simp only [List.length_append]; omega) (by simp at hf; omega)
    rw [show ((pre ++ [t]).length : Int) = ((pre.length + 1 : Nat) : Int) by simp] at ih
    exact ih.trans (by simp)
theorem fB76 : ∀ l : List (List UInt8), (l.flatMap textB).length ≤ tot l
  | [] => by simp [tot]
  | t :: l => by
    have h1 := fC52 t
    have h2 := fB76 l
    rw [fC65, List.flatMap_cons, List.length_append]; omega
/- The document's readers. -/
/-- The document's reader that has so much left. -/
def R (B b : List UInt8) (e : Int) : List UInt8 × (Int × Int) := (B, ((B.length - b.length : Nat) : Int), e)
theorem fD96 {b B : List UInt8} (h : b <:+ B) : B.drop (B.length - b.length) = b := (List.suffix_iff_eq_drop.1 h).symm
theorem suf_le {b B : List UInt8} (h : b <:+ B) : b.length ≤ B.length := h.length_le
theorem rf_raw (N : Nat) {B b : List UInt8} (h : b <:+ B) (hB : B.length ≤ 100000000000000) (e n : Int) (hn : n < 9223372036854775808) : fC44.run N (R B b e) n = some (R B (rawR b e n).1.1 (rawR b e n).1.2, (rawR b e n).2, ()) := by
  have hl := suf_le h
  have hd := fD96 h
  unfold rawR
  by_cases he : e ≠ 0
  · rw [if_pos he]
    exact go_nn he rfl
  rw [if_neg he]
  have he0 : e = 0 := by omega
  subst he0
  refine go_nd rfl ?_
  by_cases h1 : n < 0
  · rw [if_pos h1]
    exact go_d h1 rfl
  rw [if_neg h1]
  refine go_n h1 ?_
  have e1 : IntKind.i64.wrap ((B.length : Int) - ((B.length - b.length : Nat) : Int)) = (b.length : Int) := by rw [wrap_i64] <;> omega
  show (bif decide (n > IntKind.i64.wrap ((B.length : Int) - ((B.length - b.length : Nat) : Int))) then _ else _) = _
  rw [e1]
  by_cases h2 : n > (b.length : Int)
  · rw [if_pos h2]
    exact go_d h2 rfl
  rw [if_neg h2]
  refine go_n h2 ?_
  obtain ⟨m, rfl⟩ := Int.eq_ofNat_of_zero_le (show 0 ≤ n by omega)
  have e2 : IntKind.i64.wrap (((B.length - b.length : Nat) : Int) + (m : Int)) = ((B.length - b.length + m : Nat) : Int) := by rw [wrap_i64] <;> omega
  have e3 : (B.take (B.length - b.length + m)).drop (B.length - b.length) = b.take m := by
    rw [List.drop_take, hd, show B.length - b.length + m - (B.length - b.length) = m by omega]
  show (bif okB ((B.length - b.length : Nat) : Int) (IntKind.i64.wrap (((B.length - b.length : Nat) : Int) + (m : Int))) B.length then (bif room ((B.take (IntKind.i64.wrap (((B.length - b.length : Nat) : Int) + (m : Int))).toNat).drop (((B.length - b.length : Nat) : Int)).toNat).length 1 then some ((B, IntKind.i64.wrap (((B.length - b.length : Nat) : Int) + (m : Int)), (0 : Int)), (B.take (IntKind.i64.wrap (((B.length - b.length : Nat) : Int) + (m : Int))).toNat).drop (((B.length - b.length : Nat) : Int)).toNat, ()) else none) else none) = _
  rw [e2, Int.toNat_natCast, Int.toNat_natCast, e3, Int.toNat_natCast]
  refine go_t (okB_t (by omega) (by omega) (by omega)) (go_t (room_t (by rw [List.length_take]; omega) (by rw [List.length_take]; omega)) ?_)
  unfold R
  rw [List.length_drop, show B.length - (b.length - m) = B.length - b.length + m by omega]
theorem raw_hi (b : List UInt8) (e : Int) (n : Nat) : (rawR b e (n : Int)).1 = (hiX b e n).1 ∧ toNum (rawR b e (n : Int)).2 = (hiX b e n).2 ∧ (rawR b e (n : Int)).2.length ≤ n := by
  unfold rawR hiX
  by_cases he : e ≠ 0
  · rw [if_pos he, if_pos he]; exact ⟨rfl, rfl, by simp⟩
  rw [if_neg he, if_neg he, if_neg (by omega)]
  by_cases h : n > b.length
  · rw [if_pos (by omega), if_pos h]; exact ⟨rfl, rfl, by simp⟩
  · rw [if_neg (by omega), if_neg h, Int.toNat_natCast]
    exact ⟨rfl, rfl, by rw [List.length_take]; omega⟩
theorem rf_get (k : Nat) {B b : List UInt8} (h : b <:+ B) (hB : B.length ≤ 100000000000000) (e : Int) (n : Nat) (hn : n ≤ 8) : fB44.run (k + 9) (R B b e) (n : Int) = some (R B (hiX b e n).1.1 (hiX b e n).1.2, (((hiX b e n).2 : Nat) : Int), ()) := by
  obtain ⟨r1, r2, r3⟩ := raw_hi b e n
  refine go_o (rf_raw _ h hB e (n : Int) (by omega)) (go_o (fA100 k _ (by omega)) ?_)
  rw [r1, r2]
theorem fA70 {B b : List UInt8} (h : b <:+ B) (e most : Int) : (varR b e most).1.1 <:+ B := by
  unfold varR
  split
  · exact h
  split
  · exact h
  · exact (List.drop_suffix _ _).trans h
theorem fC76 {B b : List UInt8} (h : b <:+ B) (e most : Int) : (textR b e most).1.1 <:+ B := by
  unfold textR
  split
  · exact h
  split
  · exact h
  · split
    · exact h
    · exact (List.drop_suffix _ _).trans h
end Go.Hay.YthlojpcjafefjaaGreat
