/- Frames, one and many. Conditions: sizes below a bound. -/
import Derived.Test.YthlojpcjafefjaaGreatLg
set_option linter.unusedVariables false
set_option linter.unusedSimpArgs false
namespace Go.Hay.YthlojpcjafefjaaGreat
open Go Go.Hay Go.Proofs

/-- Bytes with checksums. -/
def frame (b : List UInt8) : List UInt8 := numB 4 b.length ++ numB 4 (sumN (numB 4 b.length)) ++ b ++ numB 4 (sumN b)
theorem fA51 (b : List UInt8) : (frame b).length = b.length + 12 := by
  simp only [frame, List.length_append, fC4]; omega
theorem fC69 (k n : Nat) (b : List UInt8) (hn : n < 4294967296) (hb : b.length ≤ 100000000000000) : fB13.run (k + 9) b (n : Int) = some ((b ++ numB 4 n, ()), ()) := by
  have h := fD62 k n 4 b (by omega) hb
  have e : IntKind.u64.wrap (n : Int) = (n : Int) := by rw [w_u64]; omega
  rw [← e] at h
  exact go_o h rfl
theorem fD76 (k : Nat) (b : List UInt8) (hb : b.length ≤ 16777216) (hk : b.length < k) (h9 : 9 < k) : fB32.run (k + 20) b = some (frame b, 0, ()) := by
  have e1 : IntKind.u32.wrap (b.length : Int) = (b.length : Int) := by rw [w_u32]; omega
  have l1 := fC4 4 b.length
  have l2 := fC4 4 (sumN (numB 4 b.length))
  have l3 := fC4 4 (sumN b)
  have h1 := fC69 (k + 11) b.length [] (by omega) (by simp)
  rw [← e1, List.nil_append] at h1
  have h2 := fC69 (k + 11) (sumN (numB 4 b.length)) (numB 4 b.length) (fA48 _) (by omega)
  have h3 := fC69 (k + 11) (sumN b) (numB 4 b.length ++ numB 4 (sumN (numB 4 b.length)) ++ b) (fA48 _) (by simp only [List.length_append]; omega)
  rw [e1] at h1
  refine go_n (by omega) (go_o (v := (([], ()), ())) rfl ?_)
  show obind (fB13.run (k + 20) [] (IntKind.u32.wrap (b.length : Int))) _ = _
  rw [e1]
  refine go_o h1 (go_o (fA65 k (numB 4 b.length) (by omega) (by omega)) (go_o h2 (go_o (v := ((numB 4 b.length ++ numB 4 (sumN (numB 4 b.length)) ++ b, ()), ())) (go_t (room_t (by simp only [List.length_append]; omega) (by simp only [List.length_append]; omega)) rfl) (go_o (fA65 k b (by omega) hk) (go_o h3 (go_o (fB66 _ _ (by simp only [List.length_append]; omega)) rfl))))))
theorem fC97 (k : Nat) (b : List UInt8) (hb : b.length ≤ 16777216) (hk : b.length < k) (h9 : 9 < k) : fC45.run (k + 20) b = some (frame b, 0, ()) := by
  have l1 := fC4 4 b.length
  have l2 := fC4 4 (sumN (numB 4 b.length))
  have l3 := fC4 4 (sumN b)
  have s1 := fA48 (numB 4 b.length)
  have s2 := fA48 b
  have u : ∀ n : Nat, n < 4294967296 → IntKind.u64.wrap (n : Int) = (n : Int) := fun n hn => by rw [w_u64]; omega
  have h1 := fB48 (k + 11) b.length 4 (by omega) (by omega)
  have h2 := fB48 (k + 11) (sumN (numB 4 b.length)) 4 (by omega) (by omega)
  have h3 := fB48 (k + 11) (sumN b) 4 (by omega) (by omega)
  rw [← u _ (by omega)] at h1 h2 h3
  refine go_n (by omega) (go_o h1 (go_o (fA77 k (numB 4 b.length) (by omega) (by omega)) (go_o h2 (go_t (room_t (by omega) (by omega)) (go_t (room_t (by simp only [List.length_append]; omega) (by simp only [List.length_append]; omega)) (go_o (fA77 k b (by omega) hk) (go_o h3 (go_t (room_t (by simp only [List.length_append]; omega) (by simp only [List.length_append]; omega)) rfl))))))))

/-- What the frame has that bytes begin with, how many bytes it has, or what is amiss. -/
def unf (b : List UInt8) : List UInt8 × Int × Int :=
  if b.length < 8 then ([], 0, 10)
  else if toNum ((b.drop 4).take 4) ≠ sumN (b.take 4) then ([], 0, 14)
  else if toNum (b.take 4) > 16777216 then ([], 0, 12)
  else if b.length < toNum (b.take 4) + 12 then ([], 0, 10)
  else if toNum ((b.drop (8 + toNum (b.take 4))).take 4) ≠ sumN ((b.drop 8).take (toNum (b.take 4))) then ([], 0, 14)
  else ((b.drop 8).take (toNum (b.take 4)), ((toNum (b.take 4) + 12 : Nat) : Int), 0)
theorem fD69 (l : List UInt8) : toNum (l.take 4) < 4294967296 := by
  have h := fB46 (l.take 4)
  have : 256 ^ (l.take 4).length ≤ 256 ^ 4 := Nat.pow_le_pow_right (by omega) (by rw [List.length_take]; omega)
  omega
theorem fA78 (k : Nat) (b : List UInt8) (e : Int) (he : e ≠ 0) : fB9.run (k + 9) b e = some ((b, e, ()), 0, ()) := go_o (fD64 k b e 4 he) rfl
theorem fA58 (k : Nat) (b : List UInt8) (h : b.length < 4) : fB9.run (k + 9) b 0 = some ((b, 10, ()), 0, ()) := go_o (fD46 k b 4 (by omega)) rfl
theorem fA63 (k : Nat) (b : List UInt8) (h : 4 ≤ b.length) : fB9.run (k + 9) b 0 = some ((b.drop 4, 0, ()), ((toNum (b.take 4) : Nat) : Int), ()) := by
  have hw := fD69 b
  refine go_o (fB49 k b 4 (by omega) h) ?_
  show some ((b.drop 4, (0 : Int), ()), IntKind.u32.wrap ((toNum (b.take 4) : Nat) : Int), ()) = _
  rw [show IntKind.u32.wrap ((toNum (b.take 4) : Nat) : Int) = ((toNum (b.take 4) : Nat) : Int) by rw [w_u32]; omega]
theorem fD88 (k : Nat) (b : List UInt8) (hb : b.length ≤ 1000000000000) (hk : b.length < k) (h9 : 9 < k) : fA37.run (k + 20) b = some ((unf b).1, (unf b).2.1, (unf b).2.2, ()) := by
  refine go_o (fC49 _ b (by omega)) ?_
  unfold unf
  by_cases h8 : b.length < 8
  · rw [if_pos h8]
    by_cases h4 : b.length < 4
    · exact go_o (fA58 (k + 11) b h4) (go_o (fA78 (k + 11) b 10 (by decide)) rfl)
    · exact go_o (fA63 (k + 11) b (by omega)) (go_o (fA58 (k + 11) (b.drop 4) (by rw [List.length_drop]; omega)) rfl)
  rw [if_neg h8]
  have w1 := fD69 b
  refine go_o (fA63 (k + 11) b (by omega)) (go_o (fA63 (k + 11) (b.drop 4) (by rw [List.length_drop]; omega)) (go_nd rfl (go_t (okB_t (by omega) (by omega) (by omega)) (go_o (cd_sum k (b.take 4) (by rw [List.length_take]; omega) (by rw [List.length_take]; omega)) ?_))))
  by_cases c1 : toNum ((b.drop 4).take 4) ≠ sumN (b.take 4)
  · rw [if_pos c1]
    exact go_nn (by omega) rfl
  rw [if_neg c1]
  refine go_nd (by omega) ?_
  generalize hn : toNum (b.take 4) = n at w1 ⊢
  by_cases c2 : n > 16777216
  · rw [if_pos c2]
    exact go_d (by omega) rfl
  rw [if_neg c2]
  refine go_n (by omega) ?_
  have e1 : IntKind.i64.wrap (n : Int) = (n : Int) := wrap_nat n (by omega)
  have e2 : (b.drop 4).drop 4 = b.drop 8 := by rw [List.drop_drop]
  show obind (fC5.run (k + 20) ((b.drop 4).drop 4) 0 (IntKind.i64.wrap (n : Int))) _ = _
  rw [e1, e2]
  have hr := rd_raw (k + 20) (b.drop 8) 0 (n : Int) (by rw [List.length_drop]; omega)
  unfold rawR at hr
  rw [if_neg (by decide), if_neg (by omega)] at hr
  by_cases c3 : b.length < n + 12
  · rw [if_pos c3]
    by_cases c4 : (n : Int) > ((b.drop 8).length : Int)
    · rw [if_pos c4] at hr
      exact go_o hr (go_o (fA78 (k + 11) (b.drop 8) 10 (by decide)) rfl)
    · rw [if_neg c4] at hr
      rw [List.length_drop] at c4
      exact go_o hr (go_o (fA58 (k + 11) _ (by rw [List.length_drop, List.length_drop]; omega)) rfl)
  rw [if_neg c3]
  rw [if_neg (by rw [List.length_drop]; omega)] at hr
  rw [Int.toNat_natCast] at hr
  have e3 : (b.drop 8).drop n = b.drop (8 + n) := by rw [List.drop_drop]
  refine go_o hr (go_o (fA63 (k + 11) ((b.drop 8).drop n) (by rw [List.length_drop, List.length_drop]; omega)) (go_nd rfl (go_o (fA65 k ((b.drop 8).take n) (by rw [List.length_take]; omega) (by rw [List.length_take]; omega)) ?_)))
  rw [e3]
  by_cases c5 : toNum ((b.drop (8 + n)).take 4) ≠ sumN ((b.drop 8).take n)
  · rw [if_pos c5]
    exact go_nn (by omega) rfl
  rw [if_neg c5]
  refine go_nd (by omega) ?_
  rw [show IntKind.i64.wrap ((n : Int) + 12) = ((n + 12 : Nat) : Int) by rw [wrap_i64] <;> omega]
theorem fC87 (k : Nat) (b : List UInt8) (hb : b.length ≤ 1000000000000) (hk : b.length < k) (h9 : 9 < k) : fB42.run (k + 20) b = some ((unf b).1, (unf b).2.1, (unf b).2.2, ()) := by
  unfold unf
  by_cases h8 : b.length < 8
  · rw [if_pos h8]
    exact go_d (by omega) rfl
  rw [if_neg h8]
  have w1 := fD69 b
  have d1 : (b.take 8).drop 4 = (b.drop 4).take 4 := by rw [List.drop_take]
  refine go_n (by omega) (go_t (okB_t (by omega) (by omega) (by omega)) (go_o (fC60 (k + 11) (b.take 4) (by rw [List.length_take]; omega)) (go_t (okB_t (by omega) (by omega) (by omega)) ?_)))
  rw [d1]
  have s1 := fA48 (b.take 4)
  have u : ∀ n : Nat, n < 4294967296 → IntKind.u64.wrap (n : Int) = (n : Int) := fun n hn => by rw [w_u64]; omega
  refine go_o (fC60 (k + 11) ((b.drop 4).take 4) (by rw [List.length_take]; omega)) (go_t (okB_t (by omega) (by omega) (by omega)) (go_o (rf_sum k (b.take 4) (by rw [List.length_take]; omega) (by rw [List.length_take]; omega)) ?_))
  show (bif !(decide (((toNum ((b.drop 4).take 4) : Nat) : Int) = IntKind.u64.wrap ((sumN (b.take 4) : Nat) : Int))) then _ else _) = _
  rw [u _ s1]
  by_cases c1 : toNum ((b.drop 4).take 4) ≠ sumN (b.take 4)
  · rw [if_pos c1]
    exact go_nn (by omega) rfl
  rw [if_neg c1]
  refine go_nd (by omega) ?_
  generalize hn : toNum (b.take 4) = n at w1 ⊢
  have e1 : IntKind.i64.wrap (n : Int) = (n : Int) := wrap_nat n (by omega)
  rw [e1]
  by_cases c2 : n > 16777216
  · rw [if_pos c2]
    exact go_d (by omega) rfl
  rw [if_neg c2]
  refine go_n (by omega) ?_
  have e2 : IntKind.i64.wrap ((b.length : Int) - 12) = (b.length : Int) - 12 := by rw [wrap_i64] <;> omega
  rw [e2]
  by_cases c3 : b.length < n + 12
  · rw [if_pos c3]
    exact go_d (by omega) rfl
  rw [if_neg c3]
  have e3 : IntKind.i64.wrap ((8 : Int) + (n : Int)) = ((8 + n : Nat) : Int) := by rw [wrap_i64] <;> omega
  have e4 : IntKind.i64.wrap ((12 : Int) + (n : Int)) = ((12 + n : Nat) : Int) := by rw [wrap_i64] <;> omega
  have d2 : (b.take (12 + n)).drop (8 + n) = (b.drop (8 + n)).take 4 := by rw [List.drop_take, show 12 + n - (8 + n) = 4 by omega]
  have d3 : (b.take (8 + n)).drop 8 = (b.drop 8).take n := by rw [List.drop_take, show 8 + n - 8 = n by omega]
  have s2 := fA48 ((b.drop 8).take n)
  rw [e3, e4, Int.toNat_natCast, Int.toNat_natCast, d2, d3]
  refine go_n (by omega) (go_t (okB_t (by omega) (by omega) (by omega)) (go_o (fC60 (k + 11) ((b.drop (8 + n)).take 4) (by rw [List.length_take]; omega)) (go_t (okB_t (by omega) (by omega) (by omega)) (go_o (rf_sum k ((b.drop 8).take n) (by rw [List.length_take]; omega) (by rw [List.length_take]; omega)) ?_))))
  show (bif !(decide (((toNum ((b.drop (8 + n)).take 4) : Nat) : Int) = IntKind.u64.wrap ((sumN ((b.drop 8).take n) : Nat) : Int))) then _ else _) = _
  rw [u _ s2]
  by_cases c5 : toNum ((b.drop (8 + n)).take 4) ≠ sumN ((b.drop 8).take n)
  · rw [if_pos c5]
    exact go_nn (by omega) rfl
  rw [if_neg c5]
  refine go_nd (by omega) (go_t (okB_t (by omega) (by omega) (by omega)) ?_)
  rw [show IntKind.i64.wrap ((n : Int) + 12) = ((n + 12 : Nat) : Int) by rw [wrap_i64] <;> omega]
/- Frames there and back. -/
theorem fB59 (n : Nat) (h : n < 4294967296) : toNum (numB 4 n) = n := by rw [fA49, Nat.mod_eq_of_lt (by omega)]
theorem fA90 (x r : List UInt8) (hx : x.length ≤ 16777216) : unf (frame x ++ r) = (x, ((x.length + 12 : Nat) : Int), 0) := by
  have fl := fA51 x
  have s1 := fA48 (numB 4 x.length)
  have s2 := fA48 x
  have e : frame x ++ r = numB 4 x.length ++ (numB 4 (sumN (numB 4 x.length)) ++ (x ++ (numB 4 (sumN x) ++ r))) := by simp [frame]
  have t1 : (frame x ++ r).take 4 = numB 4 x.length := by rw [e, List.take_left' (fC4 ..)]
  have t2 : (frame x ++ r).drop 4 = numB 4 (sumN (numB 4 x.length)) ++ (x ++ (numB 4 (sumN x) ++ r)) := by rw [e, List.drop_left' (fC4 ..)]
  have t3 : (frame x ++ r).drop 8 = x ++ (numB 4 (sumN x) ++ r) := by rw [show 8 = 4 + 4 from rfl, ← List.drop_drop, t2, List.drop_left' (fC4 ..)]
  have t4 : (frame x ++ r).drop (8 + x.length) = numB 4 (sumN x) ++ r := by rw [← List.drop_drop, t3, List.drop_left]
  unfold unf
  rw [t1, t2, fB59 _ (by omega), t3, t4, List.take_left' (fC4 ..), List.take_left' (fC4 ..), List.take_left, fB59 _ s1, fB59 _ s2]
  rw [if_neg (by rw [List.length_append]; omega), if_neg (by simp), if_neg (by omega), if_neg (by rw [List.length_append]; omega), if_neg (by simp)]
def F (l : List (List UInt8)) : List UInt8 := l.flatMap frame
end Go.Hay.YthlojpcjafefjaaGreat
