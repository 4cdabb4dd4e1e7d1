/- Frames, one and many. Conditions: sizes below a bound. -/
import Derived.Test.YtpgamibdlinhjaaGreatLg
set_option linter.unusedVariables false
set_option linter.unusedSimpArgs false
namespace Go.Hay.YtpgamibdlinhjaaGreat
open Go Go.Hay Go.Proofs

/-- Bytes with checksums. -/
def frame (b : List UInt8) : List UInt8 := numB 4 b.length ++ numB 4 (sumN (numB 4 b.length)) ++ b ++ numB 4 (sumN b)
theorem fB114 (k n : Nat) (b : List UInt8) (hn : n < 4294967296) (hb : b.length ≤ 100000000000000) : fA6.run (k + 9) b (n : Int) = some ((b ++ numB 4 n, ()), ()) := by
  have h := fC90 k n 4 b (by omega) hb
  have e : IntKind.u64.wrap (n : Int) = (n : Int) := by rw [w_u64]; omega
  rw [← e] at h
  exact go_o h rfl
theorem fB152 (k : Nat) (b : List UInt8) (hb : b.length ≤ 16777216) (hk : b.length < k) (h9 : 9 < k) : fD67.run (k + 20) b = some (frame b, 0, ()) := by
  have e1 : IntKind.u32.wrap (b.length : Int) = (b.length : Int) := by rw [w_u32]; omega
  have l1 := fB10 4 b.length
  have l2 := fB10 4 (sumN (numB 4 b.length))
  have l3 := fB10 4 (sumN b)
  have h1 := fB114 (k + 11) b.length [] (by omega) (by simp)
  rw [← e1, List.nil_append] at h1
  have h2 := fB114 (k + 11) (sumN (numB 4 b.length)) (numB 4 b.length) (fD115 _) (by omega)
  have h3 := fB114 (k + 11) (sumN b) (numB 4 b.length ++ numB 4 (sumN (numB 4 b.length)) ++ b) (fD115 _) (by simp only [List.length_append]; omega)
  rw [e1] at h1
  refine go_n (by omega) (go_o (v := (([], ()), ())) rfl ?_)
  show obind (fA6.run (k + 20) [] (IntKind.u32.wrap (b.length : Int))) _ = _
  rw [e1]
  refine go_o h1 (go_o (cd_sum k (numB 4 b.length) (by omega) (by omega)) (go_o h2 (go_o (v := ((numB 4 b.length ++ numB 4 (sumN (numB 4 b.length)) ++ b, ()), ())) (go_t (room_t (by simp only [List.length_append]; omega) (by simp only [List.length_append]; omega)) rfl) (go_o (cd_sum k b (by omega) hk) (go_o h3 (go_o (fC130 _ _ (by simp only [List.length_append]; omega)) rfl))))))
theorem fD150 (k : Nat) (b : List UInt8) (hb : b.length ≤ 16777216) (hk : b.length < k) (h9 : 9 < k) : fB71.run (k + 20) b = some (frame b, 0, ()) := by
  have l1 := fB10 4 b.length
  have l2 := fB10 4 (sumN (numB 4 b.length))
  have l3 := fB10 4 (sumN b)
  have s1 := fD115 (numB 4 b.length)
  have s2 := fD115 b
  have u : ∀ n : Nat, n < 4294967296 → IntKind.u64.wrap (n : Int) = (n : Int) := fun n hn => by rw [w_u64]; omega
  have h1 := fC75 (k + 11) b.length 4 (by omega) (by omega)
  have h2 := fC75 (k + 11) (sumN (numB 4 b.length)) 4 (by omega) (by omega)
  have h3 := fC75 (k + 11) (sumN b) 4 (by omega) (by omega)
  rw [← u _ (by omega)] at h1 h2 h3
  refine go_n (by omega) (go_o h1 (go_o (rf_sum k (numB 4 b.length) (by omega) (by omega)) (go_o h2 (go_t (room_t (by omega) (by omega)) (go_t (room_t (by simp only [List.length_append]; omega) (by simp only [List.length_append]; omega)) (go_o (rf_sum k b (by omega) hk) (go_o h3 (go_t (room_t (by simp only [List.length_append]; omega) (by simp only [List.length_append]; omega)) rfl))))))))

/-- What the frame has that bytes begin with, how many bytes it has, or what is amiss. -/
def unf (b : List UInt8) : List UInt8 × Int × Int :=
  if b.length < 8 then ([], 0, 10)
  else if toNum ((b.drop 4).take 4) ≠ sumN (b.take 4) then ([], 0, 14)
  else if toNum (b.take 4) > 16777216 then ([], 0, 12)
  else if b.length < toNum (b.take 4) + 12 then ([], 0, 10)
  else if toNum ((b.drop (8 + toNum (b.take 4))).take 4) ≠ sumN ((b.drop 8).take (toNum (b.take 4))) then ([], 0, 14)
  else ((b.drop 8).take (toNum (b.take 4)), ((toNum (b.take 4) + 12 : Nat) : Int), 0)
theorem fC136 (l : List UInt8) : toNum (l.take 4) < 4294967296 := by
  have h := fC69 (l.take 4)
  have : 256 ^ (l.take 4).length ≤ 256 ^ 4 := Nat.pow_le_pow_right (by omega) (by rw [List.length_take]; omega)
  omega
theorem fA133 (k : Nat) (b : List UInt8) (e : Int) (he : e ≠ 0) : fD4.run (k + 9) b e = some ((b, e, ()), 0, ()) := go_o (fD88 k b e 4 he) rfl
theorem fC95 (k : Nat) (b : List UInt8) (h : b.length < 4) : fD4.run (k + 9) b 0 = some ((b, 10, ()), 0, ()) := go_o (fD69 k b 4 (by omega)) rfl
theorem fB115 (k : Nat) (b : List UInt8) (h : 4 ≤ b.length) : fD4.run (k + 9) b 0 = some ((b.drop 4, 0, ()), ((toNum (b.take 4) : Nat) : Int), ()) := by
  have hw := fC136 b
  refine go_o (fC77 k b 4 (by omega) h) ?_
  show some ((b.drop 4, (0 : Int), ()), IntKind.u32.wrap ((toNum (b.take 4) : Nat) : Int), ()) = _
  rw [show IntKind.u32.wrap ((toNum (b.take 4) : Nat) : Int) = ((toNum (b.take 4) : Nat) : Int) by rw [w_u32]; omega]
theorem fD140 (k : Nat) (b : List UInt8) (hb : b.length ≤ 1000000000000) (hk : b.length < k) (h9 : 9 < k) : fD61.run (k + 20) b = some ((unf b).1, (unf b).2.1, (unf b).2.2, ()) := by
  refine go_o (fB146 _ b (by omega)) ?_
  unfold unf
  by_cases h8 : b.length < 8
  · rw [if_pos h8]
    by_cases h4 : b.length < 4
    · exact go_o (fC95 (k + 11) b h4) (go_o (fA133 (k + 11) b 10 (by decide)) rfl)
    · exact go_o (fB115 (k + 11) b (by omega)) (go_o (fC95 (k + 11) (b.drop 4) (by rw [List.length_drop]; omega)) rfl)
  rw [if_neg h8]
  have w1 := fC136 b
  refine go_o (fB115 (k + 11) b (by omega)) (go_o (fB115 (k + 11) (b.drop 4) (by rw [List.length_drop]; omega)) (go_nd rfl (go_t (okB_t (by omega) (by omega) (by omega)) (go_o (fC152 k (b.take 4) (by rw [List.length_take]; omega) (by rw [List.length_take]; omega)) ?_))))
  by_cases c1 : toNum ((b.drop 4).take 4) ≠ sumN (b.take 4)
  · rw [if_pos c1]
    exact go_nn (by omega) rfl
  rw [if_neg c1]
  refine go_nd (by omega) ?_
  generalize hn : toNum (b.take 4) = n at w1 ⊢
  by_cases c2 : n > 16777216
  · rw [if_pos c2]
    exact go_d (by omega) rfl
  rw [if_neg c2]
  refine go_n (by omega) ?_
  have e1 : IntKind.i64.wrap (n : Int) = (n : Int) := wrap_nat n (by omega)
  have e2 : (b.drop 4).drop 4 = b.drop 8 := by rw [List.drop_drop]
  show obind (fD11.run (k + 20) ((b.drop 4).drop 4) 0 (IntKind.i64.wrap (n : Int))) _ = _
  rw [e1, e2]
  have hr := rd_raw (k + 20) (b.drop 8) 0 (n : Int) (by rw [List.length_drop]; omega)
  unfold rawR at hr
  rw [if_neg (by decide), if_neg (by omega)] at hr
  by_cases c3 : b.length < n + 12
  · rw [if_pos c3]
    by_cases c4 : (n : Int) > ((b.drop 8).length : Int)
    · rw [if_pos c4] at hr
      exact go_o hr (go_o (fA133 (k + 11) (b.drop 8) 10 (by decide)) rfl)
    · rw [if_neg c4] at hr
      rw [List.length_drop] at c4
      exact go_o hr (go_o (fC95 (k + 11) _ (by rw [List.length_drop, List.length_drop]; omega)) rfl)
  rw [if_neg c3]
  rw [if_neg (by rw [List.length_drop]; omega)] at hr
  rw [Int.toNat_natCast] at hr
  have e3 : (b.drop 8).drop n = b.drop (8 + n) := by rw [List.drop_drop]
  refine go_o hr (go_o (fB115 (k + 11) ((b.drop 8).drop n) (by rw [List.length_drop, List.length_drop]; omega)) (go_nd rfl (go_o (cd_sum k ((b.drop 8).take n) (by rw [List.length_take]; omega) (by rw [List.length_take]; omega)) ?_)))
  rw [e3]
  by_cases c5 : toNum ((b.drop (8 + n)).take 4) ≠ sumN ((b.drop 8).take n)
  · rw [if_pos c5]
    exact go_nn (by omega) rfl
  rw [if_neg c5]
  refine go_nd (by omega) ?_
  rw [show IntKind.i64.wrap ((n : Int) + 12) = ((n + 12 : Nat) : Int) by rw [wrap_i64] <;> omega]
/- Frames there and back. -/
def F (l : List (List UInt8)) : List UInt8 := l.flatMap frame
end Go.Hay.YtpgamibdlinhjaaGreat
