/- What is written is read as it was; of a shorter beginning the reader fails. Conditions: sizes below a bound. -/
import Derived.Test.YthlojpcjafefjaaGreatLd
set_option linter.unusedVariables false
set_option linter.unusedSimpArgs false
namespace Go.Hay.YthlojpcjafefjaaGreat
open Go Go.Hay Go.Proofs

theorem fA76 (n : Nat) (hn : n < 18446744073709551616) (r : List UInt8) (most : Int) (h : (n : Int) ≤ most) : varX (varB n ++ r) most = .ok (n, (varB n).length) := by
  unfold varX
  rw [fA92 n hn r]
  simp only
  rw [if_neg (by omega)]
theorem fB95 (b r : List UInt8) (hb : b.length ≤ 1000000000000) (most : Int) (hm : (b.length : Int) ≤ most) : textR (textB b ++ r) 0 most = ((r, 0), b) := by
  unfold textR
  have e : textB b ++ r = varB b.length ++ (b ++ r) := by simp [textB]
  rw [if_neg (by decide), e, fA76 b.length (by omega) _ most hm]
  simp only
  rw [List.drop_left, if_neg (by rw [List.length_append]; omega), List.take_left, ← List.drop_drop, List.drop_left, List.drop_left]

end Go.Hay.YthlojpcjafefjaaGreat
