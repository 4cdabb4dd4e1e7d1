/- The document's numbers and texts, read; whatever is asked of a reader is answered as the document says. Conditions: sizes below a bound. -/
import Derived.Test.YtpgamibdlinhjaaGreatLc
set_option linter.unusedVariables false
set_option linter.unusedSimpArgs false
namespace Go.Hay.YtpgamibdlinhjaaGreat
open Go Go.Hay Go.Proofs

theorem hi_bad {b : List UInt8} {e : Int} {n : Nat} (h : e ≠ 0) : hiX b e n = ((b, e), 0) := if_pos h
theorem fC148 {b : List UInt8} {n : Nat} (h : n > b.length) : hiX b 0 n = ((b, 10), 0) := by unfold hiX; rw [if_neg (by decide), if_pos h]
theorem hi_ok {b : List UInt8} {n : Nat} (h : n ≤ b.length) : hiX b 0 n = ((b.drop n, 0), toNum (b.take n)) := by unfold hiX; rw [if_neg (by decide), if_neg (by omega)]

/- What is asked of a reader. -/
theorem hi_lt (b : List UInt8) (e : Int) (n : Nat) : (hiX b e n).2 < 256 ^ n := by
  have hp : 0 < 256 ^ n := Nat.pow_pos (by omega)
  unfold hiX
  split
  · exact hp
  split
  · exact hp
  · have := fC69 (b.take n)
    rw [List.length_take, Nat.min_eq_left (by omega)] at this
    exact this
end Go.Hay.YtpgamibdlinhjaaGreat
