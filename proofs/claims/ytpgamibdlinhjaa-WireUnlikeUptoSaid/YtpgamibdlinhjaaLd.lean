/- The document's numbers and texts, read; whatever is asked of a reader is answered as the document says. Conditions: sizes below a bound. -/
import Derived.Test.YtpgamibdlinhjaaLc
set_option linter.unusedVariables false
set_option linter.unusedSimpArgs false
namespace Go.Hay.Ytpgamibdlinhjaa
open Go Go.Hay Go.Proofs

theorem hi_bad {b : List UInt8} {e : Int} {n : Nat} (h : e ≠ 0) : hiX b e n = ((b, e), 0) := if_pos h
theorem hi_short {b : List UInt8} {n : Nat} (h : n > b.length) : hiX b 0 n = ((b, 10), 0) := by unfold hiX; rw [if_neg (by decide), if_pos h]
theorem hi_ok {b : List UInt8} {n : Nat} (h : n ≤ b.length) : hiX b 0 n = ((b.drop n, 0), toNum (b.take n)) := by unfold hiX; rw [if_neg (by decide), if_neg (by omega)]

theorem varX_below {b : List UInt8} {most : Int} (h : most < 0) : varX b most = varX b (-1) := by rw [varX_neg h, varX_neg (by decide)]
/- What is asked of a reader. -/
theorem end_some (N : Nat) (b : List UInt8) (e : Int) : ∃ x, codec_Reader_End.run N b e = some (x, ()) := by
  by_cases he : e = 0
  · by_cases h1 : 0 < b.length
    · exact ⟨13, go_d he (go_d (by omega) rfl)⟩
    · exact ⟨e, go_d he (go_n (by omega) rfl)⟩
  · exact ⟨e, go_n he rfl⟩
theorem hi_lt (b : List UInt8) (e : Int) (n : Nat) : (hiX b e n).2 < 256 ^ n := by
  have hp : 0 < 256 ^ n := Nat.pow_pos (by omega)
  unfold hiX
  split
  · exact hp
  split
  · exact hp
  · have := toNum_lt (b.take n)
    rw [List.length_take, Nat.min_eq_left (by omega)] at this
    exact this
abbrev Th := Int × Int × Int × List UInt8
end Go.Hay.Ytpgamibdlinhjaa
