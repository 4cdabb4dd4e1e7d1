/- Laws of logs: batches, spoilt bits. Conditions: sizes below a bound. -/
import Derived.Test.YthlojpcjafefjaaGreatLl
set_option linter.unusedVariables false
set_option linter.unusedSimpArgs false
namespace Go.Hay.YthlojpcjafefjaaGreat
open Go Go.Hay Go.Proofs

/-! ### Frames with one byte changed -/
section
variable {N : Nat}
abbrev nm : DNm := [108, 111, 103]
theorem nm_ok : nameOk nm = true := by decide
/-! ### At once, or one by one -/
end
end Go.Hay.YthlojpcjafefjaaGreat
