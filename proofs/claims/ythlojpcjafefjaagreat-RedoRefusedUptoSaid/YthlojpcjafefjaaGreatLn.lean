/- Logs on a disk that may die. Conditions: sizes below a bound. -/
import Derived.Test.YthlojpcjafefjaaGreatLm
set_option linter.unusedVariables false
set_option linter.unusedSimpArgs false
namespace Go.Hay.YthlojpcjafefjaaGreat
open Go Go.Hay Go.Proofs

section
variable {N : Nat}
end
end Go.Hay.YthlojpcjafefjaaGreat
