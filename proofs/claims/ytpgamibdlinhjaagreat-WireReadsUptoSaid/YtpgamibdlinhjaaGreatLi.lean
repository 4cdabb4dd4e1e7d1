/- Whatever is written stands in the bytes; frames of which a bit is turned. Conditions: sizes below a bound. -/
import Derived.Test.YtpgamibdlinhjaaGreatLh
set_option linter.unusedVariables false
set_option linter.unusedSimpArgs false
namespace Go.Hay.YtpgamibdlinhjaaGreat
open Go Go.Hay Go.Proofs

/- Frames with one byte changed. -/
end Go.Hay.YtpgamibdlinhjaaGreat
