/- How long a message's bytes are at most, by how much the message counts; numbers that fit. Conditions: none. -/
import Derived.Test.YtpgamibdlinhjaaGreatLwg
set_option linter.unusedVariables false
set_option linter.unusedSimpArgs false
namespace Go.Hay.YtpgamibdlinhjaaGreat
open Go Go.Hay Go.Proofs

theorem fB120 (n : Int) : (wPlace n).length ≤ 9 := (fD118 _).1
end Go.Hay.YtpgamibdlinhjaaGreat
