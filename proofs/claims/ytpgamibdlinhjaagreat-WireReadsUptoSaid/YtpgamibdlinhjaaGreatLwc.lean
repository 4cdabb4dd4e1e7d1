/- What the functions of a pipe that write come to. Conditions: sizes below a bound, numbers that fit. -/
import Derived.Test.YtpgamibdlinhjaaGreatLwb
set_option linter.unusedVariables false
set_option linter.unusedSimpArgs false
namespace Go.Hay.YtpgamibdlinhjaaGreat
open Go Go.Hay Go.Proofs
def BVer (x : Ver) : Prop := FVer x ∧ x.2.1.length ≤ 1048576
def BIns (x : Ins) : Prop := FIns x ∧ x.2.2.1.length ≤ 1048576
def BErs (x : Ers) : Prop := FErs x
section
variable {b : (List UInt8)} {jT jL jM jN : Bool} {jA jB_ jC_ jD jE jF jG jH jI jJ jK jO_ jO1 most ver ver1 ver3 id_ id1 n_ jU : Int} {jP : (List T7)} {jP1 : (List T8)} {jQ : (List T6)} {ver2 row : (List T4)}
end
end Go.Hay.YtpgamibdlinhjaaGreat
