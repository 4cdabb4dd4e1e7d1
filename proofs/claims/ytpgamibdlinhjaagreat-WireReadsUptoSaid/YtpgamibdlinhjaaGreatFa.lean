/- Functions of the program as functions of Lean, and that they are what the program computes. Conditions: none. -/
import Derived.Test.YtpgamibdlinhjaaGreatU
set_option linter.unusedVariables false
namespace Go.Hay.YtpgamibdlinhjaaGreat
open Go Go.Hay Go.Proofs
noncomputable section
set_option maxRecDepth 100000
instance : Sites := ⟨fun _ _ => .cells #[] 0 (0, 0), fun _ _ _ h => nomatch h⟩
abbrev T0 : Type := (List UInt8) × Unit
abbrev T1 : Type := Unit × Unit × Bool × Unit
abbrev T2 : Type := (Unit × Unit) × T1 × Unit
abbrev T3 : Type := Int × (List UInt8)
abbrev T4 : Type := Int × (Bool × T3)
abbrev T5 : Type := (List T4) × Int
abbrev T6 : Type := (Int × Int) × T5
abbrev T7 : Type := (Int × Int) × T6
abbrev T8 : Type := (Int × Int) × (Int × Int)
abbrev T9 : Type := T0 × T1 × Unit
abbrev T10 : Type := Int × Int × Int × Int × Int × Int × Int × Int × Int × Int × Int × Bool × Bool × Bool × Int × Int × (List T7) × (List T8) × (List T6) × Unit
abbrev T11 : Type := T0 × T1 × T10 × Unit
abbrev T12 : Type := T0 × T10 × Unit
abbrev T13 : Type := Int × Int × Int × Int × (List T4) × Int × Unit
abbrev T14 : Type := T0 × T1 × T13 × Unit
abbrev T15 : Type := T0 × T13 × Unit
abbrev T16 : Type := (Bool × Unit) ⊕ Unit
abbrev T17 : Type := (List UInt8) × Int × Unit
abbrev T18 : Type := Int × Int × Int × Int × Unit
abbrev T19 : Type := T0 × T1 × T18 × Unit
abbrev T20 : Type := T0 × T18 × Unit
abbrev T21 : Type := Int × Int × (List T4) × Int × Unit
abbrev T22 : Type := T0 × T21 × Unit
abbrev T23 : Type := T0 × T1 × T21 × Unit
abbrev T24 : Type := T0 × T1 × T10 × Bool × Unit
abbrev T25 : Type := T17 × (List UInt8) × Bool × Unit
abbrev T26 : Type := T17 × Int × Unit
abbrev T27 : Type := T17 × UInt8 × Unit
abbrev T28 : Type := T17 × T1 × Unit
abbrev T29 : Type := T17 × T1 × T10 × Unit
abbrev T30 : Type := T17 × T10 × Unit
abbrev T31 : Type := T17 × Int × Int × Unit
abbrev T32 : Type := T17 × T13 × Unit
abbrev T33 : Type := T17 × (List UInt8) × Unit
abbrev T34 : Type := T4 × (List UInt8) × Bool × Unit
abbrev T35 : Type := (List T4) × Int × Unit
abbrev T36 : Type := (List UInt8) × (List T4) × Unit
abbrev T37 : Type := T17 × T1 × T13 × Unit
abbrev T38 : Type := T17 × T18 × Unit
abbrev T39 : Type := T17 × T1 × (Int × Unit) × Unit
abbrev T40 : Type := T17 × T21 × Unit
abbrev T41 : Type := T17 × T1 × T21 × Unit
abbrev T42 : Type := T17 × T1 × T10 × Bool × Unit
abbrev T43 : Type := (List Int) × Unit
abbrev T44 : Type := (List T7) × (List T8)
abbrev T45 : Type := T44 × (List T6)
abbrev T46 : Type := (Int × Int) × T45
abbrev T47 : Type := Bool × (Bool × T46)
abbrev T48 : Type := Int × (Bool × T47)
abbrev T49 : Type := Int × (Int × T48)
abbrev T50 : Type := Int × (Int × T49)
abbrev T51 : Type := Int × (Int × T50)
abbrev T52 : Type := Int × (Int × T51)
abbrev T53 : Type := Int × (Int × T52)
abbrev T54 : Type := (List UInt8) × Bool × Unit
abbrev T55 : Type := UInt8 × Int × Unit
abbrev T56 : Type := Int × Bool × Int × (List UInt8) × Unit
abbrev T57 : Type := (List UInt8) × Int × Int × Unit
abbrev T58 : Type := T53 × Int × Unit
abbrev T59 : Type := (List UInt8) × (Int × Int)
abbrev T60 : Type := T59 × (List UInt8) × Unit
abbrev T61 : Type := T59 × Int × Unit
abbrev T62 : Type := T57 × Int × Unit
abbrev T63 : Type := T57 × (Int × Int) × Unit
abbrev T64 : Type := T56 × Int × Unit
abbrev T65 : Type := (T56 × Unit) ⊕ T64
abbrev T66 : Type := T4 × Int × Unit
abbrev T67 : Type := T57 × (List T4) × Unit
abbrev T68 : Type := (List T7) × (List T8) × Unit
abbrev T69 : Type := T57 × T68 × Unit
abbrev T70 : Type := T57 × T44 × Unit
abbrev T71 : Type := T57 × Bool × Unit
abbrev T72 : Type := T57 × (List T6) × Unit
abbrev T73 : Type := T57 × T10 × Unit
abbrev T74 : Type := T57 × T53 × Unit
def s0 : Sh := (.cons (.upd 0 75 (.cons (.own 5 .byte) .nil)) .nil)
def s1 : Sh := (.cons (.nilp) (.cons (.val .bool) .nil))
def s2 : Sh := (.box 47 (.cons (.box 75 (.cons (.rown 5 .byte) .nil)) s1))
def s3 : Sh := (.cons (.upd 0 47 (.cons (.ref 0) s1)) .nil)
def s4 : Sh := (.cons (.upd 1 75 (.cons (.keep 1 2) .nil)) s3)
def s5 : Sh := (.cons (.box 75 (.cons (.own 5 .byte) .nil)) s1)
def s6 : Sh := (.cons (.val (.slice (.pair (.pair (.int .u64) (.int .u32)) (.pair (.slice (.pair (.int .i64) (.pair .bool (.pair (.int .i64) .str)))) (.int .u64))))) .nil)
def s7 : Sh := (.cons (.val (.int .i64)) (.cons (.val (.int .i64)) (.cons (.val (.int .i64)) (.cons (.val (.int .u64)) (.cons (.val (.int .u64)) (.cons (.val (.int .u64)) (.cons (.val (.int .u64)) (.cons (.val (.int .u64)) (.cons (.val (.int .u64)) (.cons (.val (.int .u64)) (.cons (.val (.int .i64)) (.cons (.val .bool) (.cons (.val .bool) (.cons (.val .bool) (.cons (.val (.int .i64)) (.cons (.val (.int .i64)) (.cons (.val (.slice (.pair (.pair (.int .i64) (.int .i64)) (.pair (.pair (.int .u64) (.int .u32)) (.pair (.slice (.pair (.int .i64) (.pair .bool (.pair (.int .i64) .str)))) (.int .u64)))))) (.cons (.val (.slice (.pair (.pair (.int .i64) (.int .i64)) (.pair (.int .u64) (.int .u32))))) s6))))))))))))))))))
def s8 : Sh := (.cons (.upd 1 75 (.cons (.own 5 .byte) .nil)) s3)
def s9 : Sh := (.cons (.upd 1 75 (.cons (.own 5 .byte) .nil)) (.cons (.upd 0 47 (.cons (.ref 0) s1)) (.cons (.upd 3 31 s7) .nil)))
def s10 : Sh := (.cons (.val (.int .u64)) (.cons (.val (.int .i64)) .nil))
def s11 : Sh := (.cons (.box 75 (.cons (.own 5 .byte) .nil)) s10)
def s12 : Sh := (.cons (.box 75 (.cons (.own 5 .byte) .nil)) (.cons (.val (.int .u64)) .nil))
def s13 : Sh := (.cons (.upd 1 75 (.cons (.own 5 .byte) .nil)) (.cons (.upd 3 31 s7) .nil))
def s14 : Sh := (.cons (.val (.int .u64)) (.cons (.val (.int .u32)) (.cons (.val (.slice (.pair (.int .i64) (.pair .bool (.pair (.int .i64) .str))))) (.cons (.val (.int .u64)) .nil))))
def s15 : Sh := (.cons (.val (.int .i64)) (.cons (.val (.int .i64)) s14))
def s16 : Sh := (.cons (.upd 1 75 (.cons (.own 5 .byte) .nil)) (.cons (.upd 0 47 (.cons (.ref 0) s1)) (.cons (.upd 3 95 s15) .nil)))
def s17 : Sh := (.cons (.box 47 s5) (.cons (.box 95 s15) .nil))
def s18 : Sh := (.cons (.val (.pair (.int .i64) (.pair .bool (.pair (.int .i64) .str)))) .nil)
def s19 : Sh := (.cons (.val (.slice (.pair (.int .i64) (.pair .bool (.pair (.int .i64) .str))))) .nil)
def s20 : Sh := (.cons (.val (.int .i64)) (.cons (.val (.int .i64)) .nil))
def s21 : Sh := (.cons (.val (.slice (.pair (.int .i64) (.pair .bool (.pair (.int .i64) .str))))) s20)
def s22 : Sh := (.cons (.own 5 .byte) (.cons (.val (.int .i64)) .nil))
def s23 : Sh := (.cons (.box 75 (.cons (.own 5 .byte) .nil)) (.cons (.rown 5 .byte) .nil))
def s24 : Sh := (.cons (.fnb 1 97 (.cons (.ref 0) .nil)) .nil)
def s25 : Sh := (.cons (.val (.slice (.pair (.pair (.int .i64) (.int .i64)) (.pair (.pair (.int .u64) (.int .u32)) (.pair (.slice (.pair (.int .i64) (.pair .bool (.pair (.int .i64) .str)))) (.int .u64)))))) s20)
def s26 : Sh := (.cons (.val (.int .i64)) (.cons (.val (.int .i64)) (.cons (.val (.int .u64)) (.cons (.val (.int .u32)) .nil))))
def s27 : Sh := (.cons (.upd 1 75 (.cons (.own 5 .byte) .nil)) (.cons (.upd 0 47 (.cons (.ref 0) s1)) (.cons (.upd 3 99 s26) .nil)))
def s28 : Sh := (.cons (.box 47 s5) (.cons (.box 99 s26) .nil))
def s29 : Sh := (.cons (.rbox 47 s5) (.cons (.bxo 2 99 s26) .nil))
def s30 : Sh := (.cons (.upd 1 75 (.cons (.own 5 .byte) .nil)) (.cons (.upd 3 99 s26) .nil))
def s31 : Sh := (.cons (.fnb 1 99 (.cons (.ref 0) .nil)) .nil)
def s32 : Sh := (.cons (.val (.slice (.pair (.pair (.int .i64) (.int .i64)) (.pair (.int .u64) (.int .u32))))) s20)
def s33 : Sh := (.cons (.rbox 49 (.cons (.box 31 s7) .nil)) .nil)
def s34 : Sh := (.cons (.rbox 42 (.cons (.box 47 s5) .nil)) s33)
def s35 : Sh := (.cons (.upd 2 75 (.cons (.own 5 .byte) .nil)) (.cons (.upd 1 47 (.cons (.ref 0) s1)) (.cons (.upd 5 31 s7) .nil)))
def s36 : Sh := (.cons (.rbox 42 (.cons (.rbox 47 s5) .nil)) s33)
def s37 : Sh := (.cons (.upd 2 75 (.cons (.own 5 .byte) .nil)) (.cons (.upd 5 31 s7) .nil))
def s38 : Sh := (.cons (.box 47 s5) (.cons (.bxo 14 31 s7) .nil))
def s39 : Sh := (.cons (.upd 1 75 (.cons (.own 5 .byte) .nil)) (.cons (.upd 3 93 s14) .nil))
def s40 : Sh := (.cons (.upd 1 75 (.cons (.own 5 .byte) .nil)) (.cons (.upd 0 47 (.cons (.ref 0) s1)) (.cons (.upd 3 93 s14) .nil)))
def s41 : Sh := (.cons (.fnb 1 104 (.cons (.ref 0) .nil)) .nil)
def s42 : Sh := (.cons (.val (.slice (.pair (.pair (.int .u64) (.int .u32)) (.pair (.slice (.pair (.int .i64) (.pair .bool (.pair (.int .i64) .str)))) (.int .u64))))) s20)
def s43 : Sh := (.cons (.box 47 s5) (.cons (.box 31 s7) .nil))
def s44 : Sh := (.cons (.val (.slice .byte)) (.cons (.val (.int .i64)) .nil))
def s45 : Sh := (.cons (.box 83 s44) (.cons (.val (.int .i64)) .nil))
def s46 : Sh := (.cons (.val (.slice .byte)) (.cons (.val .bool) .nil))
def s47 : Sh := (.cons (.upd 0 83 s44) (.cons (.val (.int .u64)) .nil))
def s48 : Sh := (.cons (.nilp) (.cons (.box 83 s44) (.cons (.val .bool) .nil)))
def s49 : Sh := (.cons (.nilp) (.cons (.ref 0) (.cons (.val .bool) .nil)))
def s50 : Sh := (.cons (.upd 1 83 s44) (.cons (.upd 0 47 s49) .nil))
def s51 : Sh := (.cons (.own 93 (.pair (.pair (.int .u64) (.int .u32)) (.pair (.slice (.pair (.int .i64) (.pair .bool (.pair (.int .i64) .str)))) (.int .u64)))) .nil)
def s52 : Sh := (.cons (.val (.int .i64)) (.cons (.val (.int .i64)) (.cons (.val (.int .i64)) (.cons (.val (.int .u64)) (.cons (.val (.int .u64)) (.cons (.val (.int .u64)) (.cons (.val (.int .u64)) (.cons (.val (.int .u64)) (.cons (.val (.int .u64)) (.cons (.val (.int .u64)) (.cons (.val (.int .i64)) (.cons (.val .bool) (.cons (.val .bool) (.cons (.val .bool) (.cons (.val (.int .i64)) (.cons (.val (.int .i64)) (.cons (.own 95 (.pair (.pair (.int .i64) (.int .i64)) (.pair (.pair (.int .u64) (.int .u32)) (.pair (.slice (.pair (.int .i64) (.pair .bool (.pair (.int .i64) .str)))) (.int .u64))))) (.cons (.own 99 (.pair (.pair (.int .i64) (.int .i64)) (.pair (.int .u64) (.int .u32)))) s51))))))))))))))))))
def s53 : Sh := (.cons (.upd 1 83 s44) (.cons (.upd 0 47 s49) (.cons (.upd 2 31 s52) .nil)))
def s54 : Sh := (.cons (.upd 1 83 s44) (.cons (.upd 2 31 s52) .nil))
def s55 : Sh := (.cons (.val (.int .u64)) (.cons (.val (.int .u64)) .nil))
def s56 : Sh := (.cons (.val (.int .u64)) (.cons (.val (.int .u32)) (.cons (.own 133 (.pair (.int .i64) (.pair .bool (.pair (.int .i64) .str)))) (.cons (.val (.int .u64)) .nil))))
def s57 : Sh := (.cons (.val (.int .i64)) (.cons (.val (.int .i64)) s56))
def s58 : Sh := (.cons (.rbox 47 s48) (.cons (.box 95 s57) .nil))
def s59 : Sh := (.cons (.upd 1 83 s44) (.cons (.upd 2 95 s57) .nil))
def s60 : Sh := (.cons (.upd 0 83 s44) (.cons (.own 5 .byte) .nil))
def s61 : Sh := (.cons (.own 133 (.pair (.int .i64) (.pair .bool (.pair (.int .i64) .str)))) (.cons (.val (.int .i64)) .nil))
def s62 : Sh := (.cons (.val (.slice .byte)) (.cons (.own 133 (.pair (.int .i64) (.pair .bool (.pair (.int .i64) .str)))) s20))
def s63 : Sh := (.cons (.own 133 (.pair (.int .i64) (.pair .bool (.pair (.int .i64) .str)))) .nil)
def s64 : Sh := (.cons (.upd 1 83 s44) (.cons (.upd 0 47 s49) (.cons (.upd 2 95 s57) .nil)))
def s65 : Sh := (.cons (.rbox 47 s48) (.cons (.box 99 s26) .nil))
def s66 : Sh := (.cons (.upd 1 83 s44) (.cons (.upd 2 99 s26) .nil))
def s67 : Sh := (.cons (.rbox 47 s48) (.cons (.bxo 2 99 s26) .nil))
def s68 : Sh := (.cons (.rbox 49 (.cons (.box 31 s52) .nil)) .nil)
def s69 : Sh := (.cons (.rbox 42 (.cons (.box 47 s48) .nil)) s68)
def s70 : Sh := (.cons (.upd 2 83 s44) (.cons (.upd 1 47 s49) (.cons (.upd 4 31 s52) .nil)))
def s71 : Sh := (.cons (.rbox 42 (.cons (.rbox 47 s48) .nil)) s68)
def s72 : Sh := (.cons (.upd 2 83 s44) (.cons (.upd 4 31 s52) .nil))
def s73 : Sh := (.cons (.rbox 47 s48) (.cons (.bxo 14 31 s52) .nil))
def s74 : Sh := (.cons (.rbox 47 s48) (.cons (.box 93 s56) .nil))
def s75 : Sh := (.cons (.upd 1 83 s44) (.cons (.upd 2 93 s56) .nil))
def s76 : Sh := (.cons (.upd 1 83 s44) (.cons (.upd 0 47 s49) (.cons (.upd 2 93 s56) .nil)))
def s77 : Sh := (.cons (.box 47 s48) (.cons (.box 31 s52) .nil))
def s78 : Sh := (.cons (.arr 129 (.int .u32) 16) (.cons (.val (.int .i64)) .nil))
def s79 : Sh := (.cons (.val (.int .u32)) (.cons (.val (.int .i64)) .nil))
def s80 : Sh := (.cons (.val (.pair (.pair (.int .u64) (.int .u32)) (.pair (.slice (.pair (.int .i64) (.pair .bool (.pair (.int .i64) .str)))) (.int .u64)))) (.cons (.val (.pair (.pair (.int .u64) (.int .u32)) (.pair (.slice (.pair (.int .i64) (.pair .bool (.pair (.int .i64) .str)))) (.int .u64)))) .nil))
def s81 : Sh := (.cons (.val (.slice (.pair (.pair (.int .i64) (.int .i64)) (.pair (.int .u64) (.int .u32))))) .nil)
def s82 : Sh := (.cons (.val (.pair (.int .i64) (.pair (.int .i64) (.pair (.int .i64) (.pair (.int .u64) (.pair (.int .u64) (.pair (.int .u64) (.pair (.int .u64) (.pair (.int .u64) (.pair (.int .u64) (.pair (.int .u64) (.pair (.int .i64) (.pair .bool (.pair .bool (.pair .bool (.pair (.pair (.int .i64) (.int .i64)) (.pair (.pair (.slice (.pair (.pair (.int .i64) (.int .i64)) (.pair (.pair (.int .u64) (.int .u32)) (.pair (.slice (.pair (.int .i64) (.pair .bool (.pair (.int .i64) .str)))) (.int .u64))))) (.slice (.pair (.pair (.int .i64) (.int .i64)) (.pair (.int .u64) (.int .u32))))) (.slice (.pair (.pair (.int .u64) (.int .u32)) (.pair (.slice (.pair (.int .i64) (.pair .bool (.pair (.int .i64) .str)))) (.int .u64))))))))))))))))))))) .nil)
def s83 : Sh := (.cons (.val (.pair (.int .i64) (.pair (.int .i64) (.pair (.int .i64) (.pair (.int .u64) (.pair (.int .u64) (.pair (.int .u64) (.pair (.int .u64) (.pair (.int .u64) (.pair (.int .u64) (.pair (.int .u64) (.pair (.int .i64) (.pair .bool (.pair .bool (.pair .bool (.pair (.pair (.int .i64) (.int .i64)) (.pair (.pair (.slice (.pair (.pair (.int .i64) (.int .i64)) (.pair (.pair (.int .u64) (.int .u32)) (.pair (.slice (.pair (.int .i64) (.pair .bool (.pair (.int .i64) .str)))) (.int .u64))))) (.slice (.pair (.pair (.int .i64) (.int .i64)) (.pair (.int .u64) (.int .u32))))) (.slice (.pair (.pair (.int .u64) (.int .u32)) (.pair (.slice (.pair (.int .i64) (.pair .bool (.pair (.int .i64) .str)))) (.int .u64))))))))))))))))))))) s82)
def s84 : Sh := (.cons (.rbox 31 s7) (.cons (.rbox 31 s7) .nil))
def s85 : Sh := (.cons (.box 31 s7) (.cons (.val .str) (.cons (.val (.int .i64)) .nil)))
def s86 : Sh := (.cons (.val (.pair (.slice (.pair (.pair (.int .i64) (.int .i64)) (.pair (.pair (.int .u64) (.int .u32)) (.pair (.slice (.pair (.int .i64) (.pair .bool (.pair (.int .i64) .str)))) (.int .u64))))) (.slice (.pair (.pair (.int .i64) (.int .i64)) (.pair (.int .u64) (.int .u32)))))) .nil)
def s87 : Sh := (.cons (.val (.slice (.pair (.pair (.int .i64) (.int .i64)) (.pair (.pair (.int .u64) (.int .u32)) (.pair (.slice (.pair (.int .i64) (.pair .bool (.pair (.int .i64) .str)))) (.int .u64)))))) s81)
def s88 : Sh := (.cons (.rbox 28 s87) (.cons (.val (.int .i64)) .nil))
def s89 : Sh := (.cons (.val (.slice (.pair (.pair (.int .u64) (.int .u32)) (.pair (.slice (.pair (.int .i64) (.pair .bool (.pair (.int .i64) .str)))) (.int .u64))))) (.cons (.val (.int .i64)) .nil))
def s90 : Sh := (.cons (.own 5 .byte) (.cons (.val .bool) .nil))
def s91 : Sh := (.cons (.box 57 s90) (.cons (.val .bool) .nil))
def s92 : Sh := (.cons (.box 57 s90) (.cons (.val (.int .i64)) .nil))
def s93 : Sh := (.cons (.val .byte) (.cons (.val (.int .i64)) .nil))
def s94 : Sh := (.cons (.val (.pair (.int .i64) (.int .i64))) .nil)
def s95 : Sh := (.cons (.val (.int .i64)) (.cons (.val .bool) (.cons (.val (.int .i64)) (.cons (.val .str) .nil))))
def s96 : Sh := (.cons (.rbox 133 s95) (.cons (.box 133 s95) .nil))
def s97 : Sh := (.cons (.val (.pair (.int .u64) (.int .u32))) .nil)
def s98 : Sh := (.cons (.val (.pair (.int .i64) (.pair (.int .i64) (.pair (.int .i64) (.pair (.int .u64) (.pair (.int .u64) (.pair (.int .u64) (.pair (.int .u64) (.pair (.int .u64) (.pair (.int .u64) (.pair (.int .u64) (.pair (.int .i64) (.pair .bool (.pair .bool (.pair .bool (.pair (.pair (.int .i64) (.int .i64)) (.pair (.pair (.slice (.pair (.pair (.int .i64) (.int .i64)) (.pair (.pair (.int .u64) (.int .u32)) (.pair (.slice (.pair (.int .i64) (.pair .bool (.pair (.int .i64) .str)))) (.int .u64))))) (.slice (.pair (.pair (.int .i64) (.int .i64)) (.pair (.int .u64) (.int .u32))))) (.slice (.pair (.pair (.int .u64) (.int .u32)) (.pair (.slice (.pair (.int .i64) (.pair .bool (.pair (.int .i64) .str)))) (.int .u64))))))))))))))))))))) (.cons (.val .byte) .nil))
def s99 : Sh := (.cons (.val (.pair (.int .i64) (.pair (.int .i64) (.pair (.int .i64) (.pair (.int .u64) (.pair (.int .u64) (.pair (.int .u64) (.pair (.int .u64) (.pair (.int .u64) (.pair (.int .u64) (.pair (.int .u64) (.pair (.int .i64) (.pair .bool (.pair .bool (.pair .bool (.pair (.pair (.int .i64) (.int .i64)) (.pair (.pair (.slice (.pair (.pair (.int .i64) (.int .i64)) (.pair (.pair (.int .u64) (.int .u32)) (.pair (.slice (.pair (.int .i64) (.pair .bool (.pair (.int .i64) .str)))) (.int .u64))))) (.slice (.pair (.pair (.int .i64) (.int .i64)) (.pair (.int .u64) (.int .u32))))) (.slice (.pair (.pair (.int .u64) (.int .u32)) (.pair (.slice (.pair (.int .i64) (.pair .bool (.pair (.int .i64) .str)))) (.int .u64))))))))))))))))))))) (.cons (.val (.int .i64)) .nil))
def s100 : Sh := (.cons (.val (.pair (.slice .byte) (.pair (.int .i64) (.int .i64)))) (.cons (.val (.int .i64)) .nil))
def s101 : Sh := (.cons (.val (.pair (.slice .byte) (.pair (.int .i64) (.int .i64)))) (.cons (.own 5 .byte) .nil))
def s102 : Sh := (.cons (.val (.pair (.slice .byte) (.pair (.int .i64) (.int .i64)))) (.cons (.val (.int .u64)) .nil))
def s103 : Sh := (.box 70 (.cons (.val (.slice .byte)) s20))
def s104 : Sh := (.cons (.rbox 68 (.cons (.val (.slice .byte)) s20)) (.cons (.val (.int .u64)) .nil))
def s105 : Sh := (.cons (.val (.slice .byte)) (.cons (.box 133 s95) .nil))
def s106 : Sh := (.cons (.upd 0 133 s95) (.cons (.val (.int .i64)) .nil))
def s107 : Sh := (.cons (.own 95 (.pair (.pair (.int .i64) (.int .i64)) (.pair (.pair (.int .u64) (.int .u32)) (.pair (.slice (.pair (.int .i64) (.pair .bool (.pair (.int .i64) .str)))) (.int .u64))))) (.cons (.own 99 (.pair (.pair (.int .i64) (.int .i64)) (.pair (.int .u64) (.int .u32)))) .nil))
def s108 : Sh := (.cons (.upd 0 70 (.cons (.val (.slice .byte)) s20)) (.cons (.upd 1 28 s107) .nil))
def s109 : Sh := (.cons (.upd 0 70 (.cons (.val (.slice .byte)) s20)) s51)
def s110 : Sh := (.cons (.upd 0 70 (.cons (.val (.slice .byte)) s20)) (.cons (.upd 1 31 s7) .nil))
namespace fA77
def ins : Sh := .nil
def C (N : Nat) : Ctx := ⟨U, 3, fun _ => true, gam [], gamY []⟩
theorem cok (N : Nat) : (C N).Ok Tryz.prog := ⟨U_ok, GamOk.nil, GamYOk.nil⟩
def code : Code := Tryz.f12.body.getD .skip
def outs : Sh := (.cons (.box 75 (.cons (.own 5 .byte) .nil)) .nil)
end fA77
def fA77.run (N : Nat)  : Option (T0 × Unit) :=
  some ((([] : List UInt8), ()), ())
namespace fA77
def fn (N : Nat) : Sh.den ins → Option (Sh.den outs) := fun _ => fA77.run N
def S (N : Nat) : Fs := ⟨ins, outs, fn N⟩
def lam (N : Nat) : Pcs := pcs []
theorem pok (N : Nat) : (lam N).Ok Tryz.prog (C N) code := pcsOk_nil
theorem ok (N : Nat) : (S N).con.Ok Tryz.prog 12 := okF (F := S N) [] Tryz.func12 (by kernel_rfl) (by rfl) mix (cok N) (pok N) fun _ => by kernel_rfl
end fA77
namespace fA4
def ins : Sh := (.cons (.box 75 (.cons (.own 5 .byte) .nil)) (.cons (.val .byte) .nil))
def C (N : Nat) : Ctx := ⟨U, 14, fun _ => true, gam [], gamY []⟩
theorem cok (N : Nat) : (C N).Ok Tryz.prog := ⟨U_ok, GamOk.nil, GamYOk.nil⟩
def code : Code := Tryz.f61.body.getD .skip
def outs : Sh := s0
end fA4
def fA4.run (N : Nat) (b : (List UInt8)) (b1 : UInt8) : Option (T0 × Unit) :=
  bif room (b.length + 1) 1 then
    some ((b ++ ([Hay.u8 (b1.toNat : Int)] : List UInt8), ()), ())
  else none
namespace fA4
def fn (N : Nat) : Sh.den ins → Option (Sh.den outs) := fun ((a, _), b, _) => fA4.run N a b
def S (N : Nat) : Fs := ⟨ins, outs, fn N⟩
def lam (N : Nat) : Pcs := pcs []
theorem pok (N : Nat) : (lam N).Ok Tryz.prog (C N) code := pcsOk_nil
theorem ok (N : Nat) : (S N).con.Ok Tryz.prog 61 := okF (F := S N) [] Tryz.func61 (by kernel_rfl) (by rfl) mix (cok N) (pok N) fun _ => by kernel_rfl
end fA4
namespace fA0
def ins : Sh := (.cons s2 (.cons (.val .bool) .nil))
def C (N : Nat) : Ctx := ⟨U, 15, fun _ => true, gam [], gamY []⟩
theorem cok (N : Nat) : (C N).Ok Tryz.prog := ⟨U_ok, GamOk.nil, GamYOk.nil⟩
def code : Code := Tryz.f34.body.getD .skip
def outs : Sh := s4
end fA0
def fA0.run (N : Nat) (b : (List UInt8)) (jT : Bool) (ok_ : Bool) : Option T2 :=
  bif jT then
    some (((), ()), ((), (), true, ()), ())
  else some (((), ()), ((), (), !ok_, ()), ())
namespace fA0
def fn (N : Nat) : Sh.den ins → Option (Sh.den outs) := fun (((a, _), _, b, _), c, _) => fA0.run N a b c
def S (N : Nat) : Fs := ⟨ins, outs, fn N⟩
def lam (N : Nat) : Pcs := pcs []
theorem pok (N : Nat) : (lam N).Ok Tryz.prog (C N) code := pcsOk_nil
theorem ok (N : Nat) : (S N).con.Ok Tryz.prog 34 := okF (F := S N) [] Tryz.func34 (by kernel_rfl) (by rfl) mix (cok N) (pok N) fun _ => by kernel_rfl
end fA0
namespace fD68
def ins : Sh := (.cons (.box 47 s5) (.cons (.rbox 31 s7) (.cons (.val (.int .i64)) .nil)))
def C (N : Nat) : Ctx := ⟨U, 41, fun _ => true, gam [(61, (fA4.S N).con), (34, (fA0.S N).con)], gamY []⟩
theorem cok (N : Nat) : (C N).Ok Tryz.prog := ⟨U_ok, GamOk.cons (fA4.ok N) (GamOk.cons (fA0.ok N) (GamOk.nil)), GamYOk.nil⟩
def code : Code := Tryz.f32.body.getD .skip
def outs : Sh := s8
end fD68
def fD68.run (N : Nat) (b : (List UInt8)) (jT : Bool) (jA : Int) (jB_ : Int) (jC_ : Int) (jD : Int) (jE : Int) (jF : Int) (jG : Int) (jH : Int) (jI : Int) (jJ : Int) (jK : Int) (jL : Bool) (jM : Bool) (jN : Bool) (jO_ : Int) (jO1 : Int) (jP : (List T7)) (jP1 : (List T8)) (jQ : (List T6)) (most : Int) : Option T9 :=
  obind (fA4.run N b (Hay.u8 (IntKind.u8.wrap jA))) fun ((b1, _), _) =>
    bif decide (jA ≥ (0 : Int)) then
      obind (fA0.run N b1 jT (decide (jA ≤ most))) fun ((_, _), (_, _, jT1, _), _) =>
        some ((b1, ()), ((), (), jT1, ()), ())
    else
      obind (fA0.run N b1 jT false) fun ((_, _), (_, _, jT2, _), _) =>
        some ((b1, ()), ((), (), jT2, ()), ())
namespace fD68
def fn (N : Nat) : Sh.den ins → Option (Sh.den outs) := fun (((a, _), _, b, _), (c, d, e, f, g, h, i, j, k, l, m, o, p, q, r, s, t, u, v, _), w, _) => fD68.run N a b c d e f g h i j k l m o p q r s t u v w
def S (N : Nat) : Fs := ⟨ins, outs, fn N⟩
def lam (N : Nat) : Pcs := pcs []
theorem pok (N : Nat) : (lam N).Ok Tryz.prog (C N) code := pcsOk_nil
theorem ok (N : Nat) : (S N).con.Ok Tryz.prog 32 := okF (F := S N) [] Tryz.func32 (by kernel_rfl) (by rfl) mix (cok N) (pok N) fun _ => by kernel_rfl
end fD68
namespace fD58
def ins : Sh := (.cons (.box 47 s5) (.cons (.bxo 1 31 s7) (.cons (.val (.int .i64)) .nil)))
def C (N : Nat) : Ctx := ⟨U, 41, fun _ => true, gam [(61, (fA4.S N).con), (34, (fA0.S N).con)], gamY []⟩
theorem cok (N : Nat) : (C N).Ok Tryz.prog := ⟨U_ok, GamOk.cons (fA4.ok N) (GamOk.cons (fA0.ok N) (GamOk.nil)), GamYOk.nil⟩
def code : Code := Tryz.f32.body.getD .skip
def outs : Sh := s9
end fD58
def fD58.run (N : Nat) (b : (List UInt8)) (jT : Bool) (jA : Int) (jB_ : Int) (jC_ : Int) (jD : Int) (jE : Int) (jF : Int) (jG : Int) (jH : Int) (jI : Int) (jJ : Int) (jK : Int) (jL : Bool) (jM : Bool) (jN : Bool) (jO_ : Int) (jO1 : Int) (jP : (List T7)) (jP1 : (List T8)) (jQ : (List T6)) (most : Int) : Option T11 :=
  obind (fA4.run N b (Hay.u8 (IntKind.u8.wrap jB_))) fun ((b1, _), _) =>
    bif decide (jB_ ≥ (0 : Int)) then
      obind (fA0.run N b1 jT (decide (jB_ ≤ most))) fun ((_, _), (_, _, jT1, _), _) =>
        some ((b1, ()), ((), (), jT1, ()), (jA, jB_, jC_, jD, jE, jF, jG, jH, jI, jJ, jK, jL, jM, jN, jO_, jO1, jP, jP1, jQ, ()), ())
    else
      obind (fA0.run N b1 jT false) fun ((_, _), (_, _, jT2, _), _) =>
        some ((b1, ()), ((), (), jT2, ()), (jA, jB_, jC_, jD, jE, jF, jG, jH, jI, jJ, jK, jL, jM, jN, jO_, jO1, jP, jP1, jQ, ()), ())
namespace fD58
def fn (N : Nat) : Sh.den ins → Option (Sh.den outs) := fun (((a, _), _, b, _), (c, d, e, f, g, h, i, j, k, l, m, o, p, q, r, s, t, u, v, _), w, _) => fD58.run N a b c d e f g h i j k l m o p q r s t u v w
def S (N : Nat) : Fs := ⟨ins, outs, fn N⟩
def lam (N : Nat) : Pcs := pcs []
theorem pok (N : Nat) : (lam N).Ok Tryz.prog (C N) code := pcsOk_nil
theorem ok (N : Nat) : (S N).con.Ok Tryz.prog 32 := okF (F := S N) [] Tryz.func32 (by kernel_rfl) (by rfl) mix (cok N) (pok N) fun _ => by kernel_rfl
end fD58
namespace fB70
def ins : Sh := (.cons (.box 47 s5) (.cons (.bxo 1 31 s7) .nil))
def C (N : Nat) : Ctx := ⟨U, 7, fun _ => true, gam [(32, (fD58.S N).con)], gamY []⟩
theorem cok (N : Nat) : (C N).Ok Tryz.prog := ⟨U_ok, GamOk.cons (fD58.ok N) (GamOk.nil), GamYOk.nil⟩
def code : Code := Tryz.f33.body.getD .skip
def outs : Sh := s9
end fB70
def fB70.run (N : Nat) (b : (List UInt8)) (jT : Bool) (jA : Int) (jB_ : Int) (jC_ : Int) (jD : Int) (jE : Int) (jF : Int) (jG : Int) (jH : Int) (jI : Int) (jJ : Int) (jK : Int) (jL : Bool) (jM : Bool) (jN : Bool) (jO_ : Int) (jO1 : Int) (jP : (List T7)) (jP1 : (List T8)) (jQ : (List T6)) : Option T11 :=
  obind (fD58.run N b jT jA jB_ jC_ jD jE jF jG jH jI jJ jK jL jM jN jO_ jO1 jP jP1 jQ (8 : Int)) fun ((b1, _), (_, _, jT1, _), (jA1, jB1, jC1, jD1, jE1, jF1, jG1, jH1, jI1, jJ1, jK1, jL1, jM1, jN1, jO2, jO3, jP2, jP3, jQ1, _), _) =>
    some ((b1, ()), ((), (), jT1, ()), (jA1, jB1, jC1, jD1, jE1, jF1, jG1, jH1, jI1, jJ1, jK1, jL1, jM1, jN1, jO2, jO3, jP2, jP3, jQ1, ()), ())
namespace fB70
def fn (N : Nat) : Sh.den ins → Option (Sh.den outs) := fun (((a, _), _, b, _), (c, d, e, f, g, h, i, j, k, l, m, o, p, q, r, s, t, u, v, _), _) => fB70.run N a b c d e f g h i j k l m o p q r s t u v
def S (N : Nat) : Fs := ⟨ins, outs, fn N⟩
def lam (N : Nat) : Pcs := pcs []
theorem pok (N : Nat) : (lam N).Ok Tryz.prog (C N) code := pcsOk_nil
theorem ok (N : Nat) : (S N).con.Ok Tryz.prog 33 := okF (F := S N) [] Tryz.func33 (by kernel_rfl) (by rfl) mix (cok N) (pok N) fun _ => by kernel_rfl
end fB70
namespace fC58
def ins : Sh := (.cons (.box 47 s5) (.cons (.bxo 2 31 s7) (.cons (.val (.int .i64)) .nil)))
def C (N : Nat) : Ctx := ⟨U, 41, fun _ => true, gam [(61, (fA4.S N).con), (34, (fA0.S N).con)], gamY []⟩
theorem cok (N : Nat) : (C N).Ok Tryz.prog := ⟨U_ok, GamOk.cons (fA4.ok N) (GamOk.cons (fA0.ok N) (GamOk.nil)), GamYOk.nil⟩
def code : Code := Tryz.f32.body.getD .skip
def outs : Sh := s9
end fC58
def fC58.run (N : Nat) (b : (List UInt8)) (jT : Bool) (jA : Int) (jB_ : Int) (jC_ : Int) (jD : Int) (jE : Int) (jF : Int) (jG : Int) (jH : Int) (jI : Int) (jJ : Int) (jK : Int) (jL : Bool) (jM : Bool) (jN : Bool) (jO_ : Int) (jO1 : Int) (jP : (List T7)) (jP1 : (List T8)) (jQ : (List T6)) (most : Int) : Option T11 :=
  obind (fA4.run N b (Hay.u8 (IntKind.u8.wrap jC_))) fun ((b1, _), _) =>
    bif decide (jC_ ≥ (0 : Int)) then
      obind (fA0.run N b1 jT (decide (jC_ ≤ most))) fun ((_, _), (_, _, jT1, _), _) =>
        some ((b1, ()), ((), (), jT1, ()), (jA, jB_, jC_, jD, jE, jF, jG, jH, jI, jJ, jK, jL, jM, jN, jO_, jO1, jP, jP1, jQ, ()), ())
    else
      obind (fA0.run N b1 jT false) fun ((_, _), (_, _, jT2, _), _) =>
        some ((b1, ()), ((), (), jT2, ()), (jA, jB_, jC_, jD, jE, jF, jG, jH, jI, jJ, jK, jL, jM, jN, jO_, jO1, jP, jP1, jQ, ()), ())
namespace fC58
def fn (N : Nat) : Sh.den ins → Option (Sh.den outs) := fun (((a, _), _, b, _), (c, d, e, f, g, h, i, j, k, l, m, o, p, q, r, s, t, u, v, _), w, _) => fC58.run N a b c d e f g h i j k l m o p q r s t u v w
def S (N : Nat) : Fs := ⟨ins, outs, fn N⟩
def lam (N : Nat) : Pcs := pcs []
theorem pok (N : Nat) : (lam N).Ok Tryz.prog (C N) code := pcsOk_nil
theorem ok (N : Nat) : (S N).con.Ok Tryz.prog 32 := okF (F := S N) [] Tryz.func32 (by kernel_rfl) (by rfl) mix (cok N) (pok N) fun _ => by kernel_rfl
end fC58
namespace fA61
def ins : Sh := (.cons (.box 47 s5) (.cons (.bxo 2 31 s7) .nil))
def C (N : Nat) : Ctx := ⟨U, 7, fun _ => true, gam [(32, (fC58.S N).con)], gamY []⟩
theorem cok (N : Nat) : (C N).Ok Tryz.prog := ⟨U_ok, GamOk.cons (fC58.ok N) (GamOk.nil), GamYOk.nil⟩
def code : Code := Tryz.f33.body.getD .skip
def outs : Sh := s9
end fA61
def fA61.run (N : Nat) (b : (List UInt8)) (jT : Bool) (jA : Int) (jB_ : Int) (jC_ : Int) (jD : Int) (jE : Int) (jF : Int) (jG : Int) (jH : Int) (jI : Int) (jJ : Int) (jK : Int) (jL : Bool) (jM : Bool) (jN : Bool) (jO_ : Int) (jO1 : Int) (jP : (List T7)) (jP1 : (List T8)) (jQ : (List T6)) : Option T11 :=
  obind (fC58.run N b jT jA jB_ jC_ jD jE jF jG jH jI jJ jK jL jM jN jO_ jO1 jP jP1 jQ (8 : Int)) fun ((b1, _), (_, _, jT1, _), (jA1, jB1, jC1, jD1, jE1, jF1, jG1, jH1, jI1, jJ1, jK1, jL1, jM1, jN1, jO2, jO3, jP2, jP3, jQ1, _), _) =>
    some ((b1, ()), ((), (), jT1, ()), (jA1, jB1, jC1, jD1, jE1, jF1, jG1, jH1, jI1, jJ1, jK1, jL1, jM1, jN1, jO2, jO3, jP2, jP3, jQ1, ()), ())
namespace fA61
def fn (N : Nat) : Sh.den ins → Option (Sh.den outs) := fun (((a, _), _, b, _), (c, d, e, f, g, h, i, j, k, l, m, o, p, q, r, s, t, u, v, _), _) => fA61.run N a b c d e f g h i j k l m o p q r s t u v
def S (N : Nat) : Fs := ⟨ins, outs, fn N⟩
def lam (N : Nat) : Pcs := pcs []
theorem pok (N : Nat) : (lam N).Ok Tryz.prog (C N) code := pcsOk_nil
theorem ok (N : Nat) : (S N).con.Ok Tryz.prog 33 := okF (F := S N) [] Tryz.func33 (by kernel_rfl) (by rfl) mix (cok N) (pok N) fun _ => by kernel_rfl
end fA61
namespace fA5
def ins : Sh := s11
def C (N : Nat) : Ctx := ⟨U, 24, fun _ => true, gam [], gamY []⟩
theorem cok (N : Nat) : (C N).Ok Tryz.prog := ⟨U_ok, GamOk.nil, GamYOk.nil⟩
def code : Code := Tryz.f81.body.getD .skip
def outs : Sh := s0
end fA5
namespace fC25
def ins : Sh := s11
def ts : List Tmp := [0, 1, 2]
def asg : List Tmp := [2, 6, 7, 8, 9, 10, 11, 12, 13, 14, 15, 16, 17, 18, 19, 20, 21, 22, 23]
def C (N : Nat) : Ctx := { fA5.C N with may := fun t => asg.any (Nat.beq t) }
def code : Code := loopBody (sub fA5.code [false])
theorem cok (N : Nat) : (C N).Ok Tryz.prog := okC (fA5.cok N) _
def alts : List Alt := [⟨(.exit 0), [], s0⟩]
end fC25
def fC25.go (N : Nat) : Nat → (List UInt8) → Int → Int → Option ((T0 × Unit))
  | 0, _, _, _ => none
  | fuel + 1, b, n_, many =>
    bif decide (many > (0 : Int)) then
      bif decide ((0 : Int) ≤ (IntKind.i64.wrap ((8 : Int) * (IntKind.i64.wrap (many - (1 : Int)))))) then
        bif room (b.length + 1) 1 then
          fC25.go N fuel (b ++ ([Hay.u8 (IntKind.u8.wrap (n_.fdiv (2 ^ (min (IntKind.i64.wrap ((8 : Int) * (IntKind.i64.wrap (many - (1 : Int))))).toNat 64))))] : List UInt8)) n_ (IntKind.i64.wrap (many - (1 : Int)))
        else none
      else none
    else some ((b, ()), ())
namespace fC25
def g (N n : Nat) : Sh.den ins → Option (altsDen alts) := fun ((a, _), b, c, _) => fC25.go N n a b c
def P (N : Nat) : Ps := ⟨ts, ins, asg, alts, g N N⟩
def lam (N : Nat) : Pcs := pcs []
theorem pok (N : Nat) : (lam N).Ok Tryz.prog (C N) code := pcsOk_nil
theorem ok (N : Nat) : ((P N).pc (fA5.C N)).Ok Tryz.prog (fA5.C N) (.loop code) := okL (F := P N) (g N) (fA5.cok N) mix (pok N) (fun _ => rfl) rfl fun _ _ => by kernel_rfl
end fC25
def fA5.run (N : Nat) (b : (List UInt8)) (n_ : Int) (many : Int) : Option (T0 × Unit) :=
  obind (fC25.go N N b n_ many) fun ((b1, _), _) =>
    some ((b1, ()), ())
namespace fA5
def fn (N : Nat) : Sh.den ins → Option (Sh.den outs) := fun ((a, _), b, c, _) => fA5.run N a b c
def S (N : Nat) : Fs := ⟨ins, outs, fn N⟩
def lam (N : Nat) : Pcs := pcs [([false], (fC25.P N).pc (C N))]
theorem pok (N : Nat) : (lam N).Ok Tryz.prog (C N) code := pcsOk_cons (c1 := .loop fC25.code) (by kernel_rfl) (fC25.ok N) (pcsOk_nil)
theorem ok (N : Nat) : (S N).con.Ok Tryz.prog 81 := okF (F := S N) [] Tryz.func81 (by kernel_rfl) (by rfl) mix (cok N) (pok N) fun _ => by kernel_rfl
end fA5
namespace fA2
def ins : Sh := s12
def C (N : Nat) : Ctx := ⟨U, 7, fun _ => true, gam [(81, (fA5.S N).con)], gamY []⟩
theorem cok (N : Nat) : (C N).Ok Tryz.prog := ⟨U_ok, GamOk.cons (fA5.ok N) (GamOk.nil), GamYOk.nil⟩
def code : Code := Tryz.f100.body.getD .skip
def outs : Sh := s0
end fA2
def fA2.run (N : Nat) (b : (List UInt8)) (n_ : Int) : Option (T0 × Unit) :=
  obind (fA5.run N b n_ (8 : Int)) fun ((b1, _), _) =>
    some ((b1, ()), ())
namespace fA2
def fn (N : Nat) : Sh.den ins → Option (Sh.den outs) := fun ((a, _), b, _) => fA2.run N a b
def S (N : Nat) : Fs := ⟨ins, outs, fn N⟩
def lam (N : Nat) : Pcs := pcs []
theorem pok (N : Nat) : (lam N).Ok Tryz.prog (C N) code := pcsOk_nil
theorem ok (N : Nat) : (S N).con.Ok Tryz.prog 100 := okF (F := S N) [] Tryz.func100 (by kernel_rfl) (by rfl) mix (cok N) (pok N) fun _ => by kernel_rfl
end fA2
namespace fC22
def ins : Sh := (.cons (.rbox 47 s5) (.cons (.bxo 3 31 s7) .nil))
def C (N : Nat) : Ctx := ⟨U, 24, fun _ => true, gam [(100, (fA2.S N).con)], gamY []⟩
theorem cok (N : Nat) : (C N).Ok Tryz.prog := ⟨U_ok, GamOk.cons (fA2.ok N) (GamOk.nil), GamYOk.nil⟩
def code : Code := Tryz.f67.body.getD .skip
def outs : Sh := s13
end fC22
def fC22.run (N : Nat) (b : (List UInt8)) (jT : Bool) (jA : Int) (jB_ : Int) (jC_ : Int) (jD : Int) (jE : Int) (jF : Int) (jG : Int) (jH : Int) (jI : Int) (jJ : Int) (jK : Int) (jL : Bool) (jM : Bool) (jN : Bool) (jO_ : Int) (jO1 : Int) (jP : (List T7)) (jP1 : (List T8)) (jQ : (List T6)) : Option T12 :=
  obind (fA2.run N b jD) fun ((b1, _), _) =>
    some ((b1, ()), (jA, jB_, jC_, jD, jE, jF, jG, jH, jI, jJ, jK, jL, jM, jN, jO_, jO1, jP, jP1, jQ, ()), ())
namespace fC22
def fn (N : Nat) : Sh.den ins → Option (Sh.den outs) := fun (((a, _), _, b, _), (c, d, e, f, g, h, i, j, k, l, m, o, p, q, r, s, t, u, v, _), _) => fC22.run N a b c d e f g h i j k l m o p q r s t u v
def S (N : Nat) : Fs := ⟨ins, outs, fn N⟩
def lam (N : Nat) : Pcs := pcs []
theorem pok (N : Nat) : (lam N).Ok Tryz.prog (C N) code := pcsOk_nil
theorem ok (N : Nat) : (S N).con.Ok Tryz.prog 67 := okF (F := S N) [] Tryz.func67 (by kernel_rfl) (by rfl) mix (cok N) (pok N) fun _ => by kernel_rfl
end fC22
namespace fB58
def ins : Sh := (.cons (.rbox 47 s5) (.cons (.bxo 4 31 s7) .nil))
def C (N : Nat) : Ctx := ⟨U, 24, fun _ => true, gam [(100, (fA2.S N).con)], gamY []⟩
theorem cok (N : Nat) : (C N).Ok Tryz.prog := ⟨U_ok, GamOk.cons (fA2.ok N) (GamOk.nil), GamYOk.nil⟩
def code : Code := Tryz.f67.body.getD .skip
def outs : Sh := s13
end fB58
def fB58.run (N : Nat) (b : (List UInt8)) (jT : Bool) (jA : Int) (jB_ : Int) (jC_ : Int) (jD : Int) (jE : Int) (jF : Int) (jG : Int) (jH : Int) (jI : Int) (jJ : Int) (jK : Int) (jL : Bool) (jM : Bool) (jN : Bool) (jO_ : Int) (jO1 : Int) (jP : (List T7)) (jP1 : (List T8)) (jQ : (List T6)) : Option T12 :=
  obind (fA2.run N b jE) fun ((b1, _), _) =>
    some ((b1, ()), (jA, jB_, jC_, jD, jE, jF, jG, jH, jI, jJ, jK, jL, jM, jN, jO_, jO1, jP, jP1, jQ, ()), ())
namespace fB58
def fn (N : Nat) : Sh.den ins → Option (Sh.den outs) := fun (((a, _), _, b, _), (c, d, e, f, g, h, i, j, k, l, m, o, p, q, r, s, t, u, v, _), _) => fB58.run N a b c d e f g h i j k l m o p q r s t u v
def S (N : Nat) : Fs := ⟨ins, outs, fn N⟩
def lam (N : Nat) : Pcs := pcs []
theorem pok (N : Nat) : (lam N).Ok Tryz.prog (C N) code := pcsOk_nil
theorem ok (N : Nat) : (S N).con.Ok Tryz.prog 67 := okF (F := S N) [] Tryz.func67 (by kernel_rfl) (by rfl) mix (cok N) (pok N) fun _ => by kernel_rfl
end fB58
namespace fD63
def ins : Sh := (.cons (.rbox 47 s5) (.cons (.els 1 2 (.cons (.bxo 3 31 s7) (.cons (.refo 3 4) .nil))) .nil))
def C (N : Nat) : Ctx := ⟨U, 16, fun _ => true, gam [(67, (((fC22.S N).con).or (fB58.S N).con))], gamY []⟩
theorem cok (N : Nat) : (C N).Ok Tryz.prog := ⟨U_ok, GamOk.cons (Con.or_ok (fC22.ok N) (fB58.ok N)) (GamOk.nil), GamYOk.nil⟩
def code : Code := Tryz.f64.body.getD .skip
def outs : Sh := s13
end fD63
def fD63.run (N : Nat) (b : (List UInt8)) (jT : Bool) (jA : Int) (jB_ : Int) (jC_ : Int) (jD : Int) (jE : Int) (jF : Int) (jG : Int) (jH : Int) (jI : Int) (jJ : Int) (jK : Int) (jL : Bool) (jM : Bool) (jN : Bool) (jO_ : Int) (jO1 : Int) (jP : (List T7)) (jP1 : (List T8)) (jQ : (List T6)) : Option T12 :=
  obind (fC22.run N b jT jA jB_ jC_ jD jE jF jG jH jI jJ jK jL jM jN jO_ jO1 jP jP1 jQ) fun ((b1, _), (jA1, jB1, jC1, jD1, jE1, jF1, jG1, jH1, jI1, jJ1, jK1, jL1, jM1, jN1, jO2, jO3, jP2, jP3, jQ1, _), _) =>
    obind (fB58.run N b1 jT jA1 jB1 jC1 jD1 jE1 jF1 jG1 jH1 jI1 jJ1 jK1 jL1 jM1 jN1 jO2 jO3 jP2 jP3 jQ1) fun ((b2, _), (jA2, jB2, jC2, jD2, jE2, jF2, jG2, jH2, jI2, jJ2, jK2, jL2, jM2, jN2, jO4, jO5, jP4, jP5, jQ2, _), _) =>
      some ((b2, ()), (jA2, jB2, jC2, jD2, jE2, jF2, jG2, jH2, jI2, jJ2, jK2, jL2, jM2, jN2, jO4, jO5, jP4, jP5, jQ2, ()), ())
namespace fD63
def fn (N : Nat) : Sh.den ins → Option (Sh.den outs) := fun (((a, _), _, b, _), ((c, d, e, f, g, h, i, j, k, l, m, o, p, q, r, s, t, u, v, _), _, _), _) => fD63.run N a b c d e f g h i j k l m o p q r s t u v
def S (N : Nat) : Fs := ⟨ins, outs, fn N⟩
def lam (N : Nat) : Pcs := pcs [([true, false], (Pc.unroll (C N) (loopBody (sub code [true, false])) (pcs []) 3))]
theorem pok (N : Nat) : (lam N).Ok Tryz.prog (C N) code := pcsOk_cons (c1 := .loop (loopBody (sub code [true, false]))) (by kernel_rfl) (unroll_ok (cok N) mix pcsOk_nil 3) (pcsOk_nil)
theorem ok (N : Nat) : (S N).con.Ok Tryz.prog 64 := okF (F := S N) [] Tryz.func64 (by kernel_rfl) (by rfl) mix (cok N) (pok N) fun _ => by kernel_rfl
end fD63
namespace fB1
def ins : Sh := s12
def C (N : Nat) : Ctx := ⟨U, 32, fun _ => true, gam [(61, (fA4.S N).con), (81, (fA5.S N).con)], gamY []⟩
theorem cok (N : Nat) : (C N).Ok Tryz.prog := ⟨U_ok, GamOk.cons (fA4.ok N) (GamOk.cons (fA5.ok N) (GamOk.nil)), GamYOk.nil⟩
def code : Code := Tryz.f110.body.getD .skip
def outs : Sh := s0
end fB1
def fB1.run (N : Nat) (b : (List UInt8)) (n_ : Int) : Option (T0 × Unit) :=
  bif decide (n_ < (253 : Int)) then
    obind (fA4.run N b (Hay.u8 (IntKind.u8.wrap n_))) fun ((b1, _), _) =>
      some ((b1, ()), ())
  else
    bif decide (n_ ≤ (65535 : Int)) then
      obind (fA4.run N b (253 : UInt8)) fun ((b2, _), _) =>
        obind (fA5.run N b2 n_ (2 : Int)) fun ((b3, _), _) =>
          some ((b3, ()), ())
    else
      bif decide (n_ ≤ (4294967295 : Int)) then
        obind (fA4.run N b (254 : UInt8)) fun ((b4, _), _) =>
          obind (fA5.run N b4 n_ (4 : Int)) fun ((b5, _), _) =>
            some ((b5, ()), ())
      else
        obind (fA4.run N b (255 : UInt8)) fun ((b6, _), _) =>
          obind (fA5.run N b6 n_ (8 : Int)) fun ((b7, _), _) =>
            some ((b7, ()), ())
namespace fB1
def fn (N : Nat) : Sh.den ins → Option (Sh.den outs) := fun ((a, _), b, _) => fB1.run N a b
def S (N : Nat) : Fs := ⟨ins, outs, fn N⟩
def lam (N : Nat) : Pcs := pcs []
theorem pok (N : Nat) : (lam N).Ok Tryz.prog (C N) code := pcsOk_nil
theorem ok (N : Nat) : (S N).con.Ok Tryz.prog 110 := okF (F := S N) [] Tryz.func110 (by kernel_rfl) (by rfl) mix (cok N) (pok N) fun _ => by kernel_rfl
end fB1
namespace fC64
def ins : Sh := (.cons (.box 47 s5) (.cons (.rbox 95 s15) .nil))
def C (N : Nat) : Ctx := ⟨U, 38, fun _ => true, gam [(34, (fA0.S N).con), (110, (fB1.S N).con)], gamY []⟩
theorem cok (N : Nat) : (C N).Ok Tryz.prog := ⟨U_ok, GamOk.cons (fA0.ok N) (GamOk.cons (fB1.ok N) (GamOk.nil)), GamYOk.nil⟩
def code : Code := Tryz.f102.body.getD .skip
def outs : Sh := s8
end fC64
def fC64.run (N : Nat) (b : (List UInt8)) (jT : Bool) (jO_ : Int) (jO1 : Int) (ver : Int) (ver1 : Int) (ver2 : (List T4)) (ver3 : Int) : Option T9 :=
  bif decide (jO_ ≥ (0 : Int)) then
    obind (fA0.run N b jT (decide (jO_ ≤ (2147483647 : Int)))) fun ((_, _), (_, _, jT1, _), _) =>
      obind (fB1.run N b (IntKind.u64.wrap jO_)) fun ((b1, _), _) =>
        some ((b1, ()), ((), (), jT1, ()), ())
  else
    obind (fA0.run N b jT false) fun ((_, _), (_, _, jT2, _), _) =>
      obind (fB1.run N b (IntKind.u64.wrap jO_)) fun ((b2, _), _) =>
        some ((b2, ()), ((), (), jT2, ()), ())
namespace fC64
def fn (N : Nat) : Sh.den ins → Option (Sh.den outs) := fun (((a, _), _, b, _), (c, d, e, f, g, h, _), _) => fC64.run N a b c d e f g h
def S (N : Nat) : Fs := ⟨ins, outs, fn N⟩
def lam (N : Nat) : Pcs := pcs []
theorem pok (N : Nat) : (lam N).Ok Tryz.prog (C N) code := pcsOk_nil
theorem ok (N : Nat) : (S N).con.Ok Tryz.prog 102 := okF (F := S N) [] Tryz.func102 (by kernel_rfl) (by rfl) mix (cok N) (pok N) fun _ => by kernel_rfl
end fC64
namespace fD50
def ins : Sh := (.cons (.box 47 s5) (.cons (.bxo 1 95 s15) .nil))
def C (N : Nat) : Ctx := ⟨U, 38, fun _ => true, gam [(34, (fA0.S N).con), (110, (fB1.S N).con)], gamY []⟩
theorem cok (N : Nat) : (C N).Ok Tryz.prog := ⟨U_ok, GamOk.cons (fA0.ok N) (GamOk.cons (fB1.ok N) (GamOk.nil)), GamYOk.nil⟩
def code : Code := Tryz.f102.body.getD .skip
def outs : Sh := s16
end fD50
def fD50.run (N : Nat) (b : (List UInt8)) (jT : Bool) (jO_ : Int) (jO1 : Int) (ver : Int) (ver1 : Int) (ver2 : (List T4)) (ver3 : Int) : Option T14 :=
  bif decide (jO1 ≥ (0 : Int)) then
    obind (fA0.run N b jT (decide (jO1 ≤ (2147483647 : Int)))) fun ((_, _), (_, _, jT1, _), _) =>
      obind (fB1.run N b (IntKind.u64.wrap jO1)) fun ((b1, _), _) =>
        some ((b1, ()), ((), (), jT1, ()), (jO_, jO1, ver, ver1, ver2, ver3, ()), ())
  else
    obind (fA0.run N b jT false) fun ((_, _), (_, _, jT2, _), _) =>
      obind (fB1.run N b (IntKind.u64.wrap jO1)) fun ((b2, _), _) =>
        some ((b2, ()), ((), (), jT2, ()), (jO_, jO1, ver, ver1, ver2, ver3, ()), ())
namespace fD50
def fn (N : Nat) : Sh.den ins → Option (Sh.den outs) := fun (((a, _), _, b, _), (c, d, e, f, g, h, _), _) => fD50.run N a b c d e f g h
def S (N : Nat) : Fs := ⟨ins, outs, fn N⟩
def lam (N : Nat) : Pcs := pcs []
theorem pok (N : Nat) : (lam N).Ok Tryz.prog (C N) code := pcsOk_nil
theorem ok (N : Nat) : (S N).con.Ok Tryz.prog 102 := okF (F := S N) [] Tryz.func102 (by kernel_rfl) (by rfl) mix (cok N) (pok N) fun _ => by kernel_rfl
end fD50
namespace fB51
def ins : Sh := s17
def C (N : Nat) : Ctx := ⟨U, 14, fun _ => true, gam [(102, (((fC64.S N).con).or (fD50.S N).con))], gamY []⟩
theorem cok (N : Nat) : (C N).Ok Tryz.prog := ⟨U_ok, GamOk.cons (Con.or_ok (fC64.ok N) (fD50.ok N)) (GamOk.nil), GamYOk.nil⟩
def code : Code := Tryz.f72.body.getD .skip
def outs : Sh := s16
end fB51
def fB51.run (N : Nat) (b : (List UInt8)) (jT : Bool) (jO_ : Int) (jO1 : Int) (ver : Int) (ver1 : Int) (ver2 : (List T4)) (ver3 : Int) : Option T14 :=
  obind (fC64.run N b jT jO_ jO1 ver ver1 ver2 ver3) fun ((b1, _), (_, _, jT1, _), _) =>
    obind (fD50.run N b1 jT1 jO_ jO1 ver ver1 ver2 ver3) fun ((b2, _), (_, _, jT2, _), (jO2, jO3, ver4, ver5, ver6, ver7, _), _) =>
      some ((b2, ()), ((), (), jT2, ()), (jO2, jO3, ver4, ver5, ver6, ver7, ()), ())
namespace fB51
def fn (N : Nat) : Sh.den ins → Option (Sh.den outs) := fun (((a, _), _, b, _), (c, d, e, f, g, h, _), _) => fB51.run N a b c d e f g h
def S (N : Nat) : Fs := ⟨ins, outs, fn N⟩
def lam (N : Nat) : Pcs := pcs []
theorem pok (N : Nat) : (lam N).Ok Tryz.prog (C N) code := pcsOk_nil
theorem ok (N : Nat) : (S N).con.Ok Tryz.prog 72 := okF (F := S N) [] Tryz.func72 (by kernel_rfl) (by rfl) mix (cok N) (pok N) fun _ => by kernel_rfl
end fB51
namespace fD7
def ins : Sh := (.cons (.box 75 (.cons (.own 5 .byte) .nil)) (.cons (.val (.int .u32)) .nil))
def C (N : Nat) : Ctx := ⟨U, 8, fun _ => true, gam [(81, (fA5.S N).con)], gamY []⟩
theorem cok (N : Nat) : (C N).Ok Tryz.prog := ⟨U_ok, GamOk.cons (fA5.ok N) (GamOk.nil), GamYOk.nil⟩
def code : Code := Tryz.f37.body.getD .skip
def outs : Sh := s0
end fD7
def fD7.run (N : Nat) (b : (List UInt8)) (n_ : Int) : Option (T0 × Unit) :=
  obind (fA5.run N b (IntKind.u64.wrap n_) (4 : Int)) fun ((b1, _), _) =>
    some ((b1, ()), ())
namespace fD7
def fn (N : Nat) : Sh.den ins → Option (Sh.den outs) := fun ((a, _), b, _) => fD7.run N a b
def S (N : Nat) : Fs := ⟨ins, outs, fn N⟩
def lam (N : Nat) : Pcs := pcs []
theorem pok (N : Nat) : (lam N).Ok Tryz.prog (C N) code := pcsOk_nil
theorem ok (N : Nat) : (S N).con.Ok Tryz.prog 37 := okF (F := S N) [] Tryz.func37 (by kernel_rfl) (by rfl) mix (cok N) (pok N) fun _ => by kernel_rfl
end fD7
namespace fB69
def ins : Sh := (.cons (.rbox 47 s5) (.cons (.bxo 3 95 s15) .nil))
def C (N : Nat) : Ctx := ⟨U, 24, fun _ => true, gam [(37, (fD7.S N).con)], gamY []⟩
theorem cok (N : Nat) : (C N).Ok Tryz.prog := ⟨U_ok, GamOk.cons (fD7.ok N) (GamOk.nil), GamYOk.nil⟩
def code : Code := Tryz.f113.body.getD .skip
def outs : Sh := (.cons (.upd 1 75 (.cons (.own 5 .byte) .nil)) (.cons (.upd 3 95 s15) .nil))
end fB69
def fB69.run (N : Nat) (b : (List UInt8)) (jT : Bool) (jO_ : Int) (jO1 : Int) (ver : Int) (ver1 : Int) (ver2 : (List T4)) (ver3 : Int) : Option T15 :=
  obind (fD7.run N b ver1) fun ((b1, _), _) =>
    some ((b1, ()), (jO_, jO1, ver, ver1, ver2, ver3, ()), ())
namespace fB69
def fn (N : Nat) : Sh.den ins → Option (Sh.den outs) := fun (((a, _), _, b, _), (c, d, e, f, g, h, _), _) => fB69.run N a b c d e f g h
def S (N : Nat) : Fs := ⟨ins, outs, fn N⟩
def lam (N : Nat) : Pcs := pcs []
theorem pok (N : Nat) : (lam N).Ok Tryz.prog (C N) code := pcsOk_nil
theorem ok (N : Nat) : (S N).con.Ok Tryz.prog 113 := okF (F := S N) [] Tryz.func113 (by kernel_rfl) (by rfl) mix (cok N) (pok N) fun _ => by kernel_rfl
end fB69
namespace fA72
def ins : Sh := .nil
def C (N : Nat) : Ctx := ⟨U, 2, fun _ => true, gam [], gamY []⟩
theorem cok (N : Nat) : (C N).Ok Tryz.prog := ⟨U_ok, GamOk.nil, GamYOk.nil⟩
def code : Code := Tryz.f133.body.getD .skip
def outs : Sh := s18
end fA72
def fA72.run (N : Nat)  : Option (T4 × Unit) :=
  some (((0 : Int), false, (0 : Int), ([] : List UInt8)), ())
namespace fA72
def fn (N : Nat) : Sh.den ins → Option (Sh.den outs) := fun _ => fA72.run N
def S (N : Nat) : Fs := ⟨ins, outs, fn N⟩
def lam (N : Nat) : Pcs := pcs []
theorem pok (N : Nat) : (lam N).Ok Tryz.prog (C N) code := pcsOk_nil
theorem ok (N : Nat) : (S N).con.Ok Tryz.prog 133 := okF (F := S N) [] Tryz.func133 (by kernel_rfl) (by rfl) mix (cok N) (pok N) fun _ => by kernel_rfl
end fA72
namespace fB72
def ins : Sh := (.cons (.val .bool) .nil)
def C (N : Nat) : Ctx := ⟨U, 5, fun _ => true, gam [], gamY []⟩
theorem cok (N : Nat) : (C N).Ok Tryz.prog := ⟨U_ok, GamOk.nil, GamYOk.nil⟩
def code : Code := Tryz.f134.body.getD .skip
def outs : Sh := s18
end fB72
def fB72.run (N : Nat) (b : Bool) : Option (T4 × Unit) :=
  some (((1 : Int), b, (0 : Int), ([] : List UInt8)), ())
namespace fB72
def fn (N : Nat) : Sh.den ins → Option (Sh.den outs) := fun (a, _) => fB72.run N a
def S (N : Nat) : Fs := ⟨ins, outs, fn N⟩
def lam (N : Nat) : Pcs := pcs []
theorem pok (N : Nat) : (lam N).Ok Tryz.prog (C N) code := pcsOk_nil
theorem ok (N : Nat) : (S N).con.Ok Tryz.prog 134 := okF (F := S N) [] Tryz.func134 (by kernel_rfl) (by rfl) mix (cok N) (pok N) fun _ => by kernel_rfl
end fB72
namespace fD76
def ins : Sh := (.cons (.val (.int .i64)) .nil)
def C (N : Nat) : Ctx := ⟨U, 5, fun _ => true, gam [], gamY []⟩
theorem cok (N : Nat) : (C N).Ok Tryz.prog := ⟨U_ok, GamOk.nil, GamYOk.nil⟩
def code : Code := Tryz.f135.body.getD .skip
def outs : Sh := s18
end fD76
def fD76.run (N : Nat) (n_ : Int) : Option (T4 × Unit) :=
  some (((2 : Int), false, n_, ([] : List UInt8)), ())
namespace fD76
def fn (N : Nat) : Sh.den ins → Option (Sh.den outs) := fun (a, _) => fD76.run N a
def S (N : Nat) : Fs := ⟨ins, outs, fn N⟩
def lam (N : Nat) : Pcs := pcs []
theorem pok (N : Nat) : (lam N).Ok Tryz.prog (C N) code := pcsOk_nil
theorem ok (N : Nat) : (S N).con.Ok Tryz.prog 135 := okF (F := S N) [] Tryz.func135 (by kernel_rfl) (by rfl) mix (cok N) (pok N) fun _ => by kernel_rfl
end fD76
namespace fA68
def ins : Sh := (.cons (.val .str) .nil)
def C (N : Nat) : Ctx := ⟨U, 5, fun _ => true, gam [], gamY []⟩
theorem cok (N : Nat) : (C N).Ok Tryz.prog := ⟨U_ok, GamOk.nil, GamYOk.nil⟩
def code : Code := Tryz.f137.body.getD .skip
def outs : Sh := s18
end fA68
def fA68.run (N : Nat) (s : (List UInt8)) : Option (T4 × Unit) :=
  some (((3 : Int), false, (0 : Int), s), ())
namespace fA68
def fn (N : Nat) : Sh.den ins → Option (Sh.den outs) := fun (a, _) => fA68.run N a
def S (N : Nat) : Fs := ⟨ins, outs, fn N⟩
def lam (N : Nat) : Pcs := pcs []
theorem pok (N : Nat) : (lam N).Ok Tryz.prog (C N) code := pcsOk_nil
theorem ok (N : Nat) : (S N).con.Ok Tryz.prog 137 := okF (F := S N) [] Tryz.func137 (by kernel_rfl) (by rfl) mix (cok N) (pok N) fun _ => by kernel_rfl
end fA68
namespace fA78
def ins : Sh := s18
def C (N : Nat) : Ctx := ⟨U, 43, fun _ => true, gam [(133, (fA72.S N).con), (134, (fB72.S N).con), (135, (fD76.S N).con), (137, (fA68.S N).con)], gamY []⟩
theorem cok (N : Nat) : (C N).Ok Tryz.prog := ⟨U_ok, GamOk.cons (fA72.ok N) (GamOk.cons (fB72.ok N) (GamOk.cons (fD76.ok N) (GamOk.cons (fA68.ok N) (GamOk.nil)))), GamYOk.nil⟩
def code : Code := Tryz.f131.body.getD .skip
def outs : Sh := (.cons (.val .bool) .nil)
end fA78
def fA78.run (N : Nat) (v : T4) : Option (Bool × Unit) :=
  bif decide (v.1 = (0 : Int)) then
    obind (fA72.run N) fun (v1, _) =>
      some ((decide (v.1 = v1.1)) && ((v.2.1 == v1.2.1) && ((decide (v.2.2.1 = v1.2.2.1)) && ((decide (v.2.2.2 = v1.2.2.2)) && true))), ())
  else
    bif decide (v.1 = (1 : Int)) then
      obind (fB72.run N v.2.1) fun (v2, _) =>
        some ((decide (v.1 = v2.1)) && ((v.2.1 == v2.2.1) && ((decide (v.2.2.1 = v2.2.2.1)) && ((decide (v.2.2.2 = v2.2.2.2)) && true))), ())
    else
      bif decide (v.1 = (2 : Int)) then
        obind (fD76.run N v.2.2.1) fun (v3, _) =>
          some ((decide (v.1 = v3.1)) && ((v.2.1 == v3.2.1) && ((decide (v.2.2.1 = v3.2.2.1)) && ((decide (v.2.2.2 = v3.2.2.2)) && true))), ())
      else
        bif decide (v.1 = (3 : Int)) then
          obind (fA68.run N v.2.2.2) fun (v4, _) =>
            bif (decide (v.1 = v4.1)) && ((v.2.1 == v4.2.1) && ((decide (v.2.2.1 = v4.2.2.1)) && ((decide (v.2.2.2 = v4.2.2.2)) && true))) then
              some (decide ((v.2.2.2.length : Int) ≤ (64 : Int)), ())
            else some (false, ())
        else some (false, ())
namespace fA78
def fn (N : Nat) : Sh.den ins → Option (Sh.den outs) := fun (a, _) => fA78.run N a
def S (N : Nat) : Fs := ⟨ins, outs, fn N⟩
def lam (N : Nat) : Pcs := pcs []
theorem pok (N : Nat) : (lam N).Ok Tryz.prog (C N) code := pcsOk_nil
theorem ok (N : Nat) : (S N).con.Ok Tryz.prog 131 := okF (F := S N) [] Tryz.func131 (by kernel_rfl) (by rfl) mix (cok N) (pok N) fun _ => by kernel_rfl
end fA78
namespace fD71
def ins : Sh := s19
def C (N : Nat) : Ctx := ⟨U, 18, fun _ => true, gam [(131, (fA78.S N).con)], gamY []⟩
theorem cok (N : Nat) : (C N).Ok Tryz.prog := ⟨U_ok, GamOk.cons (fA78.ok N) (GamOk.nil), GamYOk.nil⟩
def code : Code := Tryz.f127.body.getD .skip
def outs : Sh := (.cons (.val .bool) .nil)
end fD71
namespace fB76
def ins : Sh := s21
def ts : List Tmp := [5, 6, 7]
def asg : List Tmp := [2, 4, 7, 8, 9, 10, 11, 12, 13, 14]
def C (N : Nat) : Ctx := { fD71.C N with may := fun t => asg.any (Nat.beq t) }
def code : Code := loopBody (sub fD71.code [true, false, true, false])
theorem cok (N : Nat) : (C N).Ok Tryz.prog := okC (fD71.cok N) _
def alts : List Alt := [⟨.ret, [2], (.cons (.val .bool) .nil)⟩, ⟨(.exit 0), [], .nil⟩]
end fB76
def fB76.go (N : Nat) : Nat → (List T4) → Int → Int → Option T16
  | 0, _, _, _ => none
  | fuel + 1, t5, t6, t7 =>
    bif decide (t7 < t6) then
      bif inB t7 t5.length then
        obind (fA78.run N (t5.getD t7.toNat ((0 : Int), false, (0 : Int), ([] : List UInt8)))) fun (b, _) =>
          bif !b then
            some (.inl (false, ()))
          else fB76.go N fuel t5 t6 (IntKind.i64.wrap (t7 + (1 : Int)))
      else none
    else some (.inr ())
namespace fB76
def g (N n : Nat) : Sh.den ins → Option (altsDen alts) := fun (a, b, c, _) => fB76.go N n a b c
def P (N : Nat) : Ps := ⟨ts, ins, asg, alts, g N N⟩
def lam (N : Nat) : Pcs := pcs []
theorem pok (N : Nat) : (lam N).Ok Tryz.prog (C N) code := pcsOk_nil
theorem ok (N : Nat) : ((P N).pc (fD71.C N)).Ok Tryz.prog (fD71.C N) (.loop code) := okL (F := P N) (g N) (fD71.cok N) mix (pok N) (fun _ => rfl) rfl fun _ _ => by kernel_rfl
end fB76
def fD71.run (N : Nat) (row : (List T4)) : Option (Bool × Unit) :=
  obind (fB76.go N N row (row.length : Int) (0 : Int)) fun y => match y with
  | .inl (t2, _) =>
      some (t2, ())
  | .inr (_) =>
      some (decide ((row.length : Int) ≤ (16 : Int)), ())
namespace fD71
def fn (N : Nat) : Sh.den ins → Option (Sh.den outs) := fun (a, _) => fD71.run N a
def S (N : Nat) : Fs := ⟨ins, outs, fn N⟩
def lam (N : Nat) : Pcs := pcs [([true, false, true, false], (fB76.P N).pc (C N))]
theorem pok (N : Nat) : (lam N).Ok Tryz.prog (C N) code := pcsOk_cons (c1 := .loop fB76.code) (by kernel_rfl) (fB76.ok N) (pcsOk_nil)
theorem ok (N : Nat) : (S N).con.Ok Tryz.prog 127 := okF (F := S N) [] Tryz.func127 (by kernel_rfl) (by rfl) mix (cok N) (pok N) fun _ => by kernel_rfl
end fD71
namespace fD46
def ins : Sh := (.cons (.own 5 .byte) (.cons (.val (.int .u64)) .nil))
def C (N : Nat) : Ctx := ⟨U, 22, fun _ => true, gam [], gamY []⟩
theorem cok (N : Nat) : (C N).Ok Tryz.prog := ⟨U_ok, GamOk.nil, GamYOk.nil⟩
def code : Code := Tryz.f132.body.getD .skip
def outs : Sh := (.cons (.own 5 .byte) .nil)
end fD46
namespace fD59
def ins : Sh := (.cons (.val (.int .u64)) (.cons (.arr 183 .byte 8) (.cons (.val (.int .i64)) .nil)))
def ts : List Tmp := [1, 5, 7]
def asg : List Tmp := [6, 7, 8, 9, 10, 11, 12, 13, 14, 15, 16, 17, 18]
def C (N : Nat) : Ctx := { fD46.C N with may := fun t => asg.any (Nat.beq t) }
def code : Code := loopBody (sub fD46.code [true, true, false, true, false])
theorem cok (N : Nat) : (C N).Ok Tryz.prog := okC (fD46.cok N) _
def alts : List Alt := [⟨(.exit 0), [], (.cons (.updr 0 183 .byte) .nil)⟩]
end fD59
def fD59.go (N : Nat) : Nat → Int → (List UInt8) → Int → Option (T0)
  | 0, _, _, _ => none
  | fuel + 1, n_, x, t7 =>
    bif decide (t7 < (8 : Int)) then
      bif decide ((0 : Int) ≤ (IntKind.i64.wrap ((56 : Int) - (IntKind.i64.wrap ((8 : Int) * t7))))) then
        bif inB t7 8 then
          bif decide (t7.toNat < x.length) then
            fD59.go N fuel n_ (x.set t7.toNat (Hay.u8 (IntKind.u8.wrap (n_.fdiv (2 ^ (min (IntKind.i64.wrap ((56 : Int) - (IntKind.i64.wrap ((8 : Int) * t7)))).toNat 64)))))) (IntKind.i64.wrap (t7 + (1 : Int)))
          else none
        else none
      else none
    else some (x, ())
namespace fD59
def g (N n : Nat) : Sh.den ins → Option (altsDen alts) := fun (a, b, c, _) => fD59.go N n a b c
def P (N : Nat) : Ps := ⟨ts, ins, asg, alts, g N N⟩
def lam (N : Nat) : Pcs := pcs []
theorem pok (N : Nat) : (lam N).Ok Tryz.prog (C N) code := pcsOk_nil
theorem ok (N : Nat) : ((P N).pc (fD46.C N)).Ok Tryz.prog (fD46.C N) (.loop code) := okL (F := P N) (g N) (fD46.cok N) mix (pok N) (fun _ => rfl) rfl fun _ _ => by kernel_rfl
end fD59
def fD46.run (N : Nat) (b : (List UInt8)) (n_ : Int) : Option T0 :=
  obind (fD59.go N N n_ (List.replicate 8 (0 : UInt8)) (0 : Int)) fun (v, _) =>
    bif room (b.length + ((v.drop 0).take 8).length) 1 then
      some (b ++ ((v.drop 0).take 8), ())
    else none
namespace fD46
def fn (N : Nat) : Sh.den ins → Option (Sh.den outs) := fun (a, b, _) => fD46.run N a b
def S (N : Nat) : Fs := ⟨ins, outs, fn N⟩
def lam (N : Nat) : Pcs := pcs [([true, true, false, true, false], (fD59.P N).pc (C N))]
theorem pok (N : Nat) : (lam N).Ok Tryz.prog (C N) code := pcsOk_cons (c1 := .loop fD59.code) (by kernel_rfl) (fD59.ok N) (pcsOk_nil)
theorem ok (N : Nat) : (S N).con.Ok Tryz.prog 132 := okF (F := S N) [] Tryz.func132 (by kernel_rfl) (by rfl) mix (cok N) (pok N) fun _ => by kernel_rfl
end fD46
namespace fC82
def ins : Sh := (.cons (.own 5 .byte) s18)
def C (N : Nat) : Ctx := ⟨U, 44, fun _ => true, gam [(132, (fD46.S N).con)], gamY []⟩
theorem cok (N : Nat) : (C N).Ok Tryz.prog := ⟨U_ok, GamOk.cons (fD46.ok N) (GamOk.nil), GamYOk.nil⟩
def code : Code := Tryz.f128.body.getD .skip
def outs : Sh := (.cons (.own 5 .byte) .nil)
end fC82
def fC82.run (N : Nat) (b : (List UInt8)) (v : T4) : Option T0 :=
  bif room (b.length + 1) 1 then
    bif decide (v.1 = (1 : Int)) then
      bif v.2.1 then
        bif room ((b ++ ([Hay.u8 (IntKind.u8.wrap v.1)] : List UInt8)).length + 1) 1 then
          some ((b ++ ([Hay.u8 (IntKind.u8.wrap v.1)] : List UInt8)) ++ ([(1 : UInt8)] : List UInt8), ())
        else none
      else
        bif room ((b ++ ([Hay.u8 (IntKind.u8.wrap v.1)] : List UInt8)).length + 1) 1 then
          some ((b ++ ([Hay.u8 (IntKind.u8.wrap v.1)] : List UInt8)) ++ ([(0 : UInt8)] : List UInt8), ())
        else none
    else
      bif decide (v.1 = (2 : Int)) then
        obind (fD46.run N (b ++ ([Hay.u8 (IntKind.u8.wrap v.1)] : List UInt8)) (IntKind.u64.wrap v.2.2.1)) fun (l, _) =>
          some (l, ())
      else
        bif decide (v.1 = (3 : Int)) then
          bif room ((b ++ ([Hay.u8 (IntKind.u8.wrap v.1)] : List UInt8)).length + 1) 1 then
            bif room (((b ++ ([Hay.u8 (IntKind.u8.wrap v.1)] : List UInt8)) ++ ([Hay.u8 (IntKind.u8.wrap (v.2.2.2.length : Int))] : List UInt8)).length + v.2.2.2.length) 1 then
              some (((b ++ ([Hay.u8 (IntKind.u8.wrap v.1)] : List UInt8)) ++ ([Hay.u8 (IntKind.u8.wrap (v.2.2.2.length : Int))] : List UInt8)) ++ v.2.2.2, ())
            else none
          else none
        else some (b ++ ([Hay.u8 (IntKind.u8.wrap v.1)] : List UInt8), ())
  else none
namespace fC82
def fn (N : Nat) : Sh.den ins → Option (Sh.den outs) := fun (a, b, _) => fC82.run N a b
def S (N : Nat) : Fs := ⟨ins, outs, fn N⟩
def lam (N : Nat) : Pcs := pcs []
theorem pok (N : Nat) : (lam N).Ok Tryz.prog (C N) code := pcsOk_nil
theorem ok (N : Nat) : (S N).con.Ok Tryz.prog 128 := okF (F := S N) [] Tryz.func128 (by kernel_rfl) (by rfl) mix (cok N) (pok N) fun _ => by kernel_rfl
end fC82
namespace fC27
def ins : Sh := s19
def C (N : Nat) : Ctx := ⟨U, 25, fun _ => true, gam [(127, (fD71.S N).con), (128, (fC82.S N).con)], gamY []⟩
theorem cok (N : Nat) : (C N).Ok Tryz.prog := ⟨U_ok, GamOk.cons (fD71.ok N) (GamOk.cons (fC82.ok N) (GamOk.nil)), GamYOk.nil⟩
def code : Code := Tryz.f120.body.getD .skip
def outs : Sh := s22
end fC27
namespace fD61
def ins : Sh := (.cons (.own 5 .byte) s21)
def ts : List Tmp := [4, 14, 15, 16]
def asg : List Tmp := [4, 6, 16, 17, 18, 19, 20, 21, 22, 23]
def C (N : Nat) : Ctx := { fC27.C N with may := fun t => asg.any (Nat.beq t) }
def code : Code := loopBody (sub fC27.code [true, true, true, false, true, false])
theorem cok (N : Nat) : (C N).Ok Tryz.prog := okC (fC27.cok N) _
def alts : List Alt := [⟨(.exit 0), [4], (.cons (.own 5 .byte) .nil)⟩]
end fD61
def fD61.go (N : Nat) : Nat → (List UInt8) → (List T4) → Int → Int → Option (T0)
  | 0, _, _, _, _ => none
  | fuel + 1, b, t14, t15, t16 =>
    bif decide (t16 < t15) then
      bif inB t16 t14.length then
        obind (fC82.run N b (t14.getD t16.toNat ((0 : Int), false, (0 : Int), ([] : List UInt8)))) fun (l, _) =>
          fD61.go N fuel l t14 t15 (IntKind.i64.wrap (t16 + (1 : Int)))
      else none
    else some (b, ())
namespace fD61
def g (N n : Nat) : Sh.den ins → Option (altsDen alts) := fun (a, b, c, d, _) => fD61.go N n a b c d
def P (N : Nat) : Ps := ⟨ts, ins, asg, alts, g N N⟩
def lam (N : Nat) : Pcs := pcs []
theorem pok (N : Nat) : (lam N).Ok Tryz.prog (C N) code := pcsOk_nil
theorem ok (N : Nat) : ((P N).pc (fC27.C N)).Ok Tryz.prog (fC27.C N) (.loop code) := okL (F := P N) (g N) (fC27.cok N) mix (pok N) (fun _ => rfl) rfl fun _ _ => by kernel_rfl
end fD61
def fC27.run (N : Nat) (row : (List T4)) : Option T17 :=
  obind (fD71.run N row) fun (b, _) =>
    bif !b then
      some (([] : List UInt8), (30 : Int), ())
    else
      obind (fD61.go N N ([Hay.u8 (IntKind.u8.wrap (row.length : Int))] : List UInt8) row (row.length : Int) (0 : Int)) fun (b1, _) =>
        some (b1, (0 : Int), ())
namespace fC27
def fn (N : Nat) : Sh.den ins → Option (Sh.den outs) := fun (a, _) => fC27.run N a
def S (N : Nat) : Fs := ⟨ins, outs, fn N⟩
def lam (N : Nat) : Pcs := pcs [([true, true, true, false, true, false], (fD61.P N).pc (C N))]
theorem pok (N : Nat) : (lam N).Ok Tryz.prog (C N) code := pcsOk_cons (c1 := .loop fD61.code) (by kernel_rfl) (fD61.ok N) (pcsOk_nil)
theorem ok (N : Nat) : (S N).con.Ok Tryz.prog 120 := okF (F := S N) [] Tryz.func120 (by kernel_rfl) (by rfl) mix (cok N) (pok N) fun _ => by kernel_rfl
end fC27
namespace fD29
def ins : Sh := s23
def C (N : Nat) : Ctx := ⟨U, 13, fun _ => true, gam [], gamY []⟩
theorem cok (N : Nat) : (C N).Ok Tryz.prog := ⟨U_ok, GamOk.nil, GamYOk.nil⟩
def code : Code := Tryz.f39.body.getD .skip
def outs : Sh := s0
end fD29
def fD29.run (N : Nat) (b : (List UInt8)) (b1 : (List UInt8)) : Option (T0 × Unit) :=
  bif room (b.length + b1.length) 1 then
    some ((b ++ b1, ()), ())
  else none
namespace fD29
def fn (N : Nat) : Sh.den ins → Option (Sh.den outs) := fun ((a, _), b, _) => fD29.run N a b
def S (N : Nat) : Fs := ⟨ins, outs, fn N⟩
def lam (N : Nat) : Pcs := pcs []
theorem pok (N : Nat) : (lam N).Ok Tryz.prog (C N) code := pcsOk_nil
theorem ok (N : Nat) : (S N).con.Ok Tryz.prog 39 := okF (F := S N) [] Tryz.func39 (by kernel_rfl) (by rfl) mix (cok N) (pok N) fun _ => by kernel_rfl
end fD29
namespace fB26
def ins : Sh := s23
def C (N : Nat) : Ctx := ⟨U, 12, fun _ => true, gam [(110, (fB1.S N).con), (39, (fD29.S N).con)], gamY []⟩
theorem cok (N : Nat) : (C N).Ok Tryz.prog := ⟨U_ok, GamOk.cons (fB1.ok N) (GamOk.cons (fD29.ok N) (GamOk.nil)), GamYOk.nil⟩
def code : Code := Tryz.f121.body.getD .skip
def outs : Sh := s0
end fB26
def fB26.run (N : Nat) (b : (List UInt8)) (b1 : (List UInt8)) : Option (T0 × Unit) :=
  obind (fB1.run N b (IntKind.u64.wrap (b1.length : Int))) fun ((b2, _), _) =>
    obind (fD29.run N b2 b1) fun ((b3, _), _) =>
      some ((b3, ()), ())
namespace fB26
def fn (N : Nat) : Sh.den ins → Option (Sh.den outs) := fun ((a, _), b, _) => fB26.run N a b
def S (N : Nat) : Fs := ⟨ins, outs, fn N⟩
def lam (N : Nat) : Pcs := pcs []
theorem pok (N : Nat) : (lam N).Ok Tryz.prog (C N) code := pcsOk_nil
theorem ok (N : Nat) : (S N).con.Ok Tryz.prog 121 := okF (F := S N) [] Tryz.func121 (by kernel_rfl) (by rfl) mix (cok N) (pok N) fun _ => by kernel_rfl
end fB26
namespace fD73
def ins : Sh := (.cons (.box 47 s5) (.cons (.bxo 4 95 s15) .nil))
def C (N : Nat) : Ctx := ⟨U, 39, fun _ => true, gam [(120, (fC27.S N).con), (121, (fB26.S N).con), (34, (fA0.S N).con)], gamY []⟩
theorem cok (N : Nat) : (C N).Ok Tryz.prog := ⟨U_ok, GamOk.cons (fC27.ok N) (GamOk.cons (fB26.ok N) (GamOk.cons (fA0.ok N) (GamOk.nil))), GamYOk.nil⟩
def code : Code := Tryz.f114.body.getD .skip
def outs : Sh := s16
end fD73
def fD73.run (N : Nat) (b : (List UInt8)) (jT : Bool) (jO_ : Int) (jO1 : Int) (ver : Int) (ver1 : Int) (ver2 : (List T4)) (ver3 : Int) : Option T14 :=
  obind (fC27.run N ver2) fun (l, n_, _) =>
    obind (fB26.run N b l) fun ((b1, _), _) =>
      obind (fA0.run N b1 jT (decide (n_ = (0 : Int)))) fun ((_, _), (_, _, jT1, _), _) =>
        some ((b1, ()), ((), (), jT1, ()), (jO_, jO1, ver, ver1, ver2, ver3, ()), ())
namespace fD73
def fn (N : Nat) : Sh.den ins → Option (Sh.den outs) := fun (((a, _), _, b, _), (c, d, e, f, g, h, _), _) => fD73.run N a b c d e f g h
def S (N : Nat) : Fs := ⟨ins, outs, fn N⟩
def lam (N : Nat) : Pcs := pcs []
theorem pok (N : Nat) : (lam N).Ok Tryz.prog (C N) code := pcsOk_nil
theorem ok (N : Nat) : (S N).con.Ok Tryz.prog 114 := okF (F := S N) [] Tryz.func114 (by kernel_rfl) (by rfl) mix (cok N) (pok N) fun _ => by kernel_rfl
end fD73
namespace fD15
def ins : Sh := s17
def C (N : Nat) : Ctx := ⟨U, 39, fun _ => true, gam [(34, (fA0.S N).con), (72, (fB51.S N).con), (113, (fB69.S N).con), (114, (fD73.S N).con)], gamY []⟩
theorem cok (N : Nat) : (C N).Ok Tryz.prog := ⟨U_ok, GamOk.cons (fA0.ok N) (GamOk.cons (fB51.ok N) (GamOk.cons (fB69.ok N) (GamOk.cons (fD73.ok N) (GamOk.nil)))), GamYOk.nil⟩
def code : Code := Tryz.f97.body.getD .skip
def outs : Sh := s16
end fD15
namespace fB34
def ins : Sh := (.cons s2 (.cons (.rbox 95 s15) .nil))
def ts : List Tmp := [0, 1]
def asg : List Tmp := [4, 5, 6, 7, 8, 9, 10, 11, 12, 13, 14, 15, 16, 17, 18, 19, 20]
def C (N : Nat) : Ctx := { fD15.C N with may := fun t => asg.any (Nat.beq t) }
def code : Code := (sub fD15.code [false]).getD .skip
theorem cok (N : Nat) : (C N).Ok Tryz.prog := okC (fD15.cok N) _
def alts : List Alt := [⟨.normal, [], s4⟩]
end fB34
def fB34.run (N : Nat) (b : (List UInt8)) (jT : Bool) (jO_ : Int) (jO1 : Int) (ver : Int) (ver1 : Int) (ver2 : (List T4)) (ver3 : Int) : Option (T2) :=
  bif decide (ver = (0 : Int)) then
    obind (fA0.run N b jT (decide (ver3 = (0 : Int)))) fun ((_, _), (_, _, jT1, _), _) =>
      some (((), ()), ((), (), jT1, ()), ())
  else
    obind (fA0.run N b jT false) fun ((_, _), (_, _, jT2, _), _) =>
      some (((), ()), ((), (), jT2, ()), ())
namespace fB34
def fn (N : Nat) : Sh.den ins → Option (altsDen alts) := fun (((a, _), _, b, _), (c, d, e, f, g, h, _), _) => fB34.run N a b c d e f g h
def P (N : Nat) : Ps := ⟨ts, ins, asg, alts, fn N⟩
def lam (N : Nat) : Pcs := pcs []
theorem pok (N : Nat) : (lam N).Ok Tryz.prog (C N) code := pcsOk_nil
theorem ok (N : Nat) : ((P N).pc (fD15.C N)).Ok Tryz.prog (fD15.C N) code := okP (F := P N) (fD15.cok N) mix (pok N) fun _ => by kernel_rfl
end fB34
def fD15.run (N : Nat) (b : (List UInt8)) (jT : Bool) (jO_ : Int) (jO1 : Int) (ver : Int) (ver1 : Int) (ver2 : (List T4)) (ver3 : Int) : Option T14 :=
  obind (fB34.run N b jT jO_ jO1 ver ver1 ver2 ver3) fun ((_, _), (_, _, jT3, _), _) =>
    obind (fB51.run N b jT3 jO_ jO1 ver ver1 ver2 ver3) fun ((b1, _), (_, _, jT4, _), (jO2, jO3, ver4, ver5, ver6, ver7, _), _) =>
      obind (fB69.run N b1 jT4 jO2 jO3 ver4 ver5 ver6 ver7) fun ((b2, _), (jO4, jO5, ver8, ver9, ver10, ver11, _), _) =>
        obind (fD73.run N b2 jT4 jO4 jO5 ver8 ver9 ver10 ver11) fun ((b3, _), (_, _, jT5, _), (jO6, jO7, ver12, ver13, ver14, ver15, _), _) =>
          some ((b3, ()), ((), (), jT5, ()), (jO6, jO7, ver12, ver13, ver14, ver15, ()), ())
namespace fD15
def fn (N : Nat) : Sh.den ins → Option (Sh.den outs) := fun (((a, _), _, b, _), (c, d, e, f, g, h, _), _) => fD15.run N a b c d e f g h
def S (N : Nat) : Fs := ⟨ins, outs, fn N⟩
def lam (N : Nat) : Pcs := pcs [([false], (fB34.P N).pc (C N))]
theorem pok (N : Nat) : (lam N).Ok Tryz.prog (C N) code := pcsOk_cons (c1 := fB34.code) (by kernel_rfl) (fB34.ok N) (pcsOk_nil)
theorem ok (N : Nat) : (S N).con.Ok Tryz.prog 97 := okF (F := S N) [] Tryz.func97 (by kernel_rfl) (by rfl) mix (cok N) (pok N) fun _ => by kernel_rfl
end fD15
namespace fC9
def ins : Sh := (.cons (.box 47 s5) (.cons (.bxo 16 31 s7) s24))
def C (N : Nat) : Ctx := ⟨U, 62, fun _ => true, gam [(110, (fB1.S N).con), (97, (fD15.S N).con)], gamY []⟩
theorem cok (N : Nat) : (C N).Ok Tryz.prog := ⟨U_ok, GamOk.cons (fB1.ok N) (GamOk.cons (fD15.ok N) (GamOk.nil)), GamYOk.nil⟩
def code : Code := Tryz.f96.body.getD .skip
def outs : Sh := s9
end fC9
namespace fD14
def ins : Sh := (.cons (.fnb 1 97 (.cons (.box 47 s5) .nil)) s25)
def ts : List Tmp := [2, 27, 28, 29]
def asg : List Tmp := [7, 29, 30, 31, 32, 33, 34, 35]
def C (N : Nat) : Ctx := { fC9.C N with may := fun t => asg.any (Nat.beq t) }
def code : Code := loopBody (sub fC9.code [false, true, false, true, false, true, false])
theorem cok (N : Nat) : (C N).Ok Tryz.prog := okC (fC9.cok N) _
def alts : List Alt := [⟨(.exit 0), [], s8⟩]
end fD14
def fD14.go (N : Nat) : Nat → (List UInt8) → Bool → (List T7) → Int → Int → Option (T9)
  | 0, _, _, _, _, _ => none
  | fuel + 1, b, jT, t27, t28, t29 =>
    bif decide (t29 < t28) then
      bif inB t29 t27.length then
        obind (fD15.run N b jT (t27.getD t29.toNat (((0 : Int), (0 : Int)), ((0 : Int), (0 : Int)), ([] : List T4), (0 : Int))).1.1 (t27.getD t29.toNat (((0 : Int), (0 : Int)), ((0 : Int), (0 : Int)), ([] : List T4), (0 : Int))).1.2 (t27.getD t29.toNat (((0 : Int), (0 : Int)), ((0 : Int), (0 : Int)), ([] : List T4), (0 : Int))).2.1.1 (t27.getD t29.toNat (((0 : Int), (0 : Int)), ((0 : Int), (0 : Int)), ([] : List T4), (0 : Int))).2.1.2 (t27.getD t29.toNat (((0 : Int), (0 : Int)), ((0 : Int), (0 : Int)), ([] : List T4), (0 : Int))).2.2.1 (t27.getD t29.toNat (((0 : Int), (0 : Int)), ((0 : Int), (0 : Int)), ([] : List T4), (0 : Int))).2.2.2) fun ((b1, _), (_, _, jT1, _), (jO_, jO1, ver, ver1, ver2, ver3, _), _) =>
          fD14.go N fuel b1 jT1 t27 t28 (IntKind.i64.wrap (t29 + (1 : Int)))
      else none
    else some ((b, ()), ((), (), jT, ()), ())
namespace fD14
def g (N n : Nat) : Sh.den ins → Option (altsDen alts) := fun ((((a, _), _, b, _), _), c, d, e, _) => fD14.go N n a b c d e
def P (N : Nat) : Ps := ⟨ts, ins, asg, alts, g N N⟩
def lam (N : Nat) : Pcs := pcs []
theorem pok (N : Nat) : (lam N).Ok Tryz.prog (C N) code := pcsOk_nil
theorem ok (N : Nat) : ((P N).pc (fC9.C N)).Ok Tryz.prog (fC9.C N) (.loop code) := okL (F := P N) (g N) (fC9.cok N) mix (pok N) (fun _ => rfl) rfl fun _ _ => by kernel_rfl
end fD14
def fC9.run (N : Nat) (b : (List UInt8)) (jT : Bool) (jA : Int) (jB_ : Int) (jC_ : Int) (jD : Int) (jE : Int) (jF : Int) (jG : Int) (jH : Int) (jI : Int) (jJ : Int) (jK : Int) (jL : Bool) (jM : Bool) (jN : Bool) (jO_ : Int) (jO1 : Int) (jP : (List T7)) (jP1 : (List T8)) (jQ : (List T6)) : Option T11 :=
  obind (fB1.run N b (IntKind.u64.wrap (jP.length : Int))) fun ((b1, _), _) =>
    obind (fD14.go N N b1 jT jP (jP.length : Int) (0 : Int)) fun ((b2, _), (_, _, jT1, _), _) =>
      some ((b2, ()), ((), (), jT1, ()), (jA, jB_, jC_, jD, jE, jF, jG, jH, jI, jJ, jK, jL, jM, jN, jO_, jO1, jP, jP1, jQ, ()), ())
namespace fC9
def fn (N : Nat) : Sh.den ins → Option (Sh.den outs) := fun (((a, _), _, b, _), (c, d, e, f, g, h, i, j, k, l, m, o, p, q, r, s, t, u, v, _), (_, _), _) => fC9.run N a b c d e f g h i j k l m o p q r s t u v
def S (N : Nat) : Fs := ⟨ins, outs, fn N⟩
def lam (N : Nat) : Pcs := pcs [([false, true, false, true, false, true, false], (fD14.P N).pc (C N))]
theorem pok (N : Nat) : (lam N).Ok Tryz.prog (C N) code := pcsOk_cons (c1 := .loop fD14.code) (by kernel_rfl) (fD14.ok N) (pcsOk_nil)
theorem ok (N : Nat) : (S N).con.Ok Tryz.prog 96 := okF (F := S N) [] Tryz.func96 (by kernel_rfl) (by rfl) mix (cok N) (pok N) fun _ => by kernel_rfl
end fC9
namespace fD52
def ins : Sh := (.cons (.box 47 s5) (.cons (.rbox 99 s26) .nil))
def C (N : Nat) : Ctx := ⟨U, 38, fun _ => true, gam [(34, (fA0.S N).con), (110, (fB1.S N).con)], gamY []⟩
theorem cok (N : Nat) : (C N).Ok Tryz.prog := ⟨U_ok, GamOk.cons (fA0.ok N) (GamOk.cons (fB1.ok N) (GamOk.nil)), GamYOk.nil⟩
def code : Code := Tryz.f102.body.getD .skip
def outs : Sh := s8
end fD52
def fD52.run (N : Nat) (b : (List UInt8)) (jT : Bool) (jO_ : Int) (jO1 : Int) (id_ : Int) (id1 : Int) : Option T9 :=
  bif decide (jO_ ≥ (0 : Int)) then
    obind (fA0.run N b jT (decide (jO_ ≤ (2147483647 : Int)))) fun ((_, _), (_, _, jT1, _), _) =>
      obind (fB1.run N b (IntKind.u64.wrap jO_)) fun ((b1, _), _) =>
        some ((b1, ()), ((), (), jT1, ()), ())
  else
    obind (fA0.run N b jT false) fun ((_, _), (_, _, jT2, _), _) =>
      obind (fB1.run N b (IntKind.u64.wrap jO_)) fun ((b2, _), _) =>
        some ((b2, ()), ((), (), jT2, ()), ())
namespace fD52
def fn (N : Nat) : Sh.den ins → Option (Sh.den outs) := fun (((a, _), _, b, _), (c, d, e, f, _), _) => fD52.run N a b c d e f
def S (N : Nat) : Fs := ⟨ins, outs, fn N⟩
def lam (N : Nat) : Pcs := pcs []
theorem pok (N : Nat) : (lam N).Ok Tryz.prog (C N) code := pcsOk_nil
theorem ok (N : Nat) : (S N).con.Ok Tryz.prog 102 := okF (F := S N) [] Tryz.func102 (by kernel_rfl) (by rfl) mix (cok N) (pok N) fun _ => by kernel_rfl
end fD52
namespace fD51
def ins : Sh := (.cons (.box 47 s5) (.cons (.bxo 1 99 s26) .nil))
def C (N : Nat) : Ctx := ⟨U, 38, fun _ => true, gam [(34, (fA0.S N).con), (110, (fB1.S N).con)], gamY []⟩
theorem cok (N : Nat) : (C N).Ok Tryz.prog := ⟨U_ok, GamOk.cons (fA0.ok N) (GamOk.cons (fB1.ok N) (GamOk.nil)), GamYOk.nil⟩
def code : Code := Tryz.f102.body.getD .skip
def outs : Sh := s27
end fD51
def fD51.run (N : Nat) (b : (List UInt8)) (jT : Bool) (jO_ : Int) (jO1 : Int) (id_ : Int) (id1 : Int) : Option T19 :=
  bif decide (jO1 ≥ (0 : Int)) then
    obind (fA0.run N b jT (decide (jO1 ≤ (2147483647 : Int)))) fun ((_, _), (_, _, jT1, _), _) =>
      obind (fB1.run N b (IntKind.u64.wrap jO1)) fun ((b1, _), _) =>
        some ((b1, ()), ((), (), jT1, ()), (jO_, jO1, id_, id1, ()), ())
  else
    obind (fA0.run N b jT false) fun ((_, _), (_, _, jT2, _), _) =>
      obind (fB1.run N b (IntKind.u64.wrap jO1)) fun ((b2, _), _) =>
        some ((b2, ()), ((), (), jT2, ()), (jO_, jO1, id_, id1, ()), ())
namespace fD51
def fn (N : Nat) : Sh.den ins → Option (Sh.den outs) := fun (((a, _), _, b, _), (c, d, e, f, _), _) => fD51.run N a b c d e f
def S (N : Nat) : Fs := ⟨ins, outs, fn N⟩
def lam (N : Nat) : Pcs := pcs []
theorem pok (N : Nat) : (lam N).Ok Tryz.prog (C N) code := pcsOk_nil
theorem ok (N : Nat) : (S N).con.Ok Tryz.prog 102 := okF (F := S N) [] Tryz.func102 (by kernel_rfl) (by rfl) mix (cok N) (pok N) fun _ => by kernel_rfl
end fD51
namespace fC35
def ins : Sh := s28
def C (N : Nat) : Ctx := ⟨U, 14, fun _ => true, gam [(102, (((fD52.S N).con).or (fD51.S N).con))], gamY []⟩
theorem cok (N : Nat) : (C N).Ok Tryz.prog := ⟨U_ok, GamOk.cons (Con.or_ok (fD52.ok N) (fD51.ok N)) (GamOk.nil), GamYOk.nil⟩
def code : Code := Tryz.f72.body.getD .skip
def outs : Sh := s27
end fC35
def fC35.run (N : Nat) (b : (List UInt8)) (jT : Bool) (jO_ : Int) (jO1 : Int) (id_ : Int) (id1 : Int) : Option T19 :=
  obind (fD52.run N b jT jO_ jO1 id_ id1) fun ((b1, _), (_, _, jT1, _), _) =>
    obind (fD51.run N b1 jT1 jO_ jO1 id_ id1) fun ((b2, _), (_, _, jT2, _), (jO2, jO3, id2, id3, _), _) =>
      some ((b2, ()), ((), (), jT2, ()), (jO2, jO3, id2, id3, ()), ())
namespace fC35
def fn (N : Nat) : Sh.den ins → Option (Sh.den outs) := fun (((a, _), _, b, _), (c, d, e, f, _), _) => fC35.run N a b c d e f
def S (N : Nat) : Fs := ⟨ins, outs, fn N⟩
def lam (N : Nat) : Pcs := pcs []
theorem pok (N : Nat) : (lam N).Ok Tryz.prog (C N) code := pcsOk_nil
theorem ok (N : Nat) : (S N).con.Ok Tryz.prog 72 := okF (F := S N) [] Tryz.func72 (by kernel_rfl) (by rfl) mix (cok N) (pok N) fun _ => by kernel_rfl
end fC35
namespace fB57
def ins : Sh := s29
def C (N : Nat) : Ctx := ⟨U, 24, fun _ => true, gam [(100, (fA2.S N).con)], gamY []⟩
theorem cok (N : Nat) : (C N).Ok Tryz.prog := ⟨U_ok, GamOk.cons (fA2.ok N) (GamOk.nil), GamYOk.nil⟩
def code : Code := Tryz.f67.body.getD .skip
def outs : Sh := s30
end fB57
def fB57.run (N : Nat) (b : (List UInt8)) (jT : Bool) (jO_ : Int) (jO1 : Int) (id_ : Int) (id1 : Int) : Option T20 :=
  obind (fA2.run N b id_) fun ((b1, _), _) =>
    some ((b1, ()), (jO_, jO1, id_, id1, ()), ())
namespace fB57
def fn (N : Nat) : Sh.den ins → Option (Sh.den outs) := fun (((a, _), _, b, _), (c, d, e, f, _), _) => fB57.run N a b c d e f
def S (N : Nat) : Fs := ⟨ins, outs, fn N⟩
def lam (N : Nat) : Pcs := pcs []
theorem pok (N : Nat) : (lam N).Ok Tryz.prog (C N) code := pcsOk_nil
theorem ok (N : Nat) : (S N).con.Ok Tryz.prog 67 := okF (F := S N) [] Tryz.func67 (by kernel_rfl) (by rfl) mix (cok N) (pok N) fun _ => by kernel_rfl
end fB57
namespace fC59
def ins : Sh := (.cons (.rbox 47 s5) (.cons (.bxo 3 99 s26) .nil))
def C (N : Nat) : Ctx := ⟨U, 24, fun _ => true, gam [(37, (fD7.S N).con)], gamY []⟩
theorem cok (N : Nat) : (C N).Ok Tryz.prog := ⟨U_ok, GamOk.cons (fD7.ok N) (GamOk.nil), GamYOk.nil⟩
def code : Code := Tryz.f113.body.getD .skip
def outs : Sh := s30
end fC59
def fC59.run (N : Nat) (b : (List UInt8)) (jT : Bool) (jO_ : Int) (jO1 : Int) (id_ : Int) (id1 : Int) : Option T20 :=
  obind (fD7.run N b id1) fun ((b1, _), _) =>
    some ((b1, ()), (jO_, jO1, id_, id1, ()), ())
namespace fC59
def fn (N : Nat) : Sh.den ins → Option (Sh.den outs) := fun (((a, _), _, b, _), (c, d, e, f, _), _) => fC59.run N a b c d e f
def S (N : Nat) : Fs := ⟨ins, outs, fn N⟩
def lam (N : Nat) : Pcs := pcs []
theorem pok (N : Nat) : (lam N).Ok Tryz.prog (C N) code := pcsOk_nil
theorem ok (N : Nat) : (S N).con.Ok Tryz.prog 113 := okF (F := S N) [] Tryz.func113 (by kernel_rfl) (by rfl) mix (cok N) (pok N) fun _ => by kernel_rfl
end fC59
namespace fD69
def ins : Sh := s29
def C (N : Nat) : Ctx := ⟨U, 14, fun _ => true, gam [(67, (fB57.S N).con), (113, (fC59.S N).con)], gamY []⟩
theorem cok (N : Nat) : (C N).Ok Tryz.prog := ⟨U_ok, GamOk.cons (fB57.ok N) (GamOk.cons (fC59.ok N) (GamOk.nil)), GamYOk.nil⟩
def code : Code := Tryz.f115.body.getD .skip
def outs : Sh := s30
end fD69
def fD69.run (N : Nat) (b : (List UInt8)) (jT : Bool) (jO_ : Int) (jO1 : Int) (id_ : Int) (id1 : Int) : Option T20 :=
  obind (fB57.run N b jT jO_ jO1 id_ id1) fun ((b1, _), (jO2, jO3, id2, id3, _), _) =>
    obind (fC59.run N b1 jT jO2 jO3 id2 id3) fun ((b2, _), (jO4, jO5, id4, id5, _), _) =>
      some ((b2, ()), (jO4, jO5, id4, id5, ()), ())
namespace fD69
def fn (N : Nat) : Sh.den ins → Option (Sh.den outs) := fun (((a, _), _, b, _), (c, d, e, f, _), _) => fD69.run N a b c d e f
def S (N : Nat) : Fs := ⟨ins, outs, fn N⟩
def lam (N : Nat) : Pcs := pcs []
theorem pok (N : Nat) : (lam N).Ok Tryz.prog (C N) code := pcsOk_nil
theorem ok (N : Nat) : (S N).con.Ok Tryz.prog 115 := okF (F := S N) [] Tryz.func115 (by kernel_rfl) (by rfl) mix (cok N) (pok N) fun _ => by kernel_rfl
end fD69
namespace fA65
def ins : Sh := s28
def C (N : Nat) : Ctx := ⟨U, 14, fun _ => true, gam [(72, (fC35.S N).con), (115, (fD69.S N).con)], gamY []⟩
theorem cok (N : Nat) : (C N).Ok Tryz.prog := ⟨U_ok, GamOk.cons (fC35.ok N) (GamOk.cons (fD69.ok N) (GamOk.nil)), GamYOk.nil⟩
def code : Code := Tryz.f99.body.getD .skip
def outs : Sh := s27
end fA65
def fA65.run (N : Nat) (b : (List UInt8)) (jT : Bool) (jO_ : Int) (jO1 : Int) (id_ : Int) (id1 : Int) : Option T19 :=
  obind (fC35.run N b jT jO_ jO1 id_ id1) fun ((b1, _), (_, _, jT1, _), (jO2, jO3, id2, id3, _), _) =>
    obind (fD69.run N b1 jT1 jO2 jO3 id2 id3) fun ((b2, _), (jO4, jO5, id4, id5, _), _) =>
      some ((b2, ()), ((), (), jT1, ()), (jO4, jO5, id4, id5, ()), ())
namespace fA65
def fn (N : Nat) : Sh.den ins → Option (Sh.den outs) := fun (((a, _), _, b, _), (c, d, e, f, _), _) => fA65.run N a b c d e f
def S (N : Nat) : Fs := ⟨ins, outs, fn N⟩
def lam (N : Nat) : Pcs := pcs []
theorem pok (N : Nat) : (lam N).Ok Tryz.prog (C N) code := pcsOk_nil
theorem ok (N : Nat) : (S N).con.Ok Tryz.prog 99 := okF (F := S N) [] Tryz.func99 (by kernel_rfl) (by rfl) mix (cok N) (pok N) fun _ => by kernel_rfl
end fA65
namespace fA11
def ins : Sh := (.cons (.box 47 s5) (.cons (.bxo 17 31 s7) s31))
def C (N : Nat) : Ctx := ⟨U, 62, fun _ => true, gam [(110, (fB1.S N).con), (99, (fA65.S N).con)], gamY []⟩
theorem cok (N : Nat) : (C N).Ok Tryz.prog := ⟨U_ok, GamOk.cons (fB1.ok N) (GamOk.cons (fA65.ok N) (GamOk.nil)), GamYOk.nil⟩
def code : Code := Tryz.f98.body.getD .skip
def outs : Sh := s9
end fA11
namespace fB17
def ins : Sh := (.cons (.fnb 1 99 (.cons (.box 47 s5) .nil)) s32)
def ts : List Tmp := [2, 27, 28, 29]
def asg : List Tmp := [7, 29, 30, 31, 32, 33, 34, 35]
def C (N : Nat) : Ctx := { fA11.C N with may := fun t => asg.any (Nat.beq t) }
def code : Code := loopBody (sub fA11.code [false, true, false, true, false, true, false])
theorem cok (N : Nat) : (C N).Ok Tryz.prog := okC (fA11.cok N) _
def alts : List Alt := [⟨(.exit 0), [], s8⟩]
end fB17
def fB17.go (N : Nat) : Nat → (List UInt8) → Bool → (List T8) → Int → Int → Option (T9)
  | 0, _, _, _, _, _ => none
  | fuel + 1, b, jT, t27, t28, t29 =>
    bif decide (t29 < t28) then
      bif inB t29 t27.length then
        obind (fA65.run N b jT (t27.getD t29.toNat (((0 : Int), (0 : Int)), (0 : Int), (0 : Int))).1.1 (t27.getD t29.toNat (((0 : Int), (0 : Int)), (0 : Int), (0 : Int))).1.2 (t27.getD t29.toNat (((0 : Int), (0 : Int)), (0 : Int), (0 : Int))).2.1 (t27.getD t29.toNat (((0 : Int), (0 : Int)), (0 : Int), (0 : Int))).2.2) fun ((b1, _), (_, _, jT1, _), (jO_, jO1, id_, id1, _), _) =>
          fB17.go N fuel b1 jT1 t27 t28 (IntKind.i64.wrap (t29 + (1 : Int)))
      else none
    else some ((b, ()), ((), (), jT, ()), ())
namespace fB17
def g (N n : Nat) : Sh.den ins → Option (altsDen alts) := fun ((((a, _), _, b, _), _), c, d, e, _) => fB17.go N n a b c d e
def P (N : Nat) : Ps := ⟨ts, ins, asg, alts, g N N⟩
def lam (N : Nat) : Pcs := pcs []
theorem pok (N : Nat) : (lam N).Ok Tryz.prog (C N) code := pcsOk_nil
theorem ok (N : Nat) : ((P N).pc (fA11.C N)).Ok Tryz.prog (fA11.C N) (.loop code) := okL (F := P N) (g N) (fA11.cok N) mix (pok N) (fun _ => rfl) rfl fun _ _ => by kernel_rfl
end fB17
def fA11.run (N : Nat) (b : (List UInt8)) (jT : Bool) (jA : Int) (jB_ : Int) (jC_ : Int) (jD : Int) (jE : Int) (jF : Int) (jG : Int) (jH : Int) (jI : Int) (jJ : Int) (jK : Int) (jL : Bool) (jM : Bool) (jN : Bool) (jO_ : Int) (jO1 : Int) (jP : (List T7)) (jP1 : (List T8)) (jQ : (List T6)) : Option T11 :=
  obind (fB1.run N b (IntKind.u64.wrap (jP1.length : Int))) fun ((b1, _), _) =>
    obind (fB17.go N N b1 jT jP1 (jP1.length : Int) (0 : Int)) fun ((b2, _), (_, _, jT1, _), _) =>
      some ((b2, ()), ((), (), jT1, ()), (jA, jB_, jC_, jD, jE, jF, jG, jH, jI, jJ, jK, jL, jM, jN, jO_, jO1, jP, jP1, jQ, ()), ())
namespace fA11
def fn (N : Nat) : Sh.den ins → Option (Sh.den outs) := fun (((a, _), _, b, _), (c, d, e, f, g, h, i, j, k, l, m, o, p, q, r, s, t, u, v, _), (_, _), _) => fA11.run N a b c d e f g h i j k l m o p q r s t u v
def S (N : Nat) : Fs := ⟨ins, outs, fn N⟩
def lam (N : Nat) : Pcs := pcs [([false, true, false, true, false, true, false], (fB17.P N).pc (C N))]
theorem pok (N : Nat) : (lam N).Ok Tryz.prog (C N) code := pcsOk_cons (c1 := .loop fB17.code) (by kernel_rfl) (fB17.ok N) (pcsOk_nil)
theorem ok (N : Nat) : (S N).con.Ok Tryz.prog 98 := okF (F := S N) [] Tryz.func98 (by kernel_rfl) (by rfl) mix (cok N) (pok N) fun _ => by kernel_rfl
end fA11
namespace fA69
def ins : Sh := (.cons (.box 47 s5) (.cons (.bxo 16 31 s7) .nil))
def C (N : Nat) : Ctx := ⟨U, 18, fun _ => true, gam [(96, (fC9.S N).con), (98, (fA11.S N).con)], gamY []⟩
theorem cok (N : Nat) : (C N).Ok Tryz.prog := ⟨U_ok, GamOk.cons (fC9.ok N) (GamOk.cons (fA11.ok N) (GamOk.nil)), GamYOk.nil⟩
def code : Code := Tryz.f65.body.getD .skip
def outs : Sh := s9
end fA69
def fA69.run (N : Nat) (b : (List UInt8)) (jT : Bool) (jA : Int) (jB_ : Int) (jC_ : Int) (jD : Int) (jE : Int) (jF : Int) (jG : Int) (jH : Int) (jI : Int) (jJ : Int) (jK : Int) (jL : Bool) (jM : Bool) (jN : Bool) (jO_ : Int) (jO1 : Int) (jP : (List T7)) (jP1 : (List T8)) (jQ : (List T6)) : Option T11 :=
  obind (fC9.run N b jT jA jB_ jC_ jD jE jF jG jH jI jJ jK jL jM jN jO_ jO1 jP jP1 jQ) fun ((b1, _), (_, _, jT1, _), (jA1, jB1, jC1, jD1, jE1, jF1, jG1, jH1, jI1, jJ1, jK1, jL1, jM1, jN1, jO2, jO3, jP2, jP3, jQ1, _), _) =>
    obind (fA11.run N b1 jT1 jA1 jB1 jC1 jD1 jE1 jF1 jG1 jH1 jI1 jJ1 jK1 jL1 jM1 jN1 jO2 jO3 jP2 jP3 jQ1) fun ((b2, _), (_, _, jT2, _), (jA2, jB2, jC2, jD2, jE2, jF2, jG2, jH2, jI2, jJ2, jK2, jL2, jM2, jN2, jO4, jO5, jP4, jP5, jQ2, _), _) =>
      some ((b2, ()), ((), (), jT2, ()), (jA2, jB2, jC2, jD2, jE2, jF2, jG2, jH2, jI2, jJ2, jK2, jL2, jM2, jN2, jO4, jO5, jP4, jP5, jQ2, ()), ())
namespace fA69
def fn (N : Nat) : Sh.den ins → Option (Sh.den outs) := fun (((a, _), _, b, _), (c, d, e, f, g, h, i, j, k, l, m, o, p, q, r, s, t, u, v, _), _) => fA69.run N a b c d e f g h i j k l m o p q r s t u v
def S (N : Nat) : Fs := ⟨ins, outs, fn N⟩
def lam (N : Nat) : Pcs := pcs []
theorem pok (N : Nat) : (lam N).Ok Tryz.prog (C N) code := pcsOk_nil
theorem ok (N : Nat) : (S N).con.Ok Tryz.prog 65 := okF (F := S N) [] Tryz.func65 (by kernel_rfl) (by rfl) mix (cok N) (pok N) fun _ => by kernel_rfl
end fA69
namespace fB37
def ins : Sh := s34
def C (N : Nat) : Ctx := ⟨U, 16, fun _ => true, gam [(64, (fD63.S N).con), (65, (fA69.S N).con)], gamY []⟩
theorem cok (N : Nat) : (C N).Ok Tryz.prog := ⟨U_ok, GamOk.cons (fD63.ok N) (GamOk.cons (fA69.ok N) (GamOk.nil)), GamYOk.nil⟩
def code : Code := Tryz.f63.body.getD .skip
def outs : Sh := s35
end fB37
def fB37.run (N : Nat) (b : (List UInt8)) (jT : Bool) (jA : Int) (jB_ : Int) (jC_ : Int) (jD : Int) (jE : Int) (jF : Int) (jG : Int) (jH : Int) (jI : Int) (jJ : Int) (jK : Int) (jL : Bool) (jM : Bool) (jN : Bool) (jO_ : Int) (jO1 : Int) (jP : (List T7)) (jP1 : (List T8)) (jQ : (List T6)) : Option T11 :=
  obind (fD63.run N b jT jA jB_ jC_ jD jE jF jG jH jI jJ jK jL jM jN jO_ jO1 jP jP1 jQ) fun ((b1, _), (jA1, jB1, jC1, jD1, jE1, jF1, jG1, jH1, jI1, jJ1, jK1, jL1, jM1, jN1, jO2, jO3, jP2, jP3, jQ1, _), _) =>
    obind (fA69.run N b1 jT jA1 jB1 jC1 jD1 jE1 jF1 jG1 jH1 jI1 jJ1 jK1 jL1 jM1 jN1 jO2 jO3 jP2 jP3 jQ1) fun ((b2, _), (_, _, jT1, _), (jA2, jB2, jC2, jD2, jE2, jF2, jG2, jH2, jI2, jJ2, jK2, jL2, jM2, jN2, jO4, jO5, jP4, jP5, jQ2, _), _) =>
      some ((b2, ()), ((), (), jT1, ()), (jA2, jB2, jC2, jD2, jE2, jF2, jG2, jH2, jI2, jJ2, jK2, jL2, jM2, jN2, jO4, jO5, jP4, jP5, jQ2, ()), ())
namespace fB37
def fn (N : Nat) : Sh.den ins → Option (Sh.den outs) := fun ((((a, _), _, b, _), _), ((c, d, e, f, g, h, i, j, k, l, m, o, p, q, r, s, t, u, v, _), _), _) => fB37.run N a b c d e f g h i j k l m o p q r s t u v
def S (N : Nat) : Fs := ⟨ins, outs, fn N⟩
def lam (N : Nat) : Pcs := pcs []
theorem pok (N : Nat) : (lam N).Ok Tryz.prog (C N) code := pcsOk_nil
theorem ok (N : Nat) : (S N).con.Ok Tryz.prog 63 := okF (F := S N) [] Tryz.func63 (by kernel_rfl) (by rfl) mix (cok N) (pok N) fun _ => by kernel_rfl
end fB37
namespace fC10
def ins : Sh := (.cons (.box 47 s5) (.cons (.rbox 3 (.cons (.val (.int .i64)) .nil)) (.cons (.val (.int .i64)) .nil)))
def C (N : Nat) : Ctx := ⟨U, 41, fun _ => true, gam [(61, (fA4.S N).con), (34, (fA0.S N).con)], gamY []⟩
theorem cok (N : Nat) : (C N).Ok Tryz.prog := ⟨U_ok, GamOk.cons (fA4.ok N) (GamOk.cons (fA0.ok N) (GamOk.nil)), GamYOk.nil⟩
def code : Code := Tryz.f32.body.getD .skip
def outs : Sh := s8
end fC10
def fC10.run (N : Nat) (b : (List UInt8)) (jT : Bool) (n_ : Int) (most : Int) : Option T9 :=
  obind (fA4.run N b (Hay.u8 (IntKind.u8.wrap n_))) fun ((b1, _), _) =>
    bif decide (n_ ≥ (0 : Int)) then
      obind (fA0.run N b1 jT (decide (n_ ≤ most))) fun ((_, _), (_, _, jT1, _), _) =>
        some ((b1, ()), ((), (), jT1, ()), ())
    else
      obind (fA0.run N b1 jT false) fun ((_, _), (_, _, jT2, _), _) =>
        some ((b1, ()), ((), (), jT2, ()), ())
namespace fC10
def fn (N : Nat) : Sh.den ins → Option (Sh.den outs) := fun (((a, _), _, b, _), (c, _), d, _) => fC10.run N a b c d
def S (N : Nat) : Fs := ⟨ins, outs, fn N⟩
def lam (N : Nat) : Pcs := pcs []
theorem pok (N : Nat) : (lam N).Ok Tryz.prog (C N) code := pcsOk_nil
theorem ok (N : Nat) : (S N).con.Ok Tryz.prog 32 := okF (F := S N) [] Tryz.func32 (by kernel_rfl) (by rfl) mix (cok N) (pok N) fun _ => by kernel_rfl
end fC10
namespace fB64
def ins : Sh := (.cons (.box 47 s5) (.cons (.bxo 11 31 s7) .nil))
def C (N : Nat) : Ctx := ⟨U, 14, fun _ => true, gam [(32, (fC10.S N).con)], gamY []⟩
theorem cok (N : Nat) : (C N).Ok Tryz.prog := ⟨U_ok, GamOk.cons (fC10.ok N) (GamOk.nil), GamYOk.nil⟩
def code : Code := Tryz.f68.body.getD .skip
def outs : Sh := s9
end fB64
def fB64.run (N : Nat) (b : (List UInt8)) (jT : Bool) (jA : Int) (jB_ : Int) (jC_ : Int) (jD : Int) (jE : Int) (jF : Int) (jG : Int) (jH : Int) (jI : Int) (jJ : Int) (jK : Int) (jL : Bool) (jM : Bool) (jN : Bool) (jO_ : Int) (jO1 : Int) (jP : (List T7)) (jP1 : (List T8)) (jQ : (List T6)) : Option T11 :=
  bif jL then
    obind (fC10.run N b jT (1 : Int) (1 : Int)) fun ((b1, _), (_, _, jT1, _), _) =>
      some ((b1, ()), ((), (), jT1, ()), (jA, jB_, jC_, jD, jE, jF, jG, jH, jI, jJ, jK, true, jM, jN, jO_, jO1, jP, jP1, jQ, ()), ())
  else
    obind (fC10.run N b jT (0 : Int) (1 : Int)) fun ((b2, _), (_, _, jT2, _), _) =>
      some ((b2, ()), ((), (), jT2, ()), (jA, jB_, jC_, jD, jE, jF, jG, jH, jI, jJ, jK, false, jM, jN, jO_, jO1, jP, jP1, jQ, ()), ())
namespace fB64
def fn (N : Nat) : Sh.den ins → Option (Sh.den outs) := fun (((a, _), _, b, _), (c, d, e, f, g, h, i, j, k, l, m, o, p, q, r, s, t, u, v, _), _) => fB64.run N a b c d e f g h i j k l m o p q r s t u v
def S (N : Nat) : Fs := ⟨ins, outs, fn N⟩
def lam (N : Nat) : Pcs := pcs []
theorem pok (N : Nat) : (lam N).Ok Tryz.prog (C N) code := pcsOk_nil
theorem ok (N : Nat) : (S N).con.Ok Tryz.prog 68 := okF (F := S N) [] Tryz.func68 (by kernel_rfl) (by rfl) mix (cok N) (pok N) fun _ => by kernel_rfl
end fB64
namespace fC36
def ins : Sh := s34
def C (N : Nat) : Ctx := ⟨U, 12, fun _ => true, gam [(67, (fC22.S N).con), (68, (fB64.S N).con)], gamY []⟩
theorem cok (N : Nat) : (C N).Ok Tryz.prog := ⟨U_ok, GamOk.cons (fC22.ok N) (GamOk.cons (fB64.ok N) (GamOk.nil)), GamYOk.nil⟩
def code : Code := Tryz.f66.body.getD .skip
def outs : Sh := s35
end fC36
def fC36.run (N : Nat) (b : (List UInt8)) (jT : Bool) (jA : Int) (jB_ : Int) (jC_ : Int) (jD : Int) (jE : Int) (jF : Int) (jG : Int) (jH : Int) (jI : Int) (jJ : Int) (jK : Int) (jL : Bool) (jM : Bool) (jN : Bool) (jO_ : Int) (jO1 : Int) (jP : (List T7)) (jP1 : (List T8)) (jQ : (List T6)) : Option T11 :=
  obind (fC22.run N b jT jA jB_ jC_ jD jE jF jG jH jI jJ jK jL jM jN jO_ jO1 jP jP1 jQ) fun ((b1, _), (jA1, jB1, jC1, jD1, jE1, jF1, jG1, jH1, jI1, jJ1, jK1, jL1, jM1, jN1, jO2, jO3, jP2, jP3, jQ1, _), _) =>
    obind (fB64.run N b1 jT jA1 jB1 jC1 jD1 jE1 jF1 jG1 jH1 jI1 jJ1 jK1 jL1 jM1 jN1 jO2 jO3 jP2 jP3 jQ1) fun ((b2, _), (_, _, jT1, _), (jA2, jB2, jC2, jD2, jE2, jF2, jG2, jH2, jI2, jJ2, jK2, jL2, jM2, jN2, jO4, jO5, jP4, jP5, jQ2, _), _) =>
      some ((b2, ()), ((), (), jT1, ()), (jA2, jB2, jC2, jD2, jE2, jF2, jG2, jH2, jI2, jJ2, jK2, jL2, jM2, jN2, jO4, jO5, jP4, jP5, jQ2, ()), ())
namespace fC36
def fn (N : Nat) : Sh.den ins → Option (Sh.den outs) := fun ((((a, _), _, b, _), _), ((c, d, e, f, g, h, i, j, k, l, m, o, p, q, r, s, t, u, v, _), _), _) => fC36.run N a b c d e f g h i j k l m o p q r s t u v
def S (N : Nat) : Fs := ⟨ins, outs, fn N⟩
def lam (N : Nat) : Pcs := pcs []
theorem pok (N : Nat) : (lam N).Ok Tryz.prog (C N) code := pcsOk_nil
theorem ok (N : Nat) : (S N).con.Ok Tryz.prog 66 := okF (F := S N) [] Tryz.func66 (by kernel_rfl) (by rfl) mix (cok N) (pok N) fun _ => by kernel_rfl
end fC36
namespace fB5
def ins : Sh := (.cons (.rbox 47 s5) (.cons (.bxo 5 31 s7) .nil))
def C (N : Nat) : Ctx := ⟨U, 24, fun _ => true, gam [(100, (fA2.S N).con)], gamY []⟩
theorem cok (N : Nat) : (C N).Ok Tryz.prog := ⟨U_ok, GamOk.cons (fA2.ok N) (GamOk.nil), GamYOk.nil⟩
def code : Code := Tryz.f67.body.getD .skip
def outs : Sh := s13
end fB5
def fB5.run (N : Nat) (b : (List UInt8)) (jT : Bool) (jA : Int) (jB_ : Int) (jC_ : Int) (jD : Int) (jE : Int) (jF : Int) (jG : Int) (jH : Int) (jI : Int) (jJ : Int) (jK : Int) (jL : Bool) (jM : Bool) (jN : Bool) (jO_ : Int) (jO1 : Int) (jP : (List T7)) (jP1 : (List T8)) (jQ : (List T6)) : Option T12 :=
  obind (fA2.run N b jF) fun ((b1, _), _) =>
    some ((b1, ()), (jA, jB_, jC_, jD, jE, jF, jG, jH, jI, jJ, jK, jL, jM, jN, jO_, jO1, jP, jP1, jQ, ()), ())
namespace fB5
def fn (N : Nat) : Sh.den ins → Option (Sh.den outs) := fun (((a, _), _, b, _), (c, d, e, f, g, h, i, j, k, l, m, o, p, q, r, s, t, u, v, _), _) => fB5.run N a b c d e f g h i j k l m o p q r s t u v
def S (N : Nat) : Fs := ⟨ins, outs, fn N⟩
def lam (N : Nat) : Pcs := pcs []
theorem pok (N : Nat) : (lam N).Ok Tryz.prog (C N) code := pcsOk_nil
theorem ok (N : Nat) : (S N).con.Ok Tryz.prog 67 := okF (F := S N) [] Tryz.func67 (by kernel_rfl) (by rfl) mix (cok N) (pok N) fun _ => by kernel_rfl
end fB5
namespace fB52
def ins : Sh := (.cons (.rbox 47 s5) (.cons (.els 1 2 (.cons (.bxo 5 31 s7) (.cons (.refo 3 3) .nil))) .nil))
def C (N : Nat) : Ctx := ⟨U, 16, fun _ => true, gam [(67, (((fC22.S N).con).or (fB5.S N).con))], gamY []⟩
theorem cok (N : Nat) : (C N).Ok Tryz.prog := ⟨U_ok, GamOk.cons (Con.or_ok (fC22.ok N) (fB5.ok N)) (GamOk.nil), GamYOk.nil⟩
def code : Code := Tryz.f64.body.getD .skip
def outs : Sh := s13
end fB52
def fB52.run (N : Nat) (b : (List UInt8)) (jT : Bool) (jA : Int) (jB_ : Int) (jC_ : Int) (jD : Int) (jE : Int) (jF : Int) (jG : Int) (jH : Int) (jI : Int) (jJ : Int) (jK : Int) (jL : Bool) (jM : Bool) (jN : Bool) (jO_ : Int) (jO1 : Int) (jP : (List T7)) (jP1 : (List T8)) (jQ : (List T6)) : Option T12 :=
  obind (fB5.run N b jT jA jB_ jC_ jD jE jF jG jH jI jJ jK jL jM jN jO_ jO1 jP jP1 jQ) fun ((b1, _), (jA1, jB1, jC1, jD1, jE1, jF1, jG1, jH1, jI1, jJ1, jK1, jL1, jM1, jN1, jO2, jO3, jP2, jP3, jQ1, _), _) =>
    obind (fC22.run N b1 jT jA1 jB1 jC1 jD1 jE1 jF1 jG1 jH1 jI1 jJ1 jK1 jL1 jM1 jN1 jO2 jO3 jP2 jP3 jQ1) fun ((b2, _), (jA2, jB2, jC2, jD2, jE2, jF2, jG2, jH2, jI2, jJ2, jK2, jL2, jM2, jN2, jO4, jO5, jP4, jP5, jQ2, _), _) =>
      some ((b2, ()), (jA2, jB2, jC2, jD2, jE2, jF2, jG2, jH2, jI2, jJ2, jK2, jL2, jM2, jN2, jO4, jO5, jP4, jP5, jQ2, ()), ())
namespace fB52
def fn (N : Nat) : Sh.den ins → Option (Sh.den outs) := fun (((a, _), _, b, _), ((c, d, e, f, g, h, i, j, k, l, m, o, p, q, r, s, t, u, v, _), _, _), _) => fB52.run N a b c d e f g h i j k l m o p q r s t u v
def S (N : Nat) : Fs := ⟨ins, outs, fn N⟩
def lam (N : Nat) : Pcs := pcs [([true, false], (Pc.unroll (C N) (loopBody (sub code [true, false])) (pcs []) 3))]
theorem pok (N : Nat) : (lam N).Ok Tryz.prog (C N) code := pcsOk_cons (c1 := .loop (loopBody (sub code [true, false]))) (by kernel_rfl) (unroll_ok (cok N) mix pcsOk_nil 3) (pcsOk_nil)
theorem ok (N : Nat) : (S N).con.Ok Tryz.prog 64 := okF (F := S N) [] Tryz.func64 (by kernel_rfl) (by rfl) mix (cok N) (pok N) fun _ => by kernel_rfl
end fB52
namespace fB35
def ins : Sh := s36
def C (N : Nat) : Ctx := ⟨U, 11, fun _ => true, gam [(64, (fB52.S N).con)], gamY []⟩
theorem cok (N : Nat) : (C N).Ok Tryz.prog := ⟨U_ok, GamOk.cons (fB52.ok N) (GamOk.nil), GamYOk.nil⟩
def code : Code := Tryz.f69.body.getD .skip
def outs : Sh := s37
end fB35
def fB35.run (N : Nat) (b : (List UInt8)) (jT : Bool) (jA : Int) (jB_ : Int) (jC_ : Int) (jD : Int) (jE : Int) (jF : Int) (jG : Int) (jH : Int) (jI : Int) (jJ : Int) (jK : Int) (jL : Bool) (jM : Bool) (jN : Bool) (jO_ : Int) (jO1 : Int) (jP : (List T7)) (jP1 : (List T8)) (jQ : (List T6)) : Option T12 :=
  obind (fB52.run N b jT jA jB_ jC_ jD jE jF jG jH jI jJ jK jL jM jN jO_ jO1 jP jP1 jQ) fun ((b1, _), (jA1, jB1, jC1, jD1, jE1, jF1, jG1, jH1, jI1, jJ1, jK1, jL1, jM1, jN1, jO2, jO3, jP2, jP3, jQ1, _), _) =>
    some ((b1, ()), (jA1, jB1, jC1, jD1, jE1, jF1, jG1, jH1, jI1, jJ1, jK1, jL1, jM1, jN1, jO2, jO3, jP2, jP3, jQ1, ()), ())
namespace fB35
def fn (N : Nat) : Sh.den ins → Option (Sh.den outs) := fun ((((a, _), _, b, _), _), ((c, d, e, f, g, h, i, j, k, l, m, o, p, q, r, s, t, u, v, _), _), _) => fB35.run N a b c d e f g h i j k l m o p q r s t u v
def S (N : Nat) : Fs := ⟨ins, outs, fn N⟩
def lam (N : Nat) : Pcs := pcs []
theorem pok (N : Nat) : (lam N).Ok Tryz.prog (C N) code := pcsOk_nil
theorem ok (N : Nat) : (S N).con.Ok Tryz.prog 69 := okF (F := S N) [] Tryz.func69 (by kernel_rfl) (by rfl) mix (cok N) (pok N) fun _ => by kernel_rfl
end fB35
namespace fA16
def ins : Sh := (.cons (.rbox 47 s5) (.cons (.bxo 7 31 s7) .nil))
def C (N : Nat) : Ctx := ⟨U, 24, fun _ => true, gam [(100, (fA2.S N).con)], gamY []⟩
theorem cok (N : Nat) : (C N).Ok Tryz.prog := ⟨U_ok, GamOk.cons (fA2.ok N) (GamOk.nil), GamYOk.nil⟩
def code : Code := Tryz.f67.body.getD .skip
def outs : Sh := s13
end fA16
def fA16.run (N : Nat) (b : (List UInt8)) (jT : Bool) (jA : Int) (jB_ : Int) (jC_ : Int) (jD : Int) (jE : Int) (jF : Int) (jG : Int) (jH : Int) (jI : Int) (jJ : Int) (jK : Int) (jL : Bool) (jM : Bool) (jN : Bool) (jO_ : Int) (jO1 : Int) (jP : (List T7)) (jP1 : (List T8)) (jQ : (List T6)) : Option T12 :=
  obind (fA2.run N b jH) fun ((b1, _), _) =>
    some ((b1, ()), (jA, jB_, jC_, jD, jE, jF, jG, jH, jI, jJ, jK, jL, jM, jN, jO_, jO1, jP, jP1, jQ, ()), ())
namespace fA16
def fn (N : Nat) : Sh.den ins → Option (Sh.den outs) := fun (((a, _), _, b, _), (c, d, e, f, g, h, i, j, k, l, m, o, p, q, r, s, t, u, v, _), _) => fA16.run N a b c d e f g h i j k l m o p q r s t u v
def S (N : Nat) : Fs := ⟨ins, outs, fn N⟩
def lam (N : Nat) : Pcs := pcs []
theorem pok (N : Nat) : (lam N).Ok Tryz.prog (C N) code := pcsOk_nil
theorem ok (N : Nat) : (S N).con.Ok Tryz.prog 67 := okF (F := S N) [] Tryz.func67 (by kernel_rfl) (by rfl) mix (cok N) (pok N) fun _ => by kernel_rfl
end fA16
namespace fC51
def ins : Sh := (.cons (.rbox 47 s5) (.cons (.els 1 2 (.cons (.bxo 5 31 s7) (.cons (.refo 3 7) .nil))) .nil))
def C (N : Nat) : Ctx := ⟨U, 16, fun _ => true, gam [(67, (((fB5.S N).con).or (fA16.S N).con))], gamY []⟩
theorem cok (N : Nat) : (C N).Ok Tryz.prog := ⟨U_ok, GamOk.cons (Con.or_ok (fB5.ok N) (fA16.ok N)) (GamOk.nil), GamYOk.nil⟩
def code : Code := Tryz.f64.body.getD .skip
def outs : Sh := s13
end fC51
def fC51.run (N : Nat) (b : (List UInt8)) (jT : Bool) (jA : Int) (jB_ : Int) (jC_ : Int) (jD : Int) (jE : Int) (jF : Int) (jG : Int) (jH : Int) (jI : Int) (jJ : Int) (jK : Int) (jL : Bool) (jM : Bool) (jN : Bool) (jO_ : Int) (jO1 : Int) (jP : (List T7)) (jP1 : (List T8)) (jQ : (List T6)) : Option T12 :=
  obind (fB5.run N b jT jA jB_ jC_ jD jE jF jG jH jI jJ jK jL jM jN jO_ jO1 jP jP1 jQ) fun ((b1, _), (jA1, jB1, jC1, jD1, jE1, jF1, jG1, jH1, jI1, jJ1, jK1, jL1, jM1, jN1, jO2, jO3, jP2, jP3, jQ1, _), _) =>
    obind (fA16.run N b1 jT jA1 jB1 jC1 jD1 jE1 jF1 jG1 jH1 jI1 jJ1 jK1 jL1 jM1 jN1 jO2 jO3 jP2 jP3 jQ1) fun ((b2, _), (jA2, jB2, jC2, jD2, jE2, jF2, jG2, jH2, jI2, jJ2, jK2, jL2, jM2, jN2, jO4, jO5, jP4, jP5, jQ2, _), _) =>
      some ((b2, ()), (jA2, jB2, jC2, jD2, jE2, jF2, jG2, jH2, jI2, jJ2, jK2, jL2, jM2, jN2, jO4, jO5, jP4, jP5, jQ2, ()), ())
namespace fC51
def fn (N : Nat) : Sh.den ins → Option (Sh.den outs) := fun (((a, _), _, b, _), ((c, d, e, f, g, h, i, j, k, l, m, o, p, q, r, s, t, u, v, _), _, _), _) => fC51.run N a b c d e f g h i j k l m o p q r s t u v
def S (N : Nat) : Fs := ⟨ins, outs, fn N⟩
def lam (N : Nat) : Pcs := pcs [([true, false], (Pc.unroll (C N) (loopBody (sub code [true, false])) (pcs []) 3))]
theorem pok (N : Nat) : (lam N).Ok Tryz.prog (C N) code := pcsOk_cons (c1 := .loop (loopBody (sub code [true, false]))) (by kernel_rfl) (unroll_ok (cok N) mix pcsOk_nil 3) (pcsOk_nil)
theorem ok (N : Nat) : (S N).con.Ok Tryz.prog 64 := okF (F := S N) [] Tryz.func64 (by kernel_rfl) (by rfl) mix (cok N) (pok N) fun _ => by kernel_rfl
end fC51
namespace fD35
def ins : Sh := s36
def C (N : Nat) : Ctx := ⟨U, 11, fun _ => true, gam [(64, (fC51.S N).con)], gamY []⟩
theorem cok (N : Nat) : (C N).Ok Tryz.prog := ⟨U_ok, GamOk.cons (fC51.ok N) (GamOk.nil), GamYOk.nil⟩
def code : Code := Tryz.f70.body.getD .skip
def outs : Sh := s37
end fD35
def fD35.run (N : Nat) (b : (List UInt8)) (jT : Bool) (jA : Int) (jB_ : Int) (jC_ : Int) (jD : Int) (jE : Int) (jF : Int) (jG : Int) (jH : Int) (jI : Int) (jJ : Int) (jK : Int) (jL : Bool) (jM : Bool) (jN : Bool) (jO_ : Int) (jO1 : Int) (jP : (List T7)) (jP1 : (List T8)) (jQ : (List T6)) : Option T12 :=
  obind (fC51.run N b jT jA jB_ jC_ jD jE jF jG jH jI jJ jK jL jM jN jO_ jO1 jP jP1 jQ) fun ((b1, _), (jA1, jB1, jC1, jD1, jE1, jF1, jG1, jH1, jI1, jJ1, jK1, jL1, jM1, jN1, jO2, jO3, jP2, jP3, jQ1, _), _) =>
    some ((b1, ()), (jA1, jB1, jC1, jD1, jE1, jF1, jG1, jH1, jI1, jJ1, jK1, jL1, jM1, jN1, jO2, jO3, jP2, jP3, jQ1, ()), ())
namespace fD35
def fn (N : Nat) : Sh.den ins → Option (Sh.den outs) := fun ((((a, _), _, b, _), _), ((c, d, e, f, g, h, i, j, k, l, m, o, p, q, r, s, t, u, v, _), _), _) => fD35.run N a b c d e f g h i j k l m o p q r s t u v
def S (N : Nat) : Fs := ⟨ins, outs, fn N⟩
def lam (N : Nat) : Pcs := pcs []
theorem pok (N : Nat) : (lam N).Ok Tryz.prog (C N) code := pcsOk_nil
theorem ok (N : Nat) : (S N).con.Ok Tryz.prog 70 := okF (F := S N) [] Tryz.func70 (by kernel_rfl) (by rfl) mix (cok N) (pok N) fun _ => by kernel_rfl
end fD35
namespace fB16
def ins : Sh := (.cons (.rbox 47 s5) (.cons (.bxo 8 31 s7) .nil))
def C (N : Nat) : Ctx := ⟨U, 24, fun _ => true, gam [(100, (fA2.S N).con)], gamY []⟩
theorem cok (N : Nat) : (C N).Ok Tryz.prog := ⟨U_ok, GamOk.cons (fA2.ok N) (GamOk.nil), GamYOk.nil⟩
def code : Code := Tryz.f67.body.getD .skip
def outs : Sh := s13
end fB16
def fB16.run (N : Nat) (b : (List UInt8)) (jT : Bool) (jA : Int) (jB_ : Int) (jC_ : Int) (jD : Int) (jE : Int) (jF : Int) (jG : Int) (jH : Int) (jI : Int) (jJ : Int) (jK : Int) (jL : Bool) (jM : Bool) (jN : Bool) (jO_ : Int) (jO1 : Int) (jP : (List T7)) (jP1 : (List T8)) (jQ : (List T6)) : Option T12 :=
  obind (fA2.run N b jI) fun ((b1, _), _) =>
    some ((b1, ()), (jA, jB_, jC_, jD, jE, jF, jG, jH, jI, jJ, jK, jL, jM, jN, jO_, jO1, jP, jP1, jQ, ()), ())
namespace fB16
def fn (N : Nat) : Sh.den ins → Option (Sh.den outs) := fun (((a, _), _, b, _), (c, d, e, f, g, h, i, j, k, l, m, o, p, q, r, s, t, u, v, _), _) => fB16.run N a b c d e f g h i j k l m o p q r s t u v
def S (N : Nat) : Fs := ⟨ins, outs, fn N⟩
def lam (N : Nat) : Pcs := pcs []
theorem pok (N : Nat) : (lam N).Ok Tryz.prog (C N) code := pcsOk_nil
theorem ok (N : Nat) : (S N).con.Ok Tryz.prog 67 := okF (F := S N) [] Tryz.func67 (by kernel_rfl) (by rfl) mix (cok N) (pok N) fun _ => by kernel_rfl
end fB16
namespace fD26
def ins : Sh := (.cons (.rbox 47 s5) (.cons (.els 1 2 (.cons (.bxo 8 31 s7) (.cons (.refo 3 5) .nil))) .nil))
def C (N : Nat) : Ctx := ⟨U, 16, fun _ => true, gam [(67, (((fB5.S N).con).or (fB16.S N).con))], gamY []⟩
theorem cok (N : Nat) : (C N).Ok Tryz.prog := ⟨U_ok, GamOk.cons (Con.or_ok (fB5.ok N) (fB16.ok N)) (GamOk.nil), GamYOk.nil⟩
def code : Code := Tryz.f64.body.getD .skip
def outs : Sh := s13
end fD26
def fD26.run (N : Nat) (b : (List UInt8)) (jT : Bool) (jA : Int) (jB_ : Int) (jC_ : Int) (jD : Int) (jE : Int) (jF : Int) (jG : Int) (jH : Int) (jI : Int) (jJ : Int) (jK : Int) (jL : Bool) (jM : Bool) (jN : Bool) (jO_ : Int) (jO1 : Int) (jP : (List T7)) (jP1 : (List T8)) (jQ : (List T6)) : Option T12 :=
  obind (fB16.run N b jT jA jB_ jC_ jD jE jF jG jH jI jJ jK jL jM jN jO_ jO1 jP jP1 jQ) fun ((b1, _), (jA1, jB1, jC1, jD1, jE1, jF1, jG1, jH1, jI1, jJ1, jK1, jL1, jM1, jN1, jO2, jO3, jP2, jP3, jQ1, _), _) =>
    obind (fB5.run N b1 jT jA1 jB1 jC1 jD1 jE1 jF1 jG1 jH1 jI1 jJ1 jK1 jL1 jM1 jN1 jO2 jO3 jP2 jP3 jQ1) fun ((b2, _), (jA2, jB2, jC2, jD2, jE2, jF2, jG2, jH2, jI2, jJ2, jK2, jL2, jM2, jN2, jO4, jO5, jP4, jP5, jQ2, _), _) =>
      some ((b2, ()), (jA2, jB2, jC2, jD2, jE2, jF2, jG2, jH2, jI2, jJ2, jK2, jL2, jM2, jN2, jO4, jO5, jP4, jP5, jQ2, ()), ())
namespace fD26
def fn (N : Nat) : Sh.den ins → Option (Sh.den outs) := fun (((a, _), _, b, _), ((c, d, e, f, g, h, i, j, k, l, m, o, p, q, r, s, t, u, v, _), _, _), _) => fD26.run N a b c d e f g h i j k l m o p q r s t u v
def S (N : Nat) : Fs := ⟨ins, outs, fn N⟩
def lam (N : Nat) : Pcs := pcs [([true, false], (Pc.unroll (C N) (loopBody (sub code [true, false])) (pcs []) 3))]
theorem pok (N : Nat) : (lam N).Ok Tryz.prog (C N) code := pcsOk_cons (c1 := .loop (loopBody (sub code [true, false]))) (by kernel_rfl) (unroll_ok (cok N) mix pcsOk_nil 3) (pcsOk_nil)
theorem ok (N : Nat) : (S N).con.Ok Tryz.prog 64 := okF (F := S N) [] Tryz.func64 (by kernel_rfl) (by rfl) mix (cok N) (pok N) fun _ => by kernel_rfl
end fD26
namespace fC52
def ins : Sh := s38
def C (N : Nat) : Ctx := ⟨U, 38, fun _ => true, gam [(34, (fA0.S N).con), (110, (fB1.S N).con)], gamY []⟩
theorem cok (N : Nat) : (C N).Ok Tryz.prog := ⟨U_ok, GamOk.cons (fA0.ok N) (GamOk.cons (fB1.ok N) (GamOk.nil)), GamYOk.nil⟩
def code : Code := Tryz.f102.body.getD .skip
def outs : Sh := s9
end fC52
def fC52.run (N : Nat) (b : (List UInt8)) (jT : Bool) (jA : Int) (jB_ : Int) (jC_ : Int) (jD : Int) (jE : Int) (jF : Int) (jG : Int) (jH : Int) (jI : Int) (jJ : Int) (jK : Int) (jL : Bool) (jM : Bool) (jN : Bool) (jO_ : Int) (jO1 : Int) (jP : (List T7)) (jP1 : (List T8)) (jQ : (List T6)) : Option T11 :=
  bif decide (jO_ ≥ (0 : Int)) then
    obind (fA0.run N b jT (decide (jO_ ≤ (2147483647 : Int)))) fun ((_, _), (_, _, jT1, _), _) =>
      obind (fB1.run N b (IntKind.u64.wrap jO_)) fun ((b1, _), _) =>
        some ((b1, ()), ((), (), jT1, ()), (jA, jB_, jC_, jD, jE, jF, jG, jH, jI, jJ, jK, jL, jM, jN, jO_, jO1, jP, jP1, jQ, ()), ())
  else
    obind (fA0.run N b jT false) fun ((_, _), (_, _, jT2, _), _) =>
      obind (fB1.run N b (IntKind.u64.wrap jO_)) fun ((b2, _), _) =>
        some ((b2, ()), ((), (), jT2, ()), (jA, jB_, jC_, jD, jE, jF, jG, jH, jI, jJ, jK, jL, jM, jN, jO_, jO1, jP, jP1, jQ, ()), ())
namespace fC52
def fn (N : Nat) : Sh.den ins → Option (Sh.den outs) := fun (((a, _), _, b, _), (c, d, e, f, g, h, i, j, k, l, m, o, p, q, r, s, t, u, v, _), _) => fC52.run N a b c d e f g h i j k l m o p q r s t u v
def S (N : Nat) : Fs := ⟨ins, outs, fn N⟩
def lam (N : Nat) : Pcs := pcs []
theorem pok (N : Nat) : (lam N).Ok Tryz.prog (C N) code := pcsOk_nil
theorem ok (N : Nat) : (S N).con.Ok Tryz.prog 102 := okF (F := S N) [] Tryz.func102 (by kernel_rfl) (by rfl) mix (cok N) (pok N) fun _ => by kernel_rfl
end fC52
namespace fA50
def ins : Sh := (.cons (.box 47 s5) (.cons (.bxo 15 31 s7) .nil))
def C (N : Nat) : Ctx := ⟨U, 38, fun _ => true, gam [(34, (fA0.S N).con), (110, (fB1.S N).con)], gamY []⟩
theorem cok (N : Nat) : (C N).Ok Tryz.prog := ⟨U_ok, GamOk.cons (fA0.ok N) (GamOk.cons (fB1.ok N) (GamOk.nil)), GamYOk.nil⟩
def code : Code := Tryz.f102.body.getD .skip
def outs : Sh := s9
end fA50
def fA50.run (N : Nat) (b : (List UInt8)) (jT : Bool) (jA : Int) (jB_ : Int) (jC_ : Int) (jD : Int) (jE : Int) (jF : Int) (jG : Int) (jH : Int) (jI : Int) (jJ : Int) (jK : Int) (jL : Bool) (jM : Bool) (jN : Bool) (jO_ : Int) (jO1 : Int) (jP : (List T7)) (jP1 : (List T8)) (jQ : (List T6)) : Option T11 :=
  bif decide (jO1 ≥ (0 : Int)) then
    obind (fA0.run N b jT (decide (jO1 ≤ (2147483647 : Int)))) fun ((_, _), (_, _, jT1, _), _) =>
      obind (fB1.run N b (IntKind.u64.wrap jO1)) fun ((b1, _), _) =>
        some ((b1, ()), ((), (), jT1, ()), (jA, jB_, jC_, jD, jE, jF, jG, jH, jI, jJ, jK, jL, jM, jN, jO_, jO1, jP, jP1, jQ, ()), ())
  else
    obind (fA0.run N b jT false) fun ((_, _), (_, _, jT2, _), _) =>
      obind (fB1.run N b (IntKind.u64.wrap jO1)) fun ((b2, _), _) =>
        some ((b2, ()), ((), (), jT2, ()), (jA, jB_, jC_, jD, jE, jF, jG, jH, jI, jJ, jK, jL, jM, jN, jO_, jO1, jP, jP1, jQ, ()), ())
namespace fA50
def fn (N : Nat) : Sh.den ins → Option (Sh.den outs) := fun (((a, _), _, b, _), (c, d, e, f, g, h, i, j, k, l, m, o, p, q, r, s, t, u, v, _), _) => fA50.run N a b c d e f g h i j k l m o p q r s t u v
def S (N : Nat) : Fs := ⟨ins, outs, fn N⟩
def lam (N : Nat) : Pcs := pcs []
theorem pok (N : Nat) : (lam N).Ok Tryz.prog (C N) code := pcsOk_nil
theorem ok (N : Nat) : (S N).con.Ok Tryz.prog 102 := okF (F := S N) [] Tryz.func102 (by kernel_rfl) (by rfl) mix (cok N) (pok N) fun _ => by kernel_rfl
end fA50
namespace fC7
def ins : Sh := s38
def C (N : Nat) : Ctx := ⟨U, 14, fun _ => true, gam [(102, (((fC52.S N).con).or (fA50.S N).con))], gamY []⟩
theorem cok (N : Nat) : (C N).Ok Tryz.prog := ⟨U_ok, GamOk.cons (Con.or_ok (fC52.ok N) (fA50.ok N)) (GamOk.nil), GamYOk.nil⟩
def code : Code := Tryz.f72.body.getD .skip
def outs : Sh := s9
end fC7
def fC7.run (N : Nat) (b : (List UInt8)) (jT : Bool) (jA : Int) (jB_ : Int) (jC_ : Int) (jD : Int) (jE : Int) (jF : Int) (jG : Int) (jH : Int) (jI : Int) (jJ : Int) (jK : Int) (jL : Bool) (jM : Bool) (jN : Bool) (jO_ : Int) (jO1 : Int) (jP : (List T7)) (jP1 : (List T8)) (jQ : (List T6)) : Option T11 :=
  obind (fC52.run N b jT jA jB_ jC_ jD jE jF jG jH jI jJ jK jL jM jN jO_ jO1 jP jP1 jQ) fun ((b1, _), (_, _, jT1, _), (jA1, jB1, jC1, jD1, jE1, jF1, jG1, jH1, jI1, jJ1, jK1, jL1, jM1, jN1, jO2, jO3, jP2, jP3, jQ1, _), _) =>
    obind (fA50.run N b1 jT1 jA1 jB1 jC1 jD1 jE1 jF1 jG1 jH1 jI1 jJ1 jK1 jL1 jM1 jN1 jO2 jO3 jP2 jP3 jQ1) fun ((b2, _), (_, _, jT2, _), (jA2, jB2, jC2, jD2, jE2, jF2, jG2, jH2, jI2, jJ2, jK2, jL2, jM2, jN2, jO4, jO5, jP4, jP5, jQ2, _), _) =>
      some ((b2, ()), ((), (), jT2, ()), (jA2, jB2, jC2, jD2, jE2, jF2, jG2, jH2, jI2, jJ2, jK2, jL2, jM2, jN2, jO4, jO5, jP4, jP5, jQ2, ()), ())
namespace fC7
def fn (N : Nat) : Sh.den ins → Option (Sh.den outs) := fun (((a, _), _, b, _), (c, d, e, f, g, h, i, j, k, l, m, o, p, q, r, s, t, u, v, _), _) => fC7.run N a b c d e f g h i j k l m o p q r s t u v
def S (N : Nat) : Fs := ⟨ins, outs, fn N⟩
def lam (N : Nat) : Pcs := pcs []
theorem pok (N : Nat) : (lam N).Ok Tryz.prog (C N) code := pcsOk_nil
theorem ok (N : Nat) : (S N).con.Ok Tryz.prog 72 := okF (F := S N) [] Tryz.func72 (by kernel_rfl) (by rfl) mix (cok N) (pok N) fun _ => by kernel_rfl
end fC7
namespace fB36
def ins : Sh := s34
def C (N : Nat) : Ctx := ⟨U, 16, fun _ => true, gam [(64, (fD26.S N).con), (72, (fC7.S N).con)], gamY []⟩
theorem cok (N : Nat) : (C N).Ok Tryz.prog := ⟨U_ok, GamOk.cons (fD26.ok N) (GamOk.cons (fC7.ok N) (GamOk.nil)), GamYOk.nil⟩
def code : Code := Tryz.f71.body.getD .skip
def outs : Sh := s35
end fB36
def fB36.run (N : Nat) (b : (List UInt8)) (jT : Bool) (jA : Int) (jB_ : Int) (jC_ : Int) (jD : Int) (jE : Int) (jF : Int) (jG : Int) (jH : Int) (jI : Int) (jJ : Int) (jK : Int) (jL : Bool) (jM : Bool) (jN : Bool) (jO_ : Int) (jO1 : Int) (jP : (List T7)) (jP1 : (List T8)) (jQ : (List T6)) : Option T11 :=
  obind (fD26.run N b jT jA jB_ jC_ jD jE jF jG jH jI jJ jK jL jM jN jO_ jO1 jP jP1 jQ) fun ((b1, _), (jA1, jB1, jC1, jD1, jE1, jF1, jG1, jH1, jI1, jJ1, jK1, jL1, jM1, jN1, jO2, jO3, jP2, jP3, jQ1, _), _) =>
    obind (fC7.run N b1 jT jA1 jB1 jC1 jD1 jE1 jF1 jG1 jH1 jI1 jJ1 jK1 jL1 jM1 jN1 jO2 jO3 jP2 jP3 jQ1) fun ((b2, _), (_, _, jT1, _), (jA2, jB2, jC2, jD2, jE2, jF2, jG2, jH2, jI2, jJ2, jK2, jL2, jM2, jN2, jO4, jO5, jP4, jP5, jQ2, _), _) =>
      some ((b2, ()), ((), (), jT1, ()), (jA2, jB2, jC2, jD2, jE2, jF2, jG2, jH2, jI2, jJ2, jK2, jL2, jM2, jN2, jO4, jO5, jP4, jP5, jQ2, ()), ())
namespace fB36
def fn (N : Nat) : Sh.den ins → Option (Sh.den outs) := fun ((((a, _), _, b, _), _), ((c, d, e, f, g, h, i, j, k, l, m, o, p, q, r, s, t, u, v, _), _), _) => fB36.run N a b c d e f g h i j k l m o p q r s t u v
def S (N : Nat) : Fs := ⟨ins, outs, fn N⟩
def lam (N : Nat) : Pcs := pcs []
theorem pok (N : Nat) : (lam N).Ok Tryz.prog (C N) code := pcsOk_nil
theorem ok (N : Nat) : (S N).con.Ok Tryz.prog 71 := okF (F := S N) [] Tryz.func71 (by kernel_rfl) (by rfl) mix (cok N) (pok N) fun _ => by kernel_rfl
end fB36
namespace fA52
def ins : Sh := (.cons (.box 47 s5) (.cons (.bxo 12 31 s7) .nil))
def C (N : Nat) : Ctx := ⟨U, 14, fun _ => true, gam [(32, (fC10.S N).con)], gamY []⟩
theorem cok (N : Nat) : (C N).Ok Tryz.prog := ⟨U_ok, GamOk.cons (fC10.ok N) (GamOk.nil), GamYOk.nil⟩
def code : Code := Tryz.f68.body.getD .skip
def outs : Sh := s9
end fA52
def fA52.run (N : Nat) (b : (List UInt8)) (jT : Bool) (jA : Int) (jB_ : Int) (jC_ : Int) (jD : Int) (jE : Int) (jF : Int) (jG : Int) (jH : Int) (jI : Int) (jJ : Int) (jK : Int) (jL : Bool) (jM : Bool) (jN : Bool) (jO_ : Int) (jO1 : Int) (jP : (List T7)) (jP1 : (List T8)) (jQ : (List T6)) : Option T11 :=
  bif jM then
    obind (fC10.run N b jT (1 : Int) (1 : Int)) fun ((b1, _), (_, _, jT1, _), _) =>
      some ((b1, ()), ((), (), jT1, ()), (jA, jB_, jC_, jD, jE, jF, jG, jH, jI, jJ, jK, jL, true, jN, jO_, jO1, jP, jP1, jQ, ()), ())
  else
    obind (fC10.run N b jT (0 : Int) (1 : Int)) fun ((b2, _), (_, _, jT2, _), _) =>
      some ((b2, ()), ((), (), jT2, ()), (jA, jB_, jC_, jD, jE, jF, jG, jH, jI, jJ, jK, jL, false, jN, jO_, jO1, jP, jP1, jQ, ()), ())
namespace fA52
def fn (N : Nat) : Sh.den ins → Option (Sh.den outs) := fun (((a, _), _, b, _), (c, d, e, f, g, h, i, j, k, l, m, o, p, q, r, s, t, u, v, _), _) => fA52.run N a b c d e f g h i j k l m o p q r s t u v
def S (N : Nat) : Fs := ⟨ins, outs, fn N⟩
def lam (N : Nat) : Pcs := pcs []
theorem pok (N : Nat) : (lam N).Ok Tryz.prog (C N) code := pcsOk_nil
theorem ok (N : Nat) : (S N).con.Ok Tryz.prog 68 := okF (F := S N) [] Tryz.func68 (by kernel_rfl) (by rfl) mix (cok N) (pok N) fun _ => by kernel_rfl
end fA52
namespace fA57
def ins : Sh := (.cons (.rbox 47 s5) (.cons (.rbox 93 s14) .nil))
def C (N : Nat) : Ctx := ⟨U, 24, fun _ => true, gam [(100, (fA2.S N).con)], gamY []⟩
theorem cok (N : Nat) : (C N).Ok Tryz.prog := ⟨U_ok, GamOk.cons (fA2.ok N) (GamOk.nil), GamYOk.nil⟩
def code : Code := Tryz.f67.body.getD .skip
def outs : Sh := (.cons (.upd 1 75 (.cons (.own 5 .byte) .nil)) .nil)
end fA57
def fA57.run (N : Nat) (b : (List UInt8)) (jT : Bool) (id_ : Int) (id1 : Int) (row : (List T4)) (jU : Int) : Option (T0 × Unit) :=
  obind (fA2.run N b id_) fun ((b1, _), _) =>
    some ((b1, ()), ())
namespace fA57
def fn (N : Nat) : Sh.den ins → Option (Sh.den outs) := fun (((a, _), _, b, _), (c, d, e, f, _), _) => fA57.run N a b c d e f
def S (N : Nat) : Fs := ⟨ins, outs, fn N⟩
def lam (N : Nat) : Pcs := pcs []
theorem pok (N : Nat) : (lam N).Ok Tryz.prog (C N) code := pcsOk_nil
theorem ok (N : Nat) : (S N).con.Ok Tryz.prog 67 := okF (F := S N) [] Tryz.func67 (by kernel_rfl) (by rfl) mix (cok N) (pok N) fun _ => by kernel_rfl
end fA57
namespace fB60
def ins : Sh := (.cons (.rbox 47 s5) (.cons (.bxo 1 93 s14) .nil))
def C (N : Nat) : Ctx := ⟨U, 24, fun _ => true, gam [(37, (fD7.S N).con)], gamY []⟩
theorem cok (N : Nat) : (C N).Ok Tryz.prog := ⟨U_ok, GamOk.cons (fD7.ok N) (GamOk.nil), GamYOk.nil⟩
def code : Code := Tryz.f113.body.getD .skip
def outs : Sh := s39
end fB60
def fB60.run (N : Nat) (b : (List UInt8)) (jT : Bool) (id_ : Int) (id1 : Int) (row : (List T4)) (jU : Int) : Option T22 :=
  obind (fD7.run N b id1) fun ((b1, _), _) =>
    some ((b1, ()), (id_, id1, row, jU, ()), ())
namespace fB60
def fn (N : Nat) : Sh.den ins → Option (Sh.den outs) := fun (((a, _), _, b, _), (c, d, e, f, _), _) => fB60.run N a b c d e f
def S (N : Nat) : Fs := ⟨ins, outs, fn N⟩
def lam (N : Nat) : Pcs := pcs []
theorem pok (N : Nat) : (lam N).Ok Tryz.prog (C N) code := pcsOk_nil
theorem ok (N : Nat) : (S N).con.Ok Tryz.prog 113 := okF (F := S N) [] Tryz.func113 (by kernel_rfl) (by rfl) mix (cok N) (pok N) fun _ => by kernel_rfl
end fB60
namespace fC60
def ins : Sh := (.cons (.rbox 47 s5) (.cons (.box 93 s14) .nil))
def C (N : Nat) : Ctx := ⟨U, 14, fun _ => true, gam [(67, (fA57.S N).con), (113, (fB60.S N).con)], gamY []⟩
theorem cok (N : Nat) : (C N).Ok Tryz.prog := ⟨U_ok, GamOk.cons (fA57.ok N) (GamOk.cons (fB60.ok N) (GamOk.nil)), GamYOk.nil⟩
def code : Code := Tryz.f115.body.getD .skip
def outs : Sh := s39
end fC60
def fC60.run (N : Nat) (b : (List UInt8)) (jT : Bool) (id_ : Int) (id1 : Int) (row : (List T4)) (jU : Int) : Option T22 :=
  obind (fA57.run N b jT id_ id1 row jU) fun ((b1, _), _) =>
    obind (fB60.run N b1 jT id_ id1 row jU) fun ((b2, _), (id2, id3, row1, jU1, _), _) =>
      some ((b2, ()), (id2, id3, row1, jU1, ()), ())
namespace fC60
def fn (N : Nat) : Sh.den ins → Option (Sh.den outs) := fun (((a, _), _, b, _), (c, d, e, f, _), _) => fC60.run N a b c d e f
def S (N : Nat) : Fs := ⟨ins, outs, fn N⟩
def lam (N : Nat) : Pcs := pcs []
theorem pok (N : Nat) : (lam N).Ok Tryz.prog (C N) code := pcsOk_nil
theorem ok (N : Nat) : (S N).con.Ok Tryz.prog 115 := okF (F := S N) [] Tryz.func115 (by kernel_rfl) (by rfl) mix (cok N) (pok N) fun _ => by kernel_rfl
end fC60
namespace fD64
def ins : Sh := (.cons (.box 47 s5) (.cons (.bxo 2 93 s14) .nil))
def C (N : Nat) : Ctx := ⟨U, 39, fun _ => true, gam [(120, (fC27.S N).con), (121, (fB26.S N).con), (34, (fA0.S N).con)], gamY []⟩
theorem cok (N : Nat) : (C N).Ok Tryz.prog := ⟨U_ok, GamOk.cons (fC27.ok N) (GamOk.cons (fB26.ok N) (GamOk.cons (fA0.ok N) (GamOk.nil))), GamYOk.nil⟩
def code : Code := Tryz.f114.body.getD .skip
def outs : Sh := s40
end fD64
def fD64.run (N : Nat) (b : (List UInt8)) (jT : Bool) (id_ : Int) (id1 : Int) (row : (List T4)) (jU : Int) : Option T23 :=
  obind (fC27.run N row) fun (l, n_, _) =>
    obind (fB26.run N b l) fun ((b1, _), _) =>
      obind (fA0.run N b1 jT (decide (n_ = (0 : Int)))) fun ((_, _), (_, _, jT1, _), _) =>
        some ((b1, ()), ((), (), jT1, ()), (id_, id1, row, jU, ()), ())
namespace fD64
def fn (N : Nat) : Sh.den ins → Option (Sh.den outs) := fun (((a, _), _, b, _), (c, d, e, f, _), _) => fD64.run N a b c d e f
def S (N : Nat) : Fs := ⟨ins, outs, fn N⟩
def lam (N : Nat) : Pcs := pcs []
theorem pok (N : Nat) : (lam N).Ok Tryz.prog (C N) code := pcsOk_nil
theorem ok (N : Nat) : (S N).con.Ok Tryz.prog 114 := okF (F := S N) [] Tryz.func114 (by kernel_rfl) (by rfl) mix (cok N) (pok N) fun _ => by kernel_rfl
end fD64
namespace fA56
def ins : Sh := (.cons (.rbox 47 s5) (.cons (.bxo 3 93 s14) .nil))
def C (N : Nat) : Ctx := ⟨U, 24, fun _ => true, gam [(100, (fA2.S N).con)], gamY []⟩
theorem cok (N : Nat) : (C N).Ok Tryz.prog := ⟨U_ok, GamOk.cons (fA2.ok N) (GamOk.nil), GamYOk.nil⟩
def code : Code := Tryz.f67.body.getD .skip
def outs : Sh := s39
end fA56
def fA56.run (N : Nat) (b : (List UInt8)) (jT : Bool) (id_ : Int) (id1 : Int) (row : (List T4)) (jU : Int) : Option T22 :=
  obind (fA2.run N b jU) fun ((b1, _), _) =>
    some ((b1, ()), (id_, id1, row, jU, ()), ())
namespace fA56
def fn (N : Nat) : Sh.den ins → Option (Sh.den outs) := fun (((a, _), _, b, _), (c, d, e, f, _), _) => fA56.run N a b c d e f
def S (N : Nat) : Fs := ⟨ins, outs, fn N⟩
def lam (N : Nat) : Pcs := pcs []
theorem pok (N : Nat) : (lam N).Ok Tryz.prog (C N) code := pcsOk_nil
theorem ok (N : Nat) : (S N).con.Ok Tryz.prog 67 := okF (F := S N) [] Tryz.func67 (by kernel_rfl) (by rfl) mix (cok N) (pok N) fun _ => by kernel_rfl
end fA56
namespace fC50
def ins : Sh := (.cons (.box 47 s5) (.cons (.box 93 s14) .nil))
def C (N : Nat) : Ctx := ⟨U, 19, fun _ => true, gam [(115, (fC60.S N).con), (114, (fD64.S N).con), (67, (fA56.S N).con)], gamY []⟩
theorem cok (N : Nat) : (C N).Ok Tryz.prog := ⟨U_ok, GamOk.cons (fC60.ok N) (GamOk.cons (fD64.ok N) (GamOk.cons (fA56.ok N) (GamOk.nil))), GamYOk.nil⟩
def code : Code := Tryz.f104.body.getD .skip
def outs : Sh := s40
end fC50
def fC50.run (N : Nat) (b : (List UInt8)) (jT : Bool) (id_ : Int) (id1 : Int) (row : (List T4)) (jU : Int) : Option T23 :=
  obind (fC60.run N b jT id_ id1 row jU) fun ((b1, _), (id2, id3, row1, jU1, _), _) =>
    obind (fD64.run N b1 jT id2 id3 row1 jU1) fun ((b2, _), (_, _, jT1, _), (id4, id5, row2, jU2, _), _) =>
      obind (fA56.run N b2 jT1 id4 id5 row2 jU2) fun ((b3, _), (id6, id7, row3, jU3, _), _) =>
        some ((b3, ()), ((), (), jT1, ()), (id6, id7, row3, jU3, ()), ())
namespace fC50
def fn (N : Nat) : Sh.den ins → Option (Sh.den outs) := fun (((a, _), _, b, _), (c, d, e, f, _), _) => fC50.run N a b c d e f
def S (N : Nat) : Fs := ⟨ins, outs, fn N⟩
def lam (N : Nat) : Pcs := pcs []
theorem pok (N : Nat) : (lam N).Ok Tryz.prog (C N) code := pcsOk_nil
theorem ok (N : Nat) : (S N).con.Ok Tryz.prog 104 := okF (F := S N) [] Tryz.func104 (by kernel_rfl) (by rfl) mix (cok N) (pok N) fun _ => by kernel_rfl
end fC50
namespace fB8
def ins : Sh := (.cons (.box 47 s5) (.cons (.bxo 18 31 s7) s41))
def C (N : Nat) : Ctx := ⟨U, 62, fun _ => true, gam [(110, (fB1.S N).con), (104, (fC50.S N).con)], gamY []⟩
theorem cok (N : Nat) : (C N).Ok Tryz.prog := ⟨U_ok, GamOk.cons (fB1.ok N) (GamOk.cons (fC50.ok N) (GamOk.nil)), GamYOk.nil⟩
def code : Code := Tryz.f103.body.getD .skip
def outs : Sh := s9
end fB8
namespace fD13
def ins : Sh := (.cons (.fnb 1 104 (.cons (.box 47 s5) .nil)) s42)
def ts : List Tmp := [2, 27, 28, 29]
def asg : List Tmp := [7, 29, 30, 31, 32, 33, 34, 35]
def C (N : Nat) : Ctx := { fB8.C N with may := fun t => asg.any (Nat.beq t) }
def code : Code := loopBody (sub fB8.code [false, true, false, true, false, true, false])
theorem cok (N : Nat) : (C N).Ok Tryz.prog := okC (fB8.cok N) _
def alts : List Alt := [⟨(.exit 0), [], s8⟩]
end fD13
def fD13.go (N : Nat) : Nat → (List UInt8) → Bool → (List T6) → Int → Int → Option (T9)
  | 0, _, _, _, _, _ => none
  | fuel + 1, b, jT, t27, t28, t29 =>
    bif decide (t29 < t28) then
      bif inB t29 t27.length then
        obind (fC50.run N b jT (t27.getD t29.toNat (((0 : Int), (0 : Int)), ([] : List T4), (0 : Int))).1.1 (t27.getD t29.toNat (((0 : Int), (0 : Int)), ([] : List T4), (0 : Int))).1.2 (t27.getD t29.toNat (((0 : Int), (0 : Int)), ([] : List T4), (0 : Int))).2.1 (t27.getD t29.toNat (((0 : Int), (0 : Int)), ([] : List T4), (0 : Int))).2.2) fun ((b1, _), (_, _, jT1, _), (id_, id1, row, jU, _), _) =>
          fD13.go N fuel b1 jT1 t27 t28 (IntKind.i64.wrap (t29 + (1 : Int)))
      else none
    else some ((b, ()), ((), (), jT, ()), ())
namespace fD13
def g (N n : Nat) : Sh.den ins → Option (altsDen alts) := fun ((((a, _), _, b, _), _), c, d, e, _) => fD13.go N n a b c d e
def P (N : Nat) : Ps := ⟨ts, ins, asg, alts, g N N⟩
def lam (N : Nat) : Pcs := pcs []
theorem pok (N : Nat) : (lam N).Ok Tryz.prog (C N) code := pcsOk_nil
theorem ok (N : Nat) : ((P N).pc (fB8.C N)).Ok Tryz.prog (fB8.C N) (.loop code) := okL (F := P N) (g N) (fB8.cok N) mix (pok N) (fun _ => rfl) rfl fun _ _ => by kernel_rfl
end fD13
def fB8.run (N : Nat) (b : (List UInt8)) (jT : Bool) (jA : Int) (jB_ : Int) (jC_ : Int) (jD : Int) (jE : Int) (jF : Int) (jG : Int) (jH : Int) (jI : Int) (jJ : Int) (jK : Int) (jL : Bool) (jM : Bool) (jN : Bool) (jO_ : Int) (jO1 : Int) (jP : (List T7)) (jP1 : (List T8)) (jQ : (List T6)) : Option T11 :=
  obind (fB1.run N b (IntKind.u64.wrap (jQ.length : Int))) fun ((b1, _), _) =>
    obind (fD13.go N N b1 jT jQ (jQ.length : Int) (0 : Int)) fun ((b2, _), (_, _, jT1, _), _) =>
      some ((b2, ()), ((), (), jT1, ()), (jA, jB_, jC_, jD, jE, jF, jG, jH, jI, jJ, jK, jL, jM, jN, jO_, jO1, jP, jP1, jQ, ()), ())
namespace fB8
def fn (N : Nat) : Sh.den ins → Option (Sh.den outs) := fun (((a, _), _, b, _), (c, d, e, f, g, h, i, j, k, l, m, o, p, q, r, s, t, u, v, _), (_, _), _) => fB8.run N a b c d e f g h i j k l m o p q r s t u v
def S (N : Nat) : Fs := ⟨ins, outs, fn N⟩
def lam (N : Nat) : Pcs := pcs [([false, true, false, true, false, true, false], (fD13.P N).pc (C N))]
theorem pok (N : Nat) : (lam N).Ok Tryz.prog (C N) code := pcsOk_cons (c1 := .loop fD13.code) (by kernel_rfl) (fD13.ok N) (pcsOk_nil)
theorem ok (N : Nat) : (S N).con.Ok Tryz.prog 103 := okF (F := S N) [] Tryz.func103 (by kernel_rfl) (by rfl) mix (cok N) (pok N) fun _ => by kernel_rfl
end fB8
namespace fC21
def ins : Sh := (.cons (.box 47 s5) (.cons (.bxo 18 31 s7) .nil))
def C (N : Nat) : Ctx := ⟨U, 9, fun _ => true, gam [(103, (fB8.S N).con)], gamY []⟩
theorem cok (N : Nat) : (C N).Ok Tryz.prog := ⟨U_ok, GamOk.cons (fB8.ok N) (GamOk.nil), GamYOk.nil⟩
def code : Code := Tryz.f74.body.getD .skip
def outs : Sh := s9
end fC21
def fC21.run (N : Nat) (b : (List UInt8)) (jT : Bool) (jA : Int) (jB_ : Int) (jC_ : Int) (jD : Int) (jE : Int) (jF : Int) (jG : Int) (jH : Int) (jI : Int) (jJ : Int) (jK : Int) (jL : Bool) (jM : Bool) (jN : Bool) (jO_ : Int) (jO1 : Int) (jP : (List T7)) (jP1 : (List T8)) (jQ : (List T6)) : Option T11 :=
  obind (fB8.run N b jT jA jB_ jC_ jD jE jF jG jH jI jJ jK jL jM jN jO_ jO1 jP jP1 jQ) fun ((b1, _), (_, _, jT1, _), (jA1, jB1, jC1, jD1, jE1, jF1, jG1, jH1, jI1, jJ1, jK1, jL1, jM1, jN1, jO2, jO3, jP2, jP3, jQ1, _), _) =>
    some ((b1, ()), ((), (), jT1, ()), (jA1, jB1, jC1, jD1, jE1, jF1, jG1, jH1, jI1, jJ1, jK1, jL1, jM1, jN1, jO2, jO3, jP2, jP3, jQ1, ()), ())
namespace fC21
def fn (N : Nat) : Sh.den ins → Option (Sh.den outs) := fun (((a, _), _, b, _), (c, d, e, f, g, h, i, j, k, l, m, o, p, q, r, s, t, u, v, _), _) => fC21.run N a b c d e f g h i j k l m o p q r s t u v
def S (N : Nat) : Fs := ⟨ins, outs, fn N⟩
def lam (N : Nat) : Pcs := pcs []
theorem pok (N : Nat) : (lam N).Ok Tryz.prog (C N) code := pcsOk_nil
theorem ok (N : Nat) : (S N).con.Ok Tryz.prog 74 := okF (F := S N) [] Tryz.func74 (by kernel_rfl) (by rfl) mix (cok N) (pok N) fun _ => by kernel_rfl
end fC21
namespace fA35
def ins : Sh := s34
def C (N : Nat) : Ctx := ⟨U, 22, fun _ => true, gam [(67, (fB16.S N).con), (72, (fC7.S N).con), (68, (fA52.S N).con), (74, (fC21.S N).con)], gamY []⟩
theorem cok (N : Nat) : (C N).Ok Tryz.prog := ⟨U_ok, GamOk.cons (fB16.ok N) (GamOk.cons (fC7.ok N) (GamOk.cons (fA52.ok N) (GamOk.cons (fC21.ok N) (GamOk.nil)))), GamYOk.nil⟩
def code : Code := Tryz.f73.body.getD .skip
def outs : Sh := s35
end fA35
def fA35.run (N : Nat) (b : (List UInt8)) (jT : Bool) (jA : Int) (jB_ : Int) (jC_ : Int) (jD : Int) (jE : Int) (jF : Int) (jG : Int) (jH : Int) (jI : Int) (jJ : Int) (jK : Int) (jL : Bool) (jM : Bool) (jN : Bool) (jO_ : Int) (jO1 : Int) (jP : (List T7)) (jP1 : (List T8)) (jQ : (List T6)) : Option T11 :=
  obind (fB16.run N b jT jA jB_ jC_ jD jE jF jG jH jI jJ jK jL jM jN jO_ jO1 jP jP1 jQ) fun ((b1, _), (jA1, jB1, jC1, jD1, jE1, jF1, jG1, jH1, jI1, jJ1, jK1, jL1, jM1, jN1, jO2, jO3, jP2, jP3, jQ1, _), _) =>
    obind (fC7.run N b1 jT jA1 jB1 jC1 jD1 jE1 jF1 jG1 jH1 jI1 jJ1 jK1 jL1 jM1 jN1 jO2 jO3 jP2 jP3 jQ1) fun ((b2, _), (_, _, jT1, _), (jA2, jB2, jC2, jD2, jE2, jF2, jG2, jH2, jI2, jJ2, jK2, jL2, jM2, jN2, jO4, jO5, jP4, jP5, jQ2, _), _) =>
      obind (fA52.run N b2 jT1 jA2 jB2 jC2 jD2 jE2 jF2 jG2 jH2 jI2 jJ2 jK2 jL2 jM2 jN2 jO4 jO5 jP4 jP5 jQ2) fun ((b3, _), (_, _, jT2, _), (jA3, jB3, jC3, jD3, jE3, jF3, jG3, jH3, jI3, jJ3, jK3, jL3, jM3, jN3, jO6, jO7, jP6, jP7, jQ3, _), _) =>
        obind (fC21.run N b3 jT2 jA3 jB3 jC3 jD3 jE3 jF3 jG3 jH3 jI3 jJ3 jK3 jL3 jM3 jN3 jO6 jO7 jP6 jP7 jQ3) fun ((b4, _), (_, _, jT3, _), (jA4, jB4, jC4, jD4, jE4, jF4, jG4, jH4, jI4, jJ4, jK4, jL4, jM4, jN4, jO8, jO9, jP8, jP9, jQ4, _), _) =>
          some ((b4, ()), ((), (), jT3, ()), (jA4, jB4, jC4, jD4, jE4, jF4, jG4, jH4, jI4, jJ4, jK4, jL4, jM4, jN4, jO8, jO9, jP8, jP9, jQ4, ()), ())
namespace fA35
def fn (N : Nat) : Sh.den ins → Option (Sh.den outs) := fun ((((a, _), _, b, _), _), ((c, d, e, f, g, h, i, j, k, l, m, o, p, q, r, s, t, u, v, _), _), _) => fA35.run N a b c d e f g h i j k l m o p q r s t u v
def S (N : Nat) : Fs := ⟨ins, outs, fn N⟩
def lam (N : Nat) : Pcs := pcs []
theorem pok (N : Nat) : (lam N).Ok Tryz.prog (C N) code := pcsOk_nil
theorem ok (N : Nat) : (S N).con.Ok Tryz.prog 73 := okF (F := S N) [] Tryz.func73 (by kernel_rfl) (by rfl) mix (cok N) (pok N) fun _ => by kernel_rfl
end fA35
namespace fD53
def ins : Sh := (.cons (.box 47 s5) (.cons (.bxo 13 31 s7) .nil))
def C (N : Nat) : Ctx := ⟨U, 14, fun _ => true, gam [(32, (fC10.S N).con)], gamY []⟩
theorem cok (N : Nat) : (C N).Ok Tryz.prog := ⟨U_ok, GamOk.cons (fC10.ok N) (GamOk.nil), GamYOk.nil⟩
def code : Code := Tryz.f68.body.getD .skip
def outs : Sh := s9
end fD53
def fD53.run (N : Nat) (b : (List UInt8)) (jT : Bool) (jA : Int) (jB_ : Int) (jC_ : Int) (jD : Int) (jE : Int) (jF : Int) (jG : Int) (jH : Int) (jI : Int) (jJ : Int) (jK : Int) (jL : Bool) (jM : Bool) (jN : Bool) (jO_ : Int) (jO1 : Int) (jP : (List T7)) (jP1 : (List T8)) (jQ : (List T6)) : Option T11 :=
  bif jN then
    obind (fC10.run N b jT (1 : Int) (1 : Int)) fun ((b1, _), (_, _, jT1, _), _) =>
      some ((b1, ()), ((), (), jT1, ()), (jA, jB_, jC_, jD, jE, jF, jG, jH, jI, jJ, jK, jL, jM, true, jO_, jO1, jP, jP1, jQ, ()), ())
  else
    obind (fC10.run N b jT (0 : Int) (1 : Int)) fun ((b2, _), (_, _, jT2, _), _) =>
      some ((b2, ()), ((), (), jT2, ()), (jA, jB_, jC_, jD, jE, jF, jG, jH, jI, jJ, jK, jL, jM, false, jO_, jO1, jP, jP1, jQ, ()), ())
namespace fD53
def fn (N : Nat) : Sh.den ins → Option (Sh.den outs) := fun (((a, _), _, b, _), (c, d, e, f, g, h, i, j, k, l, m, o, p, q, r, s, t, u, v, _), _) => fD53.run N a b c d e f g h i j k l m o p q r s t u v
def S (N : Nat) : Fs := ⟨ins, outs, fn N⟩
def lam (N : Nat) : Pcs := pcs []
theorem pok (N : Nat) : (lam N).Ok Tryz.prog (C N) code := pcsOk_nil
theorem ok (N : Nat) : (S N).con.Ok Tryz.prog 68 := okF (F := S N) [] Tryz.func68 (by kernel_rfl) (by rfl) mix (cok N) (pok N) fun _ => by kernel_rfl
end fD53
namespace fD36
def ins : Sh := s34
def C (N : Nat) : Ctx := ⟨U, 16, fun _ => true, gam [(64, (fD26.S N).con), (68, (fD53.S N).con)], gamY []⟩
theorem cok (N : Nat) : (C N).Ok Tryz.prog := ⟨U_ok, GamOk.cons (fD26.ok N) (GamOk.cons (fD53.ok N) (GamOk.nil)), GamYOk.nil⟩
def code : Code := Tryz.f75.body.getD .skip
def outs : Sh := s35
end fD36
def fD36.run (N : Nat) (b : (List UInt8)) (jT : Bool) (jA : Int) (jB_ : Int) (jC_ : Int) (jD : Int) (jE : Int) (jF : Int) (jG : Int) (jH : Int) (jI : Int) (jJ : Int) (jK : Int) (jL : Bool) (jM : Bool) (jN : Bool) (jO_ : Int) (jO1 : Int) (jP : (List T7)) (jP1 : (List T8)) (jQ : (List T6)) : Option T11 :=
  obind (fD26.run N b jT jA jB_ jC_ jD jE jF jG jH jI jJ jK jL jM jN jO_ jO1 jP jP1 jQ) fun ((b1, _), (jA1, jB1, jC1, jD1, jE1, jF1, jG1, jH1, jI1, jJ1, jK1, jL1, jM1, jN1, jO2, jO3, jP2, jP3, jQ1, _), _) =>
    obind (fD53.run N b1 jT jA1 jB1 jC1 jD1 jE1 jF1 jG1 jH1 jI1 jJ1 jK1 jL1 jM1 jN1 jO2 jO3 jP2 jP3 jQ1) fun ((b2, _), (_, _, jT1, _), (jA2, jB2, jC2, jD2, jE2, jF2, jG2, jH2, jI2, jJ2, jK2, jL2, jM2, jN2, jO4, jO5, jP4, jP5, jQ2, _), _) =>
      some ((b2, ()), ((), (), jT1, ()), (jA2, jB2, jC2, jD2, jE2, jF2, jG2, jH2, jI2, jJ2, jK2, jL2, jM2, jN2, jO4, jO5, jP4, jP5, jQ2, ()), ())
namespace fD36
def fn (N : Nat) : Sh.den ins → Option (Sh.den outs) := fun ((((a, _), _, b, _), _), ((c, d, e, f, g, h, i, j, k, l, m, o, p, q, r, s, t, u, v, _), _), _) => fD36.run N a b c d e f g h i j k l m o p q r s t u v
def S (N : Nat) : Fs := ⟨ins, outs, fn N⟩
def lam (N : Nat) : Pcs := pcs []
theorem pok (N : Nat) : (lam N).Ok Tryz.prog (C N) code := pcsOk_nil
theorem ok (N : Nat) : (S N).con.Ok Tryz.prog 75 := okF (F := S N) [] Tryz.func75 (by kernel_rfl) (by rfl) mix (cok N) (pok N) fun _ => by kernel_rfl
end fD36
namespace fA59
def ins : Sh := (.cons (.box 47 s5) (.cons (.bxo 10 31 s7) (.cons (.val (.int .i64)) .nil)))
def C (N : Nat) : Ctx := ⟨U, 41, fun _ => true, gam [(61, (fA4.S N).con), (34, (fA0.S N).con)], gamY []⟩
theorem cok (N : Nat) : (C N).Ok Tryz.prog := ⟨U_ok, GamOk.cons (fA4.ok N) (GamOk.cons (fA0.ok N) (GamOk.nil)), GamYOk.nil⟩
def code : Code := Tryz.f32.body.getD .skip
def outs : Sh := s9
end fA59
def fA59.run (N : Nat) (b : (List UInt8)) (jT : Bool) (jA : Int) (jB_ : Int) (jC_ : Int) (jD : Int) (jE : Int) (jF : Int) (jG : Int) (jH : Int) (jI : Int) (jJ : Int) (jK : Int) (jL : Bool) (jM : Bool) (jN : Bool) (jO_ : Int) (jO1 : Int) (jP : (List T7)) (jP1 : (List T8)) (jQ : (List T6)) (most : Int) : Option T11 :=
  obind (fA4.run N b (Hay.u8 (IntKind.u8.wrap jK))) fun ((b1, _), _) =>
    bif decide (jK ≥ (0 : Int)) then
      obind (fA0.run N b1 jT (decide (jK ≤ most))) fun ((_, _), (_, _, jT1, _), _) =>
        some ((b1, ()), ((), (), jT1, ()), (jA, jB_, jC_, jD, jE, jF, jG, jH, jI, jJ, jK, jL, jM, jN, jO_, jO1, jP, jP1, jQ, ()), ())
    else
      obind (fA0.run N b1 jT false) fun ((_, _), (_, _, jT2, _), _) =>
        some ((b1, ()), ((), (), jT2, ()), (jA, jB_, jC_, jD, jE, jF, jG, jH, jI, jJ, jK, jL, jM, jN, jO_, jO1, jP, jP1, jQ, ()), ())
namespace fA59
def fn (N : Nat) : Sh.den ins → Option (Sh.den outs) := fun (((a, _), _, b, _), (c, d, e, f, g, h, i, j, k, l, m, o, p, q, r, s, t, u, v, _), w, _) => fA59.run N a b c d e f g h i j k l m o p q r s t u v w
def S (N : Nat) : Fs := ⟨ins, outs, fn N⟩
def lam (N : Nat) : Pcs := pcs []
theorem pok (N : Nat) : (lam N).Ok Tryz.prog (C N) code := pcsOk_nil
theorem ok (N : Nat) : (S N).con.Ok Tryz.prog 32 := okF (F := S N) [] Tryz.func32 (by kernel_rfl) (by rfl) mix (cok N) (pok N) fun _ => by kernel_rfl
end fA59
namespace fC55
def ins : Sh := (.cons (.box 47 s5) (.cons (.bxo 10 31 s7) .nil))
def C (N : Nat) : Ctx := ⟨U, 7, fun _ => true, gam [(32, (fA59.S N).con)], gamY []⟩
theorem cok (N : Nat) : (C N).Ok Tryz.prog := ⟨U_ok, GamOk.cons (fA59.ok N) (GamOk.nil), GamYOk.nil⟩
def code : Code := Tryz.f33.body.getD .skip
def outs : Sh := s9
end fC55
def fC55.run (N : Nat) (b : (List UInt8)) (jT : Bool) (jA : Int) (jB_ : Int) (jC_ : Int) (jD : Int) (jE : Int) (jF : Int) (jG : Int) (jH : Int) (jI : Int) (jJ : Int) (jK : Int) (jL : Bool) (jM : Bool) (jN : Bool) (jO_ : Int) (jO1 : Int) (jP : (List T7)) (jP1 : (List T8)) (jQ : (List T6)) : Option T11 :=
  obind (fA59.run N b jT jA jB_ jC_ jD jE jF jG jH jI jJ jK jL jM jN jO_ jO1 jP jP1 jQ (8 : Int)) fun ((b1, _), (_, _, jT1, _), (jA1, jB1, jC1, jD1, jE1, jF1, jG1, jH1, jI1, jJ1, jK1, jL1, jM1, jN1, jO2, jO3, jP2, jP3, jQ1, _), _) =>
    some ((b1, ()), ((), (), jT1, ()), (jA1, jB1, jC1, jD1, jE1, jF1, jG1, jH1, jI1, jJ1, jK1, jL1, jM1, jN1, jO2, jO3, jP2, jP3, jQ1, ()), ())
namespace fC55
def fn (N : Nat) : Sh.den ins → Option (Sh.den outs) := fun (((a, _), _, b, _), (c, d, e, f, g, h, i, j, k, l, m, o, p, q, r, s, t, u, v, _), _) => fC55.run N a b c d e f g h i j k l m o p q r s t u v
def S (N : Nat) : Fs := ⟨ins, outs, fn N⟩
def lam (N : Nat) : Pcs := pcs []
theorem pok (N : Nat) : (lam N).Ok Tryz.prog (C N) code := pcsOk_nil
theorem ok (N : Nat) : (S N).con.Ok Tryz.prog 33 := okF (F := S N) [] Tryz.func33 (by kernel_rfl) (by rfl) mix (cok N) (pok N) fun _ => by kernel_rfl
end fC55
namespace fB15
def ins : Sh := (.cons (.rbox 47 s5) (.cons (.bxo 9 31 s7) .nil))
def C (N : Nat) : Ctx := ⟨U, 24, fun _ => true, gam [(100, (fA2.S N).con)], gamY []⟩
theorem cok (N : Nat) : (C N).Ok Tryz.prog := ⟨U_ok, GamOk.cons (fA2.ok N) (GamOk.nil), GamYOk.nil⟩
def code : Code := Tryz.f67.body.getD .skip
def outs : Sh := s13
end fB15
def fB15.run (N : Nat) (b : (List UInt8)) (jT : Bool) (jA : Int) (jB_ : Int) (jC_ : Int) (jD : Int) (jE : Int) (jF : Int) (jG : Int) (jH : Int) (jI : Int) (jJ : Int) (jK : Int) (jL : Bool) (jM : Bool) (jN : Bool) (jO_ : Int) (jO1 : Int) (jP : (List T7)) (jP1 : (List T8)) (jQ : (List T6)) : Option T12 :=
  obind (fA2.run N b jJ) fun ((b1, _), _) =>
    some ((b1, ()), (jA, jB_, jC_, jD, jE, jF, jG, jH, jI, jJ, jK, jL, jM, jN, jO_, jO1, jP, jP1, jQ, ()), ())
namespace fB15
def fn (N : Nat) : Sh.den ins → Option (Sh.den outs) := fun (((a, _), _, b, _), (c, d, e, f, g, h, i, j, k, l, m, o, p, q, r, s, t, u, v, _), _) => fB15.run N a b c d e f g h i j k l m o p q r s t u v
def S (N : Nat) : Fs := ⟨ins, outs, fn N⟩
def lam (N : Nat) : Pcs := pcs []
theorem pok (N : Nat) : (lam N).Ok Tryz.prog (C N) code := pcsOk_nil
theorem ok (N : Nat) : (S N).con.Ok Tryz.prog 67 := okF (F := S N) [] Tryz.func67 (by kernel_rfl) (by rfl) mix (cok N) (pok N) fun _ => by kernel_rfl
end fB15
namespace fC29
def ins : Sh := (.cons (.rbox 47 s5) (.cons (.bxo 6 31 s7) .nil))
def C (N : Nat) : Ctx := ⟨U, 24, fun _ => true, gam [(100, (fA2.S N).con)], gamY []⟩
theorem cok (N : Nat) : (C N).Ok Tryz.prog := ⟨U_ok, GamOk.cons (fA2.ok N) (GamOk.nil), GamYOk.nil⟩
def code : Code := Tryz.f67.body.getD .skip
def outs : Sh := s13
end fC29
def fC29.run (N : Nat) (b : (List UInt8)) (jT : Bool) (jA : Int) (jB_ : Int) (jC_ : Int) (jD : Int) (jE : Int) (jF : Int) (jG : Int) (jH : Int) (jI : Int) (jJ : Int) (jK : Int) (jL : Bool) (jM : Bool) (jN : Bool) (jO_ : Int) (jO1 : Int) (jP : (List T7)) (jP1 : (List T8)) (jQ : (List T6)) : Option T12 :=
  obind (fA2.run N b jG) fun ((b1, _), _) =>
    some ((b1, ()), (jA, jB_, jC_, jD, jE, jF, jG, jH, jI, jJ, jK, jL, jM, jN, jO_, jO1, jP, jP1, jQ, ()), ())
namespace fC29
def fn (N : Nat) : Sh.den ins → Option (Sh.den outs) := fun (((a, _), _, b, _), (c, d, e, f, g, h, i, j, k, l, m, o, p, q, r, s, t, u, v, _), _) => fC29.run N a b c d e f g h i j k l m o p q r s t u v
def S (N : Nat) : Fs := ⟨ins, outs, fn N⟩
def lam (N : Nat) : Pcs := pcs []
theorem pok (N : Nat) : (lam N).Ok Tryz.prog (C N) code := pcsOk_nil
theorem ok (N : Nat) : (S N).con.Ok Tryz.prog 67 := okF (F := S N) [] Tryz.func67 (by kernel_rfl) (by rfl) mix (cok N) (pok N) fun _ => by kernel_rfl
end fC29
namespace fB50
def ins : Sh := (.cons (.rbox 47 s5) (.cons (.els 1 2 (.cons (.bxo 6 31 s7) (.cons (.refo 3 5) .nil))) .nil))
def C (N : Nat) : Ctx := ⟨U, 16, fun _ => true, gam [(67, (((fB5.S N).con).or (fC29.S N).con))], gamY []⟩
theorem cok (N : Nat) : (C N).Ok Tryz.prog := ⟨U_ok, GamOk.cons (Con.or_ok (fB5.ok N) (fC29.ok N)) (GamOk.nil), GamYOk.nil⟩
def code : Code := Tryz.f64.body.getD .skip
def outs : Sh := s13
end fB50
def fB50.run (N : Nat) (b : (List UInt8)) (jT : Bool) (jA : Int) (jB_ : Int) (jC_ : Int) (jD : Int) (jE : Int) (jF : Int) (jG : Int) (jH : Int) (jI : Int) (jJ : Int) (jK : Int) (jL : Bool) (jM : Bool) (jN : Bool) (jO_ : Int) (jO1 : Int) (jP : (List T7)) (jP1 : (List T8)) (jQ : (List T6)) : Option T12 :=
  obind (fC29.run N b jT jA jB_ jC_ jD jE jF jG jH jI jJ jK jL jM jN jO_ jO1 jP jP1 jQ) fun ((b1, _), (jA1, jB1, jC1, jD1, jE1, jF1, jG1, jH1, jI1, jJ1, jK1, jL1, jM1, jN1, jO2, jO3, jP2, jP3, jQ1, _), _) =>
    obind (fB5.run N b1 jT jA1 jB1 jC1 jD1 jE1 jF1 jG1 jH1 jI1 jJ1 jK1 jL1 jM1 jN1 jO2 jO3 jP2 jP3 jQ1) fun ((b2, _), (jA2, jB2, jC2, jD2, jE2, jF2, jG2, jH2, jI2, jJ2, jK2, jL2, jM2, jN2, jO4, jO5, jP4, jP5, jQ2, _), _) =>
      some ((b2, ()), (jA2, jB2, jC2, jD2, jE2, jF2, jG2, jH2, jI2, jJ2, jK2, jL2, jM2, jN2, jO4, jO5, jP4, jP5, jQ2, ()), ())
namespace fB50
def fn (N : Nat) : Sh.den ins → Option (Sh.den outs) := fun (((a, _), _, b, _), ((c, d, e, f, g, h, i, j, k, l, m, o, p, q, r, s, t, u, v, _), _, _), _) => fB50.run N a b c d e f g h i j k l m o p q r s t u v
def S (N : Nat) : Fs := ⟨ins, outs, fn N⟩
def lam (N : Nat) : Pcs := pcs [([true, false], (Pc.unroll (C N) (loopBody (sub code [true, false])) (pcs []) 3))]
theorem pok (N : Nat) : (lam N).Ok Tryz.prog (C N) code := pcsOk_cons (c1 := .loop (loopBody (sub code [true, false]))) (by kernel_rfl) (unroll_ok (cok N) mix pcsOk_nil 3) (pcsOk_nil)
theorem ok (N : Nat) : (S N).con.Ok Tryz.prog 64 := okF (F := S N) [] Tryz.func64 (by kernel_rfl) (by rfl) mix (cok N) (pok N) fun _ => by kernel_rfl
end fB50
namespace fA36
def ins : Sh := s34
def C (N : Nat) : Ctx := ⟨U, 26, fun _ => true, gam [(33, (fC55.S N).con), (67, (fB15.S N).con), (72, (fC7.S N).con), (64, (fB50.S N).con)], gamY []⟩
theorem cok (N : Nat) : (C N).Ok Tryz.prog := ⟨U_ok, GamOk.cons (fC55.ok N) (GamOk.cons (fB15.ok N) (GamOk.cons (fC7.ok N) (GamOk.cons (fB50.ok N) (GamOk.nil)))), GamYOk.nil⟩
def code : Code := Tryz.f76.body.getD .skip
def outs : Sh := s35
end fA36
def fA36.run (N : Nat) (b : (List UInt8)) (jT : Bool) (jA : Int) (jB_ : Int) (jC_ : Int) (jD : Int) (jE : Int) (jF : Int) (jG : Int) (jH : Int) (jI : Int) (jJ : Int) (jK : Int) (jL : Bool) (jM : Bool) (jN : Bool) (jO_ : Int) (jO1 : Int) (jP : (List T7)) (jP1 : (List T8)) (jQ : (List T6)) : Option T11 :=
  obind (fC55.run N b jT jA jB_ jC_ jD jE jF jG jH jI jJ jK jL jM jN jO_ jO1 jP jP1 jQ) fun ((b1, _), (_, _, jT1, _), (jA1, jB1, jC1, jD1, jE1, jF1, jG1, jH1, jI1, jJ1, jK1, jL1, jM1, jN1, jO2, jO3, jP2, jP3, jQ1, _), _) =>
    obind (fB15.run N b1 jT1 jA1 jB1 jC1 jD1 jE1 jF1 jG1 jH1 jI1 jJ1 jK1 jL1 jM1 jN1 jO2 jO3 jP2 jP3 jQ1) fun ((b2, _), (jA2, jB2, jC2, jD2, jE2, jF2, jG2, jH2, jI2, jJ2, jK2, jL2, jM2, jN2, jO4, jO5, jP4, jP5, jQ2, _), _) =>
      obind (fC7.run N b2 jT1 jA2 jB2 jC2 jD2 jE2 jF2 jG2 jH2 jI2 jJ2 jK2 jL2 jM2 jN2 jO4 jO5 jP4 jP5 jQ2) fun ((b3, _), (_, _, jT2, _), (jA3, jB3, jC3, jD3, jE3, jF3, jG3, jH3, jI3, jJ3, jK3, jL3, jM3, jN3, jO6, jO7, jP6, jP7, jQ3, _), _) =>
        obind (fB50.run N b3 jT2 jA3 jB3 jC3 jD3 jE3 jF3 jG3 jH3 jI3 jJ3 jK3 jL3 jM3 jN3 jO6 jO7 jP6 jP7 jQ3) fun ((b4, _), (jA4, jB4, jC4, jD4, jE4, jF4, jG4, jH4, jI4, jJ4, jK4, jL4, jM4, jN4, jO8, jO9, jP8, jP9, jQ4, _), _) =>
          some ((b4, ()), ((), (), jT2, ()), (jA4, jB4, jC4, jD4, jE4, jF4, jG4, jH4, jI4, jJ4, jK4, jL4, jM4, jN4, jO8, jO9, jP8, jP9, jQ4, ()), ())
namespace fA36
def fn (N : Nat) : Sh.den ins → Option (Sh.den outs) := fun ((((a, _), _, b, _), _), ((c, d, e, f, g, h, i, j, k, l, m, o, p, q, r, s, t, u, v, _), _), _) => fA36.run N a b c d e f g h i j k l m o p q r s t u v
def S (N : Nat) : Fs := ⟨ins, outs, fn N⟩
def lam (N : Nat) : Pcs := pcs []
theorem pok (N : Nat) : (lam N).Ok Tryz.prog (C N) code := pcsOk_nil
theorem ok (N : Nat) : (S N).con.Ok Tryz.prog 76 := okF (F := S N) [] Tryz.func76 (by kernel_rfl) (by rfl) mix (cok N) (pok N) fun _ => by kernel_rfl
end fA36
namespace fC53
def ins : Sh := (.cons (.rbox 47 s5) (.cons (.els 1 3 (.cons (.bxo 6 31 s7) (.cons (.refo 3 5) (.cons (.refo 3 7) .nil)))) .nil))
def C (N : Nat) : Ctx := ⟨U, 16, fun _ => true, gam [(67, (((((fB5.S N).con).or (fA16.S N).con)).or (fC29.S N).con))], gamY []⟩
theorem cok (N : Nat) : (C N).Ok Tryz.prog := ⟨U_ok, GamOk.cons (Con.or_ok (Con.or_ok (fB5.ok N) (fA16.ok N)) (fC29.ok N)) (GamOk.nil), GamYOk.nil⟩
def code : Code := Tryz.f64.body.getD .skip
def outs : Sh := s13
end fC53
def fC53.run (N : Nat) (b : (List UInt8)) (jT : Bool) (jA : Int) (jB_ : Int) (jC_ : Int) (jD : Int) (jE : Int) (jF : Int) (jG : Int) (jH : Int) (jI : Int) (jJ : Int) (jK : Int) (jL : Bool) (jM : Bool) (jN : Bool) (jO_ : Int) (jO1 : Int) (jP : (List T7)) (jP1 : (List T8)) (jQ : (List T6)) : Option T12 :=
  obind (fC29.run N b jT jA jB_ jC_ jD jE jF jG jH jI jJ jK jL jM jN jO_ jO1 jP jP1 jQ) fun ((b1, _), (jA1, jB1, jC1, jD1, jE1, jF1, jG1, jH1, jI1, jJ1, jK1, jL1, jM1, jN1, jO2, jO3, jP2, jP3, jQ1, _), _) =>
    obind (fB5.run N b1 jT jA1 jB1 jC1 jD1 jE1 jF1 jG1 jH1 jI1 jJ1 jK1 jL1 jM1 jN1 jO2 jO3 jP2 jP3 jQ1) fun ((b2, _), (jA2, jB2, jC2, jD2, jE2, jF2, jG2, jH2, jI2, jJ2, jK2, jL2, jM2, jN2, jO4, jO5, jP4, jP5, jQ2, _), _) =>
      obind (fA16.run N b2 jT jA2 jB2 jC2 jD2 jE2 jF2 jG2 jH2 jI2 jJ2 jK2 jL2 jM2 jN2 jO4 jO5 jP4 jP5 jQ2) fun ((b3, _), (jA3, jB3, jC3, jD3, jE3, jF3, jG3, jH3, jI3, jJ3, jK3, jL3, jM3, jN3, jO6, jO7, jP6, jP7, jQ3, _), _) =>
        some ((b3, ()), (jA3, jB3, jC3, jD3, jE3, jF3, jG3, jH3, jI3, jJ3, jK3, jL3, jM3, jN3, jO6, jO7, jP6, jP7, jQ3, ()), ())
namespace fC53
def fn (N : Nat) : Sh.den ins → Option (Sh.den outs) := fun (((a, _), _, b, _), ((c, d, e, f, g, h, i, j, k, l, m, o, p, q, r, s, t, u, v, _), _, _, _), _) => fC53.run N a b c d e f g h i j k l m o p q r s t u v
def S (N : Nat) : Fs := ⟨ins, outs, fn N⟩
def lam (N : Nat) : Pcs := pcs [([true, false], (Pc.unroll (C N) (loopBody (sub code [true, false])) (pcs []) 4))]
theorem pok (N : Nat) : (lam N).Ok Tryz.prog (C N) code := pcsOk_cons (c1 := .loop (loopBody (sub code [true, false]))) (by kernel_rfl) (unroll_ok (cok N) mix pcsOk_nil 4) (pcsOk_nil)
theorem ok (N : Nat) : (S N).con.Ok Tryz.prog 64 := okF (F := S N) [] Tryz.func64 (by kernel_rfl) (by rfl) mix (cok N) (pok N) fun _ => by kernel_rfl
end fC53
namespace fA37
def ins : Sh := s34
def C (N : Nat) : Ctx := ⟨U, 29, fun _ => true, gam [(67, (fB15.S N).con), (72, (fC7.S N).con), (64, (fC53.S N).con), (74, (fC21.S N).con)], gamY []⟩
theorem cok (N : Nat) : (C N).Ok Tryz.prog := ⟨U_ok, GamOk.cons (fB15.ok N) (GamOk.cons (fC7.ok N) (GamOk.cons (fC53.ok N) (GamOk.cons (fC21.ok N) (GamOk.nil)))), GamYOk.nil⟩
def code : Code := Tryz.f77.body.getD .skip
def outs : Sh := s35
end fA37
def fA37.run (N : Nat) (b : (List UInt8)) (jT : Bool) (jA : Int) (jB_ : Int) (jC_ : Int) (jD : Int) (jE : Int) (jF : Int) (jG : Int) (jH : Int) (jI : Int) (jJ : Int) (jK : Int) (jL : Bool) (jM : Bool) (jN : Bool) (jO_ : Int) (jO1 : Int) (jP : (List T7)) (jP1 : (List T8)) (jQ : (List T6)) : Option T11 :=
  obind (fB15.run N b jT jA jB_ jC_ jD jE jF jG jH jI jJ jK jL jM jN jO_ jO1 jP jP1 jQ) fun ((b1, _), (jA1, jB1, jC1, jD1, jE1, jF1, jG1, jH1, jI1, jJ1, jK1, jL1, jM1, jN1, jO2, jO3, jP2, jP3, jQ1, _), _) =>
    obind (fC7.run N b1 jT jA1 jB1 jC1 jD1 jE1 jF1 jG1 jH1 jI1 jJ1 jK1 jL1 jM1 jN1 jO2 jO3 jP2 jP3 jQ1) fun ((b2, _), (_, _, jT1, _), (jA2, jB2, jC2, jD2, jE2, jF2, jG2, jH2, jI2, jJ2, jK2, jL2, jM2, jN2, jO4, jO5, jP4, jP5, jQ2, _), _) =>
      obind (fC53.run N b2 jT1 jA2 jB2 jC2 jD2 jE2 jF2 jG2 jH2 jI2 jJ2 jK2 jL2 jM2 jN2 jO4 jO5 jP4 jP5 jQ2) fun ((b3, _), (jA3, jB3, jC3, jD3, jE3, jF3, jG3, jH3, jI3, jJ3, jK3, jL3, jM3, jN3, jO6, jO7, jP6, jP7, jQ3, _), _) =>
        obind (fC21.run N b3 jT1 jA3 jB3 jC3 jD3 jE3 jF3 jG3 jH3 jI3 jJ3 jK3 jL3 jM3 jN3 jO6 jO7 jP6 jP7 jQ3) fun ((b4, _), (_, _, jT2, _), (jA4, jB4, jC4, jD4, jE4, jF4, jG4, jH4, jI4, jJ4, jK4, jL4, jM4, jN4, jO8, jO9, jP8, jP9, jQ4, _), _) =>
          some ((b4, ()), ((), (), jT2, ()), (jA4, jB4, jC4, jD4, jE4, jF4, jG4, jH4, jI4, jJ4, jK4, jL4, jM4, jN4, jO8, jO9, jP8, jP9, jQ4, ()), ())
namespace fA37
def fn (N : Nat) : Sh.den ins → Option (Sh.den outs) := fun ((((a, _), _, b, _), _), ((c, d, e, f, g, h, i, j, k, l, m, o, p, q, r, s, t, u, v, _), _), _) => fA37.run N a b c d e f g h i j k l m o p q r s t u v
def S (N : Nat) : Fs := ⟨ins, outs, fn N⟩
def lam (N : Nat) : Pcs := pcs []
theorem pok (N : Nat) : (lam N).Ok Tryz.prog (C N) code := pcsOk_nil
theorem ok (N : Nat) : (S N).con.Ok Tryz.prog 77 := okF (F := S N) [] Tryz.func77 (by kernel_rfl) (by rfl) mix (cok N) (pok N) fun _ => by kernel_rfl
end fA37
namespace fA51
def ins : Sh := (.cons (.rbox 47 s5) (.cons (.els 1 2 (.cons (.bxo 9 31 s7) (.cons (.refo 3 5) .nil))) .nil))
def C (N : Nat) : Ctx := ⟨U, 16, fun _ => true, gam [(67, (((fB5.S N).con).or (fB15.S N).con))], gamY []⟩
theorem cok (N : Nat) : (C N).Ok Tryz.prog := ⟨U_ok, GamOk.cons (Con.or_ok (fB5.ok N) (fB15.ok N)) (GamOk.nil), GamYOk.nil⟩
def code : Code := Tryz.f64.body.getD .skip
def outs : Sh := s13
end fA51
def fA51.run (N : Nat) (b : (List UInt8)) (jT : Bool) (jA : Int) (jB_ : Int) (jC_ : Int) (jD : Int) (jE : Int) (jF : Int) (jG : Int) (jH : Int) (jI : Int) (jJ : Int) (jK : Int) (jL : Bool) (jM : Bool) (jN : Bool) (jO_ : Int) (jO1 : Int) (jP : (List T7)) (jP1 : (List T8)) (jQ : (List T6)) : Option T12 :=
  obind (fB15.run N b jT jA jB_ jC_ jD jE jF jG jH jI jJ jK jL jM jN jO_ jO1 jP jP1 jQ) fun ((b1, _), (jA1, jB1, jC1, jD1, jE1, jF1, jG1, jH1, jI1, jJ1, jK1, jL1, jM1, jN1, jO2, jO3, jP2, jP3, jQ1, _), _) =>
    obind (fB5.run N b1 jT jA1 jB1 jC1 jD1 jE1 jF1 jG1 jH1 jI1 jJ1 jK1 jL1 jM1 jN1 jO2 jO3 jP2 jP3 jQ1) fun ((b2, _), (jA2, jB2, jC2, jD2, jE2, jF2, jG2, jH2, jI2, jJ2, jK2, jL2, jM2, jN2, jO4, jO5, jP4, jP5, jQ2, _), _) =>
      some ((b2, ()), (jA2, jB2, jC2, jD2, jE2, jF2, jG2, jH2, jI2, jJ2, jK2, jL2, jM2, jN2, jO4, jO5, jP4, jP5, jQ2, ()), ())
namespace fA51
def fn (N : Nat) : Sh.den ins → Option (Sh.den outs) := fun (((a, _), _, b, _), ((c, d, e, f, g, h, i, j, k, l, m, o, p, q, r, s, t, u, v, _), _, _), _) => fA51.run N a b c d e f g h i j k l m o p q r s t u v
def S (N : Nat) : Fs := ⟨ins, outs, fn N⟩
def lam (N : Nat) : Pcs := pcs [([true, false], (Pc.unroll (C N) (loopBody (sub code [true, false])) (pcs []) 3))]
theorem pok (N : Nat) : (lam N).Ok Tryz.prog (C N) code := pcsOk_cons (c1 := .loop (loopBody (sub code [true, false]))) (by kernel_rfl) (unroll_ok (cok N) mix pcsOk_nil 3) (pcsOk_nil)
theorem ok (N : Nat) : (S N).con.Ok Tryz.prog 64 := okF (F := S N) [] Tryz.func64 (by kernel_rfl) (by rfl) mix (cok N) (pok N) fun _ => by kernel_rfl
end fA51
namespace fC33
def ins : Sh := s36
def C (N : Nat) : Ctx := ⟨U, 11, fun _ => true, gam [(64, (fA51.S N).con)], gamY []⟩
theorem cok (N : Nat) : (C N).Ok Tryz.prog := ⟨U_ok, GamOk.cons (fA51.ok N) (GamOk.nil), GamYOk.nil⟩
def code : Code := Tryz.f78.body.getD .skip
def outs : Sh := s37
end fC33
def fC33.run (N : Nat) (b : (List UInt8)) (jT : Bool) (jA : Int) (jB_ : Int) (jC_ : Int) (jD : Int) (jE : Int) (jF : Int) (jG : Int) (jH : Int) (jI : Int) (jJ : Int) (jK : Int) (jL : Bool) (jM : Bool) (jN : Bool) (jO_ : Int) (jO1 : Int) (jP : (List T7)) (jP1 : (List T8)) (jQ : (List T6)) : Option T12 :=
  obind (fA51.run N b jT jA jB_ jC_ jD jE jF jG jH jI jJ jK jL jM jN jO_ jO1 jP jP1 jQ) fun ((b1, _), (jA1, jB1, jC1, jD1, jE1, jF1, jG1, jH1, jI1, jJ1, jK1, jL1, jM1, jN1, jO2, jO3, jP2, jP3, jQ1, _), _) =>
    some ((b1, ()), (jA1, jB1, jC1, jD1, jE1, jF1, jG1, jH1, jI1, jJ1, jK1, jL1, jM1, jN1, jO2, jO3, jP2, jP3, jQ1, ()), ())
namespace fC33
def fn (N : Nat) : Sh.den ins → Option (Sh.den outs) := fun ((((a, _), _, b, _), _), ((c, d, e, f, g, h, i, j, k, l, m, o, p, q, r, s, t, u, v, _), _), _) => fC33.run N a b c d e f g h i j k l m o p q r s t u v
def S (N : Nat) : Fs := ⟨ins, outs, fn N⟩
def lam (N : Nat) : Pcs := pcs []
theorem pok (N : Nat) : (lam N).Ok Tryz.prog (C N) code := pcsOk_nil
theorem ok (N : Nat) : (S N).con.Ok Tryz.prog 78 := okF (F := S N) [] Tryz.func78 (by kernel_rfl) (by rfl) mix (cok N) (pok N) fun _ => by kernel_rfl
end fC33
namespace fB33
def ins : Sh := s36
def C (N : Nat) : Ctx := ⟨U, 7, fun _ => true, gam [(67, (fA16.S N).con)], gamY []⟩
theorem cok (N : Nat) : (C N).Ok Tryz.prog := ⟨U_ok, GamOk.cons (fA16.ok N) (GamOk.nil), GamYOk.nil⟩
def code : Code := Tryz.f79.body.getD .skip
def outs : Sh := s37
end fB33
def fB33.run (N : Nat) (b : (List UInt8)) (jT : Bool) (jA : Int) (jB_ : Int) (jC_ : Int) (jD : Int) (jE : Int) (jF : Int) (jG : Int) (jH : Int) (jI : Int) (jJ : Int) (jK : Int) (jL : Bool) (jM : Bool) (jN : Bool) (jO_ : Int) (jO1 : Int) (jP : (List T7)) (jP1 : (List T8)) (jQ : (List T6)) : Option T12 :=
  obind (fA16.run N b jT jA jB_ jC_ jD jE jF jG jH jI jJ jK jL jM jN jO_ jO1 jP jP1 jQ) fun ((b1, _), (jA1, jB1, jC1, jD1, jE1, jF1, jG1, jH1, jI1, jJ1, jK1, jL1, jM1, jN1, jO2, jO3, jP2, jP3, jQ1, _), _) =>
    some ((b1, ()), (jA1, jB1, jC1, jD1, jE1, jF1, jG1, jH1, jI1, jJ1, jK1, jL1, jM1, jN1, jO2, jO3, jP2, jP3, jQ1, ()), ())
namespace fB33
def fn (N : Nat) : Sh.den ins → Option (Sh.den outs) := fun ((((a, _), _, b, _), _), ((c, d, e, f, g, h, i, j, k, l, m, o, p, q, r, s, t, u, v, _), _), _) => fB33.run N a b c d e f g h i j k l m o p q r s t u v
def S (N : Nat) : Fs := ⟨ins, outs, fn N⟩
def lam (N : Nat) : Pcs := pcs []
theorem pok (N : Nat) : (lam N).Ok Tryz.prog (C N) code := pcsOk_nil
theorem ok (N : Nat) : (S N).con.Ok Tryz.prog 79 := okF (F := S N) [] Tryz.func79 (by kernel_rfl) (by rfl) mix (cok N) (pok N) fun _ => by kernel_rfl
end fB33
namespace fA33
def ins : Sh := s36
def C (N : Nat) : Ctx := ⟨U, 7, fun _ => true, gam [(67, (fB16.S N).con)], gamY []⟩
theorem cok (N : Nat) : (C N).Ok Tryz.prog := ⟨U_ok, GamOk.cons (fB16.ok N) (GamOk.nil), GamYOk.nil⟩
def code : Code := Tryz.f80.body.getD .skip
def outs : Sh := s37
end fA33
def fA33.run (N : Nat) (b : (List UInt8)) (jT : Bool) (jA : Int) (jB_ : Int) (jC_ : Int) (jD : Int) (jE : Int) (jF : Int) (jG : Int) (jH : Int) (jI : Int) (jJ : Int) (jK : Int) (jL : Bool) (jM : Bool) (jN : Bool) (jO_ : Int) (jO1 : Int) (jP : (List T7)) (jP1 : (List T8)) (jQ : (List T6)) : Option T12 :=
  obind (fB16.run N b jT jA jB_ jC_ jD jE jF jG jH jI jJ jK jL jM jN jO_ jO1 jP jP1 jQ) fun ((b1, _), (jA1, jB1, jC1, jD1, jE1, jF1, jG1, jH1, jI1, jJ1, jK1, jL1, jM1, jN1, jO2, jO3, jP2, jP3, jQ1, _), _) =>
    some ((b1, ()), (jA1, jB1, jC1, jD1, jE1, jF1, jG1, jH1, jI1, jJ1, jK1, jL1, jM1, jN1, jO2, jO3, jP2, jP3, jQ1, ()), ())
namespace fA33
def fn (N : Nat) : Sh.den ins → Option (Sh.den outs) := fun ((((a, _), _, b, _), _), ((c, d, e, f, g, h, i, j, k, l, m, o, p, q, r, s, t, u, v, _), _), _) => fA33.run N a b c d e f g h i j k l m o p q r s t u v
def S (N : Nat) : Fs := ⟨ins, outs, fn N⟩
def lam (N : Nat) : Pcs := pcs []
theorem pok (N : Nat) : (lam N).Ok Tryz.prog (C N) code := pcsOk_nil
theorem ok (N : Nat) : (S N).con.Ok Tryz.prog 80 := okF (F := S N) [] Tryz.func80 (by kernel_rfl) (by rfl) mix (cok N) (pok N) fun _ => by kernel_rfl
end fA33
namespace fD60
def ins : Sh := s43
def C (N : Nat) : Ctx := ⟨U, 50, fun _ => true, gam [(63, (fB37.S N).con), (66, (fC36.S N).con), (69, (fB35.S N).con), (70, (fD35.S N).con), (71, (fB36.S N).con), (73, (fA35.S N).con), (75, (fD36.S N).con), (76, (fA36.S N).con), (77, (fA37.S N).con), (78, (fC33.S N).con), (79, (fB33.S N).con), (80, (fA33.S N).con)], gamY []⟩
theorem cok (N : Nat) : (C N).Ok Tryz.prog := ⟨U_ok, GamOk.cons (fB37.ok N) (GamOk.cons (fC36.ok N) (GamOk.cons (fB35.ok N) (GamOk.cons (fD35.ok N) (GamOk.cons (fB36.ok N) (GamOk.cons (fA35.ok N) (GamOk.cons (fD36.ok N) (GamOk.cons (fA36.ok N) (GamOk.cons (fA37.ok N) (GamOk.cons (fC33.ok N) (GamOk.cons (fB33.ok N) (GamOk.cons (fA33.ok N) (GamOk.nil)))))))))))), GamYOk.nil⟩
def code : Code := Tryz.f35.body.getD .skip
def outs : Sh := (.cons (.upd 1 75 (.cons (.own 5 .byte) .nil)) (.cons (.upd 0 47 (.cons (.ref 0) s1)) (.cons (.upd 3 31 s7) (.cons (.val .bool) .nil))))
end fD60
def fD60.run (N : Nat) (b : (List UInt8)) (jT : Bool) (jA : Int) (jB_ : Int) (jC_ : Int) (jD : Int) (jE : Int) (jF : Int) (jG : Int) (jH : Int) (jI : Int) (jJ : Int) (jK : Int) (jL : Bool) (jM : Bool) (jN : Bool) (jO_ : Int) (jO1 : Int) (jP : (List T7)) (jP1 : (List T8)) (jQ : (List T6)) : Option T24 :=
  bif decide ((1 : Int) = jA) then
    obind (fB37.run N b jT jA jB_ jC_ jD jE jF jG jH jI jJ jK jL jM jN jO_ jO1 jP jP1 jQ) fun ((b1, _), (_, _, jT1, _), (jA1, jB1, jC1, jD1, jE1, jF1, jG1, jH1, jI1, jJ1, jK1, jL1, jM1, jN1, jO2, jO3, jP2, jP3, jQ1, _), _) =>
      some ((b1, ()), ((), (), jT1, ()), (jA1, jB1, jC1, jD1, jE1, jF1, jG1, jH1, jI1, jJ1, jK1, jL1, jM1, jN1, jO2, jO3, jP2, jP3, jQ1, ()), true, ())
  else
    bif decide ((2 : Int) = jA) then
      obind (fC36.run N b jT jA jB_ jC_ jD jE jF jG jH jI jJ jK jL jM jN jO_ jO1 jP jP1 jQ) fun ((b2, _), (_, _, jT2, _), (jA2, jB2, jC2, jD2, jE2, jF2, jG2, jH2, jI2, jJ2, jK2, jL2, jM2, jN2, jO4, jO5, jP4, jP5, jQ2, _), _) =>
        some ((b2, ()), ((), (), jT2, ()), (jA2, jB2, jC2, jD2, jE2, jF2, jG2, jH2, jI2, jJ2, jK2, jL2, jM2, jN2, jO4, jO5, jP4, jP5, jQ2, ()), true, ())
    else
      bif decide ((3 : Int) = jA) then
        obind (fB35.run N b jT jA jB_ jC_ jD jE jF jG jH jI jJ jK jL jM jN jO_ jO1 jP jP1 jQ) fun ((b3, _), (jA3, jB3, jC3, jD3, jE3, jF3, jG3, jH3, jI3, jJ3, jK3, jL3, jM3, jN3, jO6, jO7, jP6, jP7, jQ3, _), _) =>
          some ((b3, ()), ((), (), jT, ()), (jA3, jB3, jC3, jD3, jE3, jF3, jG3, jH3, jI3, jJ3, jK3, jL3, jM3, jN3, jO6, jO7, jP6, jP7, jQ3, ()), true, ())
      else
        bif decide ((4 : Int) = jA) then
          obind (fD35.run N b jT jA jB_ jC_ jD jE jF jG jH jI jJ jK jL jM jN jO_ jO1 jP jP1 jQ) fun ((b4, _), (jA4, jB4, jC4, jD4, jE4, jF4, jG4, jH4, jI4, jJ4, jK4, jL4, jM4, jN4, jO8, jO9, jP8, jP9, jQ4, _), _) =>
            some ((b4, ()), ((), (), jT, ()), (jA4, jB4, jC4, jD4, jE4, jF4, jG4, jH4, jI4, jJ4, jK4, jL4, jM4, jN4, jO8, jO9, jP8, jP9, jQ4, ()), true, ())
        else
          bif decide ((5 : Int) = jA) then
            obind (fB36.run N b jT jA jB_ jC_ jD jE jF jG jH jI jJ jK jL jM jN jO_ jO1 jP jP1 jQ) fun ((b5, _), (_, _, jT3, _), (jA5, jB5, jC5, jD5, jE5, jF5, jG5, jH5, jI5, jJ5, jK5, jL5, jM5, jN5, jO10, jO11, jP10, jP11, jQ5, _), _) =>
              some ((b5, ()), ((), (), jT3, ()), (jA5, jB5, jC5, jD5, jE5, jF5, jG5, jH5, jI5, jJ5, jK5, jL5, jM5, jN5, jO10, jO11, jP10, jP11, jQ5, ()), true, ())
          else
            bif decide ((6 : Int) = jA) then
              obind (fA35.run N b jT jA jB_ jC_ jD jE jF jG jH jI jJ jK jL jM jN jO_ jO1 jP jP1 jQ) fun ((b6, _), (_, _, jT4, _), (jA6, jB6, jC6, jD6, jE6, jF6, jG6, jH6, jI6, jJ6, jK6, jL6, jM6, jN6, jO12, jO13, jP12, jP13, jQ6, _), _) =>
                some ((b6, ()), ((), (), jT4, ()), (jA6, jB6, jC6, jD6, jE6, jF6, jG6, jH6, jI6, jJ6, jK6, jL6, jM6, jN6, jO12, jO13, jP12, jP13, jQ6, ()), true, ())
            else
              bif decide ((7 : Int) = jA) then
                obind (fD36.run N b jT jA jB_ jC_ jD jE jF jG jH jI jJ jK jL jM jN jO_ jO1 jP jP1 jQ) fun ((b7, _), (_, _, jT5, _), (jA7, jB7, jC7, jD7, jE7, jF7, jG7, jH7, jI7, jJ7, jK7, jL7, jM7, jN7, jO14, jO15, jP14, jP15, jQ7, _), _) =>
                  some ((b7, ()), ((), (), jT5, ()), (jA7, jB7, jC7, jD7, jE7, jF7, jG7, jH7, jI7, jJ7, jK7, jL7, jM7, jN7, jO14, jO15, jP14, jP15, jQ7, ()), true, ())
              else
                bif decide ((8 : Int) = jA) then
                  obind (fA36.run N b jT jA jB_ jC_ jD jE jF jG jH jI jJ jK jL jM jN jO_ jO1 jP jP1 jQ) fun ((b8, _), (_, _, jT6, _), (jA8, jB8, jC8, jD8, jE8, jF8, jG8, jH8, jI8, jJ8, jK8, jL8, jM8, jN8, jO16, jO17, jP16, jP17, jQ8, _), _) =>
                    some ((b8, ()), ((), (), jT6, ()), (jA8, jB8, jC8, jD8, jE8, jF8, jG8, jH8, jI8, jJ8, jK8, jL8, jM8, jN8, jO16, jO17, jP16, jP17, jQ8, ()), true, ())
                else
                  bif decide ((9 : Int) = jA) then
                    obind (fA37.run N b jT jA jB_ jC_ jD jE jF jG jH jI jJ jK jL jM jN jO_ jO1 jP jP1 jQ) fun ((b9, _), (_, _, jT7, _), (jA9, jB9, jC9, jD9, jE9, jF9, jG9, jH9, jI9, jJ9, jK9, jL9, jM9, jN9, jO18, jO19, jP18, jP19, jQ9, _), _) =>
                      some ((b9, ()), ((), (), jT7, ()), (jA9, jB9, jC9, jD9, jE9, jF9, jG9, jH9, jI9, jJ9, jK9, jL9, jM9, jN9, jO18, jO19, jP18, jP19, jQ9, ()), true, ())
                  else
                    bif decide ((10 : Int) = jA) then
                      obind (fC33.run N b jT jA jB_ jC_ jD jE jF jG jH jI jJ jK jL jM jN jO_ jO1 jP jP1 jQ) fun ((b10, _), (jA10, jB10, jC10, jD10, jE10, jF10, jG10, jH10, jI10, jJ10, jK10, jL10, jM10, jN10, jO20, jO21, jP20, jP21, jQ10, _), _) =>
                        some ((b10, ()), ((), (), jT, ()), (jA10, jB10, jC10, jD10, jE10, jF10, jG10, jH10, jI10, jJ10, jK10, jL10, jM10, jN10, jO20, jO21, jP20, jP21, jQ10, ()), true, ())
                    else
                      bif decide ((11 : Int) = jA) then
                        obind (fB33.run N b jT jA jB_ jC_ jD jE jF jG jH jI jJ jK jL jM jN jO_ jO1 jP jP1 jQ) fun ((b11, _), (jA11, jB11, jC11, jD11, jE11, jF11, jG11, jH11, jI11, jJ11, jK11, jL11, jM11, jN11, jO22, jO23, jP22, jP23, jQ11, _), _) =>
                          some ((b11, ()), ((), (), jT, ()), (jA11, jB11, jC11, jD11, jE11, jF11, jG11, jH11, jI11, jJ11, jK11, jL11, jM11, jN11, jO22, jO23, jP22, jP23, jQ11, ()), true, ())
                      else
                        bif decide ((12 : Int) = jA) then
                          obind (fA33.run N b jT jA jB_ jC_ jD jE jF jG jH jI jJ jK jL jM jN jO_ jO1 jP jP1 jQ) fun ((b12, _), (jA12, jB12, jC12, jD12, jE12, jF12, jG12, jH12, jI12, jJ12, jK12, jL12, jM12, jN12, jO24, jO25, jP24, jP25, jQ12, _), _) =>
                            some ((b12, ()), ((), (), jT, ()), (jA12, jB12, jC12, jD12, jE12, jF12, jG12, jH12, jI12, jJ12, jK12, jL12, jM12, jN12, jO24, jO25, jP24, jP25, jQ12, ()), true, ())
                        else some ((b, ()), ((), (), jT, ()), (jA, jB_, jC_, jD, jE, jF, jG, jH, jI, jJ, jK, jL, jM, jN, jO_, jO1, jP, jP1, jQ, ()), false, ())
namespace fD60
def fn (N : Nat) : Sh.den ins → Option (Sh.den outs) := fun (((a, _), _, b, _), (c, d, e, f, g, h, i, j, k, l, m, o, p, q, r, s, t, u, v, _), _) => fD60.run N a b c d e f g h i j k l m o p q r s t u v
def S (N : Nat) : Fs := ⟨ins, outs, fn N⟩
def lam (N : Nat) : Pcs := pcs [([true, true, false, true, false], (Pc.unroll (C N) (loopBody (sub code [true, true, false, true, false])) (pcs []) 13))]
theorem pok (N : Nat) : (lam N).Ok Tryz.prog (C N) code := pcsOk_cons (c1 := .loop (loopBody (sub code [true, true, false, true, false]))) (by kernel_rfl) (unroll_ok (cok N) mix pcsOk_nil 13) (pcsOk_nil)
theorem ok (N : Nat) : (S N).con.Ok Tryz.prog 35 := okF (F := S N) [] Tryz.func35 (by kernel_rfl) (by rfl) mix (cok N) (pok N) fun _ => by kernel_rfl
end fD60
namespace fB74
def ins : Sh := s43
def C (N : Nat) : Ctx := ⟨U, 24, fun _ => true, gam [(32, (fD68.S N).con), (33, (((fB70.S N).con).or (fA61.S N).con)), (35, (fD60.S N).con), (34, (fA0.S N).con)], gamY []⟩
theorem cok (N : Nat) : (C N).Ok Tryz.prog := ⟨U_ok, GamOk.cons (fD68.ok N) (GamOk.cons (Con.or_ok (fB70.ok N) (fA61.ok N)) (GamOk.cons (fD60.ok N) (GamOk.cons (fA0.ok N) (GamOk.nil)))), GamYOk.nil⟩
def code : Code := Tryz.f13.body.getD .skip
def outs : Sh := s9
end fB74
def fB74.run (N : Nat) (b : (List UInt8)) (jT : Bool) (jA : Int) (jB_ : Int) (jC_ : Int) (jD : Int) (jE : Int) (jF : Int) (jG : Int) (jH : Int) (jI : Int) (jJ : Int) (jK : Int) (jL : Bool) (jM : Bool) (jN : Bool) (jO_ : Int) (jO1 : Int) (jP : (List T7)) (jP1 : (List T8)) (jQ : (List T6)) : Option T11 :=
  obind (fD68.run N b jT jA jB_ jC_ jD jE jF jG jH jI jJ jK jL jM jN jO_ jO1 jP jP1 jQ (255 : Int)) fun ((b1, _), (_, _, jT1, _), _) =>
    obind (fB70.run N b1 jT1 jA jB_ jC_ jD jE jF jG jH jI jJ jK jL jM jN jO_ jO1 jP jP1 jQ) fun ((b2, _), (_, _, jT2, _), (jA1, jB1, jC1, jD1, jE1, jF1, jG1, jH1, jI1, jJ1, jK1, jL1, jM1, jN1, jO2, jO3, jP2, jP3, jQ1, _), _) =>
      obind (fA61.run N b2 jT2 jA1 jB1 jC1 jD1 jE1 jF1 jG1 jH1 jI1 jJ1 jK1 jL1 jM1 jN1 jO2 jO3 jP2 jP3 jQ1) fun ((b3, _), (_, _, jT3, _), (jA2, jB2, jC2, jD2, jE2, jF2, jG2, jH2, jI2, jJ2, jK2, jL2, jM2, jN2, jO4, jO5, jP4, jP5, jQ2, _), _) =>
        obind (fD60.run N b3 jT3 jA2 jB2 jC2 jD2 jE2 jF2 jG2 jH2 jI2 jJ2 jK2 jL2 jM2 jN2 jO4 jO5 jP4 jP5 jQ2) fun ((b4, _), (_, _, jT4, _), (jA3, jB3, jC3, jD3, jE3, jF3, jG3, jH3, jI3, jJ3, jK3, jL3, jM3, jN3, jO6, jO7, jP6, jP7, jQ3, _), b5, _) =>
          obind (fA0.run N b4 jT4 b5) fun ((_, _), (_, _, jT5, _), _) =>
            some ((b4, ()), ((), (), jT5, ()), (jA3, jB3, jC3, jD3, jE3, jF3, jG3, jH3, jI3, jJ3, jK3, jL3, jM3, jN3, jO6, jO7, jP6, jP7, jQ3, ()), ())
namespace fB74
def fn (N : Nat) : Sh.den ins → Option (Sh.den outs) := fun (((a, _), _, b, _), (c, d, e, f, g, h, i, j, k, l, m, o, p, q, r, s, t, u, v, _), _) => fB74.run N a b c d e f g h i j k l m o p q r s t u v
def S (N : Nat) : Fs := ⟨ins, outs, fn N⟩
def lam (N : Nat) : Pcs := pcs []
theorem pok (N : Nat) : (lam N).Ok Tryz.prog (C N) code := pcsOk_nil
theorem ok (N : Nat) : (S N).con.Ok Tryz.prog 13 := okF (F := S N) [] Tryz.func13 (by kernel_rfl) (by rfl) mix (cok N) (pok N) fun _ => by kernel_rfl
end fB74
namespace fD10
def ins : Sh := (.cons (.rown 5 .byte) .nil)
def C (N : Nat) : Ctx := ⟨U, 8, fun _ => true, gam [], gamY []⟩
theorem cok (N : Nat) : (C N).Ok Tryz.prog := ⟨U_ok, GamOk.nil, GamYOk.nil⟩
def code : Code := Tryz.f36.body.getD .skip
def outs : Sh := (.cons (.own 5 .byte) .nil)
end fD10
def fD10.run (N : Nat) (s : (List UInt8)) : Option T0 :=
  pick2 (Nat.beq s.length 0)
    (
      some (([] : List UInt8), ()))
    (
      bif room (0 + s.length) 1 then
        some (s, ())
      else none)
namespace fD10
def fn (N : Nat) : Sh.den ins → Option (Sh.den outs) := fun (a, _) => fD10.run N a
def S (N : Nat) : Fs := ⟨ins, outs, fn N⟩
def lam (N : Nat) : Pcs := pcs []
theorem pok (N : Nat) : (lam N).Ok Tryz.prog (C N) code := pcsOk_nil
theorem ok (N : Nat) : (S N).con.Ok Tryz.prog 36 := okF (F := S N) [] Tryz.func36 (by kernel_rfl) (by rfl) mix (cok N) (pok N) fun _ => by kernel_rfl
end fD10
namespace fD21
def ins : Sh := (.cons (.rbox 75 (.cons (.rown 5 .byte) .nil)) .nil)
def C (N : Nat) : Ctx := ⟨U, 8, fun _ => true, gam [(36, (fD10.S N).con)], gamY []⟩
theorem cok (N : Nat) : (C N).Ok Tryz.prog := ⟨U_ok, GamOk.cons (fD10.ok N) (GamOk.nil), GamYOk.nil⟩
def code : Code := Tryz.f14.body.getD .skip
def outs : Sh := (.cons (.own 5 .byte) .nil)
end fD21
def fD21.run (N : Nat) (b : (List UInt8)) : Option T0 :=
  obind (fD10.run N b) fun (l, _) =>
    some (l, ())
namespace fD21
def fn (N : Nat) : Sh.den ins → Option (Sh.den outs) := fun ((a, _), _) => fD21.run N a
def S (N : Nat) : Fs := ⟨ins, outs, fn N⟩
def lam (N : Nat) : Pcs := pcs []
theorem pok (N : Nat) : (lam N).Ok Tryz.prog (C N) code := pcsOk_nil
theorem ok (N : Nat) : (S N).con.Ok Tryz.prog 14 := okF (F := S N) [] Tryz.func14 (by kernel_rfl) (by rfl) mix (cok N) (pok N) fun _ => by kernel_rfl
end fD21
namespace fD66
def ins : Sh := (.cons (.rown 5 .byte) .nil)
def C (N : Nat) : Ctx := ⟨U, 7, fun _ => true, gam [(36, (fD10.S N).con)], gamY []⟩
theorem cok (N : Nat) : (C N).Ok Tryz.prog := ⟨U_ok, GamOk.cons (fD10.ok N) (GamOk.nil), GamYOk.nil⟩
def code : Code := Tryz.f15.body.getD .skip
def outs : Sh := (.cons (.box 83 s44) .nil)
end fD66
def fD66.run (N : Nat) (b : (List UInt8)) : Option (T17 × Unit) :=
  obind (fD10.run N b) fun (l, _) =>
    some ((l, (0 : Int), ()), ())
namespace fD66
def fn (N : Nat) : Sh.den ins → Option (Sh.den outs) := fun (a, _) => fD66.run N a
def S (N : Nat) : Fs := ⟨ins, outs, fn N⟩
def lam (N : Nat) : Pcs := pcs []
theorem pok (N : Nat) : (lam N).Ok Tryz.prog (C N) code := pcsOk_nil
theorem ok (N : Nat) : (S N).con.Ok Tryz.prog 15 := okF (F := S N) [] Tryz.func15 (by kernel_rfl) (by rfl) mix (cok N) (pok N) fun _ => by kernel_rfl
end fD66
namespace fA7
def ins : Sh := s45
def C (N : Nat) : Ctx := ⟨U, 45, fun _ => true, gam [], gamY []⟩
theorem cok (N : Nat) : (C N).Ok Tryz.prog := ⟨U_ok, GamOk.nil, GamYOk.nil⟩
def code : Code := Tryz.f89.body.getD .skip
def outs : Sh := (.cons (.upd 0 83 s44) s46)
end fA7
namespace fA31
def ins : Sh := s45
def ts : List Tmp := [0, 1]
def asg : List Tmp := [7, 8, 9, 10, 11, 12, 13, 14, 15, 16, 17, 18, 19, 20, 21, 22, 23]
def C (N : Nat) : Ctx := { fA7.C N with may := fun t => asg.any (Nat.beq t) }
def code : Code := (sub fA7.code [true, false]).getD .skip
theorem cok (N : Nat) : (C N).Ok Tryz.prog := okC (fA7.cok N) _
def alts : List Alt := [⟨.normal, [], (.cons (.upd 0 83 s44) .nil)⟩]
end fA31
def fA31.run (N : Nat) (b : (List UInt8)) (e : Int) (n_ : Int) : Option ((T17 × Unit)) :=
  bif decide (e = (0 : Int)) then
    bif decide (n_ > (b.length : Int)) then
      some ((b, (10 : Int), ()), ())
    else some ((b, e, ()), ())
  else some ((b, e, ()), ())
namespace fA31
def fn (N : Nat) : Sh.den ins → Option (altsDen alts) := fun ((a, b, _), c, _) => fA31.run N a b c
def P (N : Nat) : Ps := ⟨ts, ins, asg, alts, fn N⟩
def lam (N : Nat) : Pcs := pcs []
theorem pok (N : Nat) : (lam N).Ok Tryz.prog (C N) code := pcsOk_nil
theorem ok (N : Nat) : ((P N).pc (fA7.C N)).Ok Tryz.prog (fA7.C N) code := okP (F := P N) (fA7.cok N) mix (pok N) fun _ => by kernel_rfl
end fA31
def fA7.run (N : Nat) (b : (List UInt8)) (e : Int) (n_ : Int) : Option T25 :=
  obind (fA31.run N b e n_) fun ((b1, e1, _), _) =>
    bif !(decide (e1 = (0 : Int))) then
      some ((b1, e1, ()), ([] : List UInt8), false, ())
    else
      bif okB (0 : Int) n_ b1.length then
        bif okB n_ (b1.length : Int) b1.length then
          some ((b1.drop n_.toNat, e1, ()), b1.take n_.toNat, true, ())
        else none
      else none
namespace fA7
def fn (N : Nat) : Sh.den ins → Option (Sh.den outs) := fun ((a, b, _), c, _) => fA7.run N a b c
def S (N : Nat) : Fs := ⟨ins, outs, fn N⟩
def lam (N : Nat) : Pcs := pcs [([true, false], (fA31.P N).pc (C N))]
theorem pok (N : Nat) : (lam N).Ok Tryz.prog (C N) code := pcsOk_cons (c1 := fA31.code) (by kernel_rfl) (fA31.ok N) (pcsOk_nil)
theorem ok (N : Nat) : (S N).con.Ok Tryz.prog 89 := okF (F := S N) [] Tryz.func89 (by kernel_rfl) (by rfl) mix (cok N) (pok N) fun _ => by kernel_rfl
end fA7
namespace fA3
def ins : Sh := s45
def C (N : Nat) : Ctx := ⟨U, 29, fun _ => true, gam [(89, (fA7.S N).con)], gamY []⟩
theorem cok (N : Nat) : (C N).Ok Tryz.prog := ⟨U_ok, GamOk.cons (fA7.ok N) (GamOk.nil), GamYOk.nil⟩
def code : Code := Tryz.f87.body.getD .skip
def outs : Sh := s47
end fA3
namespace fC17
def ins : Sh := (.cons (.val (.int .u64)) (.cons (.val (.slice .byte)) s20))
def ts : List Tmp := [7, 16, 17, 18]
def asg : List Tmp := [7, 9, 18, 19, 20, 21, 22, 23, 24, 25, 26, 27]
def C (N : Nat) : Ctx := { fA3.C N with may := fun t => asg.any (Nat.beq t) }
def code : Code := loopBody (sub fA3.code [true, true, true, false, true, false])
theorem cok (N : Nat) : (C N).Ok Tryz.prog := okC (fA3.cok N) _
def alts : List Alt := [⟨(.exit 0), [7], (.cons (.val (.int .u64)) .nil)⟩]
end fC17
def fC17.go (N : Nat) : Nat → Int → (List UInt8) → Int → Int → Option ((Int × Unit))
  | 0, _, _, _, _ => none
  | fuel + 1, n_, t16, t17, t18 =>
    bif decide (t18 < t17) then
      bif inB t18 t16.length then
        fC17.go N fuel (IntKind.u64.wrap ((BitVec.ofInt 64 (IntKind.u64.wrap (n_ * (256 : Int))) ||| BitVec.ofInt 64 (IntKind.u64.wrap ((t16.getD t18.toNat (0 : UInt8)).toNat : Int))).toNat : Int)) t16 t17 (IntKind.i64.wrap (t18 + (1 : Int)))
      else none
    else some (n_, ())
namespace fC17
def g (N n : Nat) : Sh.den ins → Option (altsDen alts) := fun (a, b, c, d, _) => fC17.go N n a b c d
def P (N : Nat) : Ps := ⟨ts, ins, asg, alts, g N N⟩
def lam (N : Nat) : Pcs := pcs []
theorem pok (N : Nat) : (lam N).Ok Tryz.prog (C N) code := pcsOk_nil
theorem ok (N : Nat) : ((P N).pc (fA3.C N)).Ok Tryz.prog (fA3.C N) (.loop code) := okL (F := P N) (g N) (fA3.cok N) mix (pok N) (fun _ => rfl) rfl fun _ _ => by kernel_rfl
end fC17
def fA3.run (N : Nat) (b : (List UInt8)) (e : Int) (many : Int) : Option T26 :=
  obind (fA7.run N b e many) fun ((b1, e1, _), l, b2, _) =>
    obind (fC17.go N N (0 : Int) l (l.length : Int) (0 : Int)) fun (n_, _) =>
      some ((b1, e1, ()), n_, ())
namespace fA3
def fn (N : Nat) : Sh.den ins → Option (Sh.den outs) := fun ((a, b, _), c, _) => fA3.run N a b c
def S (N : Nat) : Fs := ⟨ins, outs, fn N⟩
def lam (N : Nat) : Pcs := pcs [([true, true, true, false, true, false], (fC17.P N).pc (C N))]
theorem pok (N : Nat) : (lam N).Ok Tryz.prog (C N) code := pcsOk_cons (c1 := .loop fC17.code) (by kernel_rfl) (fC17.ok N) (pcsOk_nil)
theorem ok (N : Nat) : (S N).con.Ok Tryz.prog 87 := okF (F := S N) [] Tryz.func87 (by kernel_rfl) (by rfl) mix (cok N) (pok N) fun _ => by kernel_rfl
end fA3
namespace fC5
def ins : Sh := (.cons (.box 83 s44) .nil)
def C (N : Nat) : Ctx := ⟨U, 6, fun _ => true, gam [(87, (fA3.S N).con)], gamY []⟩
theorem cok (N : Nat) : (C N).Ok Tryz.prog := ⟨U_ok, GamOk.cons (fA3.ok N) (GamOk.nil), GamYOk.nil⟩
def code : Code := Tryz.f62.body.getD .skip
def outs : Sh := (.cons (.upd 0 83 s44) (.cons (.val .byte) .nil))
end fC5
def fC5.run (N : Nat) (b : (List UInt8)) (e : Int) : Option T27 :=
  obind (fA3.run N b e (1 : Int)) fun ((b1, e1, _), n_, _) =>
    some ((b1, e1, ()), Hay.u8 (IntKind.u8.wrap n_), ())
namespace fC5
def fn (N : Nat) : Sh.den ins → Option (Sh.den outs) := fun ((a, b, _), _) => fC5.run N a b
def S (N : Nat) : Fs := ⟨ins, outs, fn N⟩
def lam (N : Nat) : Pcs := pcs []
theorem pok (N : Nat) : (lam N).Ok Tryz.prog (C N) code := pcsOk_nil
theorem ok (N : Nat) : (S N).con.Ok Tryz.prog 62 := okF (F := S N) [] Tryz.func62 (by kernel_rfl) (by rfl) mix (cok N) (pok N) fun _ => by kernel_rfl
end fC5
namespace fC1
def ins : Sh := (.cons (.box 47 s48) (.cons (.val .bool) .nil))
def C (N : Nat) : Ctx := ⟨U, 15, fun _ => true, gam [], gamY []⟩
theorem cok (N : Nat) : (C N).Ok Tryz.prog := ⟨U_ok, GamOk.nil, GamYOk.nil⟩
def code : Code := Tryz.f34.body.getD .skip
def outs : Sh := s50
end fC1
def fC1.run (N : Nat) (b : (List UInt8)) (e : Int) (jT : Bool) (ok_ : Bool) : Option T28 :=
  bif jT then
    some ((b, e, ()), ((), (), true, ()), ())
  else some ((b, e, ()), ((), (), !ok_, ()), ())
namespace fC1
def fn (N : Nat) : Sh.den ins → Option (Sh.den outs) := fun ((_, (a, b, _), c, _), d, _) => fC1.run N a b c d
def S (N : Nat) : Fs := ⟨ins, outs, fn N⟩
def lam (N : Nat) : Pcs := pcs []
theorem pok (N : Nat) : (lam N).Ok Tryz.prog (C N) code := pcsOk_nil
theorem ok (N : Nat) : (S N).con.Ok Tryz.prog 34 := okF (F := S N) [] Tryz.func34 (by kernel_rfl) (by rfl) mix (cok N) (pok N) fun _ => by kernel_rfl
end fC1
namespace fB44
def ins : Sh := (.cons (.box 47 s48) (.cons (.box 31 s52) (.cons (.val (.int .i64)) .nil)))
def C (N : Nat) : Ctx := ⟨U, 41, fun _ => true, gam [(62, (fC5.S N).con), (34, (fC1.S N).con)], gamY []⟩
theorem cok (N : Nat) : (C N).Ok Tryz.prog := ⟨U_ok, GamOk.cons (fC5.ok N) (GamOk.cons (fC1.ok N) (GamOk.nil)), GamYOk.nil⟩
def code : Code := Tryz.f32.body.getD .skip
def outs : Sh := s53
end fB44
def fB44.run (N : Nat) (b : (List UInt8)) (e : Int) (jT : Bool) (jA : Int) (jB_ : Int) (jC_ : Int) (jD : Int) (jE : Int) (jF : Int) (jG : Int) (jH : Int) (jI : Int) (jJ : Int) (jK : Int) (jL : Bool) (jM : Bool) (jN : Bool) (jO_ : Int) (jO1 : Int) (jP : (List T7)) (jP1 : (List T8)) (jQ : (List T6)) (most : Int) : Option T29 :=
  obind (fC5.run N b e) fun ((b1, e1, _), n_, _) =>
    bif decide ((IntKind.i64.wrap (n_.toNat : Int)) ≥ (0 : Int)) then
      obind (fC1.run N b1 e1 jT (decide ((IntKind.i64.wrap (n_.toNat : Int)) ≤ most))) fun ((b2, e2, _), (_, _, jT1, _), _) =>
        some ((b2, e2, ()), ((), (), jT1, ()), (IntKind.i64.wrap (n_.toNat : Int), jB_, jC_, jD, jE, jF, jG, jH, jI, jJ, jK, jL, jM, jN, jO_, jO1, jP, jP1, jQ, ()), ())
    else
      obind (fC1.run N b1 e1 jT false) fun ((b3, e3, _), (_, _, jT2, _), _) =>
        some ((b3, e3, ()), ((), (), jT2, ()), (IntKind.i64.wrap (n_.toNat : Int), jB_, jC_, jD, jE, jF, jG, jH, jI, jJ, jK, jL, jM, jN, jO_, jO1, jP, jP1, jQ, ()), ())
namespace fB44
def fn (N : Nat) : Sh.den ins → Option (Sh.den outs) := fun ((_, (a, b, _), c, _), (d, e, f, g, h, i, j, k, l, m, o, p, q, r, s, t, u, v, w, _), x, _) => fB44.run N a b c d e f g h i j k l m o p q r s t u v w x
def S (N : Nat) : Fs := ⟨ins, outs, fn N⟩
def lam (N : Nat) : Pcs := pcs []
theorem pok (N : Nat) : (lam N).Ok Tryz.prog (C N) code := pcsOk_nil
theorem ok (N : Nat) : (S N).con.Ok Tryz.prog 32 := okF (F := S N) [] Tryz.func32 (by kernel_rfl) (by rfl) mix (cok N) (pok N) fun _ => by kernel_rfl
end fB44
namespace fB46
def ins : Sh := (.cons (.box 47 s48) (.cons (.bxo 1 31 s52) (.cons (.val (.int .i64)) .nil)))
def C (N : Nat) : Ctx := ⟨U, 41, fun _ => true, gam [(62, (fC5.S N).con), (34, (fC1.S N).con)], gamY []⟩
theorem cok (N : Nat) : (C N).Ok Tryz.prog := ⟨U_ok, GamOk.cons (fC5.ok N) (GamOk.cons (fC1.ok N) (GamOk.nil)), GamYOk.nil⟩
def code : Code := Tryz.f32.body.getD .skip
def outs : Sh := s53
end fB46
def fB46.run (N : Nat) (b : (List UInt8)) (e : Int) (jT : Bool) (jA : Int) (jB_ : Int) (jC_ : Int) (jD : Int) (jE : Int) (jF : Int) (jG : Int) (jH : Int) (jI : Int) (jJ : Int) (jK : Int) (jL : Bool) (jM : Bool) (jN : Bool) (jO_ : Int) (jO1 : Int) (jP : (List T7)) (jP1 : (List T8)) (jQ : (List T6)) (most : Int) : Option T29 :=
  obind (fC5.run N b e) fun ((b1, e1, _), n_, _) =>
    bif decide ((IntKind.i64.wrap (n_.toNat : Int)) ≥ (0 : Int)) then
      obind (fC1.run N b1 e1 jT (decide ((IntKind.i64.wrap (n_.toNat : Int)) ≤ most))) fun ((b2, e2, _), (_, _, jT1, _), _) =>
        some ((b2, e2, ()), ((), (), jT1, ()), (jA, IntKind.i64.wrap (n_.toNat : Int), jC_, jD, jE, jF, jG, jH, jI, jJ, jK, jL, jM, jN, jO_, jO1, jP, jP1, jQ, ()), ())
    else
      obind (fC1.run N b1 e1 jT false) fun ((b3, e3, _), (_, _, jT2, _), _) =>
        some ((b3, e3, ()), ((), (), jT2, ()), (jA, IntKind.i64.wrap (n_.toNat : Int), jC_, jD, jE, jF, jG, jH, jI, jJ, jK, jL, jM, jN, jO_, jO1, jP, jP1, jQ, ()), ())
namespace fB46
def fn (N : Nat) : Sh.den ins → Option (Sh.den outs) := fun ((_, (a, b, _), c, _), (d, e, f, g, h, i, j, k, l, m, o, p, q, r, s, t, u, v, w, _), x, _) => fB46.run N a b c d e f g h i j k l m o p q r s t u v w x
def S (N : Nat) : Fs := ⟨ins, outs, fn N⟩
def lam (N : Nat) : Pcs := pcs []
theorem pok (N : Nat) : (lam N).Ok Tryz.prog (C N) code := pcsOk_nil
theorem ok (N : Nat) : (S N).con.Ok Tryz.prog 32 := okF (F := S N) [] Tryz.func32 (by kernel_rfl) (by rfl) mix (cok N) (pok N) fun _ => by kernel_rfl
end fB46
namespace fC45
def ins : Sh := (.cons (.box 47 s48) (.cons (.bxo 1 31 s52) .nil))
def C (N : Nat) : Ctx := ⟨U, 7, fun _ => true, gam [(32, (fB46.S N).con)], gamY []⟩
theorem cok (N : Nat) : (C N).Ok Tryz.prog := ⟨U_ok, GamOk.cons (fB46.ok N) (GamOk.nil), GamYOk.nil⟩
def code : Code := Tryz.f33.body.getD .skip
def outs : Sh := s53
end fC45
def fC45.run (N : Nat) (b : (List UInt8)) (e : Int) (jT : Bool) (jA : Int) (jB_ : Int) (jC_ : Int) (jD : Int) (jE : Int) (jF : Int) (jG : Int) (jH : Int) (jI : Int) (jJ : Int) (jK : Int) (jL : Bool) (jM : Bool) (jN : Bool) (jO_ : Int) (jO1 : Int) (jP : (List T7)) (jP1 : (List T8)) (jQ : (List T6)) : Option T29 :=
  obind (fB46.run N b e jT jA jB_ jC_ jD jE jF jG jH jI jJ jK jL jM jN jO_ jO1 jP jP1 jQ (8 : Int)) fun ((b1, e1, _), (_, _, jT1, _), (jA1, jB1, jC1, jD1, jE1, jF1, jG1, jH1, jI1, jJ1, jK1, jL1, jM1, jN1, jO2, jO3, jP2, jP3, jQ1, _), _) =>
    some ((b1, e1, ()), ((), (), jT1, ()), (jA1, jB1, jC1, jD1, jE1, jF1, jG1, jH1, jI1, jJ1, jK1, jL1, jM1, jN1, jO2, jO3, jP2, jP3, jQ1, ()), ())
namespace fC45
def fn (N : Nat) : Sh.den ins → Option (Sh.den outs) := fun ((_, (a, b, _), c, _), (d, e, f, g, h, i, j, k, l, m, o, p, q, r, s, t, u, v, w, _), _) => fC45.run N a b c d e f g h i j k l m o p q r s t u v w
def S (N : Nat) : Fs := ⟨ins, outs, fn N⟩
def lam (N : Nat) : Pcs := pcs []
theorem pok (N : Nat) : (lam N).Ok Tryz.prog (C N) code := pcsOk_nil
theorem ok (N : Nat) : (S N).con.Ok Tryz.prog 33 := okF (F := S N) [] Tryz.func33 (by kernel_rfl) (by rfl) mix (cok N) (pok N) fun _ => by kernel_rfl
end fC45
namespace fC48
def ins : Sh := (.cons (.box 47 s48) (.cons (.bxo 2 31 s52) (.cons (.val (.int .i64)) .nil)))
def C (N : Nat) : Ctx := ⟨U, 41, fun _ => true, gam [(62, (fC5.S N).con), (34, (fC1.S N).con)], gamY []⟩
theorem cok (N : Nat) : (C N).Ok Tryz.prog := ⟨U_ok, GamOk.cons (fC5.ok N) (GamOk.cons (fC1.ok N) (GamOk.nil)), GamYOk.nil⟩
def code : Code := Tryz.f32.body.getD .skip
def outs : Sh := s53
end fC48
def fC48.run (N : Nat) (b : (List UInt8)) (e : Int) (jT : Bool) (jA : Int) (jB_ : Int) (jC_ : Int) (jD : Int) (jE : Int) (jF : Int) (jG : Int) (jH : Int) (jI : Int) (jJ : Int) (jK : Int) (jL : Bool) (jM : Bool) (jN : Bool) (jO_ : Int) (jO1 : Int) (jP : (List T7)) (jP1 : (List T8)) (jQ : (List T6)) (most : Int) : Option T29 :=
  obind (fC5.run N b e) fun ((b1, e1, _), n_, _) =>
    bif decide ((IntKind.i64.wrap (n_.toNat : Int)) ≥ (0 : Int)) then
      obind (fC1.run N b1 e1 jT (decide ((IntKind.i64.wrap (n_.toNat : Int)) ≤ most))) fun ((b2, e2, _), (_, _, jT1, _), _) =>
        some ((b2, e2, ()), ((), (), jT1, ()), (jA, jB_, IntKind.i64.wrap (n_.toNat : Int), jD, jE, jF, jG, jH, jI, jJ, jK, jL, jM, jN, jO_, jO1, jP, jP1, jQ, ()), ())
    else
      obind (fC1.run N b1 e1 jT false) fun ((b3, e3, _), (_, _, jT2, _), _) =>
        some ((b3, e3, ()), ((), (), jT2, ()), (jA, jB_, IntKind.i64.wrap (n_.toNat : Int), jD, jE, jF, jG, jH, jI, jJ, jK, jL, jM, jN, jO_, jO1, jP, jP1, jQ, ()), ())
namespace fC48
def fn (N : Nat) : Sh.den ins → Option (Sh.den outs) := fun ((_, (a, b, _), c, _), (d, e, f, g, h, i, j, k, l, m, o, p, q, r, s, t, u, v, w, _), x, _) => fC48.run N a b c d e f g h i j k l m o p q r s t u v w x
def S (N : Nat) : Fs := ⟨ins, outs, fn N⟩
def lam (N : Nat) : Pcs := pcs []
theorem pok (N : Nat) : (lam N).Ok Tryz.prog (C N) code := pcsOk_nil
theorem ok (N : Nat) : (S N).con.Ok Tryz.prog 32 := okF (F := S N) [] Tryz.func32 (by kernel_rfl) (by rfl) mix (cok N) (pok N) fun _ => by kernel_rfl
end fC48
namespace fD45
def ins : Sh := (.cons (.box 47 s48) (.cons (.bxo 2 31 s52) .nil))
def C (N : Nat) : Ctx := ⟨U, 7, fun _ => true, gam [(32, (fC48.S N).con)], gamY []⟩
theorem cok (N : Nat) : (C N).Ok Tryz.prog := ⟨U_ok, GamOk.cons (fC48.ok N) (GamOk.nil), GamYOk.nil⟩
def code : Code := Tryz.f33.body.getD .skip
def outs : Sh := s53
end fD45
def fD45.run (N : Nat) (b : (List UInt8)) (e : Int) (jT : Bool) (jA : Int) (jB_ : Int) (jC_ : Int) (jD : Int) (jE : Int) (jF : Int) (jG : Int) (jH : Int) (jI : Int) (jJ : Int) (jK : Int) (jL : Bool) (jM : Bool) (jN : Bool) (jO_ : Int) (jO1 : Int) (jP : (List T7)) (jP1 : (List T8)) (jQ : (List T6)) : Option T29 :=
  obind (fC48.run N b e jT jA jB_ jC_ jD jE jF jG jH jI jJ jK jL jM jN jO_ jO1 jP jP1 jQ (8 : Int)) fun ((b1, e1, _), (_, _, jT1, _), (jA1, jB1, jC1, jD1, jE1, jF1, jG1, jH1, jI1, jJ1, jK1, jL1, jM1, jN1, jO2, jO3, jP2, jP3, jQ1, _), _) =>
    some ((b1, e1, ()), ((), (), jT1, ()), (jA1, jB1, jC1, jD1, jE1, jF1, jG1, jH1, jI1, jJ1, jK1, jL1, jM1, jN1, jO2, jO3, jP2, jP3, jQ1, ()), ())
namespace fD45
def fn (N : Nat) : Sh.den ins → Option (Sh.den outs) := fun ((_, (a, b, _), c, _), (d, e, f, g, h, i, j, k, l, m, o, p, q, r, s, t, u, v, w, _), _) => fD45.run N a b c d e f g h i j k l m o p q r s t u v w
def S (N : Nat) : Fs := ⟨ins, outs, fn N⟩
def lam (N : Nat) : Pcs := pcs []
theorem pok (N : Nat) : (lam N).Ok Tryz.prog (C N) code := pcsOk_nil
theorem ok (N : Nat) : (S N).con.Ok Tryz.prog 33 := okF (F := S N) [] Tryz.func33 (by kernel_rfl) (by rfl) mix (cok N) (pok N) fun _ => by kernel_rfl
end fD45
namespace fD1
def ins : Sh := (.cons (.box 83 s44) .nil)
def C (N : Nat) : Ctx := ⟨U, 5, fun _ => true, gam [(87, (fA3.S N).con)], gamY []⟩
theorem cok (N : Nat) : (C N).Ok Tryz.prog := ⟨U_ok, GamOk.cons (fA3.ok N) (GamOk.nil), GamYOk.nil⟩
def code : Code := Tryz.f101.body.getD .skip
def outs : Sh := s47
end fD1
def fD1.run (N : Nat) (b : (List UInt8)) (e : Int) : Option T26 :=
  obind (fA3.run N b e (8 : Int)) fun ((b1, e1, _), n_, _) =>
    some ((b1, e1, ()), n_, ())
namespace fD1
def fn (N : Nat) : Sh.den ins → Option (Sh.den outs) := fun ((a, b, _), _) => fD1.run N a b
def S (N : Nat) : Fs := ⟨ins, outs, fn N⟩
def lam (N : Nat) : Pcs := pcs []
theorem pok (N : Nat) : (lam N).Ok Tryz.prog (C N) code := pcsOk_nil
theorem ok (N : Nat) : (S N).con.Ok Tryz.prog 101 := okF (F := S N) [] Tryz.func101 (by kernel_rfl) (by rfl) mix (cok N) (pok N) fun _ => by kernel_rfl
end fD1
namespace fC13
def ins : Sh := (.cons (.rbox 47 s48) (.cons (.bxo 3 31 s52) .nil))
def C (N : Nat) : Ctx := ⟨U, 24, fun _ => true, gam [(101, (fD1.S N).con)], gamY []⟩
theorem cok (N : Nat) : (C N).Ok Tryz.prog := ⟨U_ok, GamOk.cons (fD1.ok N) (GamOk.nil), GamYOk.nil⟩
def code : Code := Tryz.f67.body.getD .skip
def outs : Sh := s54
end fC13
def fC13.run (N : Nat) (b : (List UInt8)) (e : Int) (jT : Bool) (jA : Int) (jB_ : Int) (jC_ : Int) (jD : Int) (jE : Int) (jF : Int) (jG : Int) (jH : Int) (jI : Int) (jJ : Int) (jK : Int) (jL : Bool) (jM : Bool) (jN : Bool) (jO_ : Int) (jO1 : Int) (jP : (List T7)) (jP1 : (List T8)) (jQ : (List T6)) : Option T30 :=
  obind (fD1.run N b e) fun ((b1, e1, _), n_, _) =>
    some ((b1, e1, ()), (jA, jB_, jC_, n_, jE, jF, jG, jH, jI, jJ, jK, jL, jM, jN, jO_, jO1, jP, jP1, jQ, ()), ())
namespace fC13
def fn (N : Nat) : Sh.den ins → Option (Sh.den outs) := fun ((_, (a, b, _), c, _), (d, e, f, g, h, i, j, k, l, m, o, p, q, r, s, t, u, v, w, _), _) => fC13.run N a b c d e f g h i j k l m o p q r s t u v w
def S (N : Nat) : Fs := ⟨ins, outs, fn N⟩
def lam (N : Nat) : Pcs := pcs []
theorem pok (N : Nat) : (lam N).Ok Tryz.prog (C N) code := pcsOk_nil
theorem ok (N : Nat) : (S N).con.Ok Tryz.prog 67 := okF (F := S N) [] Tryz.func67 (by kernel_rfl) (by rfl) mix (cok N) (pok N) fun _ => by kernel_rfl
end fC13
namespace fC44
def ins : Sh := (.cons (.rbox 47 s48) (.cons (.bxo 4 31 s52) .nil))
def C (N : Nat) : Ctx := ⟨U, 24, fun _ => true, gam [(101, (fD1.S N).con)], gamY []⟩
theorem cok (N : Nat) : (C N).Ok Tryz.prog := ⟨U_ok, GamOk.cons (fD1.ok N) (GamOk.nil), GamYOk.nil⟩
def code : Code := Tryz.f67.body.getD .skip
def outs : Sh := s54
end fC44
def fC44.run (N : Nat) (b : (List UInt8)) (e : Int) (jT : Bool) (jA : Int) (jB_ : Int) (jC_ : Int) (jD : Int) (jE : Int) (jF : Int) (jG : Int) (jH : Int) (jI : Int) (jJ : Int) (jK : Int) (jL : Bool) (jM : Bool) (jN : Bool) (jO_ : Int) (jO1 : Int) (jP : (List T7)) (jP1 : (List T8)) (jQ : (List T6)) : Option T30 :=
  obind (fD1.run N b e) fun ((b1, e1, _), n_, _) =>
    some ((b1, e1, ()), (jA, jB_, jC_, jD, n_, jF, jG, jH, jI, jJ, jK, jL, jM, jN, jO_, jO1, jP, jP1, jQ, ()), ())
namespace fC44
def fn (N : Nat) : Sh.den ins → Option (Sh.den outs) := fun ((_, (a, b, _), c, _), (d, e, f, g, h, i, j, k, l, m, o, p, q, r, s, t, u, v, w, _), _) => fC44.run N a b c d e f g h i j k l m o p q r s t u v w
def S (N : Nat) : Fs := ⟨ins, outs, fn N⟩
def lam (N : Nat) : Pcs := pcs []
theorem pok (N : Nat) : (lam N).Ok Tryz.prog (C N) code := pcsOk_nil
theorem ok (N : Nat) : (S N).con.Ok Tryz.prog 67 := okF (F := S N) [] Tryz.func67 (by kernel_rfl) (by rfl) mix (cok N) (pok N) fun _ => by kernel_rfl
end fC44
namespace fB41
def ins : Sh := (.cons (.rbox 47 s48) (.cons (.els 1 2 (.cons (.bxo 3 31 s52) (.cons (.refo 2 4) .nil))) .nil))
def C (N : Nat) : Ctx := ⟨U, 16, fun _ => true, gam [(67, (((fC13.S N).con).or (fC44.S N).con))], gamY []⟩
theorem cok (N : Nat) : (C N).Ok Tryz.prog := ⟨U_ok, GamOk.cons (Con.or_ok (fC13.ok N) (fC44.ok N)) (GamOk.nil), GamYOk.nil⟩
def code : Code := Tryz.f64.body.getD .skip
def outs : Sh := s54
end fB41
def fB41.run (N : Nat) (b : (List UInt8)) (e : Int) (jT : Bool) (jA : Int) (jB_ : Int) (jC_ : Int) (jD : Int) (jE : Int) (jF : Int) (jG : Int) (jH : Int) (jI : Int) (jJ : Int) (jK : Int) (jL : Bool) (jM : Bool) (jN : Bool) (jO_ : Int) (jO1 : Int) (jP : (List T7)) (jP1 : (List T8)) (jQ : (List T6)) : Option T30 :=
  obind (fC13.run N b e jT jA jB_ jC_ jD jE jF jG jH jI jJ jK jL jM jN jO_ jO1 jP jP1 jQ) fun ((b1, e1, _), (jA1, jB1, jC1, jD1, jE1, jF1, jG1, jH1, jI1, jJ1, jK1, jL1, jM1, jN1, jO2, jO3, jP2, jP3, jQ1, _), _) =>
    obind (fC44.run N b1 e1 jT jA1 jB1 jC1 jD1 jE1 jF1 jG1 jH1 jI1 jJ1 jK1 jL1 jM1 jN1 jO2 jO3 jP2 jP3 jQ1) fun ((b2, e2, _), (jA2, jB2, jC2, jD2, jE2, jF2, jG2, jH2, jI2, jJ2, jK2, jL2, jM2, jN2, jO4, jO5, jP4, jP5, jQ2, _), _) =>
      some ((b2, e2, ()), (jA2, jB2, jC2, jD2, jE2, jF2, jG2, jH2, jI2, jJ2, jK2, jL2, jM2, jN2, jO4, jO5, jP4, jP5, jQ2, ()), ())
namespace fB41
def fn (N : Nat) : Sh.den ins → Option (Sh.den outs) := fun ((_, (a, b, _), c, _), ((d, e, f, g, h, i, j, k, l, m, o, p, q, r, s, t, u, v, w, _), _, _), _) => fB41.run N a b c d e f g h i j k l m o p q r s t u v w
def S (N : Nat) : Fs := ⟨ins, outs, fn N⟩
def lam (N : Nat) : Pcs := pcs [([true, false], (Pc.unroll (C N) (loopBody (sub code [true, false])) (pcs []) 3))]
theorem pok (N : Nat) : (lam N).Ok Tryz.prog (C N) code := pcsOk_cons (c1 := .loop (loopBody (sub code [true, false]))) (by kernel_rfl) (unroll_ok (cok N) mix pcsOk_nil 3) (pcsOk_nil)
theorem ok (N : Nat) : (S N).con.Ok Tryz.prog 64 := okF (F := S N) [] Tryz.func64 (by kernel_rfl) (by rfl) mix (cok N) (pok N) fun _ => by kernel_rfl
end fB41
namespace fD0
def ins : Sh := (.cons (.box 83 s44) (.cons (.val (.int .u64)) .nil))
def C (N : Nat) : Ctx := ⟨U, 52, fun _ => true, gam [(87, (fA3.S N).con)], gamY []⟩
theorem cok (N : Nat) : (C N).Ok Tryz.prog := ⟨U_ok, GamOk.cons (fA3.ok N) (GamOk.nil), GamYOk.nil⟩
def code : Code := Tryz.f111.body.getD .skip
def outs : Sh := s47
end fD0
namespace fA34
def ins : Sh := (.cons (.box 83 s44) s55)
def ts : List Tmp := [0, 6, 7]
def asg : List Tmp := [6, 7, 14, 15, 16, 17, 18, 19, 20, 21, 22, 23, 24, 25, 26]
def C (N : Nat) : Ctx := { fD0.C N with may := fun t => asg.any (Nat.beq t) }
def code : Code := (sub fD0.code [true, true, true, false]).getD .skip
theorem cok (N : Nat) : (C N).Ok Tryz.prog := okC (fD0.cok N) _
def alts : List Alt := [⟨.normal, [6, 7], (.cons (.upd 0 83 s44) s55)⟩]
end fA34
def fA34.run (N : Nat) (b : (List UInt8)) (e : Int) (n_ : Int) (least : Int) : Option (T31) :=
  bif decide (n_ = (253 : Int)) then
    obind (fA3.run N b e (2 : Int)) fun ((b1, e1, _), n1, _) =>
      some ((b1, e1, ()), n1, (253 : Int), ())
  else
    bif decide (n_ = (254 : Int)) then
      obind (fA3.run N b e (4 : Int)) fun ((b2, e2, _), n2, _) =>
        some ((b2, e2, ()), n2, (65536 : Int), ())
    else
      bif decide (n_ = (255 : Int)) then
        obind (fA3.run N b e (8 : Int)) fun ((b3, e3, _), n3, _) =>
          some ((b3, e3, ()), n3, (4294967296 : Int), ())
      else some ((b, e, ()), n_, least, ())
namespace fA34
def fn (N : Nat) : Sh.den ins → Option (altsDen alts) := fun ((a, b, _), c, d, _) => fA34.run N a b c d
def P (N : Nat) : Ps := ⟨ts, ins, asg, alts, fn N⟩
def lam (N : Nat) : Pcs := pcs []
theorem pok (N : Nat) : (lam N).Ok Tryz.prog (C N) code := pcsOk_nil
theorem ok (N : Nat) : ((P N).pc (fD0.C N)).Ok Tryz.prog (fD0.C N) code := okP (F := P N) (fD0.cok N) mix (pok N) fun _ => by kernel_rfl
end fA34
def fD0.run (N : Nat) (b : (List UInt8)) (e : Int) (most : Int) : Option T26 :=
  obind (fA3.run N b e (1 : Int)) fun ((b1, e1, _), n_, _) =>
    obind (fA34.run N b1 e1 n_ (0 : Int)) fun ((b5, e5, _), n4, least, _) =>
      bif !(decide (e5 = (0 : Int))) then
        some ((b, e5, ()), (0 : Int), ())
      else
        bif decide (n4 < least) then
          some ((b, (11 : Int), ()), (0 : Int), ())
        else
          bif decide (n4 > most) then
            some ((b, (12 : Int), ()), (0 : Int), ())
          else some ((b5, e5, ()), n4, ())
namespace fD0
def fn (N : Nat) : Sh.den ins → Option (Sh.den outs) := fun ((a, b, _), c, _) => fD0.run N a b c
def S (N : Nat) : Fs := ⟨ins, outs, fn N⟩
def lam (N : Nat) : Pcs := pcs [([true, true, true, false], (fA34.P N).pc (C N))]
theorem pok (N : Nat) : (lam N).Ok Tryz.prog (C N) code := pcsOk_cons (c1 := fA34.code) (by kernel_rfl) (fA34.ok N) (pcsOk_nil)
theorem ok (N : Nat) : (S N).con.Ok Tryz.prog 111 := okF (F := S N) [] Tryz.func111 (by kernel_rfl) (by rfl) mix (cok N) (pok N) fun _ => by kernel_rfl
end fD0
namespace fD57
def ins : Sh := (.cons (.rbox 83 s44) .nil)
def C (N : Nat) : Ctx := ⟨U, 7, fun _ => true, gam [], gamY []⟩
theorem cok (N : Nat) : (C N).Ok Tryz.prog := ⟨U_ok, GamOk.nil, GamYOk.nil⟩
def code : Code := Tryz.f119.body.getD .skip
def outs : Sh := (.cons (.val (.int .i64)) .nil)
end fD57
def fD57.run (N : Nat) (b : (List UInt8)) (e : Int) : Option (Int × Unit) :=
  some (e, ())
namespace fD57
def fn (N : Nat) : Sh.den ins → Option (Sh.den outs) := fun ((a, b, _), _) => fD57.run N a b
def S (N : Nat) : Fs := ⟨ins, outs, fn N⟩
def lam (N : Nat) : Pcs := pcs []
theorem pok (N : Nat) : (lam N).Ok Tryz.prog (C N) code := pcsOk_nil
theorem ok (N : Nat) : (S N).con.Ok Tryz.prog 119 := okF (F := S N) [] Tryz.func119 (by kernel_rfl) (by rfl) mix (cok N) (pok N) fun _ => by kernel_rfl
end fD57
namespace fA13
def ins : Sh := (.cons (.rbox 47 (.cons (.nilp) (.cons (.rbox 83 s44) (.cons (.val .bool) .nil)))) .nil)
def C (N : Nat) : Ctx := ⟨U, 22, fun _ => true, gam [(119, (fD57.S N).con)], gamY []⟩
theorem cok (N : Nat) : (C N).Ok Tryz.prog := ⟨U_ok, GamOk.cons (fD57.ok N) (GamOk.nil), GamYOk.nil⟩
def code : Code := Tryz.f112.body.getD .skip
def outs : Sh := (.cons (.val .bool) .nil)
end fA13
def fA13.run (N : Nat) (b : (List UInt8)) (e : Int) (jT : Bool) : Option (Bool × Unit) :=
  bif jT then
    some (true, ())
  else
    obind (fD57.run N b e) fun (n_, _) =>
      some (!(decide (n_ = (0 : Int))), ())
namespace fA13
def fn (N : Nat) : Sh.den ins → Option (Sh.den outs) := fun ((_, (a, b, _), c, _), _) => fA13.run N a b c
def S (N : Nat) : Fs := ⟨ins, outs, fn N⟩
def lam (N : Nat) : Pcs := pcs []
theorem pok (N : Nat) : (lam N).Ok Tryz.prog (C N) code := pcsOk_nil
theorem ok (N : Nat) : (S N).con.Ok Tryz.prog 112 := okF (F := S N) [] Tryz.func112 (by kernel_rfl) (by rfl) mix (cok N) (pok N) fun _ => by kernel_rfl
end fA13
namespace fA41
def ins : Sh := s58
def C (N : Nat) : Ctx := ⟨U, 38, fun _ => true, gam [(111, (fD0.S N).con)], gamY []⟩
theorem cok (N : Nat) : (C N).Ok Tryz.prog := ⟨U_ok, GamOk.cons (fD0.ok N) (GamOk.nil), GamYOk.nil⟩
def code : Code := Tryz.f102.body.getD .skip
def outs : Sh := s59
end fA41
def fA41.run (N : Nat) (b : (List UInt8)) (e : Int) (jT : Bool) (jO_ : Int) (jO1 : Int) (ver : Int) (ver1 : Int) (ver2 : (List T4)) (ver3 : Int) : Option T32 :=
  obind (fD0.run N b e (2147483647 : Int)) fun ((b1, e1, _), n_, _) =>
    some ((b1, e1, ()), (IntKind.i64.wrap n_, jO1, ver, ver1, ver2, ver3, ()), ())
namespace fA41
def fn (N : Nat) : Sh.den ins → Option (Sh.den outs) := fun ((_, (a, b, _), c, _), (d, e, f, g, h, i, _), _) => fA41.run N a b c d e f g h i
def S (N : Nat) : Fs := ⟨ins, outs, fn N⟩
def lam (N : Nat) : Pcs := pcs []
theorem pok (N : Nat) : (lam N).Ok Tryz.prog (C N) code := pcsOk_nil
theorem ok (N : Nat) : (S N).con.Ok Tryz.prog 102 := okF (F := S N) [] Tryz.func102 (by kernel_rfl) (by rfl) mix (cok N) (pok N) fun _ => by kernel_rfl
end fA41
namespace fC37
def ins : Sh := (.cons (.rbox 47 s48) (.cons (.bxo 1 95 s57) .nil))
def C (N : Nat) : Ctx := ⟨U, 38, fun _ => true, gam [(111, (fD0.S N).con)], gamY []⟩
theorem cok (N : Nat) : (C N).Ok Tryz.prog := ⟨U_ok, GamOk.cons (fD0.ok N) (GamOk.nil), GamYOk.nil⟩
def code : Code := Tryz.f102.body.getD .skip
def outs : Sh := s59
end fC37
def fC37.run (N : Nat) (b : (List UInt8)) (e : Int) (jT : Bool) (jO_ : Int) (jO1 : Int) (ver : Int) (ver1 : Int) (ver2 : (List T4)) (ver3 : Int) : Option T32 :=
  obind (fD0.run N b e (2147483647 : Int)) fun ((b1, e1, _), n_, _) =>
    some ((b1, e1, ()), (jO_, IntKind.i64.wrap n_, ver, ver1, ver2, ver3, ()), ())
namespace fC37
def fn (N : Nat) : Sh.den ins → Option (Sh.den outs) := fun ((_, (a, b, _), c, _), (d, e, f, g, h, i, _), _) => fC37.run N a b c d e f g h i
def S (N : Nat) : Fs := ⟨ins, outs, fn N⟩
def lam (N : Nat) : Pcs := pcs []
theorem pok (N : Nat) : (lam N).Ok Tryz.prog (C N) code := pcsOk_nil
theorem ok (N : Nat) : (S N).con.Ok Tryz.prog 102 := okF (F := S N) [] Tryz.func102 (by kernel_rfl) (by rfl) mix (cok N) (pok N) fun _ => by kernel_rfl
end fC37
namespace fB31
def ins : Sh := s58
def C (N : Nat) : Ctx := ⟨U, 14, fun _ => true, gam [(102, (((fA41.S N).con).or (fC37.S N).con))], gamY []⟩
theorem cok (N : Nat) : (C N).Ok Tryz.prog := ⟨U_ok, GamOk.cons (Con.or_ok (fA41.ok N) (fC37.ok N)) (GamOk.nil), GamYOk.nil⟩
def code : Code := Tryz.f72.body.getD .skip
def outs : Sh := s59
end fB31
def fB31.run (N : Nat) (b : (List UInt8)) (e : Int) (jT : Bool) (jO_ : Int) (jO1 : Int) (ver : Int) (ver1 : Int) (ver2 : (List T4)) (ver3 : Int) : Option T32 :=
  obind (fA41.run N b e jT jO_ jO1 ver ver1 ver2 ver3) fun ((b1, e1, _), (jO2, jO3, ver4, ver5, ver6, ver7, _), _) =>
    obind (fC37.run N b1 e1 jT jO2 jO3 ver4 ver5 ver6 ver7) fun ((b2, e2, _), (jO4, jO5, ver8, ver9, ver10, ver11, _), _) =>
      some ((b2, e2, ()), (jO4, jO5, ver8, ver9, ver10, ver11, ()), ())
namespace fB31
def fn (N : Nat) : Sh.den ins → Option (Sh.den outs) := fun ((_, (a, b, _), c, _), (d, e, f, g, h, i, _), _) => fB31.run N a b c d e f g h i
def S (N : Nat) : Fs := ⟨ins, outs, fn N⟩
def lam (N : Nat) : Pcs := pcs []
theorem pok (N : Nat) : (lam N).Ok Tryz.prog (C N) code := pcsOk_nil
theorem ok (N : Nat) : (S N).con.Ok Tryz.prog 72 := okF (F := S N) [] Tryz.func72 (by kernel_rfl) (by rfl) mix (cok N) (pok N) fun _ => by kernel_rfl
end fB31
namespace fC4
def ins : Sh := (.cons (.box 83 s44) .nil)
def C (N : Nat) : Ctx := ⟨U, 6, fun _ => true, gam [(87, (fA3.S N).con)], gamY []⟩
theorem cok (N : Nat) : (C N).Ok Tryz.prog := ⟨U_ok, GamOk.cons (fA3.ok N) (GamOk.nil), GamYOk.nil⟩
def code : Code := Tryz.f53.body.getD .skip
def outs : Sh := (.cons (.upd 0 83 s44) (.cons (.val (.int .u32)) .nil))
end fC4
def fC4.run (N : Nat) (b : (List UInt8)) (e : Int) : Option T26 :=
  obind (fA3.run N b e (4 : Int)) fun ((b1, e1, _), n_, _) =>
    some ((b1, e1, ()), IntKind.u32.wrap n_, ())
namespace fC4
def fn (N : Nat) : Sh.den ins → Option (Sh.den outs) := fun ((a, b, _), _) => fC4.run N a b
def S (N : Nat) : Fs := ⟨ins, outs, fn N⟩
def lam (N : Nat) : Pcs := pcs []
theorem pok (N : Nat) : (lam N).Ok Tryz.prog (C N) code := pcsOk_nil
theorem ok (N : Nat) : (S N).con.Ok Tryz.prog 53 := okF (F := S N) [] Tryz.func53 (by kernel_rfl) (by rfl) mix (cok N) (pok N) fun _ => by kernel_rfl
end fC4
namespace fD44
def ins : Sh := (.cons (.rbox 47 s48) (.cons (.bxo 3 95 s57) .nil))
def C (N : Nat) : Ctx := ⟨U, 24, fun _ => true, gam [(53, (fC4.S N).con)], gamY []⟩
theorem cok (N : Nat) : (C N).Ok Tryz.prog := ⟨U_ok, GamOk.cons (fC4.ok N) (GamOk.nil), GamYOk.nil⟩
def code : Code := Tryz.f113.body.getD .skip
def outs : Sh := s59
end fD44
def fD44.run (N : Nat) (b : (List UInt8)) (e : Int) (jT : Bool) (jO_ : Int) (jO1 : Int) (ver : Int) (ver1 : Int) (ver2 : (List T4)) (ver3 : Int) : Option T32 :=
  obind (fC4.run N b e) fun ((b1, e1, _), n_, _) =>
    some ((b1, e1, ()), (jO_, jO1, ver, n_, ver2, ver3, ()), ())
namespace fD44
def fn (N : Nat) : Sh.den ins → Option (Sh.den outs) := fun ((_, (a, b, _), c, _), (d, e, f, g, h, i, _), _) => fD44.run N a b c d e f g h i
def S (N : Nat) : Fs := ⟨ins, outs, fn N⟩
def lam (N : Nat) : Pcs := pcs []
theorem pok (N : Nat) : (lam N).Ok Tryz.prog (C N) code := pcsOk_nil
theorem ok (N : Nat) : (S N).con.Ok Tryz.prog 113 := okF (F := S N) [] Tryz.func113 (by kernel_rfl) (by rfl) mix (cok N) (pok N) fun _ => by kernel_rfl
end fD44
namespace fC39
def ins : Sh := s45
def C (N : Nat) : Ctx := ⟨U, 33, fun _ => true, gam [(111, (fD0.S N).con)], gamY []⟩
theorem cok (N : Nat) : (C N).Ok Tryz.prog := ⟨U_ok, GamOk.cons (fD0.ok N) (GamOk.nil), GamYOk.nil⟩
def code : Code := Tryz.f130.body.getD .skip
def outs : Sh := s47
end fC39
def fC39.run (N : Nat) (b : (List UInt8)) (e : Int) (most : Int) : Option T26 :=
  obind (fD0.run N b e (IntKind.u64.wrap (max most (0 : Int)))) fun ((b1, e1, _), n_, _) =>
    bif decide (most < (0 : Int)) then
      bif decide (e1 = (0 : Int)) then
        some ((b, (12 : Int), ()), (0 : Int), ())
      else some ((b1, e1, ()), n_, ())
    else some ((b1, e1, ()), n_, ())
namespace fC39
def fn (N : Nat) : Sh.den ins → Option (Sh.den outs) := fun ((a, b, _), c, _) => fC39.run N a b c
def S (N : Nat) : Fs := ⟨ins, outs, fn N⟩
def lam (N : Nat) : Pcs := pcs []
theorem pok (N : Nat) : (lam N).Ok Tryz.prog (C N) code := pcsOk_nil
theorem ok (N : Nat) : (S N).con.Ok Tryz.prog 130 := okF (F := S N) [] Tryz.func130 (by kernel_rfl) (by rfl) mix (cok N) (pok N) fun _ => by kernel_rfl
end fC39
namespace fA53
def ins : Sh := s45
def C (N : Nat) : Ctx := ⟨U, 13, fun _ => true, gam [], gamY []⟩
theorem cok (N : Nat) : (C N).Ok Tryz.prog := ⟨U_ok, GamOk.nil, GamYOk.nil⟩
def code : Code := Tryz.f88.body.getD .skip
def outs : Sh := (.cons (.upd 0 83 s44) .nil)
end fA53
def fA53.run (N : Nat) (b : (List UInt8)) (e : Int) (e1 : Int) : Option (T17 × Unit) :=
  bif decide (e = (0 : Int)) then
    some ((b, e1, ()), ())
  else some ((b, e, ()), ())
namespace fA53
def fn (N : Nat) : Sh.den ins → Option (Sh.den outs) := fun ((a, b, _), c, _) => fA53.run N a b c
def S (N : Nat) : Fs := ⟨ins, outs, fn N⟩
def lam (N : Nat) : Pcs := pcs []
theorem pok (N : Nat) : (lam N).Ok Tryz.prog (C N) code := pcsOk_nil
theorem ok (N : Nat) : (S N).con.Ok Tryz.prog 88 := okF (F := S N) [] Tryz.func88 (by kernel_rfl) (by rfl) mix (cok N) (pok N) fun _ => by kernel_rfl
end fA53
namespace fC8
def ins : Sh := (.cons (.val (.slice .byte)) .nil)
def C (N : Nat) : Ctx := ⟨U, 8, fun _ => true, gam [], gamY []⟩
theorem cok (N : Nat) : (C N).Ok Tryz.prog := ⟨U_ok, GamOk.nil, GamYOk.nil⟩
def code : Code := Tryz.f36.body.getD .skip
def outs : Sh := (.cons (.own 5 .byte) .nil)
end fC8
def fC8.run (N : Nat) (s : (List UInt8)) : Option T0 :=
  pick2 (Nat.beq s.length 0)
    (
      some (([] : List UInt8), ()))
    (
      bif room (0 + s.length) 1 then
        some (s, ())
      else none)
namespace fC8
def fn (N : Nat) : Sh.den ins → Option (Sh.den outs) := fun (a, _) => fC8.run N a
def S (N : Nat) : Fs := ⟨ins, outs, fn N⟩
def lam (N : Nat) : Pcs := pcs []
theorem pok (N : Nat) : (lam N).Ok Tryz.prog (C N) code := pcsOk_nil
theorem ok (N : Nat) : (S N).con.Ok Tryz.prog 36 := okF (F := S N) [] Tryz.func36 (by kernel_rfl) (by rfl) mix (cok N) (pok N) fun _ => by kernel_rfl
end fC8
namespace fC11
def ins : Sh := s45
def C (N : Nat) : Ctx := ⟨U, 19, fun _ => true, gam [(88, (fA53.S N).con), (89, (fA7.S N).con), (36, (fC8.S N).con)], gamY []⟩
theorem cok (N : Nat) : (C N).Ok Tryz.prog := ⟨U_ok, GamOk.cons (fA53.ok N) (GamOk.cons (fA7.ok N) (GamOk.cons (fC8.ok N) (GamOk.nil))), GamYOk.nil⟩
def code : Code := Tryz.f54.body.getD .skip
def outs : Sh := s60
end fC11
def fC11.run (N : Nat) (b : (List UInt8)) (e : Int) (n_ : Int) : Option T33 :=
  bif decide (n_ < (0 : Int)) then
    obind (fA53.run N b e (12 : Int)) fun ((b1, e1, _), _) =>
      some ((b1, e1, ()), ([] : List UInt8), ())
  else
    obind (fA7.run N b e n_) fun ((b2, e2, _), l, b3, _) =>
      obind (fC8.run N l) fun (l1, _) =>
        some ((b2, e2, ()), l1, ())
namespace fC11
def fn (N : Nat) : Sh.den ins → Option (Sh.den outs) := fun ((a, b, _), c, _) => fC11.run N a b c
def S (N : Nat) : Fs := ⟨ins, outs, fn N⟩
def lam (N : Nat) : Pcs := pcs []
theorem pok (N : Nat) : (lam N).Ok Tryz.prog (C N) code := pcsOk_nil
theorem ok (N : Nat) : (S N).con.Ok Tryz.prog 54 := okF (F := S N) [] Tryz.func54 (by kernel_rfl) (by rfl) mix (cok N) (pok N) fun _ => by kernel_rfl
end fC11
namespace fC16
def ins : Sh := s45
def C (N : Nat) : Ctx := ⟨U, 40, fun _ => true, gam [(130, (fC39.S N).con), (54, (fC11.S N).con)], gamY []⟩
theorem cok (N : Nat) : (C N).Ok Tryz.prog := ⟨U_ok, GamOk.cons (fC39.ok N) (GamOk.cons (fC11.ok N) (GamOk.nil)), GamYOk.nil⟩
def code : Code := Tryz.f123.body.getD .skip
def outs : Sh := s60
end fC16
def fC16.run (N : Nat) (b : (List UInt8)) (e : Int) (most : Int) : Option T33 :=
  obind (fC39.run N b e most) fun ((b1, e1, _), n_, _) =>
    bif decide (e1 = (0 : Int)) then
      bif decide (n_ > (IntKind.u64.wrap (b1.length : Int))) then
        obind (fC11.run N b (10 : Int) (IntKind.i64.wrap n_)) fun ((b2, e2, _), l, _) =>
          some ((b2, e2, ()), l, ())
      else
        obind (fC11.run N b1 e1 (IntKind.i64.wrap n_)) fun ((b3, e3, _), l1, _) =>
          some ((b3, e3, ()), l1, ())
    else
      obind (fC11.run N b1 e1 (IntKind.i64.wrap n_)) fun ((b4, e4, _), l2, _) =>
        some ((b4, e4, ()), l2, ())
namespace fC16
def fn (N : Nat) : Sh.den ins → Option (Sh.den outs) := fun ((a, b, _), c, _) => fC16.run N a b c
def S (N : Nat) : Fs := ⟨ins, outs, fn N⟩
def lam (N : Nat) : Pcs := pcs []
theorem pok (N : Nat) : (lam N).Ok Tryz.prog (C N) code := pcsOk_nil
theorem ok (N : Nat) : (S N).con.Ok Tryz.prog 123 := okF (F := S N) [] Tryz.func123 (by kernel_rfl) (by rfl) mix (cok N) (pok N) fun _ => by kernel_rfl
end fC16
namespace fD34
def ins : Sh := (.cons (.val (.slice .byte)) .nil)
def C (N : Nat) : Ctx := ⟨U, 18, fun _ => true, gam [], gamY []⟩
theorem cok (N : Nat) : (C N).Ok Tryz.prog := ⟨U_ok, GamOk.nil, GamYOk.nil⟩
def code : Code := Tryz.f136.body.getD .skip
def outs : Sh := (.cons (.val (.int .u64)) .nil)
end fD34
namespace fD48
def ins : Sh := (.cons (.val (.slice .byte)) s10)
def ts : List Tmp := [0, 3, 5]
def asg : List Tmp := [3, 4, 5, 6, 7, 8, 9, 10, 11, 12, 13, 14, 15, 16]
def C (N : Nat) : Ctx := { fD34.C N with may := fun t => asg.any (Nat.beq t) }
def code : Code := loopBody (sub fD34.code [true, true, false, true, false])
theorem cok (N : Nat) : (C N).Ok Tryz.prog := okC (fD34.cok N) _
def alts : List Alt := [⟨(.exit 0), [3], (.cons (.val (.int .u64)) .nil)⟩]
end fD48
def fD48.go (N : Nat) : Nat → (List UInt8) → Int → Int → Option ((Int × Unit))
  | 0, _, _, _ => none
  | fuel + 1, b, n_, t5 =>
    bif decide (t5 < (8 : Int)) then
      bif inB t5 b.length then
        fD48.go N fuel b (IntKind.u64.wrap ((BitVec.ofInt 64 (IntKind.u64.wrap (n_ * (256 : Int))) ||| BitVec.ofInt 64 (IntKind.u64.wrap ((b.getD t5.toNat (0 : UInt8)).toNat : Int))).toNat : Int)) (IntKind.i64.wrap (t5 + (1 : Int)))
      else none
    else some (n_, ())
namespace fD48
def g (N n : Nat) : Sh.den ins → Option (altsDen alts) := fun (a, b, c, _) => fD48.go N n a b c
def P (N : Nat) : Ps := ⟨ts, ins, asg, alts, g N N⟩
def lam (N : Nat) : Pcs := pcs []
theorem pok (N : Nat) : (lam N).Ok Tryz.prog (C N) code := pcsOk_nil
theorem ok (N : Nat) : ((P N).pc (fD34.C N)).Ok Tryz.prog (fD34.C N) (.loop code) := okL (F := P N) (g N) (fD34.cok N) mix (pok N) (fun _ => rfl) rfl fun _ _ => by kernel_rfl
end fD48
def fD34.run (N : Nat) (b : (List UInt8)) : Option (Int × Unit) :=
  obind (fD48.go N N b (0 : Int) (0 : Int)) fun (n_, _) =>
    some (n_, ())
namespace fD34
def fn (N : Nat) : Sh.den ins → Option (Sh.den outs) := fun (a, _) => fD34.run N a
def S (N : Nat) : Fs := ⟨ins, outs, fn N⟩
def lam (N : Nat) : Pcs := pcs [([true, true, false, true, false], (fD48.P N).pc (C N))]
theorem pok (N : Nat) : (lam N).Ok Tryz.prog (C N) code := pcsOk_cons (c1 := .loop fD48.code) (by kernel_rfl) (fD48.ok N) (pcsOk_nil)
theorem ok (N : Nat) : (S N).con.Ok Tryz.prog 136 := okF (F := S N) [] Tryz.func136 (by kernel_rfl) (by rfl) mix (cok N) (pok N) fun _ => by kernel_rfl
end fD34
namespace fA14
def ins : Sh := (.cons (.val (.slice .byte)) .nil)
def C (N : Nat) : Ctx := ⟨U, 94, fun _ => true, gam [(133, (fA72.S N).con), (134, (fB72.S N).con), (136, (fD34.S N).con), (135, (fD76.S N).con), (137, (fA68.S N).con)], gamY []⟩
theorem cok (N : Nat) : (C N).Ok Tryz.prog := ⟨U_ok, GamOk.cons (fA72.ok N) (GamOk.cons (fB72.ok N) (GamOk.cons (fD34.ok N) (GamOk.cons (fD76.ok N) (GamOk.cons (fA68.ok N) (GamOk.nil))))), GamYOk.nil⟩
def code : Code := Tryz.f129.body.getD .skip
def outs : Sh := (.cons (.val (.pair (.int .i64) (.pair .bool (.pair (.int .i64) .str)))) s46)
end fA14
namespace fD70
def ins : Sh := s44
def ts : List Tmp := [0, 5]
def asg : List Tmp := [21, 22, 23, 24, 25, 26, 27, 28, 29, 30, 31, 32, 33, 34]
def C (N : Nat) : Ctx := { fA14.C N with may := fun t => asg.any (Nat.beq t) }
def code : Code := (sub fA14.code [true, true, true, false, false, true, true, false]).getD .skip
theorem cok (N : Nat) : (C N).Ok Tryz.prog := okC (fA14.cok N) _
def alts : List Alt := [⟨.normal, [21], (.cons (.val .bool) .nil)⟩]
end fD70
def fD70.run (N : Nat) (b : (List UInt8)) (jA : Int) : Option ((Bool × Unit)) :=
  bif decide (jA = (1 : Int)) then
    bif decide ((b.length : Int) ≥ (1 : Int)) then
      bif inB (0 : Int) b.length then
        some (decide (((b.getD 0 (0 : UInt8)).toNat : Int) ≤ (1 : Int)), ())
      else none
    else some (false, ())
  else some (false, ())
namespace fD70
def fn (N : Nat) : Sh.den ins → Option (altsDen alts) := fun (a, b, _) => fD70.run N a b
def P (N : Nat) : Ps := ⟨ts, ins, asg, alts, fn N⟩
def lam (N : Nat) : Pcs := pcs []
theorem pok (N : Nat) : (lam N).Ok Tryz.prog (C N) code := pcsOk_nil
theorem ok (N : Nat) : ((P N).pc (fA14.C N)).Ok Tryz.prog (fA14.C N) code := okP (F := P N) (fA14.cok N) mix (pok N) fun _ => by kernel_rfl
end fD70
namespace fD65
def ins : Sh := s44
def ts : List Tmp := [0, 5]
def asg : List Tmp := [42, 43, 44, 45, 46, 47, 48, 49]
def C (N : Nat) : Ctx := { fA14.C N with may := fun t => asg.any (Nat.beq t) }
def code : Code := (sub fA14.code [true, true, true, false, false, true, true, true, true, false]).getD .skip
theorem cok (N : Nat) : (C N).Ok Tryz.prog := okC (fA14.cok N) _
def alts : List Alt := [⟨.normal, [42], (.cons (.val .bool) .nil)⟩]
end fD65
def fD65.run (N : Nat) (b : (List UInt8)) (jA : Int) : Option ((Bool × Unit)) :=
  bif decide (jA = (2 : Int)) then
    some (decide ((b.length : Int) ≥ (8 : Int)), ())
  else some (false, ())
namespace fD65
def fn (N : Nat) : Sh.den ins → Option (altsDen alts) := fun (a, b, _) => fD65.run N a b
def P (N : Nat) : Ps := ⟨ts, ins, asg, alts, fn N⟩
def lam (N : Nat) : Pcs := pcs []
theorem pok (N : Nat) : (lam N).Ok Tryz.prog (C N) code := pcsOk_nil
theorem ok (N : Nat) : ((P N).pc (fA14.C N)).Ok Tryz.prog (fA14.C N) code := okP (F := P N) (fA14.cok N) mix (pok N) fun _ => by kernel_rfl
end fD65
namespace fB62
def ins : Sh := s44
def ts : List Tmp := [0, 5]
def asg : List Tmp := [56, 57, 58, 59, 60, 61, 62, 63, 64, 65, 66, 67, 68, 69, 70, 71, 72, 73, 74, 75, 76, 77, 78]
def C (N : Nat) : Ctx := { fA14.C N with may := fun t => asg.any (Nat.beq t) }
def code : Code := (sub fA14.code [true, true, true, false, false, true, true, true, true, true, true, false]).getD .skip
theorem cok (N : Nat) : (C N).Ok Tryz.prog := okC (fA14.cok N) _
def alts : List Alt := [⟨.normal, [56], (.cons (.val .bool) .nil)⟩]
end fB62
def fB62.run (N : Nat) (b : (List UInt8)) (jA : Int) : Option ((Bool × Unit)) :=
  bif decide (jA = (3 : Int)) then
    bif decide ((b.length : Int) ≥ (1 : Int)) then
      bif inB (0 : Int) b.length then
        bif decide (((b.getD 0 (0 : UInt8)).toNat : Int) ≤ (64 : Int)) then
          bif inB (0 : Int) b.length then
            some (decide ((b.length : Int) > (IntKind.i64.wrap ((b.getD 0 (0 : UInt8)).toNat : Int))), ())
          else none
        else some (false, ())
      else none
    else some (false, ())
  else some (false, ())
namespace fB62
def fn (N : Nat) : Sh.den ins → Option (altsDen alts) := fun (a, b, _) => fB62.run N a b
def P (N : Nat) : Ps := ⟨ts, ins, asg, alts, fn N⟩
def lam (N : Nat) : Pcs := pcs []
theorem pok (N : Nat) : (lam N).Ok Tryz.prog (C N) code := pcsOk_nil
theorem ok (N : Nat) : ((P N).pc (fA14.C N)).Ok Tryz.prog (fA14.C N) code := okP (F := P N) (fA14.cok N) mix (pok N) fun _ => by kernel_rfl
end fB62
def fA14.run (N : Nat) (b : (List UInt8)) : Option T34 :=
  bif decide ((b.length : Int) = (0 : Int)) then
    some (((0 : Int), false, (0 : Int), ([] : List UInt8)), ([] : List UInt8), false, ())
  else
    bif inB (0 : Int) b.length then
      bif okB (1 : Int) (b.length : Int) b.length then
        bif decide ((IntKind.i64.wrap ((b.getD 0 (0 : UInt8)).toNat : Int)) = (0 : Int)) then
          obind (fA72.run N) fun (v, _) =>
            some (v, b.drop 1, true, ())
        else
          obind (fD70.run N (b.drop 1) (IntKind.i64.wrap ((b.getD 0 (0 : UInt8)).toNat : Int))) fun (t21, _) =>
            bif t21 then
              bif inB (0 : Int) (b.drop 1).length then
                obind (fB72.run N (decide ((((b.drop 1).getD 0 (0 : UInt8)).toNat : Int) = (1 : Int)))) fun (v1, _) =>
                  bif okB (1 : Int) ((b.drop 1).length : Int) (b.drop 1).length then
                    some (v1, (b.drop 1).drop 1, true, ())
                  else none
              else none
            else
              obind (fD65.run N (b.drop 1) (IntKind.i64.wrap ((b.getD 0 (0 : UInt8)).toNat : Int))) fun (t42, _) =>
                bif t42 then
                  obind (fD34.run N (b.drop 1)) fun (n_, _) =>
                    obind (fD76.run N (IntKind.i64.wrap n_)) fun (v2, _) =>
                      bif okB (8 : Int) ((b.drop 1).length : Int) (b.drop 1).length then
                        some (v2, (b.drop 1).drop 8, true, ())
                      else none
                else
                  obind (fB62.run N (b.drop 1) (IntKind.i64.wrap ((b.getD 0 (0 : UInt8)).toNat : Int))) fun (t56, _) =>
                    bif t56 then
                      bif inB (0 : Int) (b.drop 1).length then
                        bif okB (1 : Int) (IntKind.u8.wrap ((1 : Int) + (((b.drop 1).getD 0 (0 : UInt8)).toNat : Int))) (b.drop 1).length then
                          obind (fA68.run N (((b.drop 1).take (IntKind.u8.wrap ((1 : Int) + (((b.drop 1).getD 0 (0 : UInt8)).toNat : Int))).toNat).drop 1)) fun (v3, _) =>
                            bif inB (0 : Int) (b.drop 1).length then
                              bif okB (IntKind.u8.wrap ((1 : Int) + (((b.drop 1).getD 0 (0 : UInt8)).toNat : Int))) ((b.drop 1).length : Int) (b.drop 1).length then
                                some (v3, (b.drop 1).drop (IntKind.u8.wrap ((1 : Int) + (((b.drop 1).getD 0 (0 : UInt8)).toNat : Int))).toNat, true, ())
                              else none
                            else none
                        else none
                      else none
                    else some (((0 : Int), false, (0 : Int), ([] : List UInt8)), ([] : List UInt8), false, ())
      else none
    else none
namespace fA14
def fn (N : Nat) : Sh.den ins → Option (Sh.den outs) := fun (a, _) => fA14.run N a
def S (N : Nat) : Fs := ⟨ins, outs, fn N⟩
def lam (N : Nat) : Pcs := pcs [([true, true, true, false, false, true, true, false], (fD70.P N).pc (C N)), ([true, true, true, false, false, true, true, true, true, false], (fD65.P N).pc (C N)), ([true, true, true, false, false, true, true, true, true, true, true, false], (fB62.P N).pc (C N))]
theorem pok (N : Nat) : (lam N).Ok Tryz.prog (C N) code := pcsOk_cons (c1 := fD70.code) (by kernel_rfl) (fD70.ok N) (pcsOk_cons (c1 := fD65.code) (by kernel_rfl) (fD65.ok N) (pcsOk_cons (c1 := fB62.code) (by kernel_rfl) (fB62.ok N) (pcsOk_nil)))
theorem ok (N : Nat) : (S N).con.Ok Tryz.prog 129 := okF (F := S N) [] Tryz.func129 (by kernel_rfl) (by rfl) mix (cok N) (pok N) fun _ => by kernel_rfl
end fA14
namespace fA25
def ins : Sh := (.cons (.val (.slice .byte)) .nil)
def C (N : Nat) : Ctx := ⟨U, 45, fun _ => true, gam [(129, (fA14.S N).con)], gamY []⟩
theorem cok (N : Nat) : (C N).Ok Tryz.prog := ⟨U_ok, GamOk.cons (fA14.ok N) (GamOk.nil), GamYOk.nil⟩
def code : Code := Tryz.f122.body.getD .skip
def outs : Sh := s61
end fA25
end
end Go.Hay.YtpgamibdlinhjaaGreat
