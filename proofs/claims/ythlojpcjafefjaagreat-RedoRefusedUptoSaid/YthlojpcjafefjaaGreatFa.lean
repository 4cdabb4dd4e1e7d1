/- Functions of the program as functions of Lean, and that they are what the program computes. Conditions: none. -/
import Derived.Test.YthlojpcjafefjaaGreatHayDl
import Derived.Test.YthlojpcjafefjaaGreatHayZc
import Derived.Test.YthlojpcjafefjaaGreatK
set_option linter.unusedVariables false
namespace Go.Hay.YthlojpcjafefjaaGreat
open Go Go.Hay Go.Proofs
noncomputable section
set_option maxRecDepth 100000
def site0 : Site := siteOf [7] 26 (sub (Tryz.f70.body.getD .skip) [true, true, false, true, false])
def site1 : Site := siteOf [3] 15 (sub (Tryz.f9.body.getD .skip) [true, true, false, true, false])
def site2 : Site := siteOf [2, 3, 5] 54 (sub (Tryz.f23.body.getD .skip) [true, true, false, true, false])
def site3 : Site := siteOf [3] 13 (sub (Tryz.f34.body.getD .skip) [true, true, false, true, false])
def site4 : Site := siteOf [3] 15 (sub (Tryz.f9.body.getD .skip) [true, true, false, true, false])
def sites : List Site := [site0, site1, site2, site3, site4]
instance : Sites := ⟨fun k us => loopObj (sites.getD k ⟨#[], .skip, .skip, [], 0⟩) us, fun _ _ _ => loopObj_ne _ _ _⟩
abbrev T0 : Type := (List UInt8) × Int
abbrev T1 : Type := (List UInt8) × T0
abbrev T2 : Type := Int × Int × (List T1) × Int × Int × Bool × Unit
abbrev T3 : Type := Bool × (Bool × Int)
abbrev T4 : Type := (List T1) × T3
abbrev T5 : Type := Int × (Int × T4)
abbrev T6 : Type := (List UInt8) × Unit
abbrev T7 : Type := (List UInt8) × Bool × Unit
abbrev T8 : Type := T2 × Bool × Unit
abbrev T9 : Type := T2 × T0 × Unit
abbrev T10 : Type := T2 × Int × Unit
abbrev T11 : Type := (Bool × Unit) ⊕ Unit
abbrev T12 : Type := List (List UInt8)
abbrev T13 : Type := T2 × Unit × Int × Unit
abbrev T14 : Type := Unit × (List UInt8) × T12 × Int × Unit
abbrev T15 : Type := T2 × T14 × Int × Unit
abbrev T16 : Type := (List Int) × Unit
abbrev T17 : Type := (List UInt8) × Int × Unit
abbrev T18 : Type := Int × Int × Unit × Int × Int × Bool × Unit
abbrev T19 : Type := T18 × T14 × Unit
abbrev T20 : Type := T17 × (List UInt8) × Bool × Unit
abbrev T21 : Type := T17 × Int × Unit
abbrev T22 : Type := T17 × (List UInt8) × Unit
abbrev T23 : Type := (List UInt8) × Int × Int × Unit
abbrev T24 : Type := (Unit × Unit) × (Int × Unit) × (Unit × Unit) × Unit
abbrev T25 : Type := T17 × T24 × Unit
abbrev T26 : Type := T17 × Int × Int × Unit
abbrev T27 : Type := (T12 × Unit) × Unit
abbrev T28 : Type := Int × Unit × Unit × Unit × Unit × Unit
abbrev T29 : Type := (T12 × Unit) × T17 × T28 × Unit
abbrev T30 : Type := T17 × T12 × Unit
abbrev T31 : Type := T12 × Int × Int × Unit
abbrev T32 : Type := T12 × Int × Unit
abbrev T33 : Type := (Unit × Unit) × Unit
abbrev T34 : Type := T2 × T14 × T33 × Unit
abbrev T35 : Type := (T12 × Unit) × T28 × Unit
abbrev T36 : Type := T2 × T14 × T12 × Unit
abbrev T37 : Type := T2 × Int × Unit × Unit
abbrev T38 : Type := T2 × Int × T14 × Unit
abbrev T39 : Type := (Int × Unit) ⊕ Unit
abbrev T40 : Type := (List UInt8) × (Int × Int)
abbrev T41 : Type := T40 × (List UInt8) × Unit
abbrev T42 : Type := T40 × Int × Unit
abbrev T43 : Type := UInt8 × Int × Unit
abbrev T44 : Type := T23 × Int × Unit
abbrev T45 : Type := T23 × T12 × Unit
abbrev T46 : Type := T12 × Bool × Unit
abbrev T47 : Type := T5 × Bool × Unit
abbrev T48 : Type := (List T1) × Bool × Unit
abbrev T49 : Type := (List T1) × Unit
abbrev T50 : Type := T5 × Int × Unit
abbrev T51 : Type := Int × Int × (List T1) × Bool × Bool × Int × Unit
abbrev T52 : Type := T51 × Int × Unit
abbrev T53 : Type := (List UInt8) × (T12 × Int)
abbrev T54 : Type := T5 × T53 × Int × Unit
abbrev T55 : Type := Unit × Unit × Int × Int × (List T1) × Bool × Bool × Int × (List UInt8) × T12 × Int × Bool × Unit
abbrev T56 : Type := T2 × T55 × Bool × Unit
abbrev T57 : Type := T2 × T14 × T55 × Bool × Unit
abbrev T58 : Type := (List UInt8) × (List UInt8) × Int × Unit
abbrev T59 : Type := T2 × T33 × Unit
abbrev T60 : Type := T16 × Int × Unit
abbrev T61 : Type := T16 × T2 × Unit
abbrev T62 : Type := Int × Unit × Unit × Unit × Unit × Unit × Unit × Unit
abbrev T63 : Type := T16 × T2 × T62 × Unit
abbrev T64 : Type := T2 × T2 × Unit
abbrev T65 : Type := Unit × T14 × Int × Int × (List T1) × Bool × Bool × Int × (List UInt8) × T12 × Int × Bool × Unit
abbrev T66 : Type := T2 × T65 × Bool × Unit
abbrev T67 : Type := T12 × (List Int)
abbrev T68 : Type := Int × (Int × T67)
abbrev T69 : Type := T2 × Unit × Int × Int × (List T1) × Bool × Bool × Int × (List UInt8) × T12 × Int × Bool × Unit
abbrev T70 : Type := T2 × T69 × Bool × Unit
abbrev T71 : Type := T2 × T14 × Int × Int × (List T1) × Bool × Bool × Int × (List UInt8) × T12 × Int × Bool × Unit
abbrev T72 : Type := T2 × T71 × Bool × Unit
abbrev T73 : Type := T56 ⊕ T66 ⊕ T70 ⊕ T72
abbrev T75 : Type := T2 × T14 × T65 × Bool × Unit
abbrev T76 : Type := T2 × T14 × T69 × Bool × Unit
abbrev T77 : Type := T2 × T14 × T71 × Bool × Unit
abbrev T78 : Type := T57 ⊕ T75 ⊕ T57 ⊕ T76 ⊕ T77
abbrev T79 : Type := T69 × (List T68) × Int × Int × Unit
abbrev T80 : Type := T71 × (List T68) × Int × Int × Unit
abbrev T81 : Type := T69 × Bool × Unit
abbrev T82 : Type := T71 × Bool × Unit
abbrev T83 : Type := T81 ⊕ T82 ⊕ (T69 × Unit) ⊕ (T71 × Unit)
abbrev T84 : Type := T69 × Bool × (List T68) × Int × Int × Unit
abbrev T85 : Type := T71 × Bool × (List T68) × Int × Int × Unit
def s0 : Sh := (.cons (.val (.int .i64)) (.cons (.val .bool) .nil))
def s1 : Sh := (.cons (.val (.int .i64)) (.cons (.val (.int .i64)) (.cons (.own 3000000 (.pair .str (.pair (.slice .byte) (.int .i64)))) (.cons (.val (.int .i64)) s0))))
def s2 : Sh := (.cons (.val (.pair (.int .i64) (.pair (.int .i64) (.pair (.slice (.pair .str (.pair (.slice .byte) (.int .i64)))) (.pair .bool (.pair .bool (.int .i64))))))) .nil)
def s3 : Sh := (.cons (.val (.int .i64)) (.cons (.val (.int .i64)) (.cons (.rown 3000000 (.pair .str (.pair (.slice .byte) (.int .i64)))) (.cons (.val (.int .i64)) s0))))
def s4 : Sh := (.cons (.val (.pair (.slice .byte) (.int .i64))) .nil)
def s5 : Sh := (.cons (.upd 0 54 s1) (.cons (.val .bool) .nil))
def s6 : Sh := (.cons (.box 54 s1) (.cons (.val .str) .nil))
def s7 : Sh := (.cons (.rbox 9 (.cons (.val .str) .nil)) .nil)
def s8 : Sh := (.cons (.rbox 24 (.cons (.box 54 s1) .nil)) s7)
def s9 : Sh := (.cons (.val (.pair (.slice .byte) (.int .i64))) s8)
def s10 : Sh := (.cons (.rbox 24 (.cons (.ref 0) .nil)) s7)
def s11 : Sh := (.cons (.upd 0 54 s1) (.cons (.val (.int .i64)) .nil))
def s12 : Sh := (.cons (.upd 1 54 s1) (.cons (.val (.int .i64)) .nil))
def s13 : Sh := (.cons (.val (.int .i64)) (.cons (.val (.int .i64)) .nil))
def s14 : Sh := (.cons (.val (.int .i64)) (.cons (.rown 43 (.slice .byte)) s13))
def s15 : Sh := (.cons (.nilp) (.cons (.val (.int .i64)) .nil))
def s16 : Sh := (.cons (.own 43 (.slice .byte)) (.cons (.val (.int .i64)) .nil))
def s17 : Sh := (.box 69 (.cons (.ref 0) (.cons (.val .str) s16)))
def s18 : Sh := (.cons s17 (.cons (.val (.int .i64)) .nil))
def s19 : Sh := (.cons (.upd 0 129 (.cons (.own 5 .byte) .nil)) .nil)
def s20 : Sh := (.cons (.val (.int .u64)) (.cons (.val (.int .i64)) .nil))
def s21 : Sh := (.cons (.box 129 (.cons (.own 5 .byte) .nil)) s20)
def s22 : Sh := (.cons (.box 129 (.cons (.own 5 .byte) .nil)) (.cons (.val (.slice .byte)) .nil))
def s23 : Sh := (.cons (.arr 153 (.int .u32) 16) (.cons (.val (.int .i64)) .nil))
def s24 : Sh := (.cons (.val (.int .u32)) (.cons (.val (.int .i64)) .nil))
def s25 : Sh := (.cons (.own 5 .byte) (.cons (.val (.int .i64)) .nil))
def s26 : Sh := (.cons (.rown 43 (.slice .byte)) (.cons (.val (.int .i64)) .nil))
def s27 : Sh := (.cons (.rbox 69 (.cons (.box 54 s1) (.cons (.val .str) s26))) .nil)
def s28 : Sh := (.cons (.rbox 30 s27) (.cons (.rbox 43 (.cons (.val (.slice .byte)) .nil)) .nil))
def s29 : Sh := (.cons (.upd 2 54 s1) (.cons (.val (.int .i64)) .nil))
def s30 : Sh := (.cons (.fn 32 (.cons (.ref 0) .nil)) .nil)
def s31 : Sh := (.box 69 (.cons (.box 54 s1) (.cons (.val .str) s16)))
def s32 : Sh := (.cons (.upd 1 54 s1) (.cons (.upd 0 69 (.cons (.ref 0) (.cons (.val .str) s16))) (.cons (.val (.int .i64)) .nil)))
def s33 : Sh := (.cons (.box 69 (.cons (.box 54 s3) (.cons (.val .str) s16))) .nil)
def s34 : Sh := (.cons (.upd 2 54 (.cons (.val (.int .i64)) (.cons (.val (.int .i64)) (.cons (.keep 2000000 3) (.cons (.val (.int .i64)) s0))))) (.cons (.upd 1 69 (.cons (.ref 0) (.cons (.val .str) s16))) .nil))
def s35 : Sh := (.cons (.val (.slice .byte)) (.cons (.val (.int .i64)) .nil))
def s36 : Sh := (.cons (.box 138 s35) (.cons (.val (.int .i64)) .nil))
def s37 : Sh := (.cons (.upd 0 138 s35) (.cons (.val (.int .u64)) .nil))
def s38 : Sh := (.cons (.upd 0 138 s35) (.cons (.own 5 .byte) .nil))
def s39 : Sh := (.cons (.box 138 s35) (.cons (.val (.int .i64)) (.cons (.fn 71 .nil) .nil)))
def s40 : Sh := (.cons (.val (.int .u64)) (.cons (.val (.int .u64)) .nil))
def s41 : Sh := (.box 23 (.cons (.own 43 (.slice .byte)) .nil))
def s42 : Sh := (.cons s41 (.cons (.val (.int .i64)) (.cons (.own 5 .byte) .nil)))
def s43 : Sh := (.cons (.upd 0 23 (.cons (.own 43 (.slice .byte)) .nil)) .nil)
def s44 : Sh := (.cons (.val (.int .i64)) (.cons (.junk) (.cons (.junk) (.cons (.junk) (.cons s41 .nil)))))
def s45 : Sh := (.cons (.val (.int .i64)) (.cons (.junk) (.cons (.junk) (.cons (.junk) (.cons (.ref 0) .nil)))))
def s46 : Sh := (.cons (.upd 1 23 (.cons (.own 43 (.slice .byte)) .nil)) (.cons (.upd 4 138 s35) (.cons (.upd 0 1000000 s45) .nil)))
def s47 : Sh := (.cons (.rbox 3 (.cons (.val (.int .i64)) .nil)) .nil)
def s48 : Sh := (.cons (.val .str) (.cons (.val (.int .i64)) .nil))
def s49 : Sh := (.cons (.rbox 3 (.cons (.val (.int .i64)) .nil)) (.cons (.rbox 43 (.cons (.val (.slice .byte)) .nil)) s8))
def s50 : Sh := (.cons (.upd 3 54 s1) (.cons (.val (.int .i64)) .nil))
def s51 : Sh := (.cons (.rbox 54 s3) (.cons (.val .str) s26))
def s52 : Sh := (.cons (.upd 1 23 (.cons (.own 43 (.slice .byte)) .nil)) (.cons (.upd 0 1000001 s45) .nil))
def s53 : Sh := (.cons (.val (.pair (.int .i64) (.pair (.int .i64) (.pair (.slice (.pair .str (.pair (.slice .byte) (.int .i64)))) (.pair .bool (.pair .bool (.int .i64))))))) (.cons (.val .str) .nil))
def s54 : Sh := (.cons (.val .bool) (.cons (.val (.int .i64)) .nil))
def s55 : Sh := (.cons (.val (.int .i64)) (.cons (.val (.int .i64)) (.cons (.val (.slice (.pair .str (.pair (.slice .byte) (.int .i64))))) (.cons (.val .bool) s54))))
def s56 : Sh := (.cons (.rbox 28 s55) (.cons (.val (.int .i64)) .nil))
def s57 : Sh := (.cons (.val (.pair (.slice .byte) (.pair (.int .i64) (.int .i64)))) (.cons (.val (.int .i64)) .nil))
def s58 : Sh := (.cons (.val (.pair (.slice .byte) (.pair (.int .i64) (.int .i64)))) (.cons (.own 5 .byte) .nil))
def s59 : Sh := (.cons (.val (.pair (.slice .byte) (.pair (.int .i64) (.int .i64)))) (.cons (.val (.int .u64)) .nil))
def s60 : Sh := (.cons (.val .byte) (.cons (.val (.int .i64)) .nil))
def s61 : Sh := (.cons (.rbox 143 (.cons (.val (.slice .byte)) s13)) (.cons (.val (.int .u64)) .nil))
def s62 : Sh := (.box 143 (.cons (.val (.slice .byte)) s13))
def s63 : Sh := (.cons (.val (.pair (.int .i64) (.pair (.int .i64) (.pair (.slice (.pair .str (.pair (.slice .byte) (.int .i64)))) (.pair .bool (.pair .bool (.int .i64))))))) (.cons (.val (.int .i64)) (.cons (.val .str) s48)))
def s64 : Sh := (.cons (.own 83 (.pair .str (.pair (.slice .byte) (.int .i64)))) (.cons (.val .bool) .nil))
def s65 : Sh := (.cons (.val (.pair (.int .i64) (.pair (.int .i64) (.pair (.slice (.pair .str (.pair (.slice .byte) (.int .i64)))) (.pair .bool (.pair .bool (.int .i64))))))) (.cons (.val (.int .i64)) .nil))
def s66 : Sh := (.cons (.val (.pair (.int .i64) (.pair (.int .i64) (.pair (.slice (.pair .str (.pair (.slice .byte) (.int .i64)))) (.pair .bool (.pair .bool (.int .i64))))))) (.cons (.val (.pair .str (.pair (.slice (.slice .byte)) (.int .i64)))) (.cons (.val (.int .i64)) .nil)))
def s67 : Sh := (.cons (.upd 0 28 s55) (.cons (.val (.int .i64)) .nil))
def s68 : Sh := (.cons (.val .str) (.cons (.box 28 s55) (.cons (.val (.int .i64)) .nil)))
def s69 : Sh := (.cons (.box 54 s1) (.cons (.nilp) (.cons (.val (.int .i64)) (.cons (.val (.int .i64)) (.cons (.val (.slice (.pair .str (.pair (.slice .byte) (.int .i64))))) (.cons (.val .bool) (.cons (.val .bool) (.cons (.val (.int .i64)) (.cons (.val .str) (.cons (.rown 43 (.slice .byte)) s0))))))))))
def s70 : Sh := (.cons (.nilp) (.cons (.val (.int .i64)) s66))
def s71 : Sh := (.cons (.val (.int .i64)) (.cons (.val (.int .i64)) (.cons (.val (.slice (.pair .str (.pair (.slice .byte) (.int .i64))))) (.cons (.val .bool) (.cons (.val .bool) (.cons (.val (.int .i64)) (.cons (.val .str) (.cons (.val (.slice (.slice .byte))) s0))))))))
def s72 : Sh := (.cons (.agg (.cons (.ref 0) (.cons (.nilp) s71))) (.cons (.val .bool) .nil))
def s73 : Sh := (.cons s17 (.cons (.val (.int .i64)) s66))
def s74 : Sh := (.cons (.agg (.cons (.ref 0) (.cons (.ref 2) s71))) (.cons (.val .bool) .nil))
def s75 : Sh := (.box 38 (.cons (.val (.slice (.int .i64))) .nil))
def s76 : Sh := (.box 1000002 (.cons (.val (.int .i64)) (.cons (.junk) (.cons (.junk) (.cons (.junk) (.cons (.rbox 24 (.cons (.rbox 54 s3) .nil)) (.cons s75 (.cons (.rbox 24 (.cons (.box 54 s1) .nil)) .nil))))))))
def s77 : Sh := (.cons (.upd 4 38 (.cons (.val (.slice (.int .i64))) .nil)) (.cons (.upd 6 54 s1) (.cons (.upd 0 1000002 (.cons (.val (.int .i64)) (.cons (.junk) (.cons (.junk) (.cons (.junk) (.cons (.keep 0 1) (.cons (.ref 0) (.cons (.keep 0 5) .nil)))))))) .nil)))
def s78 : Sh := (.cons (.val (.int .i64)) (.cons (.val (.int .i64)) (.cons (.own 83 (.pair .str (.pair (.slice .byte) (.int .i64)))) (.cons (.val .bool) s54))))
def s79 : Sh := (.cons (.agg (.cons (.lit .i64 (2)) (.cons (.lit .i64 (0)) (.cons (.nils) (.cons (.nils) .nil))))) .nil)
def s80 : Sh := (.cons (.agg (.cons (.ref 0) (.cons s17 s71))) (.cons (.val .bool) .nil))
def s81 : Sh := (.cons (.val (.slice (.slice .byte))) s13)
def s82 : Sh := (.cons (.val (.slice (.slice .byte))) .nil)
def s83 : Sh := (.cons (.rbox 30 (.cons (.nilp) .nil)) (.cons (.rbox 43 (.cons (.rown 5 .byte) .nil)) .nil))
def s84 : Sh := (.cons (.val (.slice (.slice .byte))) (.cons (.val (.int .i64)) .nil))
def s85 : Sh := (.cons (.box 54 s1) (.cons (.nilp) (.cons (.val (.int .i64)) (.cons (.val (.int .i64)) (.cons (.val (.slice (.pair .str (.pair (.slice .byte) (.int .i64))))) (.cons (.val .bool) (.cons (.val .bool) (.cons (.val (.int .i64)) (.cons (.val .str) (.cons (.own 43 (.slice .byte)) s0))))))))))
def s86 : Sh := (.cons (.val (.pair (.int .i64) (.pair (.int .i64) (.pair (.slice (.slice .byte)) (.slice (.int .i64)))))) .nil)
def s87 : Sh := (.cons (.agg (.cons (.box 54 s1) (.cons (.nilp) s71))) (.cons (.val .bool) .nil))
def s88 : Sh := (.cons (.upd 0 54 s1) (.cons (.agg (.cons (.box 54 s1) (.cons (.box 69 (.cons (.ref 2) (.cons (.val .str) s16))) s71))) (.cons (.val .bool) .nil)))
def s89 : Sh := (.cons (.upd 0 54 s1) (.cons (.upd 2 69 (.cons (.ref 0) (.cons (.val .str) s16))) s74))
def s90 : Sh := (.cons (.rbox 34 (.cons (.box 54 s1) (.cons (.nilp) s71))) .nil)
def s94 : Sh := (.cons (.box 54 s1) (.cons (.rbox 69 (.cons (.ref 0) (.cons (.val .str) s26))) s71))
def s95 : Sh := (.cons (.rbox 69 (.cons (.ref 1) (.cons (.val .str) s26))) s71)
def s96 : Sh := (.cons (.box 54 s1) (.cons (.rbox 69 s51) s71))
def s97 : Sh := (.cons (.rbox 34 (.cons (.box 54 s1) s95)) .nil)
def s98 : Sh := (.cons (.upd 1 54 s1) (.cons (.upd 0 34 (.cons (.ref 0) (.cons (.nilp) s71))) (.cons (.val .bool) .nil)))
def s99 : Sh := (.cons (.upd 1 54 s1) (.cons (.upd 0 34 (.cons (.ref 0) (.cons s17 s71))) (.cons (.val .bool) .nil)))
def s100 : Sh := (.cons (.upd 0 34 (.cons (.box 54 s1) (.cons (.nilp) s71))) (.cons (.val .bool) .nil))
def s101 : Sh := (.cons (.upd 1 54 s1) (.cons (.upd 0 34 (.cons (.box 54 s1) (.cons (.box 69 (.cons (.ref 3) (.cons (.val .str) s16))) s71))) (.cons (.val .bool) .nil)))
def s102 : Sh := (.cons (.box 54 s1) (.cons (.box 69 (.cons (.ref 1) (.cons (.val .str) s16))) s71))
def s103 : Sh := (.cons (.upd 0 34 s102) (.cons (.val .bool) .nil))
namespace fA29
def ins : Sh := (.cons (.val (.int .i64)) .nil)
def C (N : Nat) : Ctx := ⟨U, 8, fun _ => true, gam [], gamY []⟩
theorem cok (N : Nat) : (C N).Ok Tryz.prog := ⟨U_ok, GamOk.nil, GamYOk.nil⟩
def code : Code := Tryz.f5.body.getD .skip
def outs : Sh := (.cons (.box 54 s1) .nil)
end fA29
noncomputable def fA29.run (N : Nat) (room_ : Int) : Option (T2 × Unit) :=
  some ((max room_ (0 : Int), (0 : Int), ([] : List T1), (0 : Int), (-1 : Int), false, ()), ())
namespace fA29
def fn (N : Nat) : Sh.den ins → Option (Sh.den outs) := fun (a, _) => fA29.run N a
def S (N : Nat) : Fs := ⟨ins, outs, fn N⟩
def lam (N : Nat) : Pcs := pcs []
theorem pok (N : Nat) : (lam N).Ok Tryz.prog (C N) code := pcsOk_nil
theorem ok (N : Nat) : (S N).con.Ok Tryz.prog 5 := okF (F := S N) [] Tryz.func5 (by kernel_rfl) (by rfl) mix (cok N) (pok N) fun _ => by kernel_rfl
end fA29
namespace fA47
def ins : Sh := (.cons (.val (.int .i64)) .nil)
def C (N : Nat) : Ctx := ⟨U, 6, fun _ => true, gam [], gamY []⟩
theorem cok (N : Nat) : (C N).Ok Tryz.prog := ⟨U_ok, GamOk.nil, GamYOk.nil⟩
def code : Code := Tryz.f6.body.getD .skip
def outs : Sh := s2
end fA47
noncomputable def fA47.run (N : Nat) (room_ : Int) : Option (T5 × Unit) :=
  some ((max room_ (0 : Int), (0 : Int), ([] : List T1), false, false, (0 : Int)), ())
namespace fA47
def fn (N : Nat) : Sh.den ins → Option (Sh.den outs) := fun (a, _) => fA47.run N a
def S (N : Nat) : Fs := ⟨ins, outs, fn N⟩
def lam (N : Nat) : Pcs := pcs []
theorem pok (N : Nat) : (lam N).Ok Tryz.prog (C N) code := pcsOk_nil
theorem ok (N : Nat) : (S N).con.Ok Tryz.prog 6 := okF (F := S N) [] Tryz.func6 (by kernel_rfl) (by rfl) mix (cok N) (pok N) fun _ => by kernel_rfl
end fA47
namespace fA0
def ins : Sh := (.cons (.val (.slice .byte)) .nil)
def C (N : Nat) : Ctx := ⟨U, 8, fun _ => true, gam [], gamY []⟩
theorem cok (N : Nat) : (C N).Ok Tryz.prog := ⟨U_ok, GamOk.nil, GamYOk.nil⟩
def code : Code := Tryz.f27.body.getD .skip
def outs : Sh := (.cons (.own 5 .byte) .nil)
end fA0
noncomputable def fA0.run (N : Nat) (s : (List UInt8)) : Option T6 :=
  pick2 (Nat.beq s.length 0)
    (
      some (([] : List UInt8), ()))
    (
      bif room (0 + s.length) 1 then
        some (s, ())
      else none)
namespace fA0
def fn (N : Nat) : Sh.den ins → Option (Sh.den outs) := fun (a, _) => fA0.run N a
def S (N : Nat) : Fs := ⟨ins, outs, fn N⟩
def lam (N : Nat) : Pcs := pcs []
theorem pok (N : Nat) : (lam N).Ok Tryz.prog (C N) code := pcsOk_nil
theorem ok (N : Nat) : (S N).con.Ok Tryz.prog 27 := okF (F := S N) [] Tryz.func27 (by kernel_rfl) (by rfl) mix (cok N) (pok N) fun _ => by kernel_rfl
end fA0
namespace fC0
def ins : Sh := (.cons (.rbox 54 s3) (.cons (.val .str) .nil))
def C (N : Nat) : Ctx := ⟨U, 21, fun _ => true, gam [(27, (fA0.S N).con)], gamY []⟩
theorem cok (N : Nat) : (C N).Ok Tryz.prog := ⟨U_ok, GamOk.cons (fA0.ok N) (GamOk.nil), GamYOk.nil⟩
def code : Code := Tryz.f11.body.getD .skip
def outs : Sh := (.cons (.own 5 .byte) (.cons (.val .bool) .nil))
end fC0
noncomputable def fC0.run (N : Nat) (room_ : Int) (used : Int) (files : (List T1)) (steps : Int) (left : Int) (dead : Bool) (name : (List UInt8)) : Option T7 :=
  obind (fA0.run N (mapGet files name (([] : List UInt8), (0 : Int))).1) fun (l, _) =>
    some (l, mapHas files name, ())
namespace fC0
def fn (N : Nat) : Sh.den ins → Option (Sh.den outs) := fun ((a, b, c, d, e, f, _), g, _) => fC0.run N a b c d e f g
def S (N : Nat) : Fs := ⟨ins, outs, fn N⟩
def lam (N : Nat) : Pcs := pcs []
theorem pok (N : Nat) : (lam N).Ok Tryz.prog (C N) code := pcsOk_nil
theorem ok (N : Nat) : (S N).con.Ok Tryz.prog 11 := okF (F := S N) [] Tryz.func11 (by kernel_rfl) (by rfl) mix (cok N) (pok N) fun _ => by kernel_rfl
end fC0
namespace fB43
def ins : Sh := s4
def C (N : Nat) : Ctx := ⟨U, 3, fun _ => true, gam [], gamY []⟩
theorem cok (N : Nat) : (C N).Ok Tryz.prog := ⟨U_ok, GamOk.nil, GamYOk.nil⟩
def code : Code := Tryz.f64.body.getD .skip
def outs : Sh := (.cons (.val (.int .i64)) .nil)
end fB43
noncomputable def fB43.run (N : Nat) (f : T0) : Option (Int × Unit) :=
  some ((0 : Int), ())
namespace fB43
def fn (N : Nat) : Sh.den ins → Option (Sh.den outs) := fun (a, _) => fB43.run N a
def S (N : Nat) : Fs := ⟨ins, outs, fn N⟩
def lam (N : Nat) : Pcs := pcs []
theorem pok (N : Nat) : (lam N).Ok Tryz.prog (C N) code := pcsOk_nil
theorem ok (N : Nat) : (S N).con.Ok Tryz.prog 64 := okF (F := S N) [] Tryz.func64 (by kernel_rfl) (by rfl) mix (cok N) (pok N) fun _ => by kernel_rfl
end fB43
namespace fB5
def ins : Sh := (.cons (.box 54 s1) .nil)
def C (N : Nat) : Ctx := ⟨U, 28, fun _ => true, gam [], gamY []⟩
theorem cok (N : Nat) : (C N).Ok Tryz.prog := ⟨U_ok, GamOk.nil, GamYOk.nil⟩
def code : Code := Tryz.f62.body.getD .skip
def outs : Sh := s5
end fB5
noncomputable def fB5.run (N : Nat) (room_ : Int) (used : Int) (files : (List T1)) (steps : Int) (left : Int) (dead : Bool) : Option T8 :=
  bif decide (left = (-1 : Int)) then
    some ((room_, used, files, IntKind.i64.wrap (steps + (1 : Int)), left, dead, ()), false, ())
  else
    bif decide (left = (0 : Int)) then
      some ((room_, used, files, IntKind.i64.wrap (steps + (1 : Int)), left, true, ()), true, ())
    else some ((room_, used, files, IntKind.i64.wrap (steps + (1 : Int)), IntKind.i64.wrap (left - (1 : Int)), dead, ()), false, ())
namespace fB5
def fn (N : Nat) : Sh.den ins → Option (Sh.den outs) := fun ((a, b, c, d, e, f, _), _) => fB5.run N a b c d e f
def S (N : Nat) : Fs := ⟨ins, outs, fn N⟩
def lam (N : Nat) : Pcs := pcs []
theorem pok (N : Nat) : (lam N).Ok Tryz.prog (C N) code := pcsOk_nil
theorem ok (N : Nat) : (S N).con.Ok Tryz.prog 62 := okF (F := S N) [] Tryz.func62 (by kernel_rfl) (by rfl) mix (cok N) (pok N) fun _ => by kernel_rfl
end fB5
namespace fC37
def ins : Sh := s6
def C (N : Nat) : Ctx := ⟨U, 28, fun _ => true, gam [], gamY []⟩
theorem cok (N : Nat) : (C N).Ok Tryz.prog := ⟨U_ok, GamOk.nil, GamYOk.nil⟩
def code : Code := Tryz.f67.body.getD .skip
def outs : Sh := (.cons (.upd 0 54 s1) s4)
end fC37
noncomputable def fC37.run (N : Nat) (room_ : Int) (used : Int) (files : (List T1)) (steps : Int) (left : Int) (dead : Bool) (name : (List UInt8)) : Option T9 :=
  some ((room_, IntKind.i64.wrap (used - ((mapGet files name (([] : List UInt8), (0 : Int))).1.length : Int)), mapDel files name, steps, left, dead, ()), mapGet files name (([] : List UInt8), (0 : Int)), ())
namespace fC37
def fn (N : Nat) : Sh.den ins → Option (Sh.den outs) := fun ((a, b, c, d, e, f, _), g, _) => fC37.run N a b c d e f g
def S (N : Nat) : Fs := ⟨ins, outs, fn N⟩
def lam (N : Nat) : Pcs := pcs []
theorem pok (N : Nat) : (lam N).Ok Tryz.prog (C N) code := pcsOk_nil
theorem ok (N : Nat) : (S N).con.Ok Tryz.prog 67 := okF (F := S N) [] Tryz.func67 (by kernel_rfl) (by rfl) mix (cok N) (pok N) fun _ => by kernel_rfl
end fC37
namespace fD20
def ins : Sh := s9
def C (N : Nat) : Ctx := ⟨U, 7, fun _ => true, gam [(67, (fC37.S N).con)], gamY []⟩
theorem cok (N : Nat) : (C N).Ok Tryz.prog := ⟨U_ok, GamOk.cons (fC37.ok N) (GamOk.nil), GamYOk.nil⟩
def code : Code := Tryz.f66.body.getD .skip
def outs : Sh := (.cons (.upd 1 54 s1) .nil)
end fD20
noncomputable def fD20.run (N : Nat) (t0 : T0) (room_ : Int) (used : Int) (files : (List T1)) (steps : Int) (left : Int) (dead : Bool) (t2 : (List UInt8)) : Option (T2 × Unit) :=
  obind (fC37.run N room_ used files steps left dead t2) fun ((room1, used1, files1, steps1, left1, dead1, _), v, _) =>
    some ((room1, used1, files1, steps1, left1, dead1, ()), ())
namespace fD20
def fn (N : Nat) : Sh.den ins → Option (Sh.den outs) := fun (a, ((b, c, d, e, f, g, _), _), (h, _), _) => fD20.run N a b c d e f g h
def S (N : Nat) : Fs := ⟨ins, outs, fn N⟩
def lam (N : Nat) : Pcs := pcs []
theorem pok (N : Nat) : (lam N).Ok Tryz.prog (C N) code := pcsOk_nil
theorem ok (N : Nat) : (S N).con.Ok Tryz.prog 66 := okF (F := S N) [] Tryz.func66 (by kernel_rfl) (by rfl) mix (cok N) (pok N) fun _ => by kernel_rfl
end fD20
namespace fD35
def ins : Sh := (.cons (.box 54 s1) (.cons (.val .str) (.cons (.fn 64 .nil) (.cons (.fn 66 s10) .nil))))
def C (N : Nat) : Ctx := ⟨U, 40, fun _ => true, gam [(64, (fB43.S N).con), (62, (fB5.S N).con), (66, (fD20.S N).con)], gamY []⟩
theorem cok (N : Nat) : (C N).Ok Tryz.prog := ⟨U_ok, GamOk.cons (fB43.ok N) (GamOk.cons (fB5.ok N) (GamOk.cons (fD20.ok N) (GamOk.nil))), GamYOk.nil⟩
def code : Code := Tryz.f63.body.getD .skip
def outs : Sh := s11
end fD35
noncomputable def fD35.run (N : Nat) (room_ : Int) (used : Int) (files : (List T1)) (steps : Int) (left : Int) (dead : Bool) (name : (List UInt8)) (done : (List UInt8)) : Option T10 :=
  bif dead then
    some ((room_, used, files, steps, left, dead, ()), (44 : Int), ())
  else
    bif !(mapHas files name) then
      some ((room_, used, files, steps, left, dead, ()), (42 : Int), ())
    else
      obind (fB43.run N (mapGet files name (([] : List UInt8), (0 : Int)))) fun (n_, _) =>
        bif !(decide (n_ = (0 : Int))) then
          some ((room_, used, files, steps, left, dead, ()), n_, ())
        else
          obind (fB5.run N room_ used files steps left dead) fun ((room1, used1, files1, steps1, left1, dead1, _), b, _) =>
            bif b then
              some ((room1, used1, files1, steps1, left1, dead1, ()), (44 : Int), ())
            else
              obind (fD20.run N (mapGet files name (([] : List UInt8), (0 : Int))) room1 used1 files1 steps1 left1 dead1 done) fun ((room2, used2, files2, steps2, left2, dead2, _), _) =>
                some ((room2, used2, files2, steps2, left2, dead2, ()), (0 : Int), ())
namespace fD35
def fn (N : Nat) : Sh.den ins → Option (Sh.den outs) := fun ((a, b, c, d, e, f, _), g, _, ((_, _), (h, _), _), _) => fD35.run N a b c d e f g h
def S (N : Nat) : Fs := ⟨ins, outs, fn N⟩
def lam (N : Nat) : Pcs := pcs []
theorem pok (N : Nat) : (lam N).Ok Tryz.prog (C N) code := pcsOk_nil
theorem ok (N : Nat) : (S N).con.Ok Tryz.prog 63 := okF (F := S N) [] Tryz.func63 (by kernel_rfl) (by rfl) mix (cok N) (pok N) fun _ => by kernel_rfl
end fD35
namespace fA20
def ins : Sh := s6
def C (N : Nat) : Ctx := ⟨U, 9, fun _ => true, gam [(63, (fD35.S N).con)], gamY []⟩
theorem cok (N : Nat) : (C N).Ok Tryz.prog := ⟨U_ok, GamOk.cons (fD35.ok N) (GamOk.nil), GamYOk.nil⟩
def code : Code := Tryz.f38.body.getD .skip
def outs : Sh := s11
end fA20
noncomputable def fA20.run (N : Nat) (room_ : Int) (used : Int) (files : (List T1)) (steps : Int) (left : Int) (dead : Bool) (name : (List UInt8)) : Option T10 :=
  obind (fD35.run N room_ used files steps left dead name name) fun ((room1, used1, files1, steps1, left1, dead1, _), n_, _) =>
    some ((room1, used1, files1, steps1, left1, dead1, ()), n_, ())
namespace fA20
def fn (N : Nat) : Sh.den ins → Option (Sh.den outs) := fun ((a, b, c, d, e, f, _), g, _) => fA20.run N a b c d e f g
def S (N : Nat) : Fs := ⟨ins, outs, fn N⟩
def lam (N : Nat) : Pcs := pcs []
theorem pok (N : Nat) : (lam N).Ok Tryz.prog (C N) code := pcsOk_nil
theorem ok (N : Nat) : (S N).con.Ok Tryz.prog 38 := okF (F := S N) [] Tryz.func38 (by kernel_rfl) (by rfl) mix (cok N) (pok N) fun _ => by kernel_rfl
end fA20
namespace fC26
def ins : Sh := s8
def C (N : Nat) : Ctx := ⟨U, 15, fun _ => true, gam [(11, (fC0.S N).con), (38, (fA20.S N).con)], gamY []⟩
theorem cok (N : Nat) : (C N).Ok Tryz.prog := ⟨U_ok, GamOk.cons (fC0.ok N) (GamOk.cons (fA20.ok N) (GamOk.nil)), GamYOk.nil⟩
def code : Code := Tryz.f37.body.getD .skip
def outs : Sh := s12
end fC26
noncomputable def fC26.run (N : Nat) (room_ : Int) (used : Int) (files : (List T1)) (steps : Int) (left : Int) (dead : Bool) (t1 : (List UInt8)) : Option T10 :=
  obind (fC0.run N room_ used files steps left dead t1) fun (l, b, _) =>
    bif b then
      obind (fA20.run N room_ used files steps left dead t1) fun ((room1, used1, files1, steps1, left1, dead1, _), n_, _) =>
        some ((room1, used1, files1, steps1, left1, dead1, ()), n_, ())
    else some ((room_, used, files, steps, left, dead, ()), (0 : Int), ())
namespace fC26
def fn (N : Nat) : Sh.den ins → Option (Sh.den outs) := fun (((a, b, c, d, e, f, _), _), (g, _), _) => fC26.run N a b c d e f g
def S (N : Nat) : Fs := ⟨ins, outs, fn N⟩
def lam (N : Nat) : Pcs := pcs []
theorem pok (N : Nat) : (lam N).Ok Tryz.prog (C N) code := pcsOk_nil
theorem ok (N : Nat) : (S N).con.Ok Tryz.prog 37 := okF (F := S N) [] Tryz.func37 (by kernel_rfl) (by rfl) mix (cok N) (pok N) fun _ => by kernel_rfl
end fC26
namespace fA21
def ins : Sh := (.cons (.val .str) .nil)
def C (N : Nat) : Ctx := ⟨U, 27, fun _ => true, gam [], gamY []⟩
theorem cok (N : Nat) : (C N).Ok Tryz.prog := ⟨U_ok, GamOk.nil, GamYOk.nil⟩
def code : Code := Tryz.f59.body.getD .skip
def outs : Sh := (.cons (.val .bool) .nil)
end fA21
namespace fD28
def ins : Sh := (.cons (.val .str) s13)
def ts : List Tmp := [0, 5, 6]
def asg : List Tmp := [2, 3, 6, 7, 8, 9, 10, 11, 12, 13, 14, 15, 16, 17, 18, 19]
def C (N : Nat) : Ctx := { fA21.C N with may := fun t => asg.any (Nat.beq t) }
def code : Code := loopBody (sub fA21.code [true, false, true, false])
theorem cok (N : Nat) : (C N).Ok Tryz.prog := okC (fA21.cok N) _
def alts : List Alt := [⟨.ret, [2], (.cons (.val .bool) .nil)⟩, ⟨(.exit 0), [], .nil⟩]
end fD28
noncomputable def fD28.go (N : Nat) : Nat → (List UInt8) → Int → Int → Option T11
  | 0, _, _, _ => none
  | fuel + 1, s, t5, t6 =>
    bif decide (t6 < t5) then
      bif inB t6 s.length then
        bif decide (((s.getD t6.toNat (0 : UInt8)).toNat : Int) < (33 : Int)) then
          some (.inl (false, ()))
        else
          bif inB t6 s.length then
            bif decide (((s.getD t6.toNat (0 : UInt8)).toNat : Int) > (126 : Int)) then
              some (.inl (false, ()))
            else fD28.go N fuel s t5 (IntKind.i64.wrap (t6 + (1 : Int)))
          else none
      else none
    else some (.inr ())
namespace fD28
def g (N n : Nat) : Sh.den ins → Option (altsDen alts) := fun (a, b, c, _) => fD28.go N n a b c
def P (N : Nat) : Ps := ⟨ts, ins, asg, alts, g N N⟩
def lam (N : Nat) : Pcs := pcs []
theorem pok (N : Nat) : (lam N).Ok Tryz.prog (C N) code := pcsOk_nil
theorem ok (N : Nat) : ((P N).pc (fA21.C N)).Ok Tryz.prog (fA21.C N) (.loop code) := okL (F := P N) (g N) (fA21.cok N) mix (pok N) (fun _ => rfl) rfl fun _ _ => by kernel_rfl
end fD28
noncomputable def fA21.run (N : Nat) (s : (List UInt8)) : Option (Bool × Unit) :=
  obind (fD28.go N N s (s.length : Int) (0 : Int)) fun y => match y with
  | .inl (t2, _) =>
      some (t2, ())
  | .inr (_) =>
      bif !(decide (s = ([] : List UInt8))) then
        some (decide ((s.length : Int) ≤ (32 : Int)), ())
      else some (false, ())
namespace fA21
def fn (N : Nat) : Sh.den ins → Option (Sh.den outs) := fun (a, _) => fA21.run N a
def S (N : Nat) : Fs := ⟨ins, outs, fn N⟩
def lam (N : Nat) : Pcs := pcs [([true, false, true, false], (fD28.P N).pc (C N))]
theorem pok (N : Nat) : (lam N).Ok Tryz.prog (C N) code := pcsOk_cons (c1 := .loop fD28.code) (by kernel_rfl) (fD28.ok N) (pcsOk_nil)
theorem ok (N : Nat) : (S N).con.Ok Tryz.prog 59 := okF (F := S N) [] Tryz.func59 (by kernel_rfl) (by rfl) mix (cok N) (pok N) fun _ => by kernel_rfl
end fA21
namespace fA38
def ins : Sh := (.cons (.rbox 54 s3) .nil)
def C (N : Nat) : Ctx := ⟨U, 12, fun _ => true, gam [], gamY []⟩
theorem cok (N : Nat) : (C N).Ok Tryz.prog := ⟨U_ok, GamOk.nil, GamYOk.nil⟩
def code : Code := Tryz.f60.body.getD .skip
def outs : Sh := (.cons (.val (.int .i64)) .nil)
end fA38
noncomputable def fA38.run (N : Nat) (room_ : Int) (used : Int) (files : (List T1)) (steps : Int) (left : Int) (dead : Bool) : Option (Int × Unit) :=
  some (IntKind.i64.wrap (room_ - used), ())
namespace fA38
def fn (N : Nat) : Sh.den ins → Option (Sh.den outs) := fun ((a, b, c, d, e, f, _), _) => fA38.run N a b c d e f
def S (N : Nat) : Fs := ⟨ins, outs, fn N⟩
def lam (N : Nat) : Pcs := pcs []
theorem pok (N : Nat) : (lam N).Ok Tryz.prog (C N) code := pcsOk_nil
theorem ok (N : Nat) : (S N).con.Ok Tryz.prog 60 := okF (F := S N) [] Tryz.func60 (by kernel_rfl) (by rfl) mix (cok N) (pok N) fun _ => by kernel_rfl
end fA38
namespace fA10
def ins : Sh := (.cons (.nils) (.cons (.val (.int .i64)) .nil))
def C (N : Nat) : Ctx := ⟨U, 27, fun _ => true, gam [], gamY []⟩
theorem cok (N : Nat) : (C N).Ok Tryz.prog := ⟨U_ok, GamOk.nil, GamYOk.nil⟩
def code : Code := Tryz.f94.body.getD .skip
def outs : Sh := (.cons (.own 5 .byte) .nil)
end fA10
noncomputable def fA10.run (N : Nat) (n_ : Int) : Option T6 :=
  bif decide (n_ < (0 : Int)) then
    none
  else
    bif decide ((IntKind.i64.wrap (n_ - (0 : Int))) > (0 : Int)) then
      bif (decide ((0 : Int) ≤ (IntKind.i64.wrap (n_ - (0 : Int))))) && (room (IntKind.i64.wrap (n_ - (0 : Int))).toNat 1) then
        bif okB (0 : Int) (0 : Int) (List.replicate (IntKind.i64.wrap (n_ - (0 : Int))).toNat (0 : UInt8)).length then
          some ((List.replicate (IntKind.i64.wrap (n_ - (0 : Int))).toNat (0 : UInt8)).take 0, ())
        else none
      else none
    else some (([] : List UInt8), ())
namespace fA10
def fn (N : Nat) : Sh.den ins → Option (Sh.den outs) := fun (_, a, _) => fA10.run N a
def S (N : Nat) : Fs := ⟨ins, outs, fn N⟩
def lam (N : Nat) : Pcs := pcs []
theorem pok (N : Nat) : (lam N).Ok Tryz.prog (C N) code := pcsOk_nil
theorem ok (N : Nat) : (S N).con.Ok Tryz.prog 94 := okF (F := S N) [4] Tryz.func94 (by kernel_rfl) (by rfl) mix (cok N) (pok N) fun _ => by kernel_rfl
end fA10
namespace fB0
def ins : Sh := (.cons (.rown 43 (.slice .byte)) .nil)
def C (N : Nat) : Ctx := ⟨U, 36, fun _ => true, gam [(94, (fA10.S N).con)], gamY []⟩
theorem cok (N : Nat) : (C N).Ok Tryz.prog := ⟨U_ok, GamOk.cons (fA10.ok N) (GamOk.nil), GamYOk.nil⟩
def code : Code := Tryz.f61.body.getD .skip
def outs : Sh := (.cons (.own 5 .byte) .nil)
end fB0
namespace fA3
def ins : Sh := s14
def ts : List Tmp := [3, 9, 10, 11]
def asg : List Tmp := [3, 5, 11, 12, 13, 14, 15, 16, 17, 18, 19, 20, 21, 22]
def C (N : Nat) : Ctx := { fB0.C N with may := fun t => asg.any (Nat.beq t) }
def code : Code := loopBody (sub fB0.code [true, true, false, true, false])
theorem cok (N : Nat) : (C N).Ok Tryz.prog := okC (fB0.cok N) _
def alts : List Alt := [⟨(.exit 0), [3], (.cons (.val (.int .i64)) .nil)⟩]
end fA3
noncomputable def fA3.go (N : Nat) : Nat → Int → T12 → Int → Int → Option ((Int × Unit))
  | 0, _, _, _, _ => none
  | fuel + 1, size, t9, t10, t11 =>
    bif decide (t11 < t10) then
      bif inB t11 t9.length then
        bif decide (t11.toNat < t9.length) then
          bif decide ((IntKind.i64.wrap (size + ((t9.getD t11.toNat ([] : List UInt8)).length : Int))) < (0 : Int)) then
            none
          else fA3.go N fuel (IntKind.i64.wrap (size + ((t9.getD t11.toNat ([] : List UInt8)).length : Int))) t9 t10 (IntKind.i64.wrap (t11 + (1 : Int)))
        else none
      else none
    else some (size, ())
namespace fA3
def g (N n : Nat) : Sh.den ins → Option (altsDen alts) := fun (a, b, c, d, _) => fA3.go N n a b c d
def P (N : Nat) : Ps := ⟨ts, ins, asg, alts, g N N⟩
def lam (N : Nat) : Pcs := pcs []
theorem pok (N : Nat) : (lam N).Ok Tryz.prog (C N) code := pcsOk_nil
theorem ok (N : Nat) : ((P N).pc (fB0.C N)).Ok Tryz.prog (fB0.C N) (.loop code) := okL (F := P N) (g N) (fB0.cok N) mix (pok N) (fun _ => rfl) rfl fun _ _ => by kernel_rfl
end fA3
namespace fB4
def ins : Sh := (.cons (.own 5 .byte) (.cons (.rown 43 (.slice .byte)) s13))
def ts : List Tmp := [6, 25, 26, 27]
def asg : List Tmp := [6, 8, 27, 28, 29, 30, 31, 32, 33, 34]
def C (N : Nat) : Ctx := { fB0.C N with may := fun t => asg.any (Nat.beq t) }
def code : Code := loopBody (sub fB0.code [true, true, true, true, false, true, false])
theorem cok (N : Nat) : (C N).Ok Tryz.prog := okC (fB0.cok N) _
def alts : List Alt := [⟨(.exit 2), [6], (.cons (.own 5 .byte) .nil)⟩]
end fB4
noncomputable def fB4.go (N : Nat) : Nat → (List UInt8) → T12 → Int → Int → Option (T6)
  | 0, _, _, _, _ => none
  | fuel + 1, newslice, t25, t26, t27 =>
    bif decide (t27 < t26) then
      bif inB t27 t25.length then
        bif decide (t27.toNat < t25.length) then
          bif room (newslice.length + (t25.getD t27.toNat ([] : List UInt8)).length) 1 then
            fB4.go N fuel (newslice ++ (t25.getD t27.toNat ([] : List UInt8))) t25 t26 (IntKind.i64.wrap (t27 + (1 : Int)))
          else none
        else none
      else none
    else some (newslice, ())
namespace fB4
def g (N n : Nat) : Sh.den ins → Option (altsDen alts) := fun (a, b, c, d, _) => fB4.go N n a b c d
def P (N : Nat) : Ps := ⟨ts, ins, asg, alts, g N N⟩
def lam (N : Nat) : Pcs := pcs []
theorem pok (N : Nat) : (lam N).Ok Tryz.prog (C N) code := pcsOk_nil
theorem ok (N : Nat) : ((P N).pc (fB0.C N)).Ok Tryz.prog (fB0.C N) (.loop code) := okL (F := P N) (g N) (fB0.cok N) mix (pok N) (fun _ => rfl) rfl fun _ _ => by kernel_rfl
end fB4
noncomputable def fB0.run (N : Nat) (slices : T12) : Option T6 :=
  obind (fA3.go N N (0 : Int) slices (slices.length : Int) (0 : Int)) fun (size, _) =>
    obind (fA10.run N size) fun (l, _) =>
      obind (fB4.go N N l slices (slices.length : Int) (0 : Int)) fun (newslice, _) =>
        some (newslice, ())
namespace fB0
def fn (N : Nat) : Sh.den ins → Option (Sh.den outs) := fun (a, _) => fB0.run N a
def S (N : Nat) : Fs := ⟨ins, outs, fn N⟩
def lam (N : Nat) : Pcs := pcs [([true, true, false, true, false], (fA3.P N).pc (C N)), ([true, true, true, true, false, true, false], (fB4.P N).pc (C N))]
theorem pok (N : Nat) : (lam N).Ok Tryz.prog (C N) code := pcsOk_cons (c1 := .loop fA3.code) (by kernel_rfl) (fA3.ok N) (pcsOk_cons (c1 := .loop fB4.code) (by kernel_rfl) (fB4.ok N) (pcsOk_nil))
theorem ok (N : Nat) : (S N).con.Ok Tryz.prog 61 := okF (F := S N) [] Tryz.func61 (by kernel_rfl) (by rfl) mix (cok N) (pok N) fun _ => by kernel_rfl
end fB0
namespace fA8
def ins : Sh := (.cons (.box 54 s1) (.cons (.val .str) s4))
def C (N : Nat) : Ctx := ⟨U, 31, fun _ => true, gam [], gamY []⟩
theorem cok (N : Nat) : (C N).Ok Tryz.prog := ⟨U_ok, GamOk.nil, GamYOk.nil⟩
def code : Code := Tryz.f50.body.getD .skip
def outs : Sh := (.cons (.upd 0 54 s1) .nil)
end fA8
noncomputable def fA8.run (N : Nat) (room_ : Int) (used : Int) (files : (List T1)) (steps : Int) (left : Int) (dead : Bool) (name : (List UInt8)) (f : T0) : Option (T2 × Unit) :=
  some ((room_, IntKind.i64.wrap (used + (IntKind.i64.wrap ((f.1.length : Int) - ((mapGet files name (([] : List UInt8), (0 : Int))).1.length : Int)))), mapPut files name f, steps, left, dead, ()), ())
namespace fA8
def fn (N : Nat) : Sh.den ins → Option (Sh.den outs) := fun ((a, b, c, d, e, f, _), g, h, _) => fA8.run N a b c d e f g h
def S (N : Nat) : Fs := ⟨ins, outs, fn N⟩
def lam (N : Nat) : Pcs := pcs []
theorem pok (N : Nat) : (lam N).Ok Tryz.prog (C N) code := pcsOk_nil
theorem ok (N : Nat) : (S N).con.Ok Tryz.prog 50 := okF (F := S N) [] Tryz.func50 (by kernel_rfl) (by rfl) mix (cok N) (pok N) fun _ => by kernel_rfl
end fA8
namespace fA12
def ins : Sh := (.cons (.box 54 s1) (.cons (.val .str) (.cons (.val (.slice .byte)) .nil)))
def C (N : Nat) : Ctx := ⟨U, 41, fun _ => true, gam [(59, (fA21.S N).con), (60, (fA38.S N).con), (61, (fB0.S N).con), (50, (fA8.S N).con), (62, (fB5.S N).con)], gamY []⟩
theorem cok (N : Nat) : (C N).Ok Tryz.prog := ⟨U_ok, GamOk.cons (fA21.ok N) (GamOk.cons (fA38.ok N) (GamOk.cons (fB0.ok N) (GamOk.cons (fA8.ok N) (GamOk.cons (fB5.ok N) (GamOk.nil))))), GamYOk.nil⟩
def code : Code := Tryz.f31.body.getD .skip
def outs : Sh := s11
end fA12
noncomputable def fA12.run (N : Nat) (room_ : Int) (used : Int) (files : (List T1)) (steps : Int) (left : Int) (dead : Bool) (name : (List UInt8)) (b : (List UInt8)) : Option T10 :=
  bif dead then
    some ((room_, used, files, steps, left, dead, ()), (44 : Int), ())
  else
    obind (fA21.run N name) fun (b1, _) =>
      bif !b1 then
        some ((room_, used, files, steps, left, dead, ()), (40 : Int), ())
      else
        obind (fA38.run N room_ used files steps left dead) fun (n_, _) =>
          bif decide ((b.length : Int) > n_) then
            some ((room_, used, files, steps, left, dead, ()), (41 : Int), ())
          else
            obind (fB0.run N ([(mapGet files name (([] : List UInt8), (0 : Int))).1, b] : List (List UInt8))) fun (l, _) =>
              obind (fA8.run N room_ used files steps left dead name (l, (mapGet files name (([] : List UInt8), (0 : Int))).2)) fun ((room1, used1, files1, steps1, left1, dead1, _), _) =>
                obind (fB5.run N room1 used1 files1 steps1 left1 dead1) fun ((room2, used2, files2, steps2, left2, dead2, _), b2, _) =>
                  bif b2 then
                    some ((room2, used2, files2, steps2, left2, dead2, ()), (44 : Int), ())
                  else some ((room2, used2, files2, steps2, left2, dead2, ()), (0 : Int), ())
namespace fA12
def fn (N : Nat) : Sh.den ins → Option (Sh.den outs) := fun ((a, b, c, d, e, f, _), g, h, _) => fA12.run N a b c d e f g h
def S (N : Nat) : Fs := ⟨ins, outs, fn N⟩
def lam (N : Nat) : Pcs := pcs []
theorem pok (N : Nat) : (lam N).Ok Tryz.prog (C N) code := pcsOk_nil
theorem ok (N : Nat) : (S N).con.Ok Tryz.prog 31 := okF (F := S N) [] Tryz.func31 (by kernel_rfl) (by rfl) mix (cok N) (pok N) fun _ => by kernel_rfl
end fA12
namespace fC38
def ins : Sh := s8
def C (N : Nat) : Ctx := ⟨U, 6, fun _ => true, gam [(31, (fA12.S N).con)], gamY []⟩
theorem cok (N : Nat) : (C N).Ok Tryz.prog := ⟨U_ok, GamOk.cons (fA12.ok N) (GamOk.nil), GamYOk.nil⟩
def code : Code := Tryz.f39.body.getD .skip
def outs : Sh := s12
end fC38
noncomputable def fC38.run (N : Nat) (room_ : Int) (used : Int) (files : (List T1)) (steps : Int) (left : Int) (dead : Bool) (t1 : (List UInt8)) : Option T10 :=
  obind (fA12.run N room_ used files steps left dead t1 ([] : List UInt8)) fun ((room1, used1, files1, steps1, left1, dead1, _), n_, _) =>
    some ((room1, used1, files1, steps1, left1, dead1, ()), n_, ())
namespace fC38
def fn (N : Nat) : Sh.den ins → Option (Sh.den outs) := fun (((a, b, c, d, e, f, _), _), (g, _), _) => fC38.run N a b c d e f g
def S (N : Nat) : Fs := ⟨ins, outs, fn N⟩
def lam (N : Nat) : Pcs := pcs []
theorem pok (N : Nat) : (lam N).Ok Tryz.prog (C N) code := pcsOk_nil
theorem ok (N : Nat) : (S N).con.Ok Tryz.prog 39 := okF (F := S N) [] Tryz.func39 (by kernel_rfl) (by rfl) mix (cok N) (pok N) fun _ => by kernel_rfl
end fC38
namespace fA28
def ins : Sh := s9
def C (N : Nat) : Ctx := ⟨U, 13, fun _ => true, gam [(50, (fA8.S N).con)], gamY []⟩
theorem cok (N : Nat) : (C N).Ok Tryz.prog := ⟨U_ok, GamOk.cons (fA8.ok N) (GamOk.nil), GamYOk.nil⟩
def code : Code := Tryz.f65.body.getD .skip
def outs : Sh := (.cons (.upd 1 54 s1) .nil)
end fA28
noncomputable def fA28.run (N : Nat) (f : T0) (room_ : Int) (used : Int) (files : (List T1)) (steps : Int) (left : Int) (dead : Bool) (t2 : (List UInt8)) : Option (T2 × Unit) :=
  obind (fA8.run N room_ used files steps left dead t2 (f.1, (f.1.length : Int))) fun ((room1, used1, files1, steps1, left1, dead1, _), _) =>
    some ((room1, used1, files1, steps1, left1, dead1, ()), ())
namespace fA28
def fn (N : Nat) : Sh.den ins → Option (Sh.den outs) := fun (a, ((b, c, d, e, f, g, _), _), (h, _), _) => fA28.run N a b c d e f g h
def S (N : Nat) : Fs := ⟨ins, outs, fn N⟩
def lam (N : Nat) : Pcs := pcs []
theorem pok (N : Nat) : (lam N).Ok Tryz.prog (C N) code := pcsOk_nil
theorem ok (N : Nat) : (S N).con.Ok Tryz.prog 65 := okF (F := S N) [] Tryz.func65 (by kernel_rfl) (by rfl) mix (cok N) (pok N) fun _ => by kernel_rfl
end fA28
namespace fB26
def ins : Sh := (.cons (.box 54 s1) (.cons (.val .str) (.cons (.fn 64 .nil) (.cons (.fn 65 s10) .nil))))
def C (N : Nat) : Ctx := ⟨U, 40, fun _ => true, gam [(64, (fB43.S N).con), (62, (fB5.S N).con), (65, (fA28.S N).con)], gamY []⟩
theorem cok (N : Nat) : (C N).Ok Tryz.prog := ⟨U_ok, GamOk.cons (fB43.ok N) (GamOk.cons (fB5.ok N) (GamOk.cons (fA28.ok N) (GamOk.nil))), GamYOk.nil⟩
def code : Code := Tryz.f63.body.getD .skip
def outs : Sh := s11
end fB26
noncomputable def fB26.run (N : Nat) (room_ : Int) (used : Int) (files : (List T1)) (steps : Int) (left : Int) (dead : Bool) (name : (List UInt8)) (done : (List UInt8)) : Option T10 :=
  bif dead then
    some ((room_, used, files, steps, left, dead, ()), (44 : Int), ())
  else
    bif !(mapHas files name) then
      some ((room_, used, files, steps, left, dead, ()), (42 : Int), ())
    else
      obind (fB43.run N (mapGet files name (([] : List UInt8), (0 : Int)))) fun (n_, _) =>
        bif !(decide (n_ = (0 : Int))) then
          some ((room_, used, files, steps, left, dead, ()), n_, ())
        else
          obind (fB5.run N room_ used files steps left dead) fun ((room1, used1, files1, steps1, left1, dead1, _), b, _) =>
            bif b then
              some ((room1, used1, files1, steps1, left1, dead1, ()), (44 : Int), ())
            else
              obind (fA28.run N (mapGet files name (([] : List UInt8), (0 : Int))) room1 used1 files1 steps1 left1 dead1 done) fun ((room2, used2, files2, steps2, left2, dead2, _), _) =>
                some ((room2, used2, files2, steps2, left2, dead2, ()), (0 : Int), ())
namespace fB26
def fn (N : Nat) : Sh.den ins → Option (Sh.den outs) := fun ((a, b, c, d, e, f, _), g, _, ((_, _), (h, _), _), _) => fB26.run N a b c d e f g h
def S (N : Nat) : Fs := ⟨ins, outs, fn N⟩
def lam (N : Nat) : Pcs := pcs []
theorem pok (N : Nat) : (lam N).Ok Tryz.prog (C N) code := pcsOk_nil
theorem ok (N : Nat) : (S N).con.Ok Tryz.prog 63 := okF (F := S N) [] Tryz.func63 (by kernel_rfl) (by rfl) mix (cok N) (pok N) fun _ => by kernel_rfl
end fB26
namespace fA9
def ins : Sh := s6
def C (N : Nat) : Ctx := ⟨U, 9, fun _ => true, gam [(63, (fB26.S N).con)], gamY []⟩
theorem cok (N : Nat) : (C N).Ok Tryz.prog := ⟨U_ok, GamOk.cons (fB26.ok N) (GamOk.nil), GamYOk.nil⟩
def code : Code := Tryz.f33.body.getD .skip
def outs : Sh := s11
end fA9
noncomputable def fA9.run (N : Nat) (room_ : Int) (used : Int) (files : (List T1)) (steps : Int) (left : Int) (dead : Bool) (name : (List UInt8)) : Option T10 :=
  obind (fB26.run N room_ used files steps left dead name name) fun ((room1, used1, files1, steps1, left1, dead1, _), n_, _) =>
    some ((room1, used1, files1, steps1, left1, dead1, ()), n_, ())
namespace fA9
def fn (N : Nat) : Sh.den ins → Option (Sh.den outs) := fun ((a, b, c, d, e, f, _), g, _) => fA9.run N a b c d e f g
def S (N : Nat) : Fs := ⟨ins, outs, fn N⟩
def lam (N : Nat) : Pcs := pcs []
theorem pok (N : Nat) : (lam N).Ok Tryz.prog (C N) code := pcsOk_nil
theorem ok (N : Nat) : (S N).con.Ok Tryz.prog 33 := okF (F := S N) [] Tryz.func33 (by kernel_rfl) (by rfl) mix (cok N) (pok N) fun _ => by kernel_rfl
end fA9
namespace fB38
def ins : Sh := s8
def C (N : Nat) : Ctx := ⟨U, 6, fun _ => true, gam [(33, (fA9.S N).con)], gamY []⟩
theorem cok (N : Nat) : (C N).Ok Tryz.prog := ⟨U_ok, GamOk.cons (fA9.ok N) (GamOk.nil), GamYOk.nil⟩
def code : Code := Tryz.f40.body.getD .skip
def outs : Sh := s12
end fB38
noncomputable def fB38.run (N : Nat) (room_ : Int) (used : Int) (files : (List T1)) (steps : Int) (left : Int) (dead : Bool) (t1 : (List UInt8)) : Option T10 :=
  obind (fA9.run N room_ used files steps left dead t1) fun ((room1, used1, files1, steps1, left1, dead1, _), n_, _) =>
    some ((room1, used1, files1, steps1, left1, dead1, ()), n_, ())
namespace fB38
def fn (N : Nat) : Sh.den ins → Option (Sh.den outs) := fun (((a, b, c, d, e, f, _), _), (g, _), _) => fB38.run N a b c d e f g
def S (N : Nat) : Fs := ⟨ins, outs, fn N⟩
def lam (N : Nat) : Pcs := pcs []
theorem pok (N : Nat) : (lam N).Ok Tryz.prog (C N) code := pcsOk_nil
theorem ok (N : Nat) : (S N).con.Ok Tryz.prog 40 := okF (F := S N) [] Tryz.func40 (by kernel_rfl) (by rfl) mix (cok N) (pok N) fun _ => by kernel_rfl
end fB38
namespace fA46
def ins : Sh := (.cons (.els 1 3 (.cons (.fn 37 s8) (.cons (.fn 39 (.cons (.ref 0) (.cons (.ref 3) .nil))) (.cons (.fn 40 (.cons (.ref 0) (.cons (.ref 3) .nil))) .nil)))) .nil)
def C (N : Nat) : Ctx := ⟨U, 18, fun _ => true, gam [(37, (fC26.S N).con), (39, (fC38.S N).con), (40, (fB38.S N).con)], gamY []⟩
theorem cok (N : Nat) : (C N).Ok Tryz.prog := ⟨U_ok, GamOk.cons (fC26.ok N) (GamOk.cons (fC38.ok N) (GamOk.cons (fB38.ok N) (GamOk.nil))), GamYOk.nil⟩
def code : Code := Tryz.f29.body.getD .skip
def outs : Sh := s12
end fA46
noncomputable def fA46.run (N : Nat) (room_ : Int) (used : Int) (files : (List T1)) (steps : Int) (left : Int) (dead : Bool) (steps1 : (List UInt8)) : Option T10 :=
  obind (fC26.run N room_ used files steps left dead steps1) fun ((room1, used1, files1, steps2, left1, dead1, _), n_, _) =>
    bif !(decide (n_ = (0 : Int))) then
      some ((room1, used1, files1, steps2, left1, dead1, ()), n_, ())
    else
      obind (fC38.run N room1 used1 files1 steps2 left1 dead1 steps1) fun ((room2, used2, files2, steps3, left2, dead2, _), n1, _) =>
        bif !(decide (n1 = (0 : Int))) then
          some ((room2, used2, files2, steps3, left2, dead2, ()), n1, ())
        else
          obind (fB38.run N room2 used2 files2 steps3 left2 dead2 steps1) fun ((room3, used3, files3, steps4, left3, dead3, _), n2, _) =>
            bif !(decide (n2 = (0 : Int))) then
              some ((room3, used3, files3, steps4, left3, dead3, ()), n2, ())
            else some ((room3, used3, files3, steps4, left3, dead3, ()), (0 : Int), ())
namespace fA46
def fn (N : Nat) : Sh.den ins → Option (Sh.den outs) := fun (((((a, b, c, d, e, f, _), _), (g, _), _), (_, _, _), (_, _, _), _), _) => fA46.run N a b c d e f g
def S (N : Nat) : Fs := ⟨ins, outs, fn N⟩
def lam (N : Nat) : Pcs := pcs [([true, false, true, false], (Pc.unroll (C N) (loopBody (sub code [true, false, true, false])) (pcs []) 4))]
theorem pok (N : Nat) : (lam N).Ok Tryz.prog (C N) code := pcsOk_cons (c1 := .loop (loopBody (sub code [true, false, true, false]))) (by kernel_rfl) (unroll_ok (cok N) mix pcsOk_nil 4) (pcsOk_nil)
theorem ok (N : Nat) : (S N).con.Ok Tryz.prog 29 := okF (F := S N) [] Tryz.func29 (by kernel_rfl) (by rfl) mix (cok N) (pok N) fun _ => by kernel_rfl
end fA46
namespace fC10
def ins : Sh := s6
def C (N : Nat) : Ctx := ⟨U, 19, fun _ => true, gam [(29, (fA46.S N).con)], gamY []⟩
theorem cok (N : Nat) : (C N).Ok Tryz.prog := ⟨U_ok, GamOk.cons (fA46.ok N) (GamOk.nil), GamYOk.nil⟩
def code : Code := Tryz.f16.body.getD .skip
def outs : List Sh := [(.cons (.upd 0 54 s1) s15), (.cons (.upd 0 54 s1) s18)]
end fC10
noncomputable def fC10.run (N : Nat) (room_ : Int) (used : Int) (files : (List T1)) (steps : Int) (left : Int) (dead : Bool) (name : (List UInt8)) : Option (T13 ⊕ T15) :=
  obind (fA46.run N room_ used files steps left dead name) fun ((room1, used1, files1, steps1, left1, dead1, _), n_, _) =>
    bif !(decide (n_ = (0 : Int))) then
      some (.inl ((room1, used1, files1, steps1, left1, dead1, ()), (), n_, ()))
    else some (.inr ((room1, used1, files1, steps1, left1, dead1, ()), ((), name, ([] : List (List UInt8)), (0 : Int), ()), (0 : Int), ()))
namespace fC10
def fn (N : Nat) : Sh.den ins → Option (shsDen outs) := fun ((a, b, c, d, e, f, _), g, _) => fC10.run N a b c d e f g
def S (N : Nat) : Fm := ⟨ins, outs, fn N⟩
def lam (N : Nat) : Pcs := pcs []
theorem pok (N : Nat) : (lam N).Ok Tryz.prog (C N) code := pcsOk_nil
theorem ok (N : Nat) : (S N).con.Ok Tryz.prog 16 := okM (F := S N) [] Tryz.func16 (by kernel_rfl) (by rfl) mix (cok N) (pok N) fun _ => by kernel_rfl
end fC10
namespace fC34
def ins : Sh := .nil
def C (N : Nat) : Ctx := ⟨U, 3, fun _ => true, gam [], gamY []⟩
theorem cok (N : Nat) : (C N).Ok Tryz.prog := ⟨U_ok, GamOk.nil, GamYOk.nil⟩
def code : Code := Tryz.f54.body.getD .skip
def outs : Sh := (.cons (.box 129 (.cons (.own 5 .byte) .nil)) .nil)
end fC34
noncomputable def fC34.run (N : Nat)  : Option (T6 × Unit) :=
  some ((([] : List UInt8), ()), ())
namespace fC34
def fn (N : Nat) : Sh.den ins → Option (Sh.den outs) := fun _ => fC34.run N
def S (N : Nat) : Fs := ⟨ins, outs, fn N⟩
def lam (N : Nat) : Pcs := pcs []
theorem pok (N : Nat) : (lam N).Ok Tryz.prog (C N) code := pcsOk_nil
theorem ok (N : Nat) : (S N).con.Ok Tryz.prog 54 := okF (F := S N) [] Tryz.func54 (by kernel_rfl) (by rfl) mix (cok N) (pok N) fun _ => by kernel_rfl
end fC34
namespace fA13
def ins : Sh := (.cons (.box 129 (.cons (.own 5 .byte) .nil)) (.cons (.val .byte) .nil))
def C (N : Nat) : Ctx := ⟨U, 14, fun _ => true, gam [], gamY []⟩
theorem cok (N : Nat) : (C N).Ok Tryz.prog := ⟨U_ok, GamOk.nil, GamYOk.nil⟩
def code : Code := Tryz.f108.body.getD .skip
def outs : Sh := s19
end fA13
noncomputable def fA13.run (N : Nat) (b : (List UInt8)) (b1 : UInt8) : Option (T6 × Unit) :=
  bif room (b.length + 1) 1 then
    some ((b ++ ([Hay.u8 (b1.toNat : Int)] : List UInt8), ()), ())
  else none
namespace fA13
def fn (N : Nat) : Sh.den ins → Option (Sh.den outs) := fun ((a, _), b, _) => fA13.run N a b
def S (N : Nat) : Fs := ⟨ins, outs, fn N⟩
def lam (N : Nat) : Pcs := pcs []
theorem pok (N : Nat) : (lam N).Ok Tryz.prog (C N) code := pcsOk_nil
theorem ok (N : Nat) : (S N).con.Ok Tryz.prog 108 := okF (F := S N) [] Tryz.func108 (by kernel_rfl) (by rfl) mix (cok N) (pok N) fun _ => by kernel_rfl
end fA13
namespace fC2
def ins : Sh := s21
def C (N : Nat) : Ctx := ⟨U, 24, fun _ => true, gam [], gamY []⟩
theorem cok (N : Nat) : (C N).Ok Tryz.prog := ⟨U_ok, GamOk.nil, GamYOk.nil⟩
def code : Code := Tryz.f109.body.getD .skip
def outs : Sh := s19
end fC2
namespace fD10
def ins : Sh := s21
def ts : List Tmp := [0, 1, 2]
def asg : List Tmp := [2, 6, 7, 8, 9, 10, 11, 12, 13, 14, 15, 16, 17, 18, 19, 20, 21, 22, 23]
def C (N : Nat) : Ctx := { fC2.C N with may := fun t => asg.any (Nat.beq t) }
def code : Code := loopBody (sub fC2.code [false])
theorem cok (N : Nat) : (C N).Ok Tryz.prog := okC (fC2.cok N) _
def alts : List Alt := [⟨(.exit 0), [], s19⟩]
end fD10
noncomputable def fD10.go (N : Nat) : Nat → (List UInt8) → Int → Int → Option ((T6 × Unit))
  | 0, _, _, _ => none
  | fuel + 1, b, n_, many =>
    bif decide (many > (0 : Int)) then
      bif decide ((0 : Int) ≤ (IntKind.i64.wrap ((8 : Int) * (IntKind.i64.wrap (many - (1 : Int)))))) then
        bif room (b.length + 1) 1 then
          fD10.go N fuel (b ++ ([Hay.u8 (IntKind.u8.wrap (n_.fdiv (2 ^ (min (IntKind.i64.wrap ((8 : Int) * (IntKind.i64.wrap (many - (1 : Int))))).toNat 64))))] : List UInt8)) n_ (IntKind.i64.wrap (many - (1 : Int)))
        else none
      else none
    else some ((b, ()), ())
namespace fD10
def g (N n : Nat) : Sh.den ins → Option (altsDen alts) := fun ((a, _), b, c, _) => fD10.go N n a b c
def P (N : Nat) : Ps := ⟨ts, ins, asg, alts, g N N⟩
def lam (N : Nat) : Pcs := pcs []
theorem pok (N : Nat) : (lam N).Ok Tryz.prog (C N) code := pcsOk_nil
theorem ok (N : Nat) : ((P N).pc (fC2.C N)).Ok Tryz.prog (fC2.C N) (.loop code) := okL (F := P N) (g N) (fC2.cok N) mix (pok N) (fun _ => rfl) rfl fun _ _ => by kernel_rfl
end fD10
noncomputable def fC2.run (N : Nat) (b : (List UInt8)) (n_ : Int) (many : Int) : Option (T6 × Unit) :=
  obind (fD10.go N N b n_ many) fun ((b1, _), _) =>
    some ((b1, ()), ())
namespace fC2
def fn (N : Nat) : Sh.den ins → Option (Sh.den outs) := fun ((a, _), b, c, _) => fC2.run N a b c
def S (N : Nat) : Fs := ⟨ins, outs, fn N⟩
def lam (N : Nat) : Pcs := pcs [([false], (fD10.P N).pc (C N))]
theorem pok (N : Nat) : (lam N).Ok Tryz.prog (C N) code := pcsOk_cons (c1 := .loop fD10.code) (by kernel_rfl) (fD10.ok N) (pcsOk_nil)
theorem ok (N : Nat) : (S N).con.Ok Tryz.prog 109 := okF (F := S N) [] Tryz.func109 (by kernel_rfl) (by rfl) mix (cok N) (pok N) fun _ => by kernel_rfl
end fC2
namespace fC6
def ins : Sh := (.cons (.box 129 (.cons (.own 5 .byte) .nil)) (.cons (.val (.int .u64)) .nil))
def C (N : Nat) : Ctx := ⟨U, 32, fun _ => true, gam [(108, (fA13.S N).con), (109, (fC2.S N).con)], gamY []⟩
theorem cok (N : Nat) : (C N).Ok Tryz.prog := ⟨U_ok, GamOk.cons (fA13.ok N) (GamOk.cons (fC2.ok N) (GamOk.nil)), GamYOk.nil⟩
def code : Code := Tryz.f89.body.getD .skip
def outs : Sh := s19
end fC6
noncomputable def fC6.run (N : Nat) (b : (List UInt8)) (n_ : Int) : Option (T6 × Unit) :=
  bif decide (n_ < (253 : Int)) then
    obind (fA13.run N b (Hay.u8 (IntKind.u8.wrap n_))) fun ((b1, _), _) =>
      some ((b1, ()), ())
  else
    bif decide (n_ ≤ (65535 : Int)) then
      obind (fA13.run N b (253 : UInt8)) fun ((b2, _), _) =>
        obind (fC2.run N b2 n_ (2 : Int)) fun ((b3, _), _) =>
          some ((b3, ()), ())
    else
      bif decide (n_ ≤ (4294967295 : Int)) then
        obind (fA13.run N b (254 : UInt8)) fun ((b4, _), _) =>
          obind (fC2.run N b4 n_ (4 : Int)) fun ((b5, _), _) =>
            some ((b5, ()), ())
      else
        obind (fA13.run N b (255 : UInt8)) fun ((b6, _), _) =>
          obind (fC2.run N b6 n_ (8 : Int)) fun ((b7, _), _) =>
            some ((b7, ()), ())
namespace fC6
def fn (N : Nat) : Sh.den ins → Option (Sh.den outs) := fun ((a, _), b, _) => fC6.run N a b
def S (N : Nat) : Fs := ⟨ins, outs, fn N⟩
def lam (N : Nat) : Pcs := pcs []
theorem pok (N : Nat) : (lam N).Ok Tryz.prog (C N) code := pcsOk_nil
theorem ok (N : Nat) : (S N).con.Ok Tryz.prog 89 := okF (F := S N) [] Tryz.func89 (by kernel_rfl) (by rfl) mix (cok N) (pok N) fun _ => by kernel_rfl
end fC6
namespace fC30
def ins : Sh := s22
def C (N : Nat) : Ctx := ⟨U, 13, fun _ => true, gam [], gamY []⟩
theorem cok (N : Nat) : (C N).Ok Tryz.prog := ⟨U_ok, GamOk.nil, GamYOk.nil⟩
def code : Code := Tryz.f93.body.getD .skip
def outs : Sh := s19
end fC30
noncomputable def fC30.run (N : Nat) (b : (List UInt8)) (b1 : (List UInt8)) : Option (T6 × Unit) :=
  bif room (b.length + b1.length) 1 then
    some ((b ++ b1, ()), ())
  else none
namespace fC30
def fn (N : Nat) : Sh.den ins → Option (Sh.den outs) := fun ((a, _), b, _) => fC30.run N a b
def S (N : Nat) : Fs := ⟨ins, outs, fn N⟩
def lam (N : Nat) : Pcs := pcs []
theorem pok (N : Nat) : (lam N).Ok Tryz.prog (C N) code := pcsOk_nil
theorem ok (N : Nat) : (S N).con.Ok Tryz.prog 93 := okF (F := S N) [] Tryz.func93 (by kernel_rfl) (by rfl) mix (cok N) (pok N) fun _ => by kernel_rfl
end fC30
namespace fC21
def ins : Sh := s22
def C (N : Nat) : Ctx := ⟨U, 12, fun _ => true, gam [(89, (fC6.S N).con), (93, (fC30.S N).con)], gamY []⟩
theorem cok (N : Nat) : (C N).Ok Tryz.prog := ⟨U_ok, GamOk.cons (fC6.ok N) (GamOk.cons (fC30.ok N) (GamOk.nil)), GamYOk.nil⟩
def code : Code := Tryz.f90.body.getD .skip
def outs : Sh := s19
end fC21
noncomputable def fC21.run (N : Nat) (b : (List UInt8)) (b1 : (List UInt8)) : Option (T6 × Unit) :=
  obind (fC6.run N b (IntKind.u64.wrap (b1.length : Int))) fun ((b2, _), _) =>
    obind (fC30.run N b2 b1) fun ((b3, _), _) =>
      some ((b3, ()), ())
namespace fC21
def fn (N : Nat) : Sh.den ins → Option (Sh.den outs) := fun ((a, _), b, _) => fC21.run N a b
def S (N : Nat) : Fs := ⟨ins, outs, fn N⟩
def lam (N : Nat) : Pcs := pcs []
theorem pok (N : Nat) : (lam N).Ok Tryz.prog (C N) code := pcsOk_nil
theorem ok (N : Nat) : (S N).con.Ok Tryz.prog 90 := okF (F := S N) [] Tryz.func90 (by kernel_rfl) (by rfl) mix (cok N) (pok N) fun _ => by kernel_rfl
end fC21
namespace fA43
def ins : Sh := s22
def C (N : Nat) : Ctx := ⟨U, 7, fun _ => true, gam [(90, (fC21.S N).con)], gamY []⟩
theorem cok (N : Nat) : (C N).Ok Tryz.prog := ⟨U_ok, GamOk.cons (fC21.ok N) (GamOk.nil), GamYOk.nil⟩
def code : Code := Tryz.f56.body.getD .skip
def outs : Sh := s19
end fA43
noncomputable def fA43.run (N : Nat) (b : (List UInt8)) (b1 : (List UInt8)) : Option (T6 × Unit) :=
  obind (fC21.run N b b1) fun ((b2, _), _) =>
    some ((b2, ()), ())
namespace fA43
def fn (N : Nat) : Sh.den ins → Option (Sh.den outs) := fun ((a, _), b, _) => fA43.run N a b
def S (N : Nat) : Fs := ⟨ins, outs, fn N⟩
def lam (N : Nat) : Pcs := pcs []
theorem pok (N : Nat) : (lam N).Ok Tryz.prog (C N) code := pcsOk_nil
theorem ok (N : Nat) : (S N).con.Ok Tryz.prog 56 := okF (F := S N) [] Tryz.func56 (by kernel_rfl) (by rfl) mix (cok N) (pok N) fun _ => by kernel_rfl
end fA43
namespace fB12
def ins : Sh := (.cons (.box 129 (.cons (.own 5 .byte) .nil)) (.cons (.rown 43 (.slice .byte)) (.cons (.fn 56 .nil) .nil)))
def C (N : Nat) : Ctx := ⟨U, 24, fun _ => true, gam [(89, (fC6.S N).con), (56, (fA43.S N).con)], gamY []⟩
theorem cok (N : Nat) : (C N).Ok Tryz.prog := ⟨U_ok, GamOk.cons (fC6.ok N) (GamOk.cons (fA43.ok N) (GamOk.nil)), GamYOk.nil⟩
def code : Code := Tryz.f55.body.getD .skip
def outs : Sh := s19
end fB12
namespace fC17
def ins : Sh := (.cons (.box 129 (.cons (.own 5 .byte) .nil)) (.cons (.fn 56 .nil) (.cons (.rown 43 (.slice .byte)) s13)))
def ts : List Tmp := [0, 2, 13, 14, 15]
def asg : List Tmp := [7, 15, 16, 17, 18, 19, 20, 21, 22, 23]
def C (N : Nat) : Ctx := { fB12.C N with may := fun t => asg.any (Nat.beq t) }
def code : Code := loopBody (sub fB12.code [true, true, false])
theorem cok (N : Nat) : (C N).Ok Tryz.prog := okC (fB12.cok N) _
def alts : List Alt := [⟨(.exit 0), [], s19⟩]
end fC17
noncomputable def fC17.go (N : Nat) : Nat → (List UInt8) → T12 → Int → Int → Option ((T6 × Unit))
  | 0, _, _, _, _ => none
  | fuel + 1, b, t13, t14, t15 =>
    bif decide (t15 < t14) then
      bif inB t15 t13.length then
        bif decide (t15.toNat < t13.length) then
          obind (fA43.run N b (t13.getD t15.toNat ([] : List UInt8))) fun ((b1, _), _) =>
            fC17.go N fuel b1 t13 t14 (IntKind.i64.wrap (t15 + (1 : Int)))
        else none
      else none
    else some ((b, ()), ())
namespace fC17
def g (N n : Nat) : Sh.den ins → Option (altsDen alts) := fun ((a, _), _, b, c, d, _) => fC17.go N n a b c d
def P (N : Nat) : Ps := ⟨ts, ins, asg, alts, g N N⟩
def lam (N : Nat) : Pcs := pcs []
theorem pok (N : Nat) : (lam N).Ok Tryz.prog (C N) code := pcsOk_nil
theorem ok (N : Nat) : ((P N).pc (fB12.C N)).Ok Tryz.prog (fB12.C N) (.loop code) := okL (F := P N) (g N) (fB12.cok N) mix (pok N) (fun _ => rfl) rfl fun _ _ => by kernel_rfl
end fC17
noncomputable def fB12.run (N : Nat) (b : (List UInt8)) (l : T12) : Option (T6 × Unit) :=
  obind (fC6.run N b (IntKind.u64.wrap (l.length : Int))) fun ((b1, _), _) =>
    obind (fC17.go N N b1 l (l.length : Int) (0 : Int)) fun ((b2, _), _) =>
      some ((b2, ()), ())
namespace fB12
def fn (N : Nat) : Sh.den ins → Option (Sh.den outs) := fun ((a, _), b, _, _) => fB12.run N a b
def S (N : Nat) : Fs := ⟨ins, outs, fn N⟩
def lam (N : Nat) : Pcs := pcs [([true, true, false], (fC17.P N).pc (C N))]
theorem pok (N : Nat) : (lam N).Ok Tryz.prog (C N) code := pcsOk_cons (c1 := .loop fC17.code) (by kernel_rfl) (fC17.ok N) (pcsOk_nil)
theorem ok (N : Nat) : (S N).con.Ok Tryz.prog 55 := okF (F := S N) [] Tryz.func55 (by kernel_rfl) (by rfl) mix (cok N) (pok N) fun _ => by kernel_rfl
end fB12
namespace fD3
def ins : Sh := (.cons (.rown 5 .byte) .nil)
def C (N : Nat) : Ctx := ⟨U, 8, fun _ => true, gam [], gamY []⟩
theorem cok (N : Nat) : (C N).Ok Tryz.prog := ⟨U_ok, GamOk.nil, GamYOk.nil⟩
def code : Code := Tryz.f27.body.getD .skip
def outs : Sh := (.cons (.own 5 .byte) .nil)
end fD3
noncomputable def fD3.run (N : Nat) (s : (List UInt8)) : Option T6 :=
  pick2 (Nat.beq s.length 0)
    (
      some (([] : List UInt8), ()))
    (
      bif room (0 + s.length) 1 then
        some (s, ())
      else none)
namespace fD3
def fn (N : Nat) : Sh.den ins → Option (Sh.den outs) := fun (a, _) => fD3.run N a
def S (N : Nat) : Fs := ⟨ins, outs, fn N⟩
def lam (N : Nat) : Pcs := pcs []
theorem pok (N : Nat) : (lam N).Ok Tryz.prog (C N) code := pcsOk_nil
theorem ok (N : Nat) : (S N).con.Ok Tryz.prog 27 := okF (F := S N) [] Tryz.func27 (by kernel_rfl) (by rfl) mix (cok N) (pok N) fun _ => by kernel_rfl
end fD3
namespace fD4
def ins : Sh := (.cons (.rbox 129 (.cons (.rown 5 .byte) .nil)) .nil)
def C (N : Nat) : Ctx := ⟨U, 8, fun _ => true, gam [(27, (fD3.S N).con)], gamY []⟩
theorem cok (N : Nat) : (C N).Ok Tryz.prog := ⟨U_ok, GamOk.cons (fD3.ok N) (GamOk.nil), GamYOk.nil⟩
def code : Code := Tryz.f58.body.getD .skip
def outs : Sh := (.cons (.own 5 .byte) .nil)
end fD4
noncomputable def fD4.run (N : Nat) (b : (List UInt8)) : Option T6 :=
  obind (fD3.run N b) fun (l, _) =>
    some (l, ())
namespace fD4
def fn (N : Nat) : Sh.den ins → Option (Sh.den outs) := fun ((a, _), _) => fD4.run N a
def S (N : Nat) : Fs := ⟨ins, outs, fn N⟩
def lam (N : Nat) : Pcs := pcs []
theorem pok (N : Nat) : (lam N).Ok Tryz.prog (C N) code := pcsOk_nil
theorem ok (N : Nat) : (S N).con.Ok Tryz.prog 58 := okF (F := S N) [] Tryz.func58 (by kernel_rfl) (by rfl) mix (cok N) (pok N) fun _ => by kernel_rfl
end fD4
namespace fB13
def ins : Sh := (.cons (.box 129 (.cons (.own 5 .byte) .nil)) (.cons (.val (.int .u32)) .nil))
def C (N : Nat) : Ctx := ⟨U, 8, fun _ => true, gam [(109, (fC2.S N).con)], gamY []⟩
theorem cok (N : Nat) : (C N).Ok Tryz.prog := ⟨U_ok, GamOk.cons (fC2.ok N) (GamOk.nil), GamYOk.nil⟩
def code : Code := Tryz.f91.body.getD .skip
def outs : Sh := s19
end fB13
noncomputable def fB13.run (N : Nat) (b : (List UInt8)) (n_ : Int) : Option (T6 × Unit) :=
  obind (fC2.run N b (IntKind.u64.wrap n_) (4 : Int)) fun ((b1, _), _) =>
    some ((b1, ()), ())
namespace fB13
def fn (N : Nat) : Sh.den ins → Option (Sh.den outs) := fun ((a, _), b, _) => fB13.run N a b
def S (N : Nat) : Fs := ⟨ins, outs, fn N⟩
def lam (N : Nat) : Pcs := pcs []
theorem pok (N : Nat) : (lam N).Ok Tryz.prog (C N) code := pcsOk_nil
theorem ok (N : Nat) : (S N).con.Ok Tryz.prog 91 := okF (F := S N) [] Tryz.func91 (by kernel_rfl) (by rfl) mix (cok N) (pok N) fun _ => by kernel_rfl
end fB13
namespace fC9
def ins : Sh := (.cons (.rown 5 .byte) .nil)
def C (N : Nat) : Ctx := ⟨U, 54, fun _ => true, gam [], gamY []⟩
theorem cok (N : Nat) : (C N).Ok Tryz.prog := ⟨U_ok, GamOk.nil, GamYOk.nil⟩
def code : Code := Tryz.f92.body.getD .skip
def outs : Sh := (.cons (.val (.int .u32)) .nil)
end fC9
namespace fC16
def ins : Sh := s23
def ts : List Tmp := [3, 9]
def asg : List Tmp := [4, 5, 9, 10, 11, 12, 13, 14, 15, 16, 17, 18, 19, 20, 21, 22, 23, 24, 25, 26]
def C (N : Nat) : Ctx := { fC9.C N with may := fun t => asg.any (Nat.beq t) }
def code : Code := loopBody (sub fC9.code [true, true, false, true, false])
theorem cok (N : Nat) : (C N).Ok Tryz.prog := okC (fC9.cok N) _
def alts : List Alt := [⟨(.exit 0), [], (.cons (.updr 0 153 (.int .u32)) .nil)⟩]
end fC16
namespace fC32
def ins : Sh := s24
def ts : List Tmp := [5, 14]
def asg : List Tmp := [5, 14, 15, 16, 17, 18, 19, 20, 21, 22]
def C (N : Nat) : Ctx := { fC16.C N with may := fun t => asg.any (Nat.beq t) }
def code : Code := loopBody (sub fC16.code [true, true, false, false, true, true, false, true, false])
theorem cok (N : Nat) : (C N).Ok Tryz.prog := okC (fC16.cok N) _
def alts : List Alt := [⟨(.exit 2), [5], (.cons (.val (.int .u32)) .nil)⟩]
end fC32
noncomputable def fC32.go (N : Nat) : Nat → Int → Int → Option ((Int × Unit))
  | 0, _, _ => none
  | fuel + 1, c, t14 =>
    bif decide (t14 < (4 : Int)) then
      fC32.go N fuel (IntKind.u32.wrap ((BitVec.ofInt 32 (c.fdiv (2 : Int)) ^^^ BitVec.ofInt 32 (IntKind.u32.wrap ((3988292384 : Int) * (IntKind.u32.wrap ((BitVec.ofInt 32 c &&& BitVec.ofInt 32 (1 : Int)).toNat : Int))))).toNat : Int)) (IntKind.i64.wrap (t14 + (1 : Int)))
    else some (c, ())
namespace fC32
def g (N n : Nat) : Sh.den ins → Option (altsDen alts) := fun (a, b, _) => fC32.go N n a b
def P (N : Nat) : Ps := ⟨ts, ins, asg, alts, g N N⟩
def lam (N : Nat) : Pcs := pcs []
theorem pok (N : Nat) : (lam N).Ok Tryz.prog (C N) code := pcsOk_nil
theorem ok (N : Nat) : ((P N).pc (fC16.C N)).Ok Tryz.prog (fC16.C N) (.loop code) := okL (F := P N) (g N) (fC16.cok N) mix (pok N) (fun _ => rfl) rfl fun _ _ => by kernel_rfl
end fC32
noncomputable def fC16.go (N : Nat) : Nat → (List Int) → Int → Option (T16)
  | 0, _, _ => none
  | fuel + 1, half, t9 =>
    bif decide (t9 < (16 : Int)) then
      obind (fC32.go N N (IntKind.u32.wrap t9) (0 : Int)) fun (c, _) =>
        bif inB t9 16 then
          bif decide (t9.toNat < half.length) then
            fC16.go N fuel (half.set t9.toNat c) (IntKind.i64.wrap (t9 + (1 : Int)))
          else none
        else none
    else some (half, ())
namespace fC16
def g (N n : Nat) : Sh.den ins → Option (altsDen alts) := fun (a, b, _) => fC16.go N n a b
def P (N : Nat) : Ps := ⟨ts, ins, asg, alts, g N N⟩
def lam (N : Nat) : Pcs := pcs [([true, true, false, false, true, true, false, true, false], (fC32.P N).pc (C N))]
theorem pok (N : Nat) : (lam N).Ok Tryz.prog (C N) code := pcsOk_cons (c1 := .loop fC32.code) (by kernel_rfl) (fC32.ok N) (pcsOk_nil)
theorem ok (N : Nat) : ((P N).pc (fC9.C N)).Ok Tryz.prog (fC9.C N) (.loop code) := okL (F := P N) (g N) (fC9.cok N) mix (pok N) (fun _ => rfl) rfl fun _ _ => by kernel_rfl
end fC16
namespace fA35
def ins : Sh := (.cons (.arr 153 (.int .u32) 16) (.cons (.val (.int .u32)) (.cons (.rown 5 .byte) s13)))
def ts : List Tmp := [3, 6, 27, 28, 29]
def asg : List Tmp := [6, 8, 29, 30, 31, 32, 33, 34, 35, 36, 37, 38, 39, 40, 41, 42, 43, 44, 45, 46, 47, 48, 49, 50, 51]
def C (N : Nat) : Ctx := { fC9.C N with may := fun t => asg.any (Nat.beq t) }
def code : Code := loopBody (sub fC9.code [true, true, true, true, false, true, false])
theorem cok (N : Nat) : (C N).Ok Tryz.prog := okC (fC9.cok N) _
def alts : List Alt := [⟨(.exit 4), [6], (.cons (.val (.int .u32)) .nil)⟩]
end fA35
noncomputable def fA35.go (N : Nat) : Nat → (List Int) → Int → (List UInt8) → Int → Int → Option ((Int × Unit))
  | 0, _, _, _, _, _ => none
  | fuel + 1, half, c, t27, t28, t29 =>
    bif decide (t29 < t28) then
      bif inB t29 t27.length then
        bif decide (t29.toNat < t27.length) then
          bif inB (IntKind.u32.wrap ((BitVec.ofInt 32 (IntKind.u32.wrap ((BitVec.ofInt 32 c ^^^ BitVec.ofInt 32 (IntKind.u32.wrap ((t27.getD t29.toNat (0 : UInt8)).toNat : Int))).toNat : Int)) &&& BitVec.ofInt 32 (15 : Int)).toNat : Int)) 16 then
            bif decide ((IntKind.u32.wrap ((BitVec.ofInt 32 (IntKind.u32.wrap ((BitVec.ofInt 32 c ^^^ BitVec.ofInt 32 (IntKind.u32.wrap ((t27.getD t29.toNat (0 : UInt8)).toNat : Int))).toNat : Int)) &&& BitVec.ofInt 32 (15 : Int)).toNat : Int)).toNat < half.length) then
              bif inB (IntKind.u32.wrap ((BitVec.ofInt 32 (IntKind.u32.wrap ((BitVec.ofInt 32 (half.getD (IntKind.u32.wrap ((BitVec.ofInt 32 (IntKind.u32.wrap ((BitVec.ofInt 32 c ^^^ BitVec.ofInt 32 (IntKind.u32.wrap ((t27.getD t29.toNat (0 : UInt8)).toNat : Int))).toNat : Int)) &&& BitVec.ofInt 32 (15 : Int)).toNat : Int)).toNat (0 : Int)) ^^^ BitVec.ofInt 32 ((IntKind.u32.wrap ((BitVec.ofInt 32 c ^^^ BitVec.ofInt 32 (IntKind.u32.wrap ((t27.getD t29.toNat (0 : UInt8)).toNat : Int))).toNat : Int)).fdiv (16 : Int))).toNat : Int)) &&& BitVec.ofInt 32 (15 : Int)).toNat : Int)) 16 then
                bif decide ((IntKind.u32.wrap ((BitVec.ofInt 32 (IntKind.u32.wrap ((BitVec.ofInt 32 (half.getD (IntKind.u32.wrap ((BitVec.ofInt 32 (IntKind.u32.wrap ((BitVec.ofInt 32 c ^^^ BitVec.ofInt 32 (IntKind.u32.wrap ((t27.getD t29.toNat (0 : UInt8)).toNat : Int))).toNat : Int)) &&& BitVec.ofInt 32 (15 : Int)).toNat : Int)).toNat (0 : Int)) ^^^ BitVec.ofInt 32 ((IntKind.u32.wrap ((BitVec.ofInt 32 c ^^^ BitVec.ofInt 32 (IntKind.u32.wrap ((t27.getD t29.toNat (0 : UInt8)).toNat : Int))).toNat : Int)).fdiv (16 : Int))).toNat : Int)) &&& BitVec.ofInt 32 (15 : Int)).toNat : Int)).toNat < half.length) then
                  fA35.go N fuel half (IntKind.u32.wrap ((BitVec.ofInt 32 (half.getD (IntKind.u32.wrap ((BitVec.ofInt 32 (IntKind.u32.wrap ((BitVec.ofInt 32 (half.getD (IntKind.u32.wrap ((BitVec.ofInt 32 (IntKind.u32.wrap ((BitVec.ofInt 32 c ^^^ BitVec.ofInt 32 (IntKind.u32.wrap ((t27.getD t29.toNat (0 : UInt8)).toNat : Int))).toNat : Int)) &&& BitVec.ofInt 32 (15 : Int)).toNat : Int)).toNat (0 : Int)) ^^^ BitVec.ofInt 32 ((IntKind.u32.wrap ((BitVec.ofInt 32 c ^^^ BitVec.ofInt 32 (IntKind.u32.wrap ((t27.getD t29.toNat (0 : UInt8)).toNat : Int))).toNat : Int)).fdiv (16 : Int))).toNat : Int)) &&& BitVec.ofInt 32 (15 : Int)).toNat : Int)).toNat (0 : Int)) ^^^ BitVec.ofInt 32 ((IntKind.u32.wrap ((BitVec.ofInt 32 (half.getD (IntKind.u32.wrap ((BitVec.ofInt 32 (IntKind.u32.wrap ((BitVec.ofInt 32 c ^^^ BitVec.ofInt 32 (IntKind.u32.wrap ((t27.getD t29.toNat (0 : UInt8)).toNat : Int))).toNat : Int)) &&& BitVec.ofInt 32 (15 : Int)).toNat : Int)).toNat (0 : Int)) ^^^ BitVec.ofInt 32 ((IntKind.u32.wrap ((BitVec.ofInt 32 c ^^^ BitVec.ofInt 32 (IntKind.u32.wrap ((t27.getD t29.toNat (0 : UInt8)).toNat : Int))).toNat : Int)).fdiv (16 : Int))).toNat : Int)).fdiv (16 : Int))).toNat : Int)) t27 t28 (IntKind.i64.wrap (t29 + (1 : Int)))
                else none
              else none
            else none
          else none
        else none
      else none
    else some (c, ())
namespace fA35
def g (N n : Nat) : Sh.den ins → Option (altsDen alts) := fun (a, b, c, d, e, _) => fA35.go N n a b c d e
def P (N : Nat) : Ps := ⟨ts, ins, asg, alts, g N N⟩
def lam (N : Nat) : Pcs := pcs []
theorem pok (N : Nat) : (lam N).Ok Tryz.prog (C N) code := pcsOk_nil
theorem ok (N : Nat) : ((P N).pc (fC9.C N)).Ok Tryz.prog (fC9.C N) (.loop code) := okL (F := P N) (g N) (fC9.cok N) mix (pok N) (fun _ => rfl) rfl fun _ _ => by kernel_rfl
end fA35
noncomputable def fC9.run (N : Nat) (b : (List UInt8)) : Option (Int × Unit) :=
  obind (fC16.go N N (List.replicate 16 (0 : Int)) (0 : Int)) fun (v, _) =>
    obind (fA35.go N N v (4294967295 : Int) b (b.length : Int) (0 : Int)) fun (c, _) =>
      some (IntKind.u32.wrap ((BitVec.ofInt 32 (4294967295 : Int) ^^^ BitVec.ofInt 32 c).toNat : Int), ())
namespace fC9
def fn (N : Nat) : Sh.den ins → Option (Sh.den outs) := fun (a, _) => fC9.run N a
def S (N : Nat) : Fs := ⟨ins, outs, fn N⟩
def lam (N : Nat) : Pcs := pcs [([true, true, false, true, false], (fC16.P N).pc (C N)), ([true, true, true, true, false, true, false], (fA35.P N).pc (C N))]
theorem pok (N : Nat) : (lam N).Ok Tryz.prog (C N) code := pcsOk_cons (c1 := .loop fC16.code) (by kernel_rfl) (fC16.ok N) (pcsOk_cons (c1 := .loop fA35.code) (by kernel_rfl) (fA35.ok N) (pcsOk_nil))
theorem ok (N : Nat) : (S N).con.Ok Tryz.prog 92 := okF (F := S N) [] Tryz.func92 (by kernel_rfl) (by rfl) mix (cok N) (pok N) fun _ => by kernel_rfl
end fC9
namespace fC23
def ins : Sh := (.cons (.box 129 (.cons (.own 5 .byte) .nil)) (.cons (.rown 5 .byte) .nil))
def C (N : Nat) : Ctx := ⟨U, 13, fun _ => true, gam [], gamY []⟩
theorem cok (N : Nat) : (C N).Ok Tryz.prog := ⟨U_ok, GamOk.nil, GamYOk.nil⟩
def code : Code := Tryz.f93.body.getD .skip
def outs : Sh := s19
end fC23
noncomputable def fC23.run (N : Nat) (b : (List UInt8)) (b1 : (List UInt8)) : Option (T6 × Unit) :=
  bif room (b.length + b1.length) 1 then
    some ((b ++ b1, ()), ())
  else none
namespace fC23
def fn (N : Nat) : Sh.den ins → Option (Sh.den outs) := fun ((a, _), b, _) => fC23.run N a b
def S (N : Nat) : Fs := ⟨ins, outs, fn N⟩
def lam (N : Nat) : Pcs := pcs []
theorem pok (N : Nat) : (lam N).Ok Tryz.prog (C N) code := pcsOk_nil
theorem ok (N : Nat) : (S N).con.Ok Tryz.prog 93 := okF (F := S N) [] Tryz.func93 (by kernel_rfl) (by rfl) mix (cok N) (pok N) fun _ => by kernel_rfl
end fC23
namespace fB32
def ins : Sh := (.cons (.rown 5 .byte) .nil)
def C (N : Nat) : Ctx := ⟨U, 30, fun _ => true, gam [(54, (fC34.S N).con), (91, (fB13.S N).con), (92, (fC9.S N).con), (93, (fC23.S N).con), (58, (fD4.S N).con)], gamY []⟩
theorem cok (N : Nat) : (C N).Ok Tryz.prog := ⟨U_ok, GamOk.cons (fC34.ok N) (GamOk.cons (fB13.ok N) (GamOk.cons (fC9.ok N) (GamOk.cons (fC23.ok N) (GamOk.cons (fD4.ok N) (GamOk.nil))))), GamYOk.nil⟩
def code : Code := Tryz.f57.body.getD .skip
def outs : Sh := s25
end fB32
noncomputable def fB32.run (N : Nat) (b : (List UInt8)) : Option T17 :=
  bif decide ((b.length : Int) > (16777216 : Int)) then
    some (([] : List UInt8), (12 : Int), ())
  else
    obind (fC34.run N) fun ((b1, _), _) =>
      obind (fB13.run N b1 (IntKind.u32.wrap (b.length : Int))) fun ((b2, _), _) =>
        obind (fC9.run N b2) fun (n_, _) =>
          obind (fB13.run N b2 n_) fun ((b3, _), _) =>
            obind (fC23.run N b3 b) fun ((b4, _), _) =>
              obind (fC9.run N b) fun (n1, _) =>
                obind (fB13.run N b4 n1) fun ((b5, _), _) =>
                  obind (fD4.run N b5) fun (l, _) =>
                    some (l, (0 : Int), ())
namespace fB32
def fn (N : Nat) : Sh.den ins → Option (Sh.den outs) := fun (a, _) => fB32.run N a
def S (N : Nat) : Fs := ⟨ins, outs, fn N⟩
def lam (N : Nat) : Pcs := pcs []
theorem pok (N : Nat) : (lam N).Ok Tryz.prog (C N) code := pcsOk_nil
theorem ok (N : Nat) : (S N).con.Ok Tryz.prog 57 := okF (F := S N) [] Tryz.func57 (by kernel_rfl) (by rfl) mix (cok N) (pok N) fun _ => by kernel_rfl
end fB32
namespace fB20
def ins : Sh := (.cons (.rown 43 (.slice .byte)) .nil)
def C (N : Nat) : Ctx := ⟨U, 36, fun _ => true, gam [(54, (fC34.S N).con), (55, (fB12.S N).con), (58, (fD4.S N).con), (57, (fB32.S N).con)], gamY []⟩
theorem cok (N : Nat) : (C N).Ok Tryz.prog := ⟨U_ok, GamOk.cons (fC34.ok N) (GamOk.cons (fB12.ok N) (GamOk.cons (fD4.ok N) (GamOk.cons (fB32.ok N) (GamOk.nil)))), GamYOk.nil⟩
def code : Code := Tryz.f28.body.getD .skip
def outs : Sh := s25
end fB20
namespace fC25
def ins : Sh := s14
def ts : List Tmp := [4, 10, 11, 12]
def asg : List Tmp := [2, 3, 4, 6, 12, 13, 14, 15, 16, 17, 18, 19, 20, 21, 22]
def C (N : Nat) : Ctx := { fB20.C N with may := fun t => asg.any (Nat.beq t) }
def code : Code := loopBody (sub fB20.code [true, true, false, true, false])
theorem cok (N : Nat) : (C N).Ok Tryz.prog := okC (fB20.cok N) _
def alts : List Alt := [⟨.ret, [2, 3], s25⟩, ⟨(.exit 0), [], .nil⟩]
end fC25
noncomputable def fC25.go (N : Nat) : Nat → Int → T12 → Int → Int → Option (T17 ⊕ Unit)
  | 0, _, _, _, _ => none
  | fuel + 1, many, t10, t11, t12 =>
    bif decide (t12 < t11) then
      bif inB t12 t10.length then
        bif decide (t12.toNat < t10.length) then
          bif decide ((IntKind.i64.wrap (many + ((t10.getD t12.toNat ([] : List UInt8)).length : Int))) > (16777216 : Int)) then
            some (.inl (([] : List UInt8), (90 : Int), ()))
          else fC25.go N fuel (IntKind.i64.wrap (many + ((t10.getD t12.toNat ([] : List UInt8)).length : Int))) t10 t11 (IntKind.i64.wrap (t12 + (1 : Int)))
        else none
      else none
    else some (.inr ())
namespace fC25
def g (N n : Nat) : Sh.den ins → Option (altsDen alts) := fun (a, b, c, d, _) => fC25.go N n a b c d
def P (N : Nat) : Ps := ⟨ts, ins, asg, alts, g N N⟩
def lam (N : Nat) : Pcs := pcs []
theorem pok (N : Nat) : (lam N).Ok Tryz.prog (C N) code := pcsOk_nil
theorem ok (N : Nat) : ((P N).pc (fB20.C N)).Ok Tryz.prog (fB20.C N) (.loop code) := okL (F := P N) (g N) (fB20.cok N) mix (pok N) (fun _ => rfl) rfl fun _ _ => by kernel_rfl
end fC25
noncomputable def fB20.run (N : Nat) (records : T12) : Option T17 :=
  obind (fC25.go N N (0 : Int) records (records.length : Int) (0 : Int)) fun y => match y with
  | .inl (t2, t3, _) =>
      some (t2, t3, ())
  | .inr (_) =>
      obind (fC34.run N) fun ((b, _), _) =>
        obind (fB12.run N b records) fun ((b1, _), _) =>
          obind (fD4.run N b1) fun (l, _) =>
            obind (fB32.run N l) fun (l1, n_, _) =>
              bif !(decide (n_ = (0 : Int))) then
                some (([] : List UInt8), (90 : Int), ())
              else some (l1, (0 : Int), ())
namespace fB20
def fn (N : Nat) : Sh.den ins → Option (Sh.den outs) := fun (a, _) => fB20.run N a
def S (N : Nat) : Fs := ⟨ins, outs, fn N⟩
def lam (N : Nat) : Pcs := pcs [([true, true, false, true, false], (fC25.P N).pc (C N))]
theorem pok (N : Nat) : (lam N).Ok Tryz.prog (C N) code := pcsOk_cons (c1 := .loop fC25.code) (by kernel_rfl) (fC25.ok N) (pcsOk_nil)
theorem ok (N : Nat) : (S N).con.Ok Tryz.prog 28 := okF (F := S N) [] Tryz.func28 (by kernel_rfl) (by rfl) mix (cok N) (pok N) fun _ => by kernel_rfl
end fB20
namespace fA24
def ins : Sh := s28
def C (N : Nat) : Ctx := ⟨U, 13, fun _ => true, gam [(31, (fA12.S N).con)], gamY []⟩
theorem cok (N : Nat) : (C N).Ok Tryz.prog := ⟨U_ok, GamOk.cons (fA12.ok N) (GamOk.nil), GamYOk.nil⟩
def code : Code := Tryz.f30.body.getD .skip
def outs : Sh := s29
end fA24
noncomputable def fA24.run (N : Nat) (room_ : Int) (used : Int) (files : (List T1)) (steps : Int) (left : Int) (dead : Bool) (name : (List UInt8)) (l : T12) (size : Int) (t1 : (List UInt8)) : Option T10 :=
  obind (fA12.run N room_ used files steps left dead name t1) fun ((room1, used1, files1, steps1, left1, dead1, _), n_, _) =>
    some ((room1, used1, files1, steps1, left1, dead1, ()), n_, ())
namespace fA24
def fn (N : Nat) : Sh.den ins → Option (Sh.den outs) := fun ((((a, b, c, d, e, f, _), g, h, i, _), _), (j, _), _) => fA24.run N a b c d e f g h i j
def S (N : Nat) : Fs := ⟨ins, outs, fn N⟩
def lam (N : Nat) : Pcs := pcs []
theorem pok (N : Nat) : (lam N).Ok Tryz.prog (C N) code := pcsOk_nil
theorem ok (N : Nat) : (S N).con.Ok Tryz.prog 30 := okF (F := S N) [] Tryz.func30 (by kernel_rfl) (by rfl) mix (cok N) (pok N) fun _ => by kernel_rfl
end fA24
namespace fD23
def ins : Sh := (.cons (.rbox 30 s27) .nil)
def C (N : Nat) : Ctx := ⟨U, 11, fun _ => true, gam [(33, (fA9.S N).con)], gamY []⟩
theorem cok (N : Nat) : (C N).Ok Tryz.prog := ⟨U_ok, GamOk.cons (fA9.ok N) (GamOk.nil), GamYOk.nil⟩
def code : Code := Tryz.f32.body.getD .skip
def outs : Sh := s29
end fD23
noncomputable def fD23.run (N : Nat) (room_ : Int) (used : Int) (files : (List T1)) (steps : Int) (left : Int) (dead : Bool) (name : (List UInt8)) (l : T12) (size : Int) : Option T10 :=
  obind (fA9.run N room_ used files steps left dead name) fun ((room1, used1, files1, steps1, left1, dead1, _), n_, _) =>
    some ((room1, used1, files1, steps1, left1, dead1, ()), n_, ())
namespace fD23
def fn (N : Nat) : Sh.den ins → Option (Sh.den outs) := fun ((((a, b, c, d, e, f, _), g, h, i, _), _), _) => fD23.run N a b c d e f g h i
def S (N : Nat) : Fs := ⟨ins, outs, fn N⟩
def lam (N : Nat) : Pcs := pcs []
theorem pok (N : Nat) : (lam N).Ok Tryz.prog (C N) code := pcsOk_nil
theorem ok (N : Nat) : (S N).con.Ok Tryz.prog 32 := okF (F := S N) [] Tryz.func32 (by kernel_rfl) (by rfl) mix (cok N) (pok N) fun _ => by kernel_rfl
end fD23
namespace fC33
def ins : Sh := (.cons (.els 1 2 (.cons (.fn 30 s28) s30)) .nil)
def C (N : Nat) : Ctx := ⟨U, 18, fun _ => true, gam [(30, (fA24.S N).con), (32, (fD23.S N).con)], gamY []⟩
theorem cok (N : Nat) : (C N).Ok Tryz.prog := ⟨U_ok, GamOk.cons (fA24.ok N) (GamOk.cons (fD23.ok N) (GamOk.nil)), GamYOk.nil⟩
def code : Code := Tryz.f29.body.getD .skip
def outs : Sh := s29
end fC33
noncomputable def fC33.run (N : Nat) (room_ : Int) (used : Int) (files : (List T1)) (steps : Int) (left : Int) (dead : Bool) (name : (List UInt8)) (l : T12) (size : Int) (steps1 : (List UInt8)) : Option T10 :=
  obind (fA24.run N room_ used files steps left dead name l size steps1) fun ((room1, used1, files1, steps2, left1, dead1, _), n_, _) =>
    bif !(decide (n_ = (0 : Int))) then
      some ((room1, used1, files1, steps2, left1, dead1, ()), n_, ())
    else
      obind (fD23.run N room1 used1 files1 steps2 left1 dead1 name l size) fun ((room2, used2, files2, steps3, left2, dead2, _), n1, _) =>
        bif !(decide (n1 = (0 : Int))) then
          some ((room2, used2, files2, steps3, left2, dead2, ()), n1, ())
        else some ((room2, used2, files2, steps3, left2, dead2, ()), (0 : Int), ())
namespace fC33
def fn (N : Nat) : Sh.den ins → Option (Sh.den outs) := fun ((((((a, b, c, d, e, f, _), g, h, i, _), _), (j, _), _), (_, _), _), _) => fC33.run N a b c d e f g h i j
def S (N : Nat) : Fs := ⟨ins, outs, fn N⟩
def lam (N : Nat) : Pcs := pcs [([true, false, true, false], (Pc.unroll (C N) (loopBody (sub code [true, false, true, false])) (pcs []) 3))]
theorem pok (N : Nat) : (lam N).Ok Tryz.prog (C N) code := pcsOk_cons (c1 := .loop (loopBody (sub code [true, false, true, false]))) (by kernel_rfl) (unroll_ok (cok N) mix pcsOk_nil 3) (pcsOk_nil)
theorem ok (N : Nat) : (S N).con.Ok Tryz.prog 29 := okF (F := S N) [] Tryz.func29 (by kernel_rfl) (by rfl) mix (cok N) (pok N) fun _ => by kernel_rfl
end fC33
namespace fB6
def ins : Sh := (.cons s31 (.cons (.rown 43 (.slice .byte)) .nil))
def C (N : Nat) : Ctx := ⟨U, 54, fun _ => true, gam [(28, (fB20.S N).con), (29, (fC33.S N).con), (27, (fA0.S N).con)], gamY []⟩
theorem cok (N : Nat) : (C N).Ok Tryz.prog := ⟨U_ok, GamOk.cons (fB20.ok N) (GamOk.cons (fC33.ok N) (GamOk.cons (fA0.ok N) (GamOk.nil))), GamYOk.nil⟩
def code : Code := Tryz.f12.body.getD .skip
def outs : Sh := s32
end fB6
namespace fB15
def ins : Sh := (.cons (.rbox 30 s33) (.cons (.rown 43 (.slice .byte)) s13))
def ts : List Tmp := [2, 26, 27, 28]
def asg : List Tmp := [8, 28, 29, 30, 31, 32, 33, 34, 35, 36, 37, 38, 39, 40, 41, 42, 43]
def C (N : Nat) : Ctx := { fB6.C N with may := fun t => asg.any (Nat.beq t) }
def code : Code := loopBody (sub fB6.code [true, true, true, true, true, false, true, false, false, true, false])
theorem cok (N : Nat) : (C N).Ok Tryz.prog := okC (fB6.cok N) _
def alts : List Alt := [⟨(.exit 0), [], s34⟩]
end fB15
noncomputable def fB15.go (N : Nat) : Nat → Int → Int → (List T1) → Int → Int → Bool → (List UInt8) → T12 → Int → T12 → Int → Int → Option (T19)
  | 0, _, _, _, _, _, _, _, _, _, _, _, _ => none
  | fuel + 1, room_, used, files, steps, left, dead, name, l, size, t26, t27, t28 =>
    bif decide (t28 < t27) then
      bif inB t28 t26.length then
        bif decide (t28.toNat < t26.length) then
          obind (fA0.run N (t26.getD t28.toNat ([] : List UInt8))) fun (l1, _) =>
            bif room (l.length + 1) 24 then
              fB15.go N fuel room_ used files steps left dead name (l ++ ([l1] : List (List UInt8))) size t26 t27 (IntKind.i64.wrap (t28 + (1 : Int)))
            else none
        else none
      else none
    else some ((room_, used, (), steps, left, dead, ()), ((), name, l, size, ()), ())
namespace fB15
def g (N n : Nat) : Sh.den ins → Option (altsDen alts) := fun ((((a, b, c, d, e, f, _), g, h, i, _), _), j, k, l, _) => fB15.go N n a b c d e f g h i j k l
def P (N : Nat) : Ps := ⟨ts, ins, asg, alts, g N N⟩
def lam (N : Nat) : Pcs := pcs []
theorem pok (N : Nat) : (lam N).Ok Tryz.prog (C N) code := pcsOk_nil
theorem ok (N : Nat) : ((P N).pc (fB6.C N)).Ok Tryz.prog (fB6.C N) (.loop code) := okL (F := P N) (g N) (fB6.cok N) mix (pok N) (fun _ => rfl) rfl fun _ _ => by kernel_rfl
end fB15
noncomputable def fB6.run (N : Nat) (room_ : Int) (used : Int) (files : (List T1)) (steps : Int) (left : Int) (dead : Bool) (name : (List UInt8)) (l : T12) (size : Int) (records : T12) : Option T15 :=
  bif decide ((records.length : Int) = (0 : Int)) then
    some ((room_, used, files, steps, left, dead, ()), ((), name, l, size, ()), (0 : Int), ())
  else
    obind (fB20.run N records) fun (l1, n_, _) =>
      bif !(decide (n_ = (0 : Int))) then
        some ((room_, used, files, steps, left, dead, ()), ((), name, l, size, ()), n_, ())
      else
        obind (fC33.run N room_ used files steps left dead name l size l1) fun ((room1, used1, files1, steps1, left1, dead1, _), n1, _) =>
          bif decide (n1 = (0 : Int)) then
            obind (fB15.go N N room1 used1 files1 steps1 left1 dead1 name l size records (records.length : Int) (0 : Int)) fun ((room2, used2, _, steps2, left2, dead2, _), (_, name1, l2, size1, _), _) =>
              some ((room2, used2, files1, steps2, left2, dead2, ()), ((), name1, l2, IntKind.i64.wrap (size1 + (l1.length : Int)), ()), n1, ())
          else some ((room1, used1, files1, steps1, left1, dead1, ()), ((), name, l, size, ()), n1, ())
namespace fB6
def fn (N : Nat) : Sh.den ins → Option (Sh.den outs) := fun (((a, b, c, d, e, f, _), g, h, i, _), j, _) => fB6.run N a b c d e f g h i j
def S (N : Nat) : Fs := ⟨ins, outs, fn N⟩
def lam (N : Nat) : Pcs := pcs [([true, true, true, true, true, false, true, false, false, true, false], (fB15.P N).pc (C N))]
theorem pok (N : Nat) : (lam N).Ok Tryz.prog (C N) code := pcsOk_cons (c1 := .loop fB15.code) (by kernel_rfl) (fB15.ok N) (pcsOk_nil)
theorem ok (N : Nat) : (S N).con.Ok Tryz.prog 12 := okF (F := S N) [] Tryz.func12 (by kernel_rfl) (by rfl) mix (cok N) (pok N) fun _ => by kernel_rfl
end fB6
namespace fD32
def ins : Sh := (.cons (.rbox 54 s3) .nil)
def C (N : Nat) : Ctx := ⟨U, 7, fun _ => true, gam [], gamY []⟩
theorem cok (N : Nat) : (C N).Ok Tryz.prog := ⟨U_ok, GamOk.nil, GamYOk.nil⟩
def code : Code := Tryz.f36.body.getD .skip
def outs : Sh := (.cons (.val .bool) .nil)
end fD32
noncomputable def fD32.run (N : Nat) (room_ : Int) (used : Int) (files : (List T1)) (steps : Int) (left : Int) (dead : Bool) : Option (Bool × Unit) :=
  some (dead, ())
namespace fD32
def fn (N : Nat) : Sh.den ins → Option (Sh.den outs) := fun ((a, b, c, d, e, f, _), _) => fD32.run N a b c d e f
def S (N : Nat) : Fs := ⟨ins, outs, fn N⟩
def lam (N : Nat) : Pcs := pcs []
theorem pok (N : Nat) : (lam N).Ok Tryz.prog (C N) code := pcsOk_nil
theorem ok (N : Nat) : (S N).con.Ok Tryz.prog 36 := okF (F := S N) [] Tryz.func36 (by kernel_rfl) (by rfl) mix (cok N) (pok N) fun _ => by kernel_rfl
end fD32
namespace fA44
def ins : Sh := (.cons (.val (.slice .byte)) .nil)
def C (N : Nat) : Ctx := ⟨U, 7, fun _ => true, gam [(27, (fA0.S N).con)], gamY []⟩
theorem cok (N : Nat) : (C N).Ok Tryz.prog := ⟨U_ok, GamOk.cons (fA0.ok N) (GamOk.nil), GamYOk.nil⟩
def code : Code := Tryz.f69.body.getD .skip
def outs : Sh := (.cons (.box 138 s35) .nil)
end fA44
noncomputable def fA44.run (N : Nat) (b : (List UInt8)) : Option (T17 × Unit) :=
  obind (fA0.run N b) fun (l, _) =>
    some ((l, (0 : Int), ()), ())
namespace fA44
def fn (N : Nat) : Sh.den ins → Option (Sh.den outs) := fun (a, _) => fA44.run N a
def S (N : Nat) : Fs := ⟨ins, outs, fn N⟩
def lam (N : Nat) : Pcs := pcs []
theorem pok (N : Nat) : (lam N).Ok Tryz.prog (C N) code := pcsOk_nil
theorem ok (N : Nat) : (S N).con.Ok Tryz.prog 69 := okF (F := S N) [] Tryz.func69 (by kernel_rfl) (by rfl) mix (cok N) (pok N) fun _ => by kernel_rfl
end fA44
namespace fD2
def ins : Sh := s36
def C (N : Nat) : Ctx := ⟨U, 45, fun _ => true, gam [], gamY []⟩
theorem cok (N : Nat) : (C N).Ok Tryz.prog := ⟨U_ok, GamOk.nil, GamYOk.nil⟩
def code : Code := Tryz.f112.body.getD .skip
def outs : Sh := (.cons (.upd 0 138 s35) (.cons (.val (.slice .byte)) (.cons (.val .bool) .nil)))
end fD2
namespace fA18
def ins : Sh := s36
def ts : List Tmp := [0, 1]
def asg : List Tmp := [7, 8, 9, 10, 11, 12, 13, 14, 15, 16, 17, 18, 19, 20, 21, 22, 23]
def C (N : Nat) : Ctx := { fD2.C N with may := fun t => asg.any (Nat.beq t) }
def code : Code := (sub fD2.code [true, false]).getD .skip
theorem cok (N : Nat) : (C N).Ok Tryz.prog := okC (fD2.cok N) _
def alts : List Alt := [⟨.normal, [], (.cons (.upd 0 138 s35) .nil)⟩]
end fA18
noncomputable def fA18.run (N : Nat) (b : (List UInt8)) (e : Int) (n_ : Int) : Option ((T17 × Unit)) :=
  bif decide (e = (0 : Int)) then
    bif decide (n_ > (b.length : Int)) then
      some ((b, (10 : Int), ()), ())
    else some ((b, e, ()), ())
  else some ((b, e, ()), ())
namespace fA18
def fn (N : Nat) : Sh.den ins → Option (altsDen alts) := fun ((a, b, _), c, _) => fA18.run N a b c
def P (N : Nat) : Ps := ⟨ts, ins, asg, alts, fn N⟩
def lam (N : Nat) : Pcs := pcs []
theorem pok (N : Nat) : (lam N).Ok Tryz.prog (C N) code := pcsOk_nil
theorem ok (N : Nat) : ((P N).pc (fD2.C N)).Ok Tryz.prog (fD2.C N) code := okP (F := P N) (fD2.cok N) mix (pok N) fun _ => by kernel_rfl
end fA18
noncomputable def fD2.run (N : Nat) (b : (List UInt8)) (e : Int) (n_ : Int) : Option T20 :=
  obind (fA18.run N b e n_) fun ((b1, e1, _), _) =>
    bif !(decide (e1 = (0 : Int))) then
      some ((b1, e1, ()), ([] : List UInt8), false, ())
    else
      bif okB (0 : Int) n_ b1.length then
        bif okB n_ (b1.length : Int) b1.length then
          some ((b1.drop n_.toNat, e1, ()), b1.take n_.toNat, true, ())
        else none
      else none
namespace fD2
def fn (N : Nat) : Sh.den ins → Option (Sh.den outs) := fun ((a, b, _), c, _) => fD2.run N a b c
def S (N : Nat) : Fs := ⟨ins, outs, fn N⟩
def lam (N : Nat) : Pcs := pcs [([true, false], (fA18.P N).pc (C N))]
theorem pok (N : Nat) : (lam N).Ok Tryz.prog (C N) code := pcsOk_cons (c1 := fA18.code) (by kernel_rfl) (fA18.ok N) (pcsOk_nil)
theorem ok (N : Nat) : (S N).con.Ok Tryz.prog 112 := okF (F := S N) [] Tryz.func112 (by kernel_rfl) (by rfl) mix (cok N) (pok N) fun _ => by kernel_rfl
end fD2
namespace fA1
def ins : Sh := s36
def C (N : Nat) : Ctx := ⟨U, 29, fun _ => true, gam [(112, (fD2.S N).con)], gamY []⟩
theorem cok (N : Nat) : (C N).Ok Tryz.prog := ⟨U_ok, GamOk.cons (fD2.ok N) (GamOk.nil), GamYOk.nil⟩
def code : Code := Tryz.f110.body.getD .skip
def outs : Sh := s37
end fA1
namespace fC11
def ins : Sh := (.cons (.val (.int .u64)) (.cons (.val (.slice .byte)) s13))
def ts : List Tmp := [7, 16, 17, 18]
def asg : List Tmp := [7, 9, 18, 19, 20, 21, 22, 23, 24, 25, 26, 27]
def C (N : Nat) : Ctx := { fA1.C N with may := fun t => asg.any (Nat.beq t) }
def code : Code := loopBody (sub fA1.code [true, true, true, false, true, false])
theorem cok (N : Nat) : (C N).Ok Tryz.prog := okC (fA1.cok N) _
def alts : List Alt := [⟨(.exit 0), [7], (.cons (.val (.int .u64)) .nil)⟩]
end fC11
noncomputable def fC11.go (N : Nat) : Nat → Int → (List UInt8) → Int → Int → Option ((Int × Unit))
  | 0, _, _, _, _ => none
  | fuel + 1, n_, t16, t17, t18 =>
    bif decide (t18 < t17) then
      bif inB t18 t16.length then
        fC11.go N fuel (IntKind.u64.wrap ((BitVec.ofInt 64 (IntKind.u64.wrap (n_ * (256 : Int))) ||| BitVec.ofInt 64 (IntKind.u64.wrap ((t16.getD t18.toNat (0 : UInt8)).toNat : Int))).toNat : Int)) t16 t17 (IntKind.i64.wrap (t18 + (1 : Int)))
      else none
    else some (n_, ())
namespace fC11
def g (N n : Nat) : Sh.den ins → Option (altsDen alts) := fun (a, b, c, d, _) => fC11.go N n a b c d
def P (N : Nat) : Ps := ⟨ts, ins, asg, alts, g N N⟩
def lam (N : Nat) : Pcs := pcs []
theorem pok (N : Nat) : (lam N).Ok Tryz.prog (C N) code := pcsOk_nil
theorem ok (N : Nat) : ((P N).pc (fA1.C N)).Ok Tryz.prog (fA1.C N) (.loop code) := okL (F := P N) (g N) (fA1.cok N) mix (pok N) (fun _ => rfl) rfl fun _ _ => by kernel_rfl
end fC11
noncomputable def fA1.run (N : Nat) (b : (List UInt8)) (e : Int) (many : Int) : Option T21 :=
  obind (fD2.run N b e many) fun ((b1, e1, _), l, b2, _) =>
    obind (fC11.go N N (0 : Int) l (l.length : Int) (0 : Int)) fun (n_, _) =>
      some ((b1, e1, ()), n_, ())
namespace fA1
def fn (N : Nat) : Sh.den ins → Option (Sh.den outs) := fun ((a, b, _), c, _) => fA1.run N a b c
def S (N : Nat) : Fs := ⟨ins, outs, fn N⟩
def lam (N : Nat) : Pcs := pcs [([true, true, true, false, true, false], (fC11.P N).pc (C N))]
theorem pok (N : Nat) : (lam N).Ok Tryz.prog (C N) code := pcsOk_cons (c1 := .loop fC11.code) (by kernel_rfl) (fC11.ok N) (pcsOk_nil)
theorem ok (N : Nat) : (S N).con.Ok Tryz.prog 110 := okF (F := S N) [] Tryz.func110 (by kernel_rfl) (by rfl) mix (cok N) (pok N) fun _ => by kernel_rfl
end fA1
namespace fB9
def ins : Sh := (.cons (.box 138 s35) .nil)
def C (N : Nat) : Ctx := ⟨U, 6, fun _ => true, gam [(110, (fA1.S N).con)], gamY []⟩
theorem cok (N : Nat) : (C N).Ok Tryz.prog := ⟨U_ok, GamOk.cons (fA1.ok N) (GamOk.nil), GamYOk.nil⟩
def code : Code := Tryz.f95.body.getD .skip
def outs : Sh := (.cons (.upd 0 138 s35) (.cons (.val (.int .u32)) .nil))
end fB9
noncomputable def fB9.run (N : Nat) (b : (List UInt8)) (e : Int) : Option T21 :=
  obind (fA1.run N b e (4 : Int)) fun ((b1, e1, _), n_, _) =>
    some ((b1, e1, ()), IntKind.u32.wrap n_, ())
namespace fB9
def fn (N : Nat) : Sh.den ins → Option (Sh.den outs) := fun ((a, b, _), _) => fB9.run N a b
def S (N : Nat) : Fs := ⟨ins, outs, fn N⟩
def lam (N : Nat) : Pcs := pcs []
theorem pok (N : Nat) : (lam N).Ok Tryz.prog (C N) code := pcsOk_nil
theorem ok (N : Nat) : (S N).con.Ok Tryz.prog 95 := okF (F := S N) [] Tryz.func95 (by kernel_rfl) (by rfl) mix (cok N) (pok N) fun _ => by kernel_rfl
end fB9
namespace fB8
def ins : Sh := (.cons (.val (.slice .byte)) .nil)
def C (N : Nat) : Ctx := ⟨U, 54, fun _ => true, gam [], gamY []⟩
theorem cok (N : Nat) : (C N).Ok Tryz.prog := ⟨U_ok, GamOk.nil, GamYOk.nil⟩
def code : Code := Tryz.f92.body.getD .skip
def outs : Sh := (.cons (.val (.int .u32)) .nil)
end fB8
namespace fD9
def ins : Sh := s23
def ts : List Tmp := [3, 9]
def asg : List Tmp := [4, 5, 9, 10, 11, 12, 13, 14, 15, 16, 17, 18, 19, 20, 21, 22, 23, 24, 25, 26]
def C (N : Nat) : Ctx := { fB8.C N with may := fun t => asg.any (Nat.beq t) }
def code : Code := loopBody (sub fB8.code [true, true, false, true, false])
theorem cok (N : Nat) : (C N).Ok Tryz.prog := okC (fB8.cok N) _
def alts : List Alt := [⟨(.exit 0), [], (.cons (.updr 0 153 (.int .u32)) .nil)⟩]
end fD9
namespace fD22
def ins : Sh := s24
def ts : List Tmp := [5, 14]
def asg : List Tmp := [5, 14, 15, 16, 17, 18, 19, 20, 21, 22]
def C (N : Nat) : Ctx := { fD9.C N with may := fun t => asg.any (Nat.beq t) }
def code : Code := loopBody (sub fD9.code [true, true, false, false, true, true, false, true, false])
theorem cok (N : Nat) : (C N).Ok Tryz.prog := okC (fD9.cok N) _
def alts : List Alt := [⟨(.exit 2), [5], (.cons (.val (.int .u32)) .nil)⟩]
end fD22
noncomputable def fD22.go (N : Nat) : Nat → Int → Int → Option ((Int × Unit))
  | 0, _, _ => none
  | fuel + 1, c, t14 =>
    bif decide (t14 < (4 : Int)) then
      fD22.go N fuel (IntKind.u32.wrap ((BitVec.ofInt 32 (c.fdiv (2 : Int)) ^^^ BitVec.ofInt 32 (IntKind.u32.wrap ((3988292384 : Int) * (IntKind.u32.wrap ((BitVec.ofInt 32 c &&& BitVec.ofInt 32 (1 : Int)).toNat : Int))))).toNat : Int)) (IntKind.i64.wrap (t14 + (1 : Int)))
    else some (c, ())
namespace fD22
def g (N n : Nat) : Sh.den ins → Option (altsDen alts) := fun (a, b, _) => fD22.go N n a b
def P (N : Nat) : Ps := ⟨ts, ins, asg, alts, g N N⟩
def lam (N : Nat) : Pcs := pcs []
theorem pok (N : Nat) : (lam N).Ok Tryz.prog (C N) code := pcsOk_nil
theorem ok (N : Nat) : ((P N).pc (fD9.C N)).Ok Tryz.prog (fD9.C N) (.loop code) := okL (F := P N) (g N) (fD9.cok N) mix (pok N) (fun _ => rfl) rfl fun _ _ => by kernel_rfl
end fD22
noncomputable def fD9.go (N : Nat) : Nat → (List Int) → Int → Option (T16)
  | 0, _, _ => none
  | fuel + 1, half, t9 =>
    bif decide (t9 < (16 : Int)) then
      obind (fD22.go N N (IntKind.u32.wrap t9) (0 : Int)) fun (c, _) =>
        bif inB t9 16 then
          bif decide (t9.toNat < half.length) then
            fD9.go N fuel (half.set t9.toNat c) (IntKind.i64.wrap (t9 + (1 : Int)))
          else none
        else none
    else some (half, ())
namespace fD9
def g (N n : Nat) : Sh.den ins → Option (altsDen alts) := fun (a, b, _) => fD9.go N n a b
def P (N : Nat) : Ps := ⟨ts, ins, asg, alts, g N N⟩
def lam (N : Nat) : Pcs := pcs [([true, true, false, false, true, true, false, true, false], (fD22.P N).pc (C N))]
theorem pok (N : Nat) : (lam N).Ok Tryz.prog (C N) code := pcsOk_cons (c1 := .loop fD22.code) (by kernel_rfl) (fD22.ok N) (pcsOk_nil)
theorem ok (N : Nat) : ((P N).pc (fB8.C N)).Ok Tryz.prog (fB8.C N) (.loop code) := okL (F := P N) (g N) (fB8.cok N) mix (pok N) (fun _ => rfl) rfl fun _ _ => by kernel_rfl
end fD9
namespace fA26
def ins : Sh := (.cons (.arr 153 (.int .u32) 16) (.cons (.val (.int .u32)) (.cons (.val (.slice .byte)) s13)))
def ts : List Tmp := [3, 6, 27, 28, 29]
def asg : List Tmp := [6, 8, 29, 30, 31, 32, 33, 34, 35, 36, 37, 38, 39, 40, 41, 42, 43, 44, 45, 46, 47, 48, 49, 50, 51]
def C (N : Nat) : Ctx := { fB8.C N with may := fun t => asg.any (Nat.beq t) }
def code : Code := loopBody (sub fB8.code [true, true, true, true, false, true, false])
theorem cok (N : Nat) : (C N).Ok Tryz.prog := okC (fB8.cok N) _
def alts : List Alt := [⟨(.exit 4), [6], (.cons (.val (.int .u32)) .nil)⟩]
end fA26
noncomputable def fA26.go (N : Nat) : Nat → (List Int) → Int → (List UInt8) → Int → Int → Option ((Int × Unit))
  | 0, _, _, _, _, _ => none
  | fuel + 1, half, c, t27, t28, t29 =>
    bif decide (t29 < t28) then
      bif inB t29 t27.length then
        bif inB (IntKind.u32.wrap ((BitVec.ofInt 32 (IntKind.u32.wrap ((BitVec.ofInt 32 c ^^^ BitVec.ofInt 32 (IntKind.u32.wrap ((t27.getD t29.toNat (0 : UInt8)).toNat : Int))).toNat : Int)) &&& BitVec.ofInt 32 (15 : Int)).toNat : Int)) 16 then
          bif decide ((IntKind.u32.wrap ((BitVec.ofInt 32 (IntKind.u32.wrap ((BitVec.ofInt 32 c ^^^ BitVec.ofInt 32 (IntKind.u32.wrap ((t27.getD t29.toNat (0 : UInt8)).toNat : Int))).toNat : Int)) &&& BitVec.ofInt 32 (15 : Int)).toNat : Int)).toNat < half.length) then
            bif inB (IntKind.u32.wrap ((BitVec.ofInt 32 (IntKind.u32.wrap ((BitVec.ofInt 32 (half.getD (IntKind.u32.wrap ((BitVec.ofInt 32 (IntKind.u32.wrap ((BitVec.ofInt 32 c ^^^ BitVec.ofInt 32 (IntKind.u32.wrap ((t27.getD t29.toNat (0 : UInt8)).toNat : Int))).toNat : Int)) &&& BitVec.ofInt 32 (15 : Int)).toNat : Int)).toNat (0 : Int)) ^^^ BitVec.ofInt 32 ((IntKind.u32.wrap ((BitVec.ofInt 32 c ^^^ BitVec.ofInt 32 (IntKind.u32.wrap ((t27.getD t29.toNat (0 : UInt8)).toNat : Int))).toNat : Int)).fdiv (16 : Int))).toNat : Int)) &&& BitVec.ofInt 32 (15 : Int)).toNat : Int)) 16 then
              bif decide ((IntKind.u32.wrap ((BitVec.ofInt 32 (IntKind.u32.wrap ((BitVec.ofInt 32 (half.getD (IntKind.u32.wrap ((BitVec.ofInt 32 (IntKind.u32.wrap ((BitVec.ofInt 32 c ^^^ BitVec.ofInt 32 (IntKind.u32.wrap ((t27.getD t29.toNat (0 : UInt8)).toNat : Int))).toNat : Int)) &&& BitVec.ofInt 32 (15 : Int)).toNat : Int)).toNat (0 : Int)) ^^^ BitVec.ofInt 32 ((IntKind.u32.wrap ((BitVec.ofInt 32 c ^^^ BitVec.ofInt 32 (IntKind.u32.wrap ((t27.getD t29.toNat (0 : UInt8)).toNat : Int))).toNat : Int)).fdiv (16 : Int))).toNat : Int)) &&& BitVec.ofInt 32 (15 : Int)).toNat : Int)).toNat < half.length) then
                fA26.go N fuel half (IntKind.u32.wrap ((BitVec.ofInt 32 (half.getD (IntKind.u32.wrap ((BitVec.ofInt 32 (IntKind.u32.wrap ((BitVec.ofInt 32 (half.getD (IntKind.u32.wrap ((BitVec.ofInt 32 (IntKind.u32.wrap ((BitVec.ofInt 32 c ^^^ BitVec.ofInt 32 (IntKind.u32.wrap ((t27.getD t29.toNat (0 : UInt8)).toNat : Int))).toNat : Int)) &&& BitVec.ofInt 32 (15 : Int)).toNat : Int)).toNat (0 : Int)) ^^^ BitVec.ofInt 32 ((IntKind.u32.wrap ((BitVec.ofInt 32 c ^^^ BitVec.ofInt 32 (IntKind.u32.wrap ((t27.getD t29.toNat (0 : UInt8)).toNat : Int))).toNat : Int)).fdiv (16 : Int))).toNat : Int)) &&& BitVec.ofInt 32 (15 : Int)).toNat : Int)).toNat (0 : Int)) ^^^ BitVec.ofInt 32 ((IntKind.u32.wrap ((BitVec.ofInt 32 (half.getD (IntKind.u32.wrap ((BitVec.ofInt 32 (IntKind.u32.wrap ((BitVec.ofInt 32 c ^^^ BitVec.ofInt 32 (IntKind.u32.wrap ((t27.getD t29.toNat (0 : UInt8)).toNat : Int))).toNat : Int)) &&& BitVec.ofInt 32 (15 : Int)).toNat : Int)).toNat (0 : Int)) ^^^ BitVec.ofInt 32 ((IntKind.u32.wrap ((BitVec.ofInt 32 c ^^^ BitVec.ofInt 32 (IntKind.u32.wrap ((t27.getD t29.toNat (0 : UInt8)).toNat : Int))).toNat : Int)).fdiv (16 : Int))).toNat : Int)).fdiv (16 : Int))).toNat : Int)) t27 t28 (IntKind.i64.wrap (t29 + (1 : Int)))
              else none
            else none
          else none
        else none
      else none
    else some (c, ())
namespace fA26
def g (N n : Nat) : Sh.den ins → Option (altsDen alts) := fun (a, b, c, d, e, _) => fA26.go N n a b c d e
def P (N : Nat) : Ps := ⟨ts, ins, asg, alts, g N N⟩
def lam (N : Nat) : Pcs := pcs []
theorem pok (N : Nat) : (lam N).Ok Tryz.prog (C N) code := pcsOk_nil
theorem ok (N : Nat) : ((P N).pc (fB8.C N)).Ok Tryz.prog (fB8.C N) (.loop code) := okL (F := P N) (g N) (fB8.cok N) mix (pok N) (fun _ => rfl) rfl fun _ _ => by kernel_rfl
end fA26
noncomputable def fB8.run (N : Nat) (b : (List UInt8)) : Option (Int × Unit) :=
  obind (fD9.go N N (List.replicate 16 (0 : Int)) (0 : Int)) fun (v, _) =>
    obind (fA26.go N N v (4294967295 : Int) b (b.length : Int) (0 : Int)) fun (c, _) =>
      some (IntKind.u32.wrap ((BitVec.ofInt 32 (4294967295 : Int) ^^^ BitVec.ofInt 32 c).toNat : Int), ())
namespace fB8
def fn (N : Nat) : Sh.den ins → Option (Sh.den outs) := fun (a, _) => fB8.run N a
def S (N : Nat) : Fs := ⟨ins, outs, fn N⟩
def lam (N : Nat) : Pcs := pcs [([true, true, false, true, false], (fD9.P N).pc (C N)), ([true, true, true, true, false, true, false], (fA26.P N).pc (C N))]
theorem pok (N : Nat) : (lam N).Ok Tryz.prog (C N) code := pcsOk_cons (c1 := .loop fD9.code) (by kernel_rfl) (fD9.ok N) (pcsOk_cons (c1 := .loop fA26.code) (by kernel_rfl) (fA26.ok N) (pcsOk_nil))
theorem ok (N : Nat) : (S N).con.Ok Tryz.prog 92 := okF (F := S N) [] Tryz.func92 (by kernel_rfl) (by rfl) mix (cok N) (pok N) fun _ => by kernel_rfl
end fB8
namespace fB27
def ins : Sh := s36
def C (N : Nat) : Ctx := ⟨U, 13, fun _ => true, gam [], gamY []⟩
theorem cok (N : Nat) : (C N).Ok Tryz.prog := ⟨U_ok, GamOk.nil, GamYOk.nil⟩
def code : Code := Tryz.f111.body.getD .skip
def outs : Sh := (.cons (.upd 0 138 s35) .nil)
end fB27
noncomputable def fB27.run (N : Nat) (b : (List UInt8)) (e : Int) (e1 : Int) : Option (T17 × Unit) :=
  bif decide (e = (0 : Int)) then
    some ((b, e1, ()), ())
  else some ((b, e, ()), ())
namespace fB27
def fn (N : Nat) : Sh.den ins → Option (Sh.den outs) := fun ((a, b, _), c, _) => fB27.run N a b c
def S (N : Nat) : Fs := ⟨ins, outs, fn N⟩
def lam (N : Nat) : Pcs := pcs []
theorem pok (N : Nat) : (lam N).Ok Tryz.prog (C N) code := pcsOk_nil
theorem ok (N : Nat) : (S N).con.Ok Tryz.prog 111 := okF (F := S N) [] Tryz.func111 (by kernel_rfl) (by rfl) mix (cok N) (pok N) fun _ => by kernel_rfl
end fB27
namespace fC5
def ins : Sh := s36
def C (N : Nat) : Ctx := ⟨U, 19, fun _ => true, gam [(111, (fB27.S N).con), (112, (fD2.S N).con), (27, (fA0.S N).con)], gamY []⟩
theorem cok (N : Nat) : (C N).Ok Tryz.prog := ⟨U_ok, GamOk.cons (fB27.ok N) (GamOk.cons (fD2.ok N) (GamOk.cons (fA0.ok N) (GamOk.nil))), GamYOk.nil⟩
def code : Code := Tryz.f96.body.getD .skip
def outs : Sh := s38
end fC5
noncomputable def fC5.run (N : Nat) (b : (List UInt8)) (e : Int) (n_ : Int) : Option T22 :=
  bif decide (n_ < (0 : Int)) then
    obind (fB27.run N b e (12 : Int)) fun ((b1, e1, _), _) =>
      some ((b1, e1, ()), ([] : List UInt8), ())
  else
    obind (fD2.run N b e n_) fun ((b2, e2, _), l, b3, _) =>
      obind (fA0.run N l) fun (l1, _) =>
        some ((b2, e2, ()), l1, ())
namespace fC5
def fn (N : Nat) : Sh.den ins → Option (Sh.den outs) := fun ((a, b, _), c, _) => fC5.run N a b c
def S (N : Nat) : Fs := ⟨ins, outs, fn N⟩
def lam (N : Nat) : Pcs := pcs []
theorem pok (N : Nat) : (lam N).Ok Tryz.prog (C N) code := pcsOk_nil
theorem ok (N : Nat) : (S N).con.Ok Tryz.prog 96 := okF (F := S N) [] Tryz.func96 (by kernel_rfl) (by rfl) mix (cok N) (pok N) fun _ => by kernel_rfl
end fC5
namespace fA37
def ins : Sh := (.cons (.val (.slice .byte)) .nil)
def C (N : Nat) : Ctx := ⟨U, 51, fun _ => true, gam [(69, (fA44.S N).con), (95, (fB9.S N).con), (92, (((fC9.S N).con).or (fB8.S N).con)), (96, (fC5.S N).con)], gamY []⟩
theorem cok (N : Nat) : (C N).Ok Tryz.prog := ⟨U_ok, GamOk.cons (fA44.ok N) (GamOk.cons (fB9.ok N) (GamOk.cons (Con.or_ok (fC9.ok N) (fB8.ok N)) (GamOk.cons (fC5.ok N) (GamOk.nil)))), GamYOk.nil⟩
def code : Code := Tryz.f68.body.getD .skip
def outs : Sh := (.cons (.own 5 .byte) s13)
end fA37
noncomputable def fA37.run (N : Nat) (b : (List UInt8)) : Option T23 :=
  obind (fA44.run N b) fun ((b1, e, _), _) =>
    obind (fB9.run N b1 e) fun ((b2, e1, _), n_, _) =>
      obind (fB9.run N b2 e1) fun ((b3, e2, _), n1, _) =>
        bif !(decide (e2 = (0 : Int))) then
          some (([] : List UInt8), (0 : Int), (10 : Int), ())
        else
          bif okB (0 : Int) (4 : Int) b.length then
            obind (fB8.run N (b.take 4)) fun (n2, _) =>
              bif !(decide (n1 = n2)) then
                some (([] : List UInt8), (0 : Int), (14 : Int), ())
              else
                bif decide (n_ > (16777216 : Int)) then
                  some (([] : List UInt8), (0 : Int), (12 : Int), ())
                else
                  obind (fC5.run N b3 e2 (IntKind.i64.wrap n_)) fun ((b4, e3, _), l, _) =>
                    obind (fB9.run N b4 e3) fun ((b5, e4, _), n3, _) =>
                      bif !(decide (e4 = (0 : Int))) then
                        some (([] : List UInt8), (0 : Int), (10 : Int), ())
                      else
                        obind (fC9.run N l) fun (n4, _) =>
                          bif !(decide (n3 = n4)) then
                            some (([] : List UInt8), (0 : Int), (14 : Int), ())
                          else some (l, IntKind.i64.wrap ((IntKind.i64.wrap n_) + (12 : Int)), (0 : Int), ())
          else none
namespace fA37
def fn (N : Nat) : Sh.den ins → Option (Sh.den outs) := fun (a, _) => fA37.run N a
def S (N : Nat) : Fs := ⟨ins, outs, fn N⟩
def lam (N : Nat) : Pcs := pcs []
theorem pok (N : Nat) : (lam N).Ok Tryz.prog (C N) code := pcsOk_nil
theorem ok (N : Nat) : (S N).con.Ok Tryz.prog 68 := okF (F := S N) [] Tryz.func68 (by kernel_rfl) (by rfl) mix (cok N) (pok N) fun _ => by kernel_rfl
end fA37
namespace fC39
def ins : Sh := (.cons (.rown 5 .byte) .nil)
def C (N : Nat) : Ctx := ⟨U, 7, fun _ => true, gam [(27, (fD3.S N).con)], gamY []⟩
theorem cok (N : Nat) : (C N).Ok Tryz.prog := ⟨U_ok, GamOk.cons (fD3.ok N) (GamOk.nil), GamYOk.nil⟩
def code : Code := Tryz.f69.body.getD .skip
def outs : Sh := (.cons (.box 138 s35) .nil)
end fC39
noncomputable def fC39.run (N : Nat) (b : (List UInt8)) : Option (T17 × Unit) :=
  obind (fD3.run N b) fun (l, _) =>
    some ((l, (0 : Int), ()), ())
namespace fC39
def fn (N : Nat) : Sh.den ins → Option (Sh.den outs) := fun (a, _) => fC39.run N a
def S (N : Nat) : Fs := ⟨ins, outs, fn N⟩
def lam (N : Nat) : Pcs := pcs []
theorem pok (N : Nat) : (lam N).Ok Tryz.prog (C N) code := pcsOk_nil
theorem ok (N : Nat) : (S N).con.Ok Tryz.prog 69 := okF (F := S N) [] Tryz.func69 (by kernel_rfl) (by rfl) mix (cok N) (pok N) fun _ => by kernel_rfl
end fC39
namespace fD30
def ins : Sh := s39
def C (N : Nat) : Ctx := ⟨U, 8, fun _ => true, gam [], gamY []⟩
theorem cok (N : Nat) : (C N).Ok Tryz.prog := ⟨U_ok, GamOk.nil, GamYOk.nil⟩
def code : Code := Tryz.f97.body.getD .skip
def outs : Sh := (.cons (.upd 0 138 s35) (.cons (.fn 113 (.cons (.box 112 (.cons (.ref 0) .nil)) (.cons (.box 3 (.cons (.val (.int .i64)) .nil)) (.cons (.box 115 (.cons (.fn 71 .nil) .nil)) .nil)))) .nil))
end fD30
noncomputable def fD30.run (N : Nat) (b : (List UInt8)) (e : Int) (most : Int) : Option T25 :=
  some ((b, e, ()), (((), ()), (most, ()), ((), ()), ()), ())
namespace fD30
def fn (N : Nat) : Sh.den ins → Option (Sh.den outs) := fun ((a, b, _), c, _, _) => fD30.run N a b c
def S (N : Nat) : Fs := ⟨ins, outs, fn N⟩
def lam (N : Nat) : Pcs := pcs []
theorem pok (N : Nat) : (lam N).Ok Tryz.prog (C N) code := pcsOk_nil
theorem ok (N : Nat) : (S N).con.Ok Tryz.prog 97 := okF (F := S N) [] Tryz.func97 (by kernel_rfl) (by rfl) mix (cok N) (pok N) fun _ => by kernel_rfl
end fD30
namespace fA7
def ins : Sh := (.cons (.box 138 s35) (.cons (.val (.int .u64)) .nil))
def C (N : Nat) : Ctx := ⟨U, 52, fun _ => true, gam [(110, (fA1.S N).con)], gamY []⟩
theorem cok (N : Nat) : (C N).Ok Tryz.prog := ⟨U_ok, GamOk.cons (fA1.ok N) (GamOk.nil), GamYOk.nil⟩
def code : Code := Tryz.f120.body.getD .skip
def outs : Sh := s37
end fA7
namespace fD19
def ins : Sh := (.cons (.box 138 s35) s40)
def ts : List Tmp := [0, 6, 7]
def asg : List Tmp := [6, 7, 14, 15, 16, 17, 18, 19, 20, 21, 22, 23, 24, 25, 26]
def C (N : Nat) : Ctx := { fA7.C N with may := fun t => asg.any (Nat.beq t) }
def code : Code := (sub fA7.code [true, true, true, false]).getD .skip
theorem cok (N : Nat) : (C N).Ok Tryz.prog := okC (fA7.cok N) _
def alts : List Alt := [⟨.normal, [6, 7], (.cons (.upd 0 138 s35) s40)⟩]
end fD19
noncomputable def fD19.run (N : Nat) (b : (List UInt8)) (e : Int) (n_ : Int) (least : Int) : Option (T26) :=
  bif decide (n_ = (253 : Int)) then
    obind (fA1.run N b e (2 : Int)) fun ((b1, e1, _), n1, _) =>
      some ((b1, e1, ()), n1, (253 : Int), ())
  else
    bif decide (n_ = (254 : Int)) then
      obind (fA1.run N b e (4 : Int)) fun ((b2, e2, _), n2, _) =>
        some ((b2, e2, ()), n2, (65536 : Int), ())
    else
      bif decide (n_ = (255 : Int)) then
        obind (fA1.run N b e (8 : Int)) fun ((b3, e3, _), n3, _) =>
          some ((b3, e3, ()), n3, (4294967296 : Int), ())
      else some ((b, e, ()), n_, least, ())
namespace fD19
def fn (N : Nat) : Sh.den ins → Option (altsDen alts) := fun ((a, b, _), c, d, _) => fD19.run N a b c d
def P (N : Nat) : Ps := ⟨ts, ins, asg, alts, fn N⟩
def lam (N : Nat) : Pcs := pcs []
theorem pok (N : Nat) : (lam N).Ok Tryz.prog (C N) code := pcsOk_nil
theorem ok (N : Nat) : ((P N).pc (fA7.C N)).Ok Tryz.prog (fA7.C N) code := okP (F := P N) (fA7.cok N) mix (pok N) fun _ => by kernel_rfl
end fD19
noncomputable def fA7.run (N : Nat) (b : (List UInt8)) (e : Int) (most : Int) : Option T21 :=
  obind (fA1.run N b e (1 : Int)) fun ((b1, e1, _), n_, _) =>
    obind (fD19.run N b1 e1 n_ (0 : Int)) fun ((b5, e5, _), n4, least, _) =>
      bif !(decide (e5 = (0 : Int))) then
        some ((b, e5, ()), (0 : Int), ())
      else
        bif decide (n4 < least) then
          some ((b, (11 : Int), ()), (0 : Int), ())
        else
          bif decide (n4 > most) then
            some ((b, (12 : Int), ()), (0 : Int), ())
          else some ((b5, e5, ()), n4, ())
namespace fA7
def fn (N : Nat) : Sh.den ins → Option (Sh.den outs) := fun ((a, b, _), c, _) => fA7.run N a b c
def S (N : Nat) : Fs := ⟨ins, outs, fn N⟩
def lam (N : Nat) : Pcs := pcs [([true, true, true, false], (fD19.P N).pc (C N))]
theorem pok (N : Nat) : (lam N).Ok Tryz.prog (C N) code := pcsOk_cons (c1 := fD19.code) (by kernel_rfl) (fD19.ok N) (pcsOk_nil)
theorem ok (N : Nat) : (S N).con.Ok Tryz.prog 120 := okF (F := S N) [] Tryz.func120 (by kernel_rfl) (by rfl) mix (cok N) (pok N) fun _ => by kernel_rfl
end fA7
namespace fD13
def ins : Sh := s36
def C (N : Nat) : Ctx := ⟨U, 33, fun _ => true, gam [(120, (fA7.S N).con)], gamY []⟩
theorem cok (N : Nat) : (C N).Ok Tryz.prog := ⟨U_ok, GamOk.cons (fA7.ok N) (GamOk.nil), GamYOk.nil⟩
def code : Code := Tryz.f114.body.getD .skip
def outs : Sh := s37
end fD13
noncomputable def fD13.run (N : Nat) (b : (List UInt8)) (e : Int) (most : Int) : Option T21 :=
  obind (fA7.run N b e (IntKind.u64.wrap (max most (0 : Int)))) fun ((b1, e1, _), n_, _) =>
    bif decide (most < (0 : Int)) then
      bif decide (e1 = (0 : Int)) then
        some ((b, (12 : Int), ()), (0 : Int), ())
      else some ((b1, e1, ()), n_, ())
    else some ((b1, e1, ()), n_, ())
namespace fD13
def fn (N : Nat) : Sh.den ins → Option (Sh.den outs) := fun ((a, b, _), c, _) => fD13.run N a b c
def S (N : Nat) : Fs := ⟨ins, outs, fn N⟩
def lam (N : Nat) : Pcs := pcs []
theorem pok (N : Nat) : (lam N).Ok Tryz.prog (C N) code := pcsOk_nil
theorem ok (N : Nat) : (S N).con.Ok Tryz.prog 114 := okF (F := S N) [] Tryz.func114 (by kernel_rfl) (by rfl) mix (cok N) (pok N) fun _ => by kernel_rfl
end fD13
namespace fB21
def ins : Sh := s36
def C (N : Nat) : Ctx := ⟨U, 40, fun _ => true, gam [(114, (fD13.S N).con), (96, (fC5.S N).con)], gamY []⟩
theorem cok (N : Nat) : (C N).Ok Tryz.prog := ⟨U_ok, GamOk.cons (fD13.ok N) (GamOk.cons (fC5.ok N) (GamOk.nil)), GamYOk.nil⟩
def code : Code := Tryz.f98.body.getD .skip
def outs : Sh := s38
end fB21
noncomputable def fB21.run (N : Nat) (b : (List UInt8)) (e : Int) (most : Int) : Option T22 :=
  obind (fD13.run N b e most) fun ((b1, e1, _), n_, _) =>
    bif decide (e1 = (0 : Int)) then
      bif decide (n_ > (IntKind.u64.wrap (b1.length : Int))) then
        obind (fC5.run N b (10 : Int) (IntKind.i64.wrap n_)) fun ((b2, e2, _), l, _) =>
          some ((b2, e2, ()), l, ())
      else
        obind (fC5.run N b1 e1 (IntKind.i64.wrap n_)) fun ((b3, e3, _), l1, _) =>
          some ((b3, e3, ()), l1, ())
    else
      obind (fC5.run N b1 e1 (IntKind.i64.wrap n_)) fun ((b4, e4, _), l2, _) =>
        some ((b4, e4, ()), l2, ())
namespace fB21
def fn (N : Nat) : Sh.den ins → Option (Sh.den outs) := fun ((a, b, _), c, _) => fB21.run N a b c
def S (N : Nat) : Fs := ⟨ins, outs, fn N⟩
def lam (N : Nat) : Pcs := pcs []
theorem pok (N : Nat) : (lam N).Ok Tryz.prog (C N) code := pcsOk_nil
theorem ok (N : Nat) : (S N).con.Ok Tryz.prog 98 := okF (F := S N) [] Tryz.func98 (by kernel_rfl) (by rfl) mix (cok N) (pok N) fun _ => by kernel_rfl
end fB21
namespace fD41
def ins : Sh := (.cons (.box 138 s35) .nil)
def C (N : Nat) : Ctx := ⟨U, 5, fun _ => true, gam [(98, (fB21.S N).con)], gamY []⟩
theorem cok (N : Nat) : (C N).Ok Tryz.prog := ⟨U_ok, GamOk.cons (fB21.ok N) (GamOk.nil), GamYOk.nil⟩
def code : Code := Tryz.f71.body.getD .skip
def outs : Sh := s38
end fD41
noncomputable def fD41.run (N : Nat) (b : (List UInt8)) (e : Int) : Option T22 :=
  obind (fB21.run N b e (16777216 : Int)) fun ((b1, e1, _), l, _) =>
    some ((b1, e1, ()), l, ())
namespace fD41
def fn (N : Nat) : Sh.den ins → Option (Sh.den outs) := fun ((a, b, _), _) => fD41.run N a b
def S (N : Nat) : Fs := ⟨ins, outs, fn N⟩
def lam (N : Nat) : Pcs := pcs []
theorem pok (N : Nat) : (lam N).Ok Tryz.prog (C N) code := pcsOk_nil
theorem ok (N : Nat) : (S N).con.Ok Tryz.prog 71 := okF (F := S N) [] Tryz.func71 (by kernel_rfl) (by rfl) mix (cok N) (pok N) fun _ => by kernel_rfl
end fD41
namespace Y0
def ins : Sh := s42
def C (N : Nat) : Ctx := ⟨U, 26, fun _ => true, gam [], gamY []⟩
theorem cok (N : Nat) : (C N).Ok Tryz.prog := ⟨U_ok, GamOk.nil, GamYOk.nil⟩
def code : Code := site0.body
def alts : List Alt := [⟨.normal, [], s43⟩]
end Y0
noncomputable def Y0.run (N : Nat) (l : T12) (t14 : Int) (t15 : (List UInt8)) : Option (T27) :=
  bif room (l.length + 1) 24 then
    some ((l ++ ([t15] : List (List UInt8)), ()), ())
  else none
namespace Y0
def fn (N : Nat) : Sh.den ins → Option (altsDen alts) := fun ((a, _), b, c, _) => Y0.run N a b c
def F (N : Nat) : Ys := ⟨[7], [14, 15], ins, alts, fn N⟩
def yc (N : Nat) : Yc := (F N).yc
def lam (N : Nat) : Pcs := pcs []
theorem pok (N : Nat) : (lam N).Ok Tryz.prog (C N) site0.body := pcsOk_nil
theorem ev (N : Nat) (x : Sh.den ins) : evC (C N) site0.assign (pcs []) ⟨addT [7, 14, 15] (bld (fun k => k) ins x 0).1 [], (bld (fun k => k) ins x 0).2.1, 1000⟩ (thenC fun s => evC (C N) site0.body (lam N) s (altK alts)) = fn N x := by kernel_rfl
theorem ok (N : Nat) : (yc N).Ok Tryz.prog 1000000 := ys_ok (σ := site0) (k := 0) (C := C N) (F := F N) (n0 := 1000) (fun _ => rfl) (cok N) mix (fun _ => rfl) (show site0.ps.toList = [14, 15] by kernel_rfl) (show site0.ts = [7] by kernel_rfl) (show site0.nt = 26 by kernel_rfl) rfl rfl rfl rfl rfl pcsOk_nil (pok N) (fun x y h => (ev N x).trans h)
end Y0
namespace fB3
def ins : Sh := (.cons (.box 1000000 s44) (.cons (.rbox 112 (.cons (.box 138 s35) .nil)) (.cons (.rbox 3 (.cons (.val (.int .i64)) .nil)) (.cons (.rbox 115 (.cons (.fn 71 .nil) .nil)) .nil))))
def C (N : Nat) : Ctx := ⟨U, 32, fun _ => true, gam [(114, (fD13.S N).con), (71, (fD41.S N).con)], gamY [(1000000, Y0.yc N)]⟩
theorem cok (N : Nat) : (C N).Ok Tryz.prog := ⟨U_ok, GamOk.cons (fD13.ok N) (GamOk.cons (fD41.ok N) (GamOk.nil)), GamYOk.cons (Y0.ok N) (GamYOk.nil)⟩
def code : Code := Tryz.f113.body.getD .skip
def outs : Sh := s46
end fB3
namespace fB1
def ins : Sh := (.cons (.box 1000000 s44) (.cons (.rbox 112 (.cons (.box 138 s35) .nil)) (.cons (.rbox 115 (.cons (.fn 71 .nil) .nil)) s20)))
def ts : List Tmp := [0, 1, 3, 5, 6]
def asg : List Tmp := [6, 7, 11, 12, 13, 14, 15, 16, 17, 18, 19, 20, 21, 22, 23, 24, 25, 26, 27, 28, 29, 30, 31]
def C (N : Nat) : Ctx := { fB3.C N with may := fun t => asg.any (Nat.beq t) }
def code : Code := loopBody (sub fB3.code [true, true, false])
theorem cok (N : Nat) : (C N).Ok Tryz.prog := okC (fB3.cok N) _
def alts : List Alt := [⟨.ret, [], s46⟩, ⟨(.exit 0), [], s46⟩]
end fB1
noncomputable def fB1.go (N : Nat) : Nat → Int → T12 → (List UInt8) → Int → Int → Int → Option (T29 ⊕ T29)
  | 0, _, _, _, _, _, _ => none
  | fuel + 1, yield, yield1, b, e, n_, i =>
    bif decide ((IntKind.u64.wrap i) < n_) then
      obind (fD41.run N b e) fun ((b1, e1, _), l, _) =>
        bif !(decide (e1 = (0 : Int))) then
          some (.inl ((yield1, ()), (b1, e1, ()), (yield, (), (), (), (), ()), ()))
        else
          bif decide (yield = (0 : Int)) then
            obind (Y0.run N yield1 i l) fun ((v, _), _) =>
              fB1.go N fuel (0 : Int) v b1 e1 n_ (IntKind.i64.wrap (i + (1 : Int)))
          else none
    else some (.inr ((yield1, ()), (b, e, ()), (yield, (), (), (), (), ()), ()))
namespace fB1
def g (N n : Nat) : Sh.den ins → Option (altsDen alts) := fun ((a, _, _, _, (b, _), _), ((c, d, _), _), (_, _), e, f, _) => fB1.go N n a b c d e f
def P (N : Nat) : Ps := ⟨ts, ins, asg, alts, g N N⟩
def lam (N : Nat) : Pcs := pcs []
theorem pok (N : Nat) : (lam N).Ok Tryz.prog (C N) code := pcsOk_nil
theorem ok (N : Nat) : ((P N).pc (fB3.C N)).Ok Tryz.prog (fB3.C N) (.loop code) := okL (F := P N) (g N) (fB3.cok N) mix (pok N) (fun _ => rfl) rfl fun _ _ => by kernel_rfl
end fB1
noncomputable def fB3.run (N : Nat) (yield : Int) (yield1 : T12) (b : (List UInt8)) (e : Int) (t2 : Int) : Option T29 :=
  obind (fD13.run N b e t2) fun ((b1, e1, _), n_, _) =>
    obind (fB1.go N N yield yield1 b1 e1 n_ (0 : Int)) fun y => match y with
    | .inl ((v, _), (b2, e2, _), (v1, _, _, _, _, _), _) =>
        some ((v, ()), (b2, e2, ()), (v1, (), (), (), (), ()), ())
    | .inr ((v2, _), (b3, e3, _), (v3, _, _, _, _, _), _) =>
        some ((v2, ()), (b3, e3, ()), (v3, (), (), (), (), ()), ())
namespace fB3
def fn (N : Nat) : Sh.den ins → Option (Sh.den outs) := fun ((a, _, _, _, (b, _), _), ((c, d, _), _), (e, _), (_, _), _) => fB3.run N a b c d e
def S (N : Nat) : Fs := ⟨ins, outs, fn N⟩
def lam (N : Nat) : Pcs := pcs [([true, true, false], (fB1.P N).pc (C N))]
theorem pok (N : Nat) : (lam N).Ok Tryz.prog (C N) code := pcsOk_cons (c1 := .loop fB1.code) (by kernel_rfl) (fB1.ok N) (pcsOk_nil)
theorem ok (N : Nat) : (S N).con.Ok Tryz.prog 113 := okF (F := S N) [] Tryz.func113 (by kernel_rfl) (by rfl) mix (cok N) (pok N) fun _ => by kernel_rfl
end fB3
namespace fC28
def ins : Sh := s39
def C (N : Nat) : Ctx := ⟨U, 26, fun _ => true, gam [(97, (fD30.S N).con), (113, (fB3.S N).con)], gamY []⟩
theorem cok (N : Nat) : (C N).Ok Tryz.prog := ⟨U_ok, GamOk.cons (fD30.ok N) (GamOk.cons (fB3.ok N) (GamOk.nil)), GamYOk.nil⟩
def code : Code := Tryz.f70.body.getD .skip
def outs : Sh := (.cons (.upd 0 138 s35) (.cons (.own 43 (.slice .byte)) .nil))
end fC28
noncomputable def fC28.run (N : Nat) (b : (List UInt8)) (e : Int) (most : Int) : Option T30 :=
  obind (fD30.run N b e most) fun ((b1, e1, _), ((_, _), (v, _), (_, _), _), _) =>
    obind (fB3.run N (0 : Int) ([] : List (List UInt8)) b1 e1 v) fun ((v1, _), (b2, e2, _), (v2, _, _, _, _, _), _) =>
      bif decide (v2 = (0 : Int)) then
        bif !(decide (e2 = (0 : Int))) then
          some ((b2, e2, ()), ([] : List (List UInt8)), ())
        else some ((b2, e2, ()), v1, ())
      else none
namespace fC28
def fn (N : Nat) : Sh.den ins → Option (Sh.den outs) := fun ((a, b, _), c, _, _) => fC28.run N a b c
def S (N : Nat) : Fs := ⟨ins, outs, fn N⟩
def lam (N : Nat) : Pcs := pcs [([true, true, false, true, false], rfPc (C N) 1000000 (.tmp 13) [7] [.normal])]
theorem pok (N : Nat) : (lam N).Ok Tryz.prog (C N) code := pcsOk_cons (c1 := .rangeFunc (.tmp 13) site0.ps site0.assign site0.body) (by kernel_rfl) (rf_ok (k := 0) (fun _ => rfl) (cok N)) (pcsOk_nil)
theorem ok (N : Nat) : (S N).con.Ok Tryz.prog 70 := okF (F := S N) [] Tryz.func70 (by kernel_rfl) (by rfl) mix (cok N) (pok N) fun _ => by kernel_rfl
end fC28
namespace fC12
def ins : Sh := (.cons (.rbox 138 s35) .nil)
def C (N : Nat) : Ctx := ⟨U, 20, fun _ => true, gam [], gamY []⟩
theorem cok (N : Nat) : (C N).Ok Tryz.prog := ⟨U_ok, GamOk.nil, GamYOk.nil⟩
def code : Code := Tryz.f72.body.getD .skip
def outs : Sh := (.cons (.val (.int .i64)) .nil)
end fC12
noncomputable def fC12.run (N : Nat) (b : (List UInt8)) (e : Int) : Option (Int × Unit) :=
  bif decide (e = (0 : Int)) then
    bif decide ((b.length : Int) > (0 : Int)) then
      some ((13 : Int), ())
    else some (e, ())
  else some (e, ())
namespace fC12
def fn (N : Nat) : Sh.den ins → Option (Sh.den outs) := fun ((a, b, _), _) => fC12.run N a b
def S (N : Nat) : Fs := ⟨ins, outs, fn N⟩
def lam (N : Nat) : Pcs := pcs []
theorem pok (N : Nat) : (lam N).Ok Tryz.prog (C N) code := pcsOk_nil
theorem ok (N : Nat) : (S N).con.Ok Tryz.prog 72 := okF (F := S N) [] Tryz.func72 (by kernel_rfl) (by rfl) mix (cok N) (pok N) fun _ => by kernel_rfl
end fC12
namespace fD31
def ins : Sh := (.cons (.val (.slice .byte)) .nil)
def C (N : Nat) : Ctx := ⟨U, 42, fun _ => true, gam [(68, (fA37.S N).con), (69, (fC39.S N).con), (70, (fC28.S N).con), (72, (fC12.S N).con)], gamY []⟩
theorem cok (N : Nat) : (C N).Ok Tryz.prog := ⟨U_ok, GamOk.cons (fA37.ok N) (GamOk.cons (fC39.ok N) (GamOk.cons (fC28.ok N) (GamOk.cons (fC12.ok N) (GamOk.nil)))), GamYOk.nil⟩
def code : Code := Tryz.f41.body.getD .skip
def outs : Sh := (.cons (.own 43 (.slice .byte)) s13)
end fD31
namespace fC36
def ins : Sh := (.cons (.val (.slice .byte)) s16)
def ts : List Tmp := [0, 5, 6]
def asg : List Tmp := [2, 3, 4, 5, 6, 7, 8, 9, 10, 11, 12, 13, 14, 15, 16, 17, 18, 19, 20, 21, 22, 23, 24, 25, 26, 27, 28, 29, 30, 31, 32, 33, 34, 35, 36, 37, 38, 39]
def C (N : Nat) : Ctx := { fD31.C N with may := fun t => asg.any (Nat.beq t) }
def code : Code := loopBody (sub fD31.code [true, false, true, true, true, false, false])
theorem cok (N : Nat) : (C N).Ok Tryz.prog := okC (fD31.cok N) _
def alts : List Alt := [⟨.ret, [2, 3, 4], (.cons (.own 43 (.slice .byte)) s13)⟩, ⟨(.exit 0), [5, 6], s16⟩]
end fC36
noncomputable def fC36.go (N : Nat) : Nat → (List UInt8) → T12 → Int → Option (T31 ⊕ T32)
  | 0, _, _, _ => none
  | fuel + 1, b, l, jO_ =>
    bif decide (jO_ < (b.length : Int)) then
      bif okB jO_ (b.length : Int) b.length then
        obind (fA37.run N (b.drop jO_.toNat)) fun (l1, n_, n1, _) =>
          bif decide (n1 = (0 : Int)) then
            obind (fC39.run N l1) fun ((b1, e, _), _) =>
              obind (fC28.run N b1 e (16777216 : Int)) fun ((b2, e1, _), l2, _) =>
                bif room (l.length + l2.length) 24 then
                  obind (fC12.run N b2 e1) fun (n2, _) =>
                    bif !(decide (n2 = (0 : Int))) then
                      some (.inl (([] : List (List UInt8)), (0 : Int), (91 : Int), ()))
                    else fC36.go N fuel b (l ++ l2) (IntKind.i64.wrap (jO_ + n_))
                else none
          else
            bif decide (n1 = (10 : Int)) then
              some (.inr (l, jO_, ()))
            else some (.inl (([] : List (List UInt8)), (0 : Int), (91 : Int), ()))
      else none
    else some (.inr (l, jO_, ()))
namespace fC36
def g (N n : Nat) : Sh.den ins → Option (altsDen alts) := fun (a, b, c, _) => fC36.go N n a b c
def P (N : Nat) : Ps := ⟨ts, ins, asg, alts, g N N⟩
def lam (N : Nat) : Pcs := pcs []
theorem pok (N : Nat) : (lam N).Ok Tryz.prog (C N) code := pcsOk_nil
theorem ok (N : Nat) : ((P N).pc (fD31.C N)).Ok Tryz.prog (fD31.C N) (.loop code) := okL (F := P N) (g N) (fD31.cok N) mix (pok N) (fun _ => rfl) rfl fun _ _ => by kernel_rfl
end fC36
noncomputable def fD31.run (N : Nat) (b : (List UInt8)) : Option T31 :=
  obind (fC36.go N N b ([] : List (List UInt8)) (0 : Int)) fun y => match y with
  | .inl (t2, t3, t4, _) =>
      some (t2, t3, t4, ())
  | .inr (l, jO_, _) =>
      some (l, jO_, (0 : Int), ())
namespace fD31
def fn (N : Nat) : Sh.den ins → Option (Sh.den outs) := fun (a, _) => fD31.run N a
def S (N : Nat) : Fs := ⟨ins, outs, fn N⟩
def lam (N : Nat) : Pcs := pcs [([true, false, true, true, true, false, false], (fC36.P N).pc (C N))]
theorem pok (N : Nat) : (lam N).Ok Tryz.prog (C N) code := pcsOk_cons (c1 := .loop fC36.code) (by kernel_rfl) (fC36.ok N) (pcsOk_nil)
theorem ok (N : Nat) : (S N).con.Ok Tryz.prog 41 := okF (F := S N) [] Tryz.func41 (by kernel_rfl) (by rfl) mix (cok N) (pok N) fun _ => by kernel_rfl
end fD31
namespace fB10
def ins : Sh := (.cons (.val (.pair (.slice .byte) (.int .i64))) s47)
def C (N : Nat) : Ctx := ⟨U, 13, fun _ => true, gam [], gamY []⟩
theorem cok (N : Nat) : (C N).Ok Tryz.prog := ⟨U_ok, GamOk.nil, GamYOk.nil⟩
def code : Code := Tryz.f73.body.getD .skip
def outs : Sh := (.cons (.val (.int .i64)) .nil)
end fB10
noncomputable def fB10.run (N : Nat) (f : T0) (t1 : Int) : Option (Int × Unit) :=
  bif decide (t1 < (0 : Int)) then
    some ((43 : Int), ())
  else
    bif decide (t1 > (f.1.length : Int)) then
      some ((43 : Int), ())
    else some ((0 : Int), ())
namespace fB10
def fn (N : Nat) : Sh.den ins → Option (Sh.den outs) := fun (a, (b, _), _) => fB10.run N a b
def S (N : Nat) : Fs := ⟨ins, outs, fn N⟩
def lam (N : Nat) : Pcs := pcs []
theorem pok (N : Nat) : (lam N).Ok Tryz.prog (C N) code := pcsOk_nil
theorem ok (N : Nat) : (S N).con.Ok Tryz.prog 73 := okF (F := S N) [] Tryz.func73 (by kernel_rfl) (by rfl) mix (cok N) (pok N) fun _ => by kernel_rfl
end fB10
namespace fD14
def ins : Sh := (.cons (.val (.pair (.slice .byte) (.int .i64))) (.cons (.rbox 24 (.cons (.box 54 s1) .nil)) (.cons (.rbox 9 (.cons (.val .str) .nil)) s47)))
def C (N : Nat) : Ctx := ⟨U, 18, fun _ => true, gam [(27, (fA0.S N).con), (50, (fA8.S N).con)], gamY []⟩
theorem cok (N : Nat) : (C N).Ok Tryz.prog := ⟨U_ok, GamOk.cons (fA0.ok N) (GamOk.cons (fA8.ok N) (GamOk.nil)), GamYOk.nil⟩
def code : Code := Tryz.f74.body.getD .skip
def outs : Sh := (.cons (.upd 1 54 s1) .nil)
end fD14
noncomputable def fD14.run (N : Nat) (f : T0) (room_ : Int) (used : Int) (files : (List T1)) (steps : Int) (left : Int) (dead : Bool) (t2 : (List UInt8)) (t3 : Int) : Option (T2 × Unit) :=
  bif okB (0 : Int) t3 f.1.length then
    obind (fA0.run N (f.1.take t3.toNat)) fun (l, _) =>
      obind (fA8.run N room_ used files steps left dead t2 (l, min f.2 t3)) fun ((room1, used1, files1, steps1, left1, dead1, _), _) =>
        some ((room1, used1, files1, steps1, left1, dead1, ()), ())
  else none
namespace fD14
def fn (N : Nat) : Sh.den ins → Option (Sh.den outs) := fun (a, ((b, c, d, e, f, g, _), _), (h, _), (i, _), _) => fD14.run N a b c d e f g h i
def S (N : Nat) : Fs := ⟨ins, outs, fn N⟩
def lam (N : Nat) : Pcs := pcs []
theorem pok (N : Nat) : (lam N).Ok Tryz.prog (C N) code := pcsOk_nil
theorem ok (N : Nat) : (S N).con.Ok Tryz.prog 74 := okF (F := S N) [] Tryz.func74 (by kernel_rfl) (by rfl) mix (cok N) (pok N) fun _ => by kernel_rfl
end fD14
namespace fD26
def ins : Sh := (.cons (.box 54 s1) (.cons (.val .str) (.cons (.fn 73 s47) (.cons (.fn 74 (.cons (.rbox 24 (.cons (.ref 0) .nil)) (.cons (.rbox 9 (.cons (.val .str) .nil)) (.cons (.ref 2) .nil)))) .nil))))
def C (N : Nat) : Ctx := ⟨U, 40, fun _ => true, gam [(73, (fB10.S N).con), (62, (fB5.S N).con), (74, (fD14.S N).con)], gamY []⟩
theorem cok (N : Nat) : (C N).Ok Tryz.prog := ⟨U_ok, GamOk.cons (fB10.ok N) (GamOk.cons (fB5.ok N) (GamOk.cons (fD14.ok N) (GamOk.nil))), GamYOk.nil⟩
def code : Code := Tryz.f63.body.getD .skip
def outs : Sh := s11
end fD26
noncomputable def fD26.run (N : Nat) (room_ : Int) (used : Int) (files : (List T1)) (steps : Int) (left : Int) (dead : Bool) (name : (List UInt8)) (why : Int) (done : (List UInt8)) : Option T10 :=
  bif dead then
    some ((room_, used, files, steps, left, dead, ()), (44 : Int), ())
  else
    bif !(mapHas files name) then
      some ((room_, used, files, steps, left, dead, ()), (42 : Int), ())
    else
      obind (fB10.run N (mapGet files name (([] : List UInt8), (0 : Int))) why) fun (n_, _) =>
        bif !(decide (n_ = (0 : Int))) then
          some ((room_, used, files, steps, left, dead, ()), n_, ())
        else
          obind (fB5.run N room_ used files steps left dead) fun ((room1, used1, files1, steps1, left1, dead1, _), b, _) =>
            bif b then
              some ((room1, used1, files1, steps1, left1, dead1, ()), (44 : Int), ())
            else
              obind (fD14.run N (mapGet files name (([] : List UInt8), (0 : Int))) room1 used1 files1 steps1 left1 dead1 done why) fun ((room2, used2, files2, steps2, left2, dead2, _), _) =>
                some ((room2, used2, files2, steps2, left2, dead2, ()), (0 : Int), ())
namespace fD26
def fn (N : Nat) : Sh.den ins → Option (Sh.den outs) := fun ((a, b, c, d, e, f, _), g, ((h, _), _), ((_, _), (i, _), _, _), _) => fD26.run N a b c d e f g h i
def S (N : Nat) : Fs := ⟨ins, outs, fn N⟩
def lam (N : Nat) : Pcs := pcs []
theorem pok (N : Nat) : (lam N).Ok Tryz.prog (C N) code := pcsOk_nil
theorem ok (N : Nat) : (S N).con.Ok Tryz.prog 63 := okF (F := S N) [] Tryz.func63 (by kernel_rfl) (by rfl) mix (cok N) (pok N) fun _ => by kernel_rfl
end fD26
namespace fA17
def ins : Sh := (.cons (.box 54 s1) s48)
def C (N : Nat) : Ctx := ⟨U, 12, fun _ => true, gam [(63, (fD26.S N).con)], gamY []⟩
theorem cok (N : Nat) : (C N).Ok Tryz.prog := ⟨U_ok, GamOk.cons (fD26.ok N) (GamOk.nil), GamYOk.nil⟩
def code : Code := Tryz.f43.body.getD .skip
def outs : Sh := s11
end fA17
noncomputable def fA17.run (N : Nat) (room_ : Int) (used : Int) (files : (List T1)) (steps : Int) (left : Int) (dead : Bool) (name : (List UInt8)) (n_ : Int) : Option T10 :=
  obind (fD26.run N room_ used files steps left dead name n_ name) fun ((room1, used1, files1, steps1, left1, dead1, _), n1, _) =>
    some ((room1, used1, files1, steps1, left1, dead1, ()), n1, ())
namespace fA17
def fn (N : Nat) : Sh.den ins → Option (Sh.den outs) := fun ((a, b, c, d, e, f, _), g, h, _) => fA17.run N a b c d e f g h
def S (N : Nat) : Fs := ⟨ins, outs, fn N⟩
def lam (N : Nat) : Pcs := pcs []
theorem pok (N : Nat) : (lam N).Ok Tryz.prog (C N) code := pcsOk_nil
theorem ok (N : Nat) : (S N).con.Ok Tryz.prog 43 := okF (F := S N) [] Tryz.func43 (by kernel_rfl) (by rfl) mix (cok N) (pok N) fun _ => by kernel_rfl
end fA17
namespace fB36
def ins : Sh := s49
def C (N : Nat) : Ctx := ⟨U, 13, fun _ => true, gam [(43, (fA17.S N).con)], gamY []⟩
theorem cok (N : Nat) : (C N).Ok Tryz.prog := ⟨U_ok, GamOk.cons (fA17.ok N) (GamOk.nil), GamYOk.nil⟩
def code : Code := Tryz.f42.body.getD .skip
def outs : Sh := s50
end fB36
noncomputable def fB36.run (N : Nat) (t0 : Int) (t1 : (List UInt8)) (room_ : Int) (used : Int) (files : (List T1)) (steps : Int) (left : Int) (dead : Bool) (t3 : (List UInt8)) : Option T10 :=
  bif decide (t0 < (t1.length : Int)) then
    obind (fA17.run N room_ used files steps left dead t3 t0) fun ((room1, used1, files1, steps1, left1, dead1, _), n_, _) =>
      some ((room1, used1, files1, steps1, left1, dead1, ()), n_, ())
  else some ((room_, used, files, steps, left, dead, ()), (0 : Int), ())
namespace fB36
def fn (N : Nat) : Sh.den ins → Option (Sh.den outs) := fun ((a, _), (b, _), ((c, d, e, f, g, h, _), _), (i, _), _) => fB36.run N a b c d e f g h i
def S (N : Nat) : Fs := ⟨ins, outs, fn N⟩
def lam (N : Nat) : Pcs := pcs []
theorem pok (N : Nat) : (lam N).Ok Tryz.prog (C N) code := pcsOk_nil
theorem ok (N : Nat) : (S N).con.Ok Tryz.prog 42 := okF (F := S N) [] Tryz.func42 (by kernel_rfl) (by rfl) mix (cok N) (pok N) fun _ => by kernel_rfl
end fB36
namespace fC43
def ins : Sh := s8
def C (N : Nat) : Ctx := ⟨U, 6, fun _ => true, gam [(33, (fA9.S N).con)], gamY []⟩
theorem cok (N : Nat) : (C N).Ok Tryz.prog := ⟨U_ok, GamOk.cons (fA9.ok N) (GamOk.nil), GamYOk.nil⟩
def code : Code := Tryz.f44.body.getD .skip
def outs : Sh := s12
end fC43
noncomputable def fC43.run (N : Nat) (room_ : Int) (used : Int) (files : (List T1)) (steps : Int) (left : Int) (dead : Bool) (t1 : (List UInt8)) : Option T10 :=
  obind (fA9.run N room_ used files steps left dead t1) fun ((room1, used1, files1, steps1, left1, dead1, _), n_, _) =>
    some ((room1, used1, files1, steps1, left1, dead1, ()), n_, ())
namespace fC43
def fn (N : Nat) : Sh.den ins → Option (Sh.den outs) := fun (((a, b, c, d, e, f, _), _), (g, _), _) => fC43.run N a b c d e f g
def S (N : Nat) : Fs := ⟨ins, outs, fn N⟩
def lam (N : Nat) : Pcs := pcs []
theorem pok (N : Nat) : (lam N).Ok Tryz.prog (C N) code := pcsOk_nil
theorem ok (N : Nat) : (S N).con.Ok Tryz.prog 44 := okF (F := S N) [] Tryz.func44 (by kernel_rfl) (by rfl) mix (cok N) (pok N) fun _ => by kernel_rfl
end fC43
namespace fA42
def ins : Sh := (.cons (.els 1 2 (.cons (.fn 42 s49) (.cons (.fn 44 (.cons (.ref 2) (.cons (.ref 5) .nil))) .nil))) .nil)
def C (N : Nat) : Ctx := ⟨U, 18, fun _ => true, gam [(42, (fB36.S N).con), (44, (fC43.S N).con)], gamY []⟩
theorem cok (N : Nat) : (C N).Ok Tryz.prog := ⟨U_ok, GamOk.cons (fB36.ok N) (GamOk.cons (fC43.ok N) (GamOk.nil)), GamYOk.nil⟩
def code : Code := Tryz.f29.body.getD .skip
def outs : Sh := s50
end fA42
noncomputable def fA42.run (N : Nat) (steps : Int) (steps1 : (List UInt8)) (room_ : Int) (used : Int) (files : (List T1)) (steps2 : Int) (left : Int) (dead : Bool) (steps3 : (List UInt8)) : Option T10 :=
  obind (fB36.run N steps steps1 room_ used files steps2 left dead steps3) fun ((room1, used1, files1, steps4, left1, dead1, _), n_, _) =>
    bif !(decide (n_ = (0 : Int))) then
      some ((room1, used1, files1, steps4, left1, dead1, ()), n_, ())
    else
      obind (fC43.run N room1 used1 files1 steps4 left1 dead1 steps3) fun ((room2, used2, files2, steps5, left2, dead2, _), n1, _) =>
        bif !(decide (n1 = (0 : Int))) then
          some ((room2, used2, files2, steps5, left2, dead2, ()), n1, ())
        else some ((room2, used2, files2, steps5, left2, dead2, ()), (0 : Int), ())
namespace fA42
def fn (N : Nat) : Sh.den ins → Option (Sh.den outs) := fun ((((a, _), (b, _), ((c, d, e, f, g, h, _), _), (i, _), _), (_, _, _), _), _) => fA42.run N a b c d e f g h i
def S (N : Nat) : Fs := ⟨ins, outs, fn N⟩
def lam (N : Nat) : Pcs := pcs [([true, false, true, false], (Pc.unroll (C N) (loopBody (sub code [true, false, true, false])) (pcs []) 3))]
theorem pok (N : Nat) : (lam N).Ok Tryz.prog (C N) code := pcsOk_cons (c1 := .loop (loopBody (sub code [true, false, true, false]))) (by kernel_rfl) (unroll_ok (cok N) mix pcsOk_nil 3) (pcsOk_nil)
theorem ok (N : Nat) : (S N).con.Ok Tryz.prog 29 := okF (F := S N) [] Tryz.func29 (by kernel_rfl) (by rfl) mix (cok N) (pok N) fun _ => by kernel_rfl
end fA42
namespace fD5
def ins : Sh := s6
def C (N : Nat) : Ctx := ⟨U, 45, fun _ => true, gam [(11, (fC0.S N).con), (36, (fD32.S N).con), (41, (fD31.S N).con), (29, (fA42.S N).con)], gamY []⟩
theorem cok (N : Nat) : (C N).Ok Tryz.prog := ⟨U_ok, GamOk.cons (fC0.ok N) (GamOk.cons (fD32.ok N) (GamOk.cons (fD31.ok N) (GamOk.cons (fA42.ok N) (GamOk.nil)))), GamYOk.nil⟩
def code : Code := Tryz.f17.body.getD .skip
def outs : List Sh := [(.cons (.upd 0 54 s1) s15), (.cons (.upd 0 54 s1) s18)]
end fD5
noncomputable def fD5.run (N : Nat) (room_ : Int) (used : Int) (files : (List T1)) (steps : Int) (left : Int) (dead : Bool) (name : (List UInt8)) : Option (T13 ⊕ T15) :=
  obind (fC0.run N room_ used files steps left dead name) fun (l, b, _) =>
    obind (fD32.run N room_ used files steps left dead) fun (b1, _) =>
      bif b1 then
        some (.inl ((room_, used, files, steps, left, dead, ()), (), (44 : Int), ()))
      else
        bif !b then
          some (.inl ((room_, used, files, steps, left, dead, ()), (), (42 : Int), ()))
        else
          obind (fD31.run N l) fun (l1, n_, n1, _) =>
            bif !(decide (n1 = (0 : Int))) then
              some (.inl ((room_, used, files, steps, left, dead, ()), (), n1, ()))
            else
              obind (fA42.run N n_ l room_ used files steps left dead name) fun ((room1, used1, files1, steps1, left1, dead1, _), n2, _) =>
                bif !(decide (n2 = (0 : Int))) then
                  some (.inl ((room1, used1, files1, steps1, left1, dead1, ()), (), n2, ()))
                else some (.inr ((room1, used1, files1, steps1, left1, dead1, ()), ((), name, l1, n_, ()), (0 : Int), ()))
namespace fD5
def fn (N : Nat) : Sh.den ins → Option (shsDen outs) := fun ((a, b, c, d, e, f, _), g, _) => fD5.run N a b c d e f g
def S (N : Nat) : Fm := ⟨ins, outs, fn N⟩
def lam (N : Nat) : Pcs := pcs []
theorem pok (N : Nat) : (lam N).Ok Tryz.prog (C N) code := pcsOk_nil
theorem ok (N : Nat) : (S N).con.Ok Tryz.prog 17 := okM (F := S N) [] Tryz.func17 (by kernel_rfl) (by rfl) mix (cok N) (pok N) fun _ => by kernel_rfl
end fD5
namespace fC8
def ins : Sh := (.cons (.rbox 69 s51) .nil)
def C (N : Nat) : Ctx := ⟨U, 8, fun _ => true, gam [], gamY []⟩
theorem cok (N : Nat) : (C N).Ok Tryz.prog := ⟨U_ok, GamOk.nil, GamYOk.nil⟩
def code : Code := Tryz.f13.body.getD .skip
def outs : Sh := (.cons (.val (.int .i64)) .nil)
end fC8
noncomputable def fC8.run (N : Nat) (room_ : Int) (used : Int) (files : (List T1)) (steps : Int) (left : Int) (dead : Bool) (name : (List UInt8)) (l : T12) (size : Int) : Option (Int × Unit) :=
  some ((l.length : Int), ())
namespace fC8
def fn (N : Nat) : Sh.den ins → Option (Sh.den outs) := fun (((a, b, c, d, e, f, _), g, h, i, _), _) => fC8.run N a b c d e f g h i
def S (N : Nat) : Fs := ⟨ins, outs, fn N⟩
def lam (N : Nat) : Pcs := pcs []
theorem pok (N : Nat) : (lam N).Ok Tryz.prog (C N) code := pcsOk_nil
theorem ok (N : Nat) : (S N).con.Ok Tryz.prog 13 := okF (F := S N) [] Tryz.func13 (by kernel_rfl) (by rfl) mix (cok N) (pok N) fun _ => by kernel_rfl
end fC8
namespace fC3
def ins : Sh := (.cons (.rbox 69 s51) .nil)
def C (N : Nat) : Ctx := ⟨U, 7, fun _ => true, gam [], gamY []⟩
theorem cok (N : Nat) : (C N).Ok Tryz.prog := ⟨U_ok, GamOk.nil, GamYOk.nil⟩
def code : Code := Tryz.f10.body.getD .skip
def outs : Sh := (.cons (.val (.int .i64)) .nil)
end fC3
noncomputable def fC3.run (N : Nat) (room_ : Int) (used : Int) (files : (List T1)) (steps : Int) (left : Int) (dead : Bool) (name : (List UInt8)) (l : T12) (size : Int) : Option (Int × Unit) :=
  some (size, ())
namespace fC3
def fn (N : Nat) : Sh.den ins → Option (Sh.den outs) := fun (((a, b, c, d, e, f, _), g, h, i, _), _) => fC3.run N a b c d e f g h i
def S (N : Nat) : Fs := ⟨ins, outs, fn N⟩
def lam (N : Nat) : Pcs := pcs []
theorem pok (N : Nat) : (lam N).Ok Tryz.prog (C N) code := pcsOk_nil
theorem ok (N : Nat) : (S N).con.Ok Tryz.prog 10 := okF (F := S N) [] Tryz.func10 (by kernel_rfl) (by rfl) mix (cok N) (pok N) fun _ => by kernel_rfl
end fC3
namespace fC42
def ins : Sh := (.cons s31 .nil)
def C (N : Nat) : Ctx := ⟨U, 4, fun _ => true, gam [], gamY []⟩
theorem cok (N : Nat) : (C N).Ok Tryz.prog := ⟨U_ok, GamOk.nil, GamYOk.nil⟩
def code : Code := Tryz.f26.body.getD .skip
def outs : Sh := (.cons (.upd 1 54 s1) (.cons (.upd 0 69 (.cons (.ref 0) (.cons (.val .str) s16))) (.cons (.fn 53 (.cons (.box 30 (.cons (.ref 2) .nil)) .nil)) .nil)))
end fC42
noncomputable def fC42.run (N : Nat) (room_ : Int) (used : Int) (files : (List T1)) (steps : Int) (left : Int) (dead : Bool) (name : (List UInt8)) (l : T12) (size : Int) : Option T34 :=
  some ((room_, used, files, steps, left, dead, ()), ((), name, l, size, ()), (((), ()), ()), ())
namespace fC42
def fn (N : Nat) : Sh.den ins → Option (Sh.den outs) := fun (((a, b, c, d, e, f, _), g, h, i, _), _) => fC42.run N a b c d e f g h i
def S (N : Nat) : Fs := ⟨ins, outs, fn N⟩
def lam (N : Nat) : Pcs := pcs []
theorem pok (N : Nat) : (lam N).Ok Tryz.prog (C N) code := pcsOk_nil
theorem ok (N : Nat) : (S N).con.Ok Tryz.prog 26 := okF (F := S N) [] Tryz.func26 (by kernel_rfl) (by rfl) mix (cok N) (pok N) fun _ => by kernel_rfl
end fC42
namespace Y1
def ins : Sh := s42
def C (N : Nat) : Ctx := ⟨U, 15, fun _ => true, gam [], gamY []⟩
theorem cok (N : Nat) : (C N).Ok Tryz.prog := ⟨U_ok, GamOk.nil, GamYOk.nil⟩
def code : Code := site1.body
def alts : List Alt := [⟨.normal, [], s43⟩]
end Y1
noncomputable def Y1.run (N : Nat) (out : T12) (t8 : Int) (t9 : (List UInt8)) : Option (T27) :=
  bif room (out.length + 1) 24 then
    some ((out ++ ([t9] : List (List UInt8)), ()), ())
  else none
namespace Y1
def fn (N : Nat) : Sh.den ins → Option (altsDen alts) := fun ((a, _), b, c, _) => Y1.run N a b c
def F (N : Nat) : Ys := ⟨[3], [8, 9], ins, alts, fn N⟩
def yc (N : Nat) : Yc := (F N).yc
def lam (N : Nat) : Pcs := pcs []
theorem pok (N : Nat) : (lam N).Ok Tryz.prog (C N) site1.body := pcsOk_nil
theorem ev (N : Nat) (x : Sh.den ins) : evC (C N) site1.assign (pcs []) ⟨addT [3, 8, 9] (bld (fun k => k) ins x 0).1 [], (bld (fun k => k) ins x 0).2.1, 1000⟩ (thenC fun s => evC (C N) site1.body (lam N) s (altK alts)) = fn N x := by kernel_rfl
theorem ok (N : Nat) : (yc N).Ok Tryz.prog 1000001 := ys_ok (σ := site1) (k := 1) (C := C N) (F := F N) (n0 := 1000) (fun _ => rfl) (cok N) mix (fun _ => rfl) (show site1.ps.toList = [8, 9] by kernel_rfl) (show site1.ts = [3] by kernel_rfl) (show site1.nt = 15 by kernel_rfl) rfl rfl rfl rfl rfl pcsOk_nil (pok N) (fun x y h => (ev N x).trans h)
end Y1
namespace fD11
def ins : Sh := (.cons (.box 1000001 s44) (.cons (.rbox 30 (.cons (.rbox 69 s51) .nil)) .nil))
def C (N : Nat) : Ctx := ⟨U, 22, fun _ => true, gam [(27, (fA0.S N).con)], gamY [(1000001, Y1.yc N)]⟩
theorem cok (N : Nat) : (C N).Ok Tryz.prog := ⟨U_ok, GamOk.cons (fA0.ok N) (GamOk.nil), GamYOk.cons (Y1.ok N) (GamYOk.nil)⟩
def code : Code := Tryz.f53.body.getD .skip
def outs : Sh := s52
end fD11
namespace fC13
def ins : Sh := (.cons (.box 1000001 s44) (.cons (.rown 43 (.slice .byte)) s13))
def ts : List Tmp := [0, 8, 9, 10]
def asg : List Tmp := [3, 4, 10, 11, 12, 13, 14, 15, 16, 17, 18, 19, 20, 21]
def C (N : Nat) : Ctx := { fD11.C N with may := fun t => asg.any (Nat.beq t) }
def code : Code := loopBody (sub fD11.code [true, false])
theorem cok (N : Nat) : (C N).Ok Tryz.prog := okC (fD11.cok N) _
def alts : List Alt := [⟨(.exit 0), [], s52⟩]
end fC13
noncomputable def fC13.go (N : Nat) : Nat → Int → T12 → T12 → Int → Int → Option (T35)
  | 0, _, _, _, _, _ => none
  | fuel + 1, yield, yield1, t8, t9, t10 =>
    bif decide (t10 < t9) then
      bif inB t10 t8.length then
        bif decide (t10.toNat < t8.length) then
          obind (fA0.run N (t8.getD t10.toNat ([] : List UInt8))) fun (l, _) =>
            bif decide (yield = (0 : Int)) then
              obind (Y1.run N yield1 t10 l) fun ((v, _), _) =>
                fC13.go N fuel (0 : Int) v t8 t9 (IntKind.i64.wrap (t10 + (1 : Int)))
            else none
        else none
      else none
    else some ((yield1, ()), (yield, (), (), (), (), ()), ())
namespace fC13
def g (N n : Nat) : Sh.den ins → Option (altsDen alts) := fun ((a, _, _, _, (b, _), _), c, d, e, _) => fC13.go N n a b c d e
def P (N : Nat) : Ps := ⟨ts, ins, asg, alts, g N N⟩
def lam (N : Nat) : Pcs := pcs []
theorem pok (N : Nat) : (lam N).Ok Tryz.prog (C N) code := pcsOk_nil
theorem ok (N : Nat) : ((P N).pc (fD11.C N)).Ok Tryz.prog (fD11.C N) (.loop code) := okL (F := P N) (g N) (fD11.cok N) mix (pok N) (fun _ => rfl) rfl fun _ _ => by kernel_rfl
end fC13
noncomputable def fD11.run (N : Nat) (yield : Int) (yield1 : T12) (room_ : Int) (used : Int) (files : (List T1)) (steps : Int) (left : Int) (dead : Bool) (name : (List UInt8)) (l : T12) (size : Int) : Option T35 :=
  obind (fC13.go N N yield yield1 l (l.length : Int) (0 : Int)) fun ((v, _), (v1, _, _, _, _, _), _) =>
    some ((v, ()), (v1, (), (), (), (), ()), ())
namespace fD11
def fn (N : Nat) : Sh.den ins → Option (Sh.den outs) := fun ((a, _, _, _, (b, _), _), (((c, d, e, f, g, h, _), i, j, k, _), _), _) => fD11.run N a b c d e f g h i j k
def S (N : Nat) : Fs := ⟨ins, outs, fn N⟩
def lam (N : Nat) : Pcs := pcs [([true, false], (fC13.P N).pc (C N))]
theorem pok (N : Nat) : (lam N).Ok Tryz.prog (C N) code := pcsOk_cons (c1 := .loop fC13.code) (by kernel_rfl) (fC13.ok N) (pcsOk_nil)
theorem ok (N : Nat) : (S N).con.Ok Tryz.prog 53 := okF (F := S N) [] Tryz.func53 (by kernel_rfl) (by rfl) mix (cok N) (pok N) fun _ => by kernel_rfl
end fD11
namespace law_gone
def ins : Sh := (.cons s31 .nil)
def C (N : Nat) : Ctx := ⟨U, 15, fun _ => true, gam [(26, (fC42.S N).con), (53, (fD11.S N).con)], gamY []⟩
theorem cok (N : Nat) : (C N).Ok Tryz.prog := ⟨U_ok, GamOk.cons (fC42.ok N) (GamOk.cons (fD11.ok N) (GamOk.nil)), GamYOk.nil⟩
def code : Code := Tryz.f9.body.getD .skip
def outs : Sh := (.cons (.upd 1 54 s1) (.cons (.upd 0 69 (.cons (.ref 0) (.cons (.val .str) s16))) (.cons (.own 43 (.slice .byte)) .nil)))
end law_gone
noncomputable def law_gone.run (N : Nat) (room_ : Int) (used : Int) (files : (List T1)) (steps : Int) (left : Int) (dead : Bool) (name : (List UInt8)) (l : T12) (size : Int) : Option T36 :=
  obind (fC42.run N room_ used files steps left dead name l size) fun ((room1, used1, files1, steps1, left1, dead1, _), (_, name1, l1, size1, _), ((_, _), _), _) =>
    obind (fD11.run N (0 : Int) ([] : List (List UInt8)) room1 used1 files1 steps1 left1 dead1 name1 l1 size1) fun ((v, _), (v1, _, _, _, _, _), _) =>
      bif decide (v1 = (0 : Int)) then
        some ((room1, used1, files1, steps1, left1, dead1, ()), ((), name1, l1, size1, ()), v, ())
      else none
namespace law_gone
def fn (N : Nat) : Sh.den ins → Option (Sh.den outs) := fun (((a, b, c, d, e, f, _), g, h, i, _), _) => law_gone.run N a b c d e f g h i
def S (N : Nat) : Fs := ⟨ins, outs, fn N⟩
def lam (N : Nat) : Pcs := pcs [([true, true, false, true, false], rfPc (C N) 1000001 (.tmp 7) [3] [.normal])]
theorem pok (N : Nat) : (lam N).Ok Tryz.prog (C N) code := pcsOk_cons (c1 := .rangeFunc (.tmp 7) site1.ps site1.assign site1.body) (by kernel_rfl) (rf_ok (k := 1) (fun _ => rfl) (cok N)) (pcsOk_nil)
theorem ok (N : Nat) : (S N).con.Ok Tryz.prog 9 := okF (F := S N) [] Tryz.func9 (by kernel_rfl) (by rfl) mix (cok N) (pok N) fun _ => by kernel_rfl
end law_gone
namespace fC18
def ins : Sh := (.cons (.rown 43 (.slice .byte)) (.cons (.rown 43 (.slice .byte)) .nil))
def C (N : Nat) : Ctx := ⟨U, 28, fun _ => true, gam [], gamY []⟩
theorem cok (N : Nat) : (C N).Ok Tryz.prog := ⟨U_ok, GamOk.nil, GamYOk.nil⟩
def code : Code := Tryz.f14.body.getD .skip
def outs : Sh := (.cons (.val .bool) .nil)
end fC18
namespace fA39
def ins : Sh := (.cons (.rown 43 (.slice .byte)) s26)
def ts : List Tmp := [0, 1, 5]
def asg : List Tmp := [4, 5, 11, 12, 13, 14, 15, 16, 17, 18, 19, 20, 21, 22, 23, 24, 25, 26, 27]
def C (N : Nat) : Ctx := { fC18.C N with may := fun t => asg.any (Nat.beq t) }
def code : Code := loopBody (sub fC18.code [true, true, false, true, false])
theorem cok (N : Nat) : (C N).Ok Tryz.prog := okC (fC18.cok N) _
def alts : List Alt := [⟨.ret, [4], (.cons (.val .bool) .nil)⟩, ⟨(.exit 0), [], .nil⟩]
end fA39
noncomputable def fA39.go (N : Nat) : Nat → T12 → T12 → Int → Option T11
  | 0, _, _, _ => none
  | fuel + 1, a, b, i =>
    bif decide (i < (a.length : Int)) then
      bif inB i a.length then
        bif decide (i.toNat < a.length) then
          bif inB i b.length then
            bif decide (i.toNat < b.length) then
              bif !(decide ((a.getD i.toNat ([] : List UInt8)) = (b.getD i.toNat ([] : List UInt8)))) then
                some (.inl (false, ()))
              else fA39.go N fuel a b (IntKind.i64.wrap (i + (1 : Int)))
            else none
          else none
        else none
      else none
    else some (.inr ())
namespace fA39
def g (N n : Nat) : Sh.den ins → Option (altsDen alts) := fun (a, b, c, _) => fA39.go N n a b c
def P (N : Nat) : Ps := ⟨ts, ins, asg, alts, g N N⟩
def lam (N : Nat) : Pcs := pcs []
theorem pok (N : Nat) : (lam N).Ok Tryz.prog (C N) code := pcsOk_nil
theorem ok (N : Nat) : ((P N).pc (fC18.C N)).Ok Tryz.prog (fC18.C N) (.loop code) := okL (F := P N) (g N) (fC18.cok N) mix (pok N) (fun _ => rfl) rfl fun _ _ => by kernel_rfl
end fA39
noncomputable def fC18.run (N : Nat) (a : T12) (b : T12) : Option (Bool × Unit) :=
  bif !(decide ((a.length : Int) = (b.length : Int))) then
    some (false, ())
  else
    obind (fA39.go N N a b (0 : Int)) fun y => match y with
    | .inl (t4, _) =>
        some (t4, ())
    | .inr (_) =>
        some (true, ())
namespace fC18
def fn (N : Nat) : Sh.den ins → Option (Sh.den outs) := fun (a, b, _) => fC18.run N a b
def S (N : Nat) : Fs := ⟨ins, outs, fn N⟩
def lam (N : Nat) : Pcs := pcs [([true, true, false, true, false], (fA39.P N).pc (C N))]
theorem pok (N : Nat) : (lam N).Ok Tryz.prog (C N) code := pcsOk_cons (c1 := .loop fA39.code) (by kernel_rfl) (fA39.ok N) (pcsOk_nil)
theorem ok (N : Nat) : (S N).con.Ok Tryz.prog 14 := okF (F := S N) [] Tryz.func14 (by kernel_rfl) (by rfl) mix (cok N) (pok N) fun _ => by kernel_rfl
end fC18
namespace law_alive
def ins : Sh := .nil
def C (N : Nat) : Ctx := ⟨U, 67, fun _ => true, gam [(5, (fA29.S N).con), (16, (fC10.S N).con), (12, (fB6.S N).con), (17, (fD5.S N).con), (13, (fC8.S N).con), (10, (fC3.S N).con), (9, (law_gone.S N).con), (14, (fC18.S N).con)], gamY []⟩
theorem cok (N : Nat) : (C N).Ok Tryz.prog := ⟨U_ok, GamOk.cons (fA29.ok N) (GamOk.cons (fC10.ok N) (GamOk.cons (fB6.ok N) (GamOk.cons (fD5.ok N) (GamOk.cons (fC8.ok N) (GamOk.cons (fC3.ok N) (GamOk.cons (law_gone.ok N) (GamOk.cons (fC18.ok N) (GamOk.nil)))))))), GamYOk.nil⟩
def code : Code := Tryz.f7.body.getD .skip
def outs : Sh := (.cons (.val .bool) .nil)
end law_alive
namespace law_alive_0
def ins : Sh := (.cons (.box 54 s1) .nil)
def ts : List Tmp := [1]
def asg : List Tmp := [2, 3, 8, 9, 10, 11, 12]
def C (N : Nat) : Ctx := { law_alive.C N with may := fun t => asg.any (Nat.beq t) }
def code : Code := (sub law_alive.code [true, true, true, false]).getD .skip
theorem cok (N : Nat) : (C N).Ok Tryz.prog := okC (law_alive.cok N) _
def alts : List Alt := [⟨.normal, [2, 3], (.cons (.upd 0 54 s1) s15)⟩, ⟨.normal, [2, 3], (.cons (.upd 0 54 s1) s18)⟩]
end law_alive_0
noncomputable def law_alive_0.run (N : Nat) (room_ : Int) (used : Int) (files : (List T1)) (steps : Int) (left : Int) (dead : Bool) : Option (T13 ⊕ T15) :=
  obind (fC10.run N room_ used files steps left dead ([(114 : UInt8)] : List UInt8)) fun y => match y with
  | .inl ((room1, used1, files1, steps1, left1, dead1, _), _, n_, _) =>
      some (.inl ((room1, used1, files1, steps1, left1, dead1, ()), (), n_, ()))
  | .inr ((room2, used2, files2, steps2, left2, dead2, _), (_, name, l, size, _), n1, _) =>
      some (.inr ((room2, used2, files2, steps2, left2, dead2, ()), ((), name, l, size, ()), n1, ()))
namespace law_alive_0
def fn (N : Nat) : Sh.den ins → Option (altsDen alts) := fun ((a, b, c, d, e, f, _), _) => law_alive_0.run N a b c d e f
def P (N : Nat) : Ps := ⟨ts, ins, asg, alts, fn N⟩
def lam (N : Nat) : Pcs := pcs []
theorem pok (N : Nat) : (lam N).Ok Tryz.prog (C N) code := pcsOk_nil
theorem ok (N : Nat) : ((P N).pc (law_alive.C N)).Ok Tryz.prog (law_alive.C N) code := okP (F := P N) (law_alive.cok N) mix (pok N) fun _ => by kernel_rfl
end law_alive_0
namespace law_alive_1
def ins : Sh := (.cons (.box 54 s1) .nil)
def ts : List Tmp := [1]
def asg : List Tmp := [3, 4, 33, 34, 35, 36, 37]
def C (N : Nat) : Ctx := { law_alive.C N with may := fun t => asg.any (Nat.beq t) }
def code : Code := (sub law_alive.code [true, true, true, true, true, false]).getD .skip
theorem cok (N : Nat) : (C N).Ok Tryz.prog := okC (law_alive.cok N) _
def alts : List Alt := [⟨.normal, [3, 4], (.cons (.upd 0 54 s1) (.cons (.val (.int .i64)) (.cons (.nilp) .nil)))⟩, ⟨.normal, [3, 4], (.cons (.upd 0 54 s1) (.cons (.val (.int .i64)) (.cons s17 .nil)))⟩]
end law_alive_1
noncomputable def law_alive_1.run (N : Nat) (room_ : Int) (used : Int) (files : (List T1)) (steps : Int) (left : Int) (dead : Bool) : Option (T37 ⊕ T38) :=
  obind (fD5.run N room_ used files steps left dead ([(114 : UInt8)] : List UInt8)) fun y => match y with
  | .inl ((room1, used1, files1, steps1, left1, dead1, _), _, n_, _) =>
      some (.inl ((room1, used1, files1, steps1, left1, dead1, ()), n_, (), ()))
  | .inr ((room2, used2, files2, steps2, left2, dead2, _), (_, name, l, size, _), n1, _) =>
      some (.inr ((room2, used2, files2, steps2, left2, dead2, ()), n1, ((), name, l, size, ()), ()))
namespace law_alive_1
def fn (N : Nat) : Sh.den ins → Option (altsDen alts) := fun ((a, b, c, d, e, f, _), _) => law_alive_1.run N a b c d e f
def P (N : Nat) : Ps := ⟨ts, ins, asg, alts, fn N⟩
def lam (N : Nat) : Pcs := pcs []
theorem pok (N : Nat) : (lam N).Ok Tryz.prog (C N) code := pcsOk_nil
theorem ok (N : Nat) : ((P N).pc (law_alive.C N)).Ok Tryz.prog (law_alive.C N) code := okP (F := P N) (law_alive.cok N) mix (pok N) fun _ => by kernel_rfl
end law_alive_1
noncomputable def law_alive.run (N : Nat)  : Option (Bool × Unit) :=
  obind (fA29.run N (1000 : Int)) fun ((room_, used, files, steps, left, dead, _), _) =>
    obind (law_alive_0.run N room_ used files steps left dead) fun y => match y with
    | .inl ((room3, used3, files3, steps3, left3, dead3, _), _, e, _) =>
        bif !(decide (e = (0 : Int))) then
          some (false, ())
        else some (false, ())
    | .inr ((room4, used4, files4, steps4, left4, dead4, _), (_, name1, l1, size1, _), e1, _) =>
        bif !(decide (e1 = (0 : Int))) then
          some (false, ())
        else
          obind (fB6.run N room4 used4 files4 steps4 left4 dead4 name1 l1 size1 ([([(7 : UInt8)] : List UInt8)] : List (List UInt8))) fun ((room5, used5, files5, steps5, left5, dead5, _), (_, name2, l2, size2, _), n2, _) =>
            bif !(decide (n2 = (0 : Int))) then
              some (false, ())
            else
              obind (fB6.run N room5 used5 files5 steps5 left5 dead5 name2 l2 size2 ([([(8 : UInt8)] : List UInt8), ([] : List UInt8)] : List (List UInt8))) fun ((room6, used6, files6, steps6, left6, dead6, _), (_, name3, l3, size3, _), n3, _) =>
                bif !(decide (n3 = (0 : Int))) then
                  some (false, ())
                else
                  obind (law_alive_1.run N room6 used6 files6 steps6 left6 dead6) fun y => match y with
                  | .inl ((room9, used9, files9, steps9, left9, dead9, _), e2, _, _) =>
                      bif decide (e2 = (0 : Int)) then
                        some (false, ())
                      else some (false, ())
                  | .inr ((room10, used10, files10, steps10, left10, dead10, _), e3, (_, name5, l5, size5, _), _) =>
                      bif decide (e3 = (0 : Int)) then
                        obind (fC8.run N room10 used10 files10 steps10 left10 dead10 name5 l5 size5) fun (n6, _) =>
                          bif decide (n6 = (3 : Int)) then
                            obind (fC3.run N room10 used10 files10 steps10 left10 dead10 name5 l5 size5) fun (n7, _) =>
                              bif decide (n7 = (31 : Int)) then
                                obind (fC8.run N room10 used10 files10 steps10 left10 dead10 name3 l3 size3) fun (n8, _) =>
                                  bif decide (n8 = (3 : Int)) then
                                    obind (law_gone.run N room10 used10 files10 steps10 left10 dead10 name5 l5 size5) fun ((room11, used11, files11, steps11, left11, dead11, _), (_, name6, l6, size6, _), l7, _) =>
                                      obind (fC18.run N l7 ([([(7 : UInt8)] : List UInt8), ([(8 : UInt8)] : List UInt8), ([] : List UInt8)] : List (List UInt8))) fun (b, _) =>
                                        some (b, ())
                                  else some (false, ())
                              else some (false, ())
                          else some (false, ())
                      else some (false, ())
namespace law_alive
def fn (N : Nat) : Sh.den ins → Option (Sh.den outs) := fun _ => law_alive.run N
def S (N : Nat) : Fs := ⟨ins, outs, fn N⟩
def lam (N : Nat) : Pcs := pcs [([true, true, true, false], (law_alive_0.P N).pc (C N)), ([true, true, true, true, true, false], (law_alive_1.P N).pc (C N))]
theorem pok (N : Nat) : (lam N).Ok Tryz.prog (C N) code := pcsOk_cons (c1 := law_alive_0.code) (by kernel_rfl) (law_alive_0.ok N) (pcsOk_cons (c1 := law_alive_1.code) (by kernel_rfl) (law_alive_1.ok N) (pcsOk_nil))
theorem ok (N : Nat) : (S N).con.Ok Tryz.prog 7 := okF (F := S N) [] Tryz.func7 (by kernel_rfl) (by rfl) mix (cok N) (pok N) fun _ => by kernel_rfl
end law_alive
namespace ref_At
def ins : Sh := s53
def C (N : Nat) : Ctx := ⟨U, 22, fun _ => true, gam [], gamY []⟩
theorem cok (N : Nat) : (C N).Ok Tryz.prog := ⟨U_ok, GamOk.nil, GamYOk.nil⟩
def code : Code := Tryz.f45.body.getD .skip
def outs : Sh := (.cons (.val (.int .i64)) .nil)
end ref_At
namespace fA45
def ins : Sh := (.cons (.val .str) s56)
def ts : List Tmp := [1, 2, 5]
def asg : List Tmp := [4, 5, 6, 7, 8, 9, 10, 11, 12, 13, 14, 15, 16, 17, 18, 19, 20, 21]
def C (N : Nat) : Ctx := { ref_At.C N with may := fun t => asg.any (Nat.beq t) }
def code : Code := loopBody (sub ref_At.code [true, false, true, false])
theorem cok (N : Nat) : (C N).Ok Tryz.prog := okC (ref_At.cok N) _
def alts : List Alt := [⟨.ret, [4], (.cons (.val (.int .i64)) .nil)⟩, ⟨(.exit 0), [], .nil⟩]
end fA45
noncomputable def fA45.go (N : Nat) : Nat → (List UInt8) → Int → Int → (List T1) → Bool → Bool → Int → Int → Option T39
  | 0, _, _, _, _, _, _, _, _ => none
  | fuel + 1, name, room_, steps, files, armed, dead, left, i =>
    bif decide (i < (files.length : Int)) then
      bif inB i files.length then
        bif decide ((files.getD i.toNat (([] : List UInt8), ([] : List UInt8), (0 : Int))).1 = name) then
          some (.inl (i, ()))
        else fA45.go N fuel name room_ steps files armed dead left (IntKind.i64.wrap (i + (1 : Int)))
      else none
    else some (.inr ())
namespace fA45
def g (N n : Nat) : Sh.den ins → Option (altsDen alts) := fun (a, (b, c, d, e, f, g, _), h, _) => fA45.go N n a b c d e f g h
def P (N : Nat) : Ps := ⟨ts, ins, asg, alts, g N N⟩
def lam (N : Nat) : Pcs := pcs []
theorem pok (N : Nat) : (lam N).Ok Tryz.prog (C N) code := pcsOk_nil
theorem ok (N : Nat) : ((P N).pc (ref_At.C N)).Ok Tryz.prog (ref_At.C N) (.loop code) := okL (F := P N) (g N) (ref_At.cok N) mix (pok N) (fun _ => rfl) rfl fun _ _ => by kernel_rfl
end fA45
noncomputable def ref_At.run (N : Nat) (d : T5) (name : (List UInt8)) : Option (Int × Unit) :=
  obind (fA45.go N N name d.1 d.2.1 d.2.2.1 d.2.2.2.1 d.2.2.2.2.1 d.2.2.2.2.2 (0 : Int)) fun y => match y with
  | .inl (t4, _) =>
      some (t4, ())
  | .inr (_) =>
      some ((-1 : Int), ())
namespace ref_At
def fn (N : Nat) : Sh.den ins → Option (Sh.den outs) := fun (a, b, _) => ref_At.run N a b
def S (N : Nat) : Fs := ⟨ins, outs, fn N⟩
def lam (N : Nat) : Pcs := pcs [([true, false, true, false], (fA45.P N).pc (C N))]
theorem pok (N : Nat) : (lam N).Ok Tryz.prog (C N) code := pcsOk_cons (c1 := .loop fA45.code) (by kernel_rfl) (fA45.ok N) (pcsOk_nil)
theorem ok (N : Nat) : (S N).con.Ok Tryz.prog 45 := okF (F := S N) [] Tryz.func45 (by kernel_rfl) (by rfl) mix (cok N) (pok N) fun _ => by kernel_rfl
end ref_At
namespace fA31
def ins : Sh := (.cons (.val (.slice .byte)) .nil)
def C (N : Nat) : Ctx := ⟨U, 20, fun _ => true, gam [], gamY []⟩
theorem cok (N : Nat) : (C N).Ok Tryz.prog := ⟨U_ok, GamOk.nil, GamYOk.nil⟩
def code : Code := Tryz.f99.body.getD .skip
def outs : Sh := (.cons (.val (.int .u64)) .nil)
end fA31
namespace fC40
def ins : Sh := (.cons (.val (.slice .byte)) s20)
def ts : List Tmp := [0, 3, 4]
def asg : List Tmp := [3, 4, 5, 6, 7, 8, 9, 10, 11, 12, 13, 14, 15, 16, 17, 18]
def C (N : Nat) : Ctx := { fA31.C N with may := fun t => asg.any (Nat.beq t) }
def code : Code := loopBody (sub fA31.code [true, true, false, true, false])
theorem cok (N : Nat) : (C N).Ok Tryz.prog := okC (fA31.cok N) _
def alts : List Alt := [⟨(.exit 0), [3], (.cons (.val (.int .u64)) .nil)⟩]
end fC40
noncomputable def fC40.go (N : Nat) : Nat → (List UInt8) → Int → Int → Option ((Int × Unit))
  | 0, _, _, _ => none
  | fuel + 1, b, n_, i =>
    bif decide (i < (b.length : Int)) then
      bif inB i b.length then
        fC40.go N fuel b (IntKind.u64.wrap ((IntKind.u64.wrap ((256 : Int) * n_)) + (IntKind.u64.wrap ((b.getD i.toNat (0 : UInt8)).toNat : Int)))) (IntKind.i64.wrap (i + (1 : Int)))
      else none
    else some (n_, ())
namespace fC40
def g (N n : Nat) : Sh.den ins → Option (altsDen alts) := fun (a, b, c, _) => fC40.go N n a b c
def P (N : Nat) : Ps := ⟨ts, ins, asg, alts, g N N⟩
def lam (N : Nat) : Pcs := pcs []
theorem pok (N : Nat) : (lam N).Ok Tryz.prog (C N) code := pcsOk_nil
theorem ok (N : Nat) : ((P N).pc (fA31.C N)).Ok Tryz.prog (fA31.C N) (.loop code) := okL (F := P N) (g N) (fA31.cok N) mix (pok N) (fun _ => rfl) rfl fun _ _ => by kernel_rfl
end fC40
noncomputable def fA31.run (N : Nat) (b : (List UInt8)) : Option (Int × Unit) :=
  obind (fC40.go N N b (0 : Int) (0 : Int)) fun (n_, _) =>
    some (n_, ())
namespace fA31
def fn (N : Nat) : Sh.den ins → Option (Sh.den outs) := fun (a, _) => fA31.run N a
def S (N : Nat) : Fs := ⟨ins, outs, fn N⟩
def lam (N : Nat) : Pcs := pcs [([true, true, false, true, false], (fC40.P N).pc (C N))]
theorem pok (N : Nat) : (lam N).Ok Tryz.prog (C N) code := pcsOk_cons (c1 := .loop fC40.code) (by kernel_rfl) (fC40.ok N) (pcsOk_nil)
theorem ok (N : Nat) : (S N).con.Ok Tryz.prog 99 := okF (F := S N) [] Tryz.func99 (by kernel_rfl) (by rfl) mix (cok N) (pok N) fun _ => by kernel_rfl
end fA31
namespace fA41
def ins : Sh := (.cons (.val (.slice .byte)) .nil)
def C (N : Nat) : Ctx := ⟨U, 33, fun _ => true, gam [], gamY []⟩
theorem cok (N : Nat) : (C N).Ok Tryz.prog := ⟨U_ok, GamOk.nil, GamYOk.nil⟩
def code : Code := Tryz.f100.body.getD .skip
def outs : Sh := (.cons (.val (.int .u32)) .nil)
end fA41
namespace fB23
def ins : Sh := (.cons (.val (.slice .byte)) s24)
def ts : List Tmp := [0, 3, 4]
def asg : List Tmp := [3, 4, 5, 6, 7, 8, 9, 10, 11, 12, 13, 14, 15, 16, 17, 18, 19, 20, 21, 22, 23, 24, 25, 26, 27, 28, 29, 30]
def C (N : Nat) : Ctx := { fA41.C N with may := fun t => asg.any (Nat.beq t) }
def code : Code := loopBody (sub fA41.code [true, true, false, true, false])
theorem cok (N : Nat) : (C N).Ok Tryz.prog := okC (fA41.cok N) _
def alts : List Alt := [⟨(.exit 0), [3], (.cons (.val (.int .u32)) .nil)⟩]
end fB23
namespace fA32
def ins : Sh := s24
def ts : List Tmp := [3, 5]
def asg : List Tmp := [3, 5, 19, 20, 21, 22, 23, 24, 25, 26, 27, 28, 29, 30]
def C (N : Nat) : Ctx := { fB23.C N with may := fun t => asg.any (Nat.beq t) }
def code : Code := loopBody (sub fB23.code [true, false, false, true, true, false])
theorem cok (N : Nat) : (C N).Ok Tryz.prog := okC (fB23.cok N) _
def alts : List Alt := [⟨(.exit 2), [3], (.cons (.val (.int .u32)) .nil)⟩]
end fA32
noncomputable def fA32.go (N : Nat) : Nat → Int → Int → Option ((Int × Unit))
  | 0, _, _ => none
  | fuel + 1, r, k =>
    bif decide (k < (8 : Int)) then
      bif decide ((r.tmod (2 : Int)) = (1 : Int)) then
        fA32.go N fuel (IntKind.u32.wrap ((BitVec.ofInt 32 (IntKind.u32.wrap (r.tdiv (2 : Int))) ^^^ BitVec.ofInt 32 (3988292384 : Int)).toNat : Int)) (IntKind.i64.wrap (k + (1 : Int)))
      else fA32.go N fuel (IntKind.u32.wrap (r.tdiv (2 : Int))) (IntKind.i64.wrap (k + (1 : Int)))
    else some (r, ())
namespace fA32
def g (N n : Nat) : Sh.den ins → Option (altsDen alts) := fun (a, b, _) => fA32.go N n a b
def P (N : Nat) : Ps := ⟨ts, ins, asg, alts, g N N⟩
def lam (N : Nat) : Pcs := pcs []
theorem pok (N : Nat) : (lam N).Ok Tryz.prog (C N) code := pcsOk_nil
theorem ok (N : Nat) : ((P N).pc (fB23.C N)).Ok Tryz.prog (fB23.C N) (.loop code) := okL (F := P N) (g N) (fB23.cok N) mix (pok N) (fun _ => rfl) rfl fun _ _ => by kernel_rfl
end fA32
noncomputable def fB23.go (N : Nat) : Nat → (List UInt8) → Int → Int → Option ((Int × Unit))
  | 0, _, _, _ => none
  | fuel + 1, b, r, i =>
    bif decide (i < (b.length : Int)) then
      bif inB i b.length then
        obind (fA32.go N N (IntKind.u32.wrap ((BitVec.ofInt 32 r ^^^ BitVec.ofInt 32 (IntKind.u32.wrap ((b.getD i.toNat (0 : UInt8)).toNat : Int))).toNat : Int)) (0 : Int)) fun (r1, _) =>
          fB23.go N fuel b r1 (IntKind.i64.wrap (i + (1 : Int)))
      else none
    else some (r, ())
namespace fB23
def g (N n : Nat) : Sh.den ins → Option (altsDen alts) := fun (a, b, c, _) => fB23.go N n a b c
def P (N : Nat) : Ps := ⟨ts, ins, asg, alts, g N N⟩
def lam (N : Nat) : Pcs := pcs [([true, false, false, true, true, false], (fA32.P N).pc (C N))]
theorem pok (N : Nat) : (lam N).Ok Tryz.prog (C N) code := pcsOk_cons (c1 := .loop fA32.code) (by kernel_rfl) (fA32.ok N) (pcsOk_nil)
theorem ok (N : Nat) : ((P N).pc (fA41.C N)).Ok Tryz.prog (fA41.C N) (.loop code) := okL (F := P N) (g N) (fA41.cok N) mix (pok N) (fun _ => rfl) rfl fun _ _ => by kernel_rfl
end fB23
noncomputable def fA41.run (N : Nat) (b : (List UInt8)) : Option (Int × Unit) :=
  obind (fB23.go N N b (4294967295 : Int) (0 : Int)) fun (r, _) =>
    some (IntKind.u32.wrap ((BitVec.ofInt 32 r ^^^ BitVec.ofInt 32 (4294967295 : Int)).toNat : Int), ())
namespace fA41
def fn (N : Nat) : Sh.den ins → Option (Sh.den outs) := fun (a, _) => fA41.run N a
def S (N : Nat) : Fs := ⟨ins, outs, fn N⟩
def lam (N : Nat) : Pcs := pcs [([true, true, false, true, false], (fB23.P N).pc (C N))]
theorem pok (N : Nat) : (lam N).Ok Tryz.prog (C N) code := pcsOk_cons (c1 := .loop fB23.code) (by kernel_rfl) (fB23.ok N) (pcsOk_nil)
theorem ok (N : Nat) : (S N).con.Ok Tryz.prog 100 := okF (F := S N) [] Tryz.func100 (by kernel_rfl) (by rfl) mix (cok N) (pok N) fun _ => by kernel_rfl
end fA41
namespace fB42
def ins : Sh := (.cons (.val (.slice .byte)) .nil)
def C (N : Nat) : Ctx := ⟨U, 48, fun _ => true, gam [(99, (fA31.S N).con), (100, (fA41.S N).con)], gamY []⟩
theorem cok (N : Nat) : (C N).Ok Tryz.prog := ⟨U_ok, GamOk.cons (fA31.ok N) (GamOk.cons (fA41.ok N) (GamOk.nil)), GamYOk.nil⟩
def code : Code := Tryz.f75.body.getD .skip
def outs : Sh := (.cons (.val (.slice .byte)) s13)
end fB42
noncomputable def fB42.run (N : Nat) (b : (List UInt8)) : Option T23 :=
  bif decide ((b.length : Int) < (8 : Int)) then
    some (([] : List UInt8), (0 : Int), (10 : Int), ())
  else
    bif okB (0 : Int) (4 : Int) b.length then
      obind (fA31.run N (b.take 4)) fun (n_, _) =>
        bif okB (4 : Int) (8 : Int) b.length then
          obind (fA31.run N ((b.take 8).drop 4)) fun (n1, _) =>
            bif okB (0 : Int) (4 : Int) b.length then
              obind (fA41.run N (b.take 4)) fun (n2, _) =>
                bif !(decide (n1 = (IntKind.u64.wrap n2))) then
                  some (([] : List UInt8), (0 : Int), (14 : Int), ())
                else
                  bif decide ((IntKind.i64.wrap n_) > (16777216 : Int)) then
                    some (([] : List UInt8), (0 : Int), (12 : Int), ())
                  else
                    bif decide ((IntKind.i64.wrap ((b.length : Int) - (12 : Int))) < (IntKind.i64.wrap n_)) then
                      some (([] : List UInt8), (0 : Int), (10 : Int), ())
                    else
                      bif okB (IntKind.i64.wrap ((8 : Int) + (IntKind.i64.wrap n_))) (IntKind.i64.wrap ((12 : Int) + (IntKind.i64.wrap n_))) b.length then
                        obind (fA31.run N ((b.take (IntKind.i64.wrap ((12 : Int) + (IntKind.i64.wrap n_))).toNat).drop (IntKind.i64.wrap ((8 : Int) + (IntKind.i64.wrap n_))).toNat)) fun (n3, _) =>
                          bif okB (8 : Int) (IntKind.i64.wrap ((8 : Int) + (IntKind.i64.wrap n_))) b.length then
                            obind (fA41.run N ((b.take (IntKind.i64.wrap ((8 : Int) + (IntKind.i64.wrap n_))).toNat).drop 8)) fun (n4, _) =>
                              bif !(decide (n3 = (IntKind.u64.wrap n4))) then
                                some (([] : List UInt8), (0 : Int), (14 : Int), ())
                              else
                                bif okB (8 : Int) (IntKind.i64.wrap ((8 : Int) + (IntKind.i64.wrap n_))) b.length then
                                  some ((b.take (IntKind.i64.wrap ((8 : Int) + (IntKind.i64.wrap n_))).toNat).drop 8, IntKind.i64.wrap ((IntKind.i64.wrap n_) + (12 : Int)), (0 : Int), ())
                                else none
                          else none
                      else none
            else none
        else none
    else none
namespace fB42
def fn (N : Nat) : Sh.den ins → Option (Sh.den outs) := fun (a, _) => fB42.run N a
def S (N : Nat) : Fs := ⟨ins, outs, fn N⟩
def lam (N : Nat) : Pcs := pcs []
theorem pok (N : Nat) : (lam N).Ok Tryz.prog (C N) code := pcsOk_nil
theorem ok (N : Nat) : (S N).con.Ok Tryz.prog 75 := okF (F := S N) [] Tryz.func75 (by kernel_rfl) (by rfl) mix (cok N) (pok N) fun _ => by kernel_rfl
end fB42
namespace fC44
def ins : Sh := s57
def C (N : Nat) : Ctx := ⟨U, 46, fun _ => true, gam [], gamY []⟩
theorem cok (N : Nat) : (C N).Ok Tryz.prog := ⟨U_ok, GamOk.nil, GamYOk.nil⟩
def code : Code := Tryz.f116.body.getD .skip
def outs : Sh := s58
end fC44
noncomputable def fC44.run (N : Nat) (r : T40) (n_ : Int) : Option T41 :=
  bif !(decide (r.2.2 = (0 : Int))) then
    some (r, ([] : List UInt8), ())
  else
    bif decide (n_ < (0 : Int)) then
      some ((r.1, r.2.1, (12 : Int)), ([] : List UInt8), ())
    else
      bif decide (n_ > (IntKind.i64.wrap ((r.1.length : Int) - r.2.1))) then
        some ((r.1, r.2.1, (10 : Int)), ([] : List UInt8), ())
      else
        bif okB r.2.1 (IntKind.i64.wrap (r.2.1 + n_)) r.1.length then
          bif room ((r.1.take (IntKind.i64.wrap (r.2.1 + n_)).toNat).drop r.2.1.toNat).length 1 then
            some ((r.1, IntKind.i64.wrap (r.2.1 + n_), r.2.2), (r.1.take (IntKind.i64.wrap (r.2.1 + n_)).toNat).drop r.2.1.toNat, ())
          else none
        else none
namespace fC44
def fn (N : Nat) : Sh.den ins → Option (Sh.den outs) := fun (a, b, _) => fC44.run N a b
def S (N : Nat) : Fs := ⟨ins, outs, fn N⟩
def lam (N : Nat) : Pcs := pcs []
theorem pok (N : Nat) : (lam N).Ok Tryz.prog (C N) code := pcsOk_nil
theorem ok (N : Nat) : (S N).con.Ok Tryz.prog 116 := okF (F := S N) [] Tryz.func116 (by kernel_rfl) (by rfl) mix (cok N) (pok N) fun _ => by kernel_rfl
end fC44
namespace fA25
def ins : Sh := (.cons (.rown 5 .byte) .nil)
def C (N : Nat) : Ctx := ⟨U, 20, fun _ => true, gam [], gamY []⟩
theorem cok (N : Nat) : (C N).Ok Tryz.prog := ⟨U_ok, GamOk.nil, GamYOk.nil⟩
def code : Code := Tryz.f99.body.getD .skip
def outs : Sh := (.cons (.val (.int .u64)) .nil)
end fA25
namespace fD29
def ins : Sh := (.cons (.rown 5 .byte) s20)
def ts : List Tmp := [0, 3, 4]
def asg : List Tmp := [3, 4, 5, 6, 7, 8, 9, 10, 11, 12, 13, 14, 15, 16, 17, 18]
def C (N : Nat) : Ctx := { fA25.C N with may := fun t => asg.any (Nat.beq t) }
def code : Code := loopBody (sub fA25.code [true, true, false, true, false])
theorem cok (N : Nat) : (C N).Ok Tryz.prog := okC (fA25.cok N) _
def alts : List Alt := [⟨(.exit 0), [3], (.cons (.val (.int .u64)) .nil)⟩]
end fD29
noncomputable def fD29.go (N : Nat) : Nat → (List UInt8) → Int → Int → Option ((Int × Unit))
  | 0, _, _, _ => none
  | fuel + 1, b, n_, i =>
    bif decide (i < (b.length : Int)) then
      bif inB i b.length then
        bif decide (i.toNat < b.length) then
          fD29.go N fuel b (IntKind.u64.wrap ((IntKind.u64.wrap ((256 : Int) * n_)) + (IntKind.u64.wrap ((b.getD i.toNat (0 : UInt8)).toNat : Int)))) (IntKind.i64.wrap (i + (1 : Int)))
        else none
      else none
    else some (n_, ())
namespace fD29
def g (N n : Nat) : Sh.den ins → Option (altsDen alts) := fun (a, b, c, _) => fD29.go N n a b c
def P (N : Nat) : Ps := ⟨ts, ins, asg, alts, g N N⟩
def lam (N : Nat) : Pcs := pcs []
theorem pok (N : Nat) : (lam N).Ok Tryz.prog (C N) code := pcsOk_nil
theorem ok (N : Nat) : ((P N).pc (fA25.C N)).Ok Tryz.prog (fA25.C N) (.loop code) := okL (F := P N) (g N) (fA25.cok N) mix (pok N) (fun _ => rfl) rfl fun _ _ => by kernel_rfl
end fD29
noncomputable def fA25.run (N : Nat) (b : (List UInt8)) : Option (Int × Unit) :=
  obind (fD29.go N N b (0 : Int) (0 : Int)) fun (n_, _) =>
    some (n_, ())
namespace fA25
def fn (N : Nat) : Sh.den ins → Option (Sh.den outs) := fun (a, _) => fA25.run N a
def S (N : Nat) : Fs := ⟨ins, outs, fn N⟩
def lam (N : Nat) : Pcs := pcs [([true, true, false, true, false], (fD29.P N).pc (C N))]
theorem pok (N : Nat) : (lam N).Ok Tryz.prog (C N) code := pcsOk_cons (c1 := .loop fD29.code) (by kernel_rfl) (fD29.ok N) (pcsOk_nil)
theorem ok (N : Nat) : (S N).con.Ok Tryz.prog 99 := okF (F := S N) [] Tryz.func99 (by kernel_rfl) (by rfl) mix (cok N) (pok N) fun _ => by kernel_rfl
end fA25
namespace fB44
def ins : Sh := s57
def C (N : Nat) : Ctx := ⟨U, 16, fun _ => true, gam [(116, (fC44.S N).con), (99, (fA25.S N).con)], gamY []⟩
theorem cok (N : Nat) : (C N).Ok Tryz.prog := ⟨U_ok, GamOk.cons (fC44.ok N) (GamOk.cons (fA25.ok N) (GamOk.nil)), GamYOk.nil⟩
def code : Code := Tryz.f115.body.getD .skip
def outs : Sh := s59
end fB44
noncomputable def fB44.run (N : Nat) (r : T40) (many : Int) : Option T42 :=
  obind (fC44.run N r many) fun (v, l, _) =>
    obind (fA25.run N l) fun (n_, _) =>
      some (v, n_, ())
namespace fB44
def fn (N : Nat) : Sh.den ins → Option (Sh.den outs) := fun (a, b, _) => fB44.run N a b
def S (N : Nat) : Fs := ⟨ins, outs, fn N⟩
def lam (N : Nat) : Pcs := pcs []
theorem pok (N : Nat) : (lam N).Ok Tryz.prog (C N) code := pcsOk_nil
theorem ok (N : Nat) : (S N).con.Ok Tryz.prog 115 := okF (F := S N) [] Tryz.func115 (by kernel_rfl) (by rfl) mix (cok N) (pok N) fun _ => by kernel_rfl
end fB44
namespace fA14
def ins : Sh := s20
def C (N : Nat) : Ctx := ⟨U, 30, fun _ => true, gam [], gamY []⟩
theorem cok (N : Nat) : (C N).Ok Tryz.prog := ⟨U_ok, GamOk.nil, GamYOk.nil⟩
def code : Code := Tryz.f107.body.getD .skip
def outs : Sh := (.cons (.own 5 .byte) .nil)
end fA14
namespace fA11
def ins : Sh := (.cons (.val (.int .u64)) s25)
def ts : List Tmp := [0, 5, 6]
def asg : List Tmp := [5, 6, 7, 8, 11, 12, 13, 14, 15, 16, 17, 18, 19, 20, 21, 22, 23, 24, 25, 26, 27, 28]
def C (N : Nat) : Ctx := { fA14.C N with may := fun t => asg.any (Nat.beq t) }
def code : Code := loopBody (sub fA14.code [true, true, false, true, false])
theorem cok (N : Nat) : (C N).Ok Tryz.prog := okC (fA14.cok N) _
def alts : List Alt := [⟨(.exit 0), [5], (.cons (.own 5 .byte) .nil)⟩]
end fA11
namespace fB22
def ins : Sh := (.cons (.val (.int .i64)) s20)
def ts : List Tmp := [6, 7, 8]
def asg : List Tmp := [7, 8, 16, 17, 18, 19, 20, 21, 22]
def C (N : Nat) : Ctx := { fA11.C N with may := fun t => asg.any (Nat.beq t) }
def code : Code := loopBody (sub fA11.code [true, false, false, true, false, true, false])
theorem cok (N : Nat) : (C N).Ok Tryz.prog := okC (fA11.cok N) _
def alts : List Alt := [⟨(.exit 2), [7], (.cons (.val (.int .u64)) .nil)⟩]
end fB22
noncomputable def fB22.go (N : Nat) : Nat → Int → Int → Int → Option ((Int × Unit))
  | 0, _, _, _ => none
  | fuel + 1, i, k, j =>
    bif decide (j < i) then
      fB22.go N fuel i (IntKind.u64.wrap (k.tdiv (256 : Int))) (IntKind.i64.wrap (j + (1 : Int)))
    else some (k, ())
namespace fB22
def g (N n : Nat) : Sh.den ins → Option (altsDen alts) := fun (a, b, c, _) => fB22.go N n a b c
def P (N : Nat) : Ps := ⟨ts, ins, asg, alts, g N N⟩
def lam (N : Nat) : Pcs := pcs []
theorem pok (N : Nat) : (lam N).Ok Tryz.prog (C N) code := pcsOk_nil
theorem ok (N : Nat) : ((P N).pc (fA11.C N)).Ok Tryz.prog (fA11.C N) (.loop code) := okL (F := P N) (g N) (fA11.cok N) mix (pok N) (fun _ => rfl) rfl fun _ _ => by kernel_rfl
end fB22
noncomputable def fA11.go (N : Nat) : Nat → Int → (List UInt8) → Int → Option (T6)
  | 0, _, _, _ => none
  | fuel + 1, n_, b, i =>
    bif decide (i ≥ (0 : Int)) then
      obind (fB22.go N N i n_ (0 : Int)) fun (k, _) =>
        bif room (b.length + 1) 1 then
          fA11.go N fuel n_ (b ++ ([Hay.u8 (IntKind.u8.wrap (k.tmod (256 : Int)))] : List UInt8)) (IntKind.i64.wrap (i - (1 : Int)))
        else none
    else some (b, ())
namespace fA11
def g (N n : Nat) : Sh.den ins → Option (altsDen alts) := fun (a, b, c, _) => fA11.go N n a b c
def P (N : Nat) : Ps := ⟨ts, ins, asg, alts, g N N⟩
def lam (N : Nat) : Pcs := pcs [([true, false, false, true, false, true, false], (fB22.P N).pc (C N))]
theorem pok (N : Nat) : (lam N).Ok Tryz.prog (C N) code := pcsOk_cons (c1 := .loop fB22.code) (by kernel_rfl) (fB22.ok N) (pcsOk_nil)
theorem ok (N : Nat) : ((P N).pc (fA14.C N)).Ok Tryz.prog (fA14.C N) (.loop code) := okL (F := P N) (g N) (fA14.cok N) mix (pok N) (fun _ => rfl) rfl fun _ _ => by kernel_rfl
end fA11
noncomputable def fA14.run (N : Nat) (n_ : Int) (many : Int) : Option T6 :=
  obind (fA11.go N N n_ ([] : List UInt8) (IntKind.i64.wrap (many - (1 : Int)))) fun (b, _) =>
    some (b, ())
namespace fA14
def fn (N : Nat) : Sh.den ins → Option (Sh.den outs) := fun (a, b, _) => fA14.run N a b
def S (N : Nat) : Fs := ⟨ins, outs, fn N⟩
def lam (N : Nat) : Pcs := pcs [([true, true, false, true, false], (fA11.P N).pc (C N))]
theorem pok (N : Nat) : (lam N).Ok Tryz.prog (C N) code := pcsOk_cons (c1 := .loop fA11.code) (by kernel_rfl) (fA11.ok N) (pcsOk_nil)
theorem ok (N : Nat) : (S N).con.Ok Tryz.prog 107 := okF (F := S N) [] Tryz.func107 (by kernel_rfl) (by rfl) mix (cok N) (pok N) fun _ => by kernel_rfl
end fA14
namespace fB24
def ins : Sh := (.cons (.val (.int .u64)) .nil)
def C (N : Nat) : Ctx := ⟨U, 23, fun _ => true, gam [(107, (fA14.S N).con)], gamY []⟩
theorem cok (N : Nat) : (C N).Ok Tryz.prog := ⟨U_ok, GamOk.cons (fA14.ok N) (GamOk.nil), GamYOk.nil⟩
def code : Code := Tryz.f86.body.getD .skip
def outs : Sh := (.cons (.own 5 .byte) .nil)
end fB24
namespace fD45
def ins : Sh := (.cons (.val (.int .u64)) s60)
def ts : List Tmp := [0, 3, 4]
def asg : List Tmp := [3, 4, 11, 12]
def C (N : Nat) : Ctx := { fB24.C N with may := fun t => asg.any (Nat.beq t) }
def code : Code := (sub fB24.code [true, true, true, true, false]).getD .skip
theorem cok (N : Nat) : (C N).Ok Tryz.prog := okC (fB24.cok N) _
def alts : List Alt := [⟨.normal, [3, 4], s60⟩]
end fD45
noncomputable def fD45.run (N : Nat) (n_ : Int) (first : UInt8) (many : Int) : Option (T43) :=
  bif decide (n_ ≥ (65536 : Int)) then
    some ((254 : UInt8), (4 : Int), ())
  else some (Hay.u8 (first.toNat : Int), many, ())
namespace fD45
def fn (N : Nat) : Sh.den ins → Option (altsDen alts) := fun (a, b, c, _) => fD45.run N a b c
def P (N : Nat) : Ps := ⟨ts, ins, asg, alts, fn N⟩
def lam (N : Nat) : Pcs := pcs []
theorem pok (N : Nat) : (lam N).Ok Tryz.prog (C N) code := pcsOk_nil
theorem ok (N : Nat) : ((P N).pc (fB24.C N)).Ok Tryz.prog (fB24.C N) code := okP (F := P N) (fB24.cok N) mix (pok N) fun _ => by kernel_rfl
end fD45
noncomputable def fB24.run (N : Nat) (n_ : Int) : Option T6 :=
  bif decide (n_ < (253 : Int)) then
    some (([Hay.u8 (IntKind.u8.wrap n_)] : List UInt8), ())
  else
    obind (fD45.run N n_ (253 : UInt8) (2 : Int)) fun (first, many, _) =>
      bif decide (n_ ≥ (4294967296 : Int)) then
        obind (fA14.run N n_ (8 : Int)) fun (l, _) =>
          bif room (1 + l.length) 1 then
            some ((255 : UInt8) :: l, ())
          else none
      else
        obind (fA14.run N n_ many) fun (l1, _) =>
          bif room (1 + l1.length) 1 then
            some (Hay.u8 (first.toNat : Int) :: l1, ())
          else none
namespace fB24
def fn (N : Nat) : Sh.den ins → Option (Sh.den outs) := fun (a, _) => fB24.run N a
def S (N : Nat) : Fs := ⟨ins, outs, fn N⟩
def lam (N : Nat) : Pcs := pcs [([true, true, true, true, false], (fD45.P N).pc (C N))]
theorem pok (N : Nat) : (lam N).Ok Tryz.prog (C N) code := pcsOk_cons (c1 := fD45.code) (by kernel_rfl) (fD45.ok N) (pcsOk_nil)
theorem ok (N : Nat) : (S N).con.Ok Tryz.prog 86 := okF (F := S N) [] Tryz.func86 (by kernel_rfl) (by rfl) mix (cok N) (pok N) fun _ => by kernel_rfl
end fB24
namespace fC7
def ins : Sh := (.cons (.val (.pair (.slice .byte) (.pair (.int .i64) (.int .i64)))) (.cons (.val (.int .u64)) (.cons (.val .bool) .nil)))
def C (N : Nat) : Ctx := ⟨U, 63, fun _ => true, gam [(115, (fB44.S N).con), (86, (fB24.S N).con)], gamY []⟩
theorem cok (N : Nat) : (C N).Ok Tryz.prog := ⟨U_ok, GamOk.cons (fB44.ok N) (GamOk.cons (fB24.ok N) (GamOk.nil)), GamYOk.nil⟩
def code : Code := Tryz.f101.body.getD .skip
def outs : Sh := s59
end fC7
namespace fD42
def ins : Sh := s61
def ts : List Tmp := [8, 9]
def asg : List Tmp := [18, 19, 20, 21, 22, 23, 24]
def C (N : Nat) : Ctx := { fC7.C N with may := fun t => asg.any (Nat.beq t) }
def code : Code := (sub fC7.code [true, true, true, false, false]).getD .skip
theorem cok (N : Nat) : (C N).Ok Tryz.prog := okC (fC7.cok N) _
def alts : List Alt := [⟨.normal, [24], (.cons (.val .bool) .nil)⟩]
end fD42
noncomputable def fD42.run (N : Nat) (b : (List UInt8)) (jO_ : Int) (e : Int) (c : Int) : Option ((Bool × Unit)) :=
  bif decide (e = (0 : Int)) then
    some (decide (c ≥ (253 : Int)), ())
  else some (false, ())
namespace fD42
def fn (N : Nat) : Sh.den ins → Option (altsDen alts) := fun ((a, b, c, _), d, _) => fD42.run N a b c d
def P (N : Nat) : Ps := ⟨ts, ins, asg, alts, fn N⟩
def lam (N : Nat) : Pcs := pcs []
theorem pok (N : Nat) : (lam N).Ok Tryz.prog (C N) code := pcsOk_nil
theorem ok (N : Nat) : ((P N).pc (fC7.C N)).Ok Tryz.prog (fC7.C N) code := okP (F := P N) (fC7.cok N) mix (pok N) fun _ => by kernel_rfl
end fD42
namespace fC15
def ins : Sh := (.cons s62 s40)
def ts : List Tmp := [8, 9, 10]
def asg : List Tmp := [10, 11, 18, 19, 20, 21, 22, 23, 24, 25, 26, 27, 28, 29, 30, 31, 32, 33, 34]
def C (N : Nat) : Ctx := { fC7.C N with may := fun t => asg.any (Nat.beq t) }
def code : Code := (sub fC7.code [true, true, true, false]).getD .skip
theorem cok (N : Nat) : (C N).Ok Tryz.prog := okC (fC7.cok N) _
def alts : List Alt := [⟨.normal, [10], (.cons (.upd 0 143 (.cons (.val (.slice .byte)) s13)) (.cons (.val (.int .u64)) .nil))⟩]
end fC15
namespace fA33
def ins : Sh := s61
def ts : List Tmp := [8, 9]
def asg : List Tmp := [18, 19, 20, 21, 22, 23, 24]
def C (N : Nat) : Ctx := { fC15.C N with may := fun t => asg.any (Nat.beq t) }
def code : Code := (sub fC15.code [false]).getD .skip
theorem cok (N : Nat) : (C N).Ok Tryz.prog := okC (fC15.cok N) _
def alts : List Alt := [⟨.normal, [24], (.cons (.val .bool) .nil)⟩]
end fA33
noncomputable def fA33.run (N : Nat) (b : (List UInt8)) (jO_ : Int) (e : Int) (c : Int) : Option ((Bool × Unit)) :=
  bif decide (e = (0 : Int)) then
    some (decide (c ≥ (253 : Int)), ())
  else some (false, ())
namespace fA33
def fn (N : Nat) : Sh.den ins → Option (altsDen alts) := fun ((a, b, c, _), d, _) => fA33.run N a b c d
def P (N : Nat) : Ps := ⟨ts, ins, asg, alts, fn N⟩
def lam (N : Nat) : Pcs := pcs []
theorem pok (N : Nat) : (lam N).Ok Tryz.prog (C N) code := pcsOk_nil
theorem ok (N : Nat) : ((P N).pc (fC15.C N)).Ok Tryz.prog (fC15.C N) code := okP (F := P N) (fC15.cok N) mix (pok N) fun _ => by kernel_rfl
end fA33
noncomputable def fC15.run (N : Nat) (b : (List UInt8)) (jO_ : Int) (e : Int) (c : Int) (n_ : Int) : Option (T44) :=
  obind (fA33.run N b jO_ e c) fun (t24, _) =>
    bif t24 then
      bif decide (c = (254 : Int)) then
        bif decide (c = (255 : Int)) then
          obind (fB44.run N (b, jO_, e) (8 : Int)) fun (v, n1, _) =>
            some ((v.1, v.2.1, v.2.2, ()), n1, ())
        else
          obind (fB44.run N (b, jO_, e) (4 : Int)) fun (v1, n2, _) =>
            some ((v1.1, v1.2.1, v1.2.2, ()), n2, ())
      else
        bif decide (c = (255 : Int)) then
          obind (fB44.run N (b, jO_, e) (8 : Int)) fun (v2, n3, _) =>
            some ((v2.1, v2.2.1, v2.2.2, ()), n3, ())
        else
          obind (fB44.run N (b, jO_, e) (2 : Int)) fun (v3, n4, _) =>
            some ((v3.1, v3.2.1, v3.2.2, ()), n4, ())
    else some ((b, jO_, e, ()), n_, ())
namespace fC15
def fn (N : Nat) : Sh.den ins → Option (altsDen alts) := fun ((a, b, c, _), d, e, _) => fC15.run N a b c d e
def P (N : Nat) : Ps := ⟨ts, ins, asg, alts, fn N⟩
def lam (N : Nat) : Pcs := pcs [([false], (fA33.P N).pc (C N))]
theorem pok (N : Nat) : (lam N).Ok Tryz.prog (C N) code := pcsOk_cons (c1 := fA33.code) (by kernel_rfl) (fA33.ok N) (pcsOk_nil)
theorem ok (N : Nat) : ((P N).pc (fC7.C N)).Ok Tryz.prog (fC7.C N) code := okP (F := P N) (fC7.cok N) mix (pok N) fun _ => by kernel_rfl
end fC15
noncomputable def fC7.run (N : Nat) (r : T40) (most : Int) (negative : Bool) : Option T42 :=
  obind (fB44.run N r (1 : Int)) fun (v, n_, _) =>
    obind (fC15.run N v.1 v.2.1 v.2.2 n_ n_) fun ((b, jO_, e, _), n5, _) =>
      bif !(decide (e = (0 : Int))) then
        some ((r.1, r.2.1, e), (0 : Int), ())
      else
        obind (fB24.run N n5) fun (l, _) =>
          bif !(decide ((l.length : Int) = (IntKind.i64.wrap (jO_ - r.2.1)))) then
            some ((r.1, r.2.1, (11 : Int)), (0 : Int), ())
          else
            bif negative then
              some ((r.1, r.2.1, (12 : Int)), (0 : Int), ())
            else
              bif decide (n5 > most) then
                some ((r.1, r.2.1, (12 : Int)), (0 : Int), ())
              else some ((b, jO_, e), n5, ())
namespace fC7
def fn (N : Nat) : Sh.den ins → Option (Sh.den outs) := fun (a, b, c, _) => fC7.run N a b c
def S (N : Nat) : Fs := ⟨ins, outs, fn N⟩
def lam (N : Nat) : Pcs := pcs [([true, true, true, false, false], (fD42.P N).pc (C N)), ([true, true, true, false], (fC15.P N).pc (C N))]
theorem pok (N : Nat) : (lam N).Ok Tryz.prog (C N) code := pcsOk_cons (c1 := fD42.code) (by kernel_rfl) (fD42.ok N) (pcsOk_cons (c1 := fC15.code) (by kernel_rfl) (fC15.ok N) (pcsOk_nil))
theorem ok (N : Nat) : (S N).con.Ok Tryz.prog 101 := okF (F := S N) [] Tryz.func101 (by kernel_rfl) (by rfl) mix (cok N) (pok N) fun _ => by kernel_rfl
end fC7
namespace fC41
def ins : Sh := s57
def C (N : Nat) : Ctx := ⟨U, 38, fun _ => true, gam [(101, (fC7.S N).con), (116, (fC44.S N).con)], gamY []⟩
theorem cok (N : Nat) : (C N).Ok Tryz.prog := ⟨U_ok, GamOk.cons (fC7.ok N) (GamOk.cons (fC44.ok N) (GamOk.nil)), GamYOk.nil⟩
def code : Code := Tryz.f102.body.getD .skip
def outs : Sh := s58
end fC41
noncomputable def fC41.run (N : Nat) (r : T40) (most : Int) : Option T41 :=
  obind (fC7.run N r (IntKind.u64.wrap most) (decide (most < (0 : Int)))) fun (v, n_, _) =>
    bif !(decide (v.2.2 = (0 : Int))) then
      some (v, ([] : List UInt8), ())
    else
      bif decide (n_ > (IntKind.u64.wrap (IntKind.i64.wrap ((v.1.length : Int) - v.2.1)))) then
        some ((r.1, r.2.1, (10 : Int)), ([] : List UInt8), ())
      else
        obind (fC44.run N v (IntKind.i64.wrap n_)) fun (v1, l, _) =>
          some (v1, l, ())
namespace fC41
def fn (N : Nat) : Sh.den ins → Option (Sh.den outs) := fun (a, b, _) => fC41.run N a b
def S (N : Nat) : Fs := ⟨ins, outs, fn N⟩
def lam (N : Nat) : Pcs := pcs []
theorem pok (N : Nat) : (lam N).Ok Tryz.prog (C N) code := pcsOk_nil
theorem ok (N : Nat) : (S N).con.Ok Tryz.prog 102 := okF (F := S N) [] Tryz.func102 (by kernel_rfl) (by rfl) mix (cok N) (pok N) fun _ => by kernel_rfl
end fC41
namespace fD44
def ins : Sh := (.cons (.val (.pair (.slice .byte) (.pair (.int .i64) (.int .i64)))) .nil)
def C (N : Nat) : Ctx := ⟨U, 16, fun _ => true, gam [], gamY []⟩
theorem cok (N : Nat) : (C N).Ok Tryz.prog := ⟨U_ok, GamOk.nil, GamYOk.nil⟩
def code : Code := Tryz.f103.body.getD .skip
def outs : Sh := (.cons (.val (.int .i64)) .nil)
end fD44
noncomputable def fD44.run (N : Nat) (r : T40) : Option (Int × Unit) :=
  bif decide (r.2.2 = (0 : Int)) then
    bif decide (r.2.1 < (r.1.length : Int)) then
      some ((13 : Int), ())
    else some (r.2.2, ())
  else some (r.2.2, ())
namespace fD44
def fn (N : Nat) : Sh.den ins → Option (Sh.den outs) := fun (a, _) => fD44.run N a
def S (N : Nat) : Fs := ⟨ins, outs, fn N⟩
def lam (N : Nat) : Pcs := pcs []
theorem pok (N : Nat) : (lam N).Ok Tryz.prog (C N) code := pcsOk_nil
theorem ok (N : Nat) : (S N).con.Ok Tryz.prog 103 := okF (F := S N) [] Tryz.func103 (by kernel_rfl) (by rfl) mix (cok N) (pok N) fun _ => by kernel_rfl
end fD44
namespace fB28
def ins : Sh := (.cons (.val (.slice .byte)) .nil)
def C (N : Nat) : Ctx := ⟨U, 40, fun _ => true, gam [(101, (fC7.S N).con), (102, (fC41.S N).con), (103, (fD44.S N).con)], gamY []⟩
theorem cok (N : Nat) : (C N).Ok Tryz.prog := ⟨U_ok, GamOk.cons (fC7.ok N) (GamOk.cons (fC41.ok N) (GamOk.cons (fD44.ok N) (GamOk.nil))), GamYOk.nil⟩
def code : Code := Tryz.f76.body.getD .skip
def outs : Sh := (.cons (.own 43 (.slice .byte)) (.cons (.val .bool) .nil))
end fB28
namespace fA27
def ins : Sh := (.cons s62 (.cons (.val (.int .u64)) (.cons (.own 43 (.slice .byte)) (.cons (.val (.int .u64)) .nil))))
def ts : List Tmp := [4, 5, 6, 7]
def asg : List Tmp := [6, 7, 8, 9, 16, 17, 18, 19, 20, 21, 22, 23, 24, 25, 26, 27, 28, 29, 30, 31, 32, 33, 34, 35]
def C (N : Nat) : Ctx := { fB28.C N with may := fun t => asg.any (Nat.beq t) }
def code : Code := loopBody (sub fB28.code [true, true, true, false, true, false])
theorem cok (N : Nat) : (C N).Ok Tryz.prog := okC (fB28.cok N) _
def alts : List Alt := [⟨(.exit 0), [6], (.cons (.upd 0 143 (.cons (.val (.slice .byte)) s13)) (.cons (.own 43 (.slice .byte)) .nil))⟩]
end fA27
noncomputable def fA27.go (N : Nat) : Nat → (List UInt8) → Int → Int → Int → T12 → Int → Option (T45)
  | 0, _, _, _, _, _, _ => none
  | fuel + 1, b, jO_, e, n_, l, i =>
    bif decide (i < n_) then
      bif decide (e = (0 : Int)) then
        obind (fC41.run N (b, jO_, e) (16777216 : Int)) fun (v, l1, _) =>
          bif room (l.length + 1) 24 then
            fA27.go N fuel v.1 v.2.1 v.2.2 n_ (l ++ ([l1] : List (List UInt8))) (IntKind.u64.wrap (i + (1 : Int)))
          else none
      else some ((b, jO_, e, ()), l, ())
    else some ((b, jO_, e, ()), l, ())
namespace fA27
def g (N n : Nat) : Sh.den ins → Option (altsDen alts) := fun ((a, b, c, _), d, e, f, _) => fA27.go N n a b c d e f
def P (N : Nat) : Ps := ⟨ts, ins, asg, alts, g N N⟩
def lam (N : Nat) : Pcs := pcs []
theorem pok (N : Nat) : (lam N).Ok Tryz.prog (C N) code := pcsOk_nil
theorem ok (N : Nat) : ((P N).pc (fB28.C N)).Ok Tryz.prog (fB28.C N) (.loop code) := okL (F := P N) (g N) (fB28.cok N) mix (pok N) (fun _ => rfl) rfl fun _ _ => by kernel_rfl
end fA27
noncomputable def fB28.run (N : Nat) (b : (List UInt8)) : Option T46 :=
  obind (fC7.run N (b, (0 : Int), (0 : Int)) (16777216 : Int) false) fun (v, n_, _) =>
    obind (fA27.go N N v.1 v.2.1 v.2.2 n_ ([] : List (List UInt8)) (0 : Int)) fun ((b1, jO_, e, _), l, _) =>
      obind (fD44.run N (b1, jO_, e)) fun (n1, _) =>
        some (l, decide (n1 = (0 : Int)), ())
namespace fB28
def fn (N : Nat) : Sh.den ins → Option (Sh.den outs) := fun (a, _) => fB28.run N a
def S (N : Nat) : Fs := ⟨ins, outs, fn N⟩
def lam (N : Nat) : Pcs := pcs [([true, true, true, false, true, false], (fA27.P N).pc (C N))]
theorem pok (N : Nat) : (lam N).Ok Tryz.prog (C N) code := pcsOk_cons (c1 := .loop fA27.code) (by kernel_rfl) (fA27.ok N) (pcsOk_nil)
theorem ok (N : Nat) : (S N).con.Ok Tryz.prog 76 := okF (F := S N) [] Tryz.func76 (by kernel_rfl) (by rfl) mix (cok N) (pok N) fun _ => by kernel_rfl
end fB28
namespace fB37
def ins : Sh := (.cons (.val (.slice .byte)) .nil)
def C (N : Nat) : Ctx := ⟨U, 47, fun _ => true, gam [(75, (fB42.S N).con), (76, (fB28.S N).con)], gamY []⟩
theorem cok (N : Nat) : (C N).Ok Tryz.prog := ⟨U_ok, GamOk.cons (fB42.ok N) (GamOk.cons (fB28.ok N) (GamOk.nil)), GamYOk.nil⟩
def code : Code := Tryz.f46.body.getD .skip
def outs : Sh := (.cons (.own 43 (.slice .byte)) s13)
end fB37
namespace fD33
def ins : Sh := (.cons (.val (.slice .byte)) s16)
def ts : List Tmp := [0, 5, 6]
def asg : List Tmp := [2, 3, 4, 5, 6, 7, 8, 9, 10, 11, 12, 13, 14, 15, 16, 17, 18, 19, 20, 21, 22, 23, 24, 25, 26, 27, 28, 29, 30, 31, 32, 33, 34, 35, 36, 37, 38, 39, 40, 41, 42, 43, 44]
def C (N : Nat) : Ctx := { fB37.C N with may := fun t => asg.any (Nat.beq t) }
def code : Code := loopBody (sub fB37.code [true, true, true, false, false])
theorem cok (N : Nat) : (C N).Ok Tryz.prog := okC (fB37.cok N) _
def alts : List Alt := [⟨.ret, [2, 3, 4], (.cons (.own 43 (.slice .byte)) s13)⟩, ⟨(.exit 0), [5, 6], s16⟩]
end fD33
noncomputable def fD33.go (N : Nat) : Nat → (List UInt8) → T12 → Int → Option (T31 ⊕ T32)
  | 0, _, _, _ => none
  | fuel + 1, b, l, jO_ =>
    bif decide (jO_ < (b.length : Int)) then
      bif okB jO_ (b.length : Int) b.length then
        obind (fB42.run N (b.drop jO_.toNat)) fun (l1, n_, n1, _) =>
          bif decide (n1 = (10 : Int)) then
            some (.inl (l, jO_, (0 : Int), ()))
          else
            obind (fB28.run N l1) fun (l2, b1, _) =>
              bif !(decide (n1 = (0 : Int))) then
                some (.inl (([] : List (List UInt8)), (0 : Int), (91 : Int), ()))
              else
                bif !b1 then
                  some (.inl (([] : List (List UInt8)), (0 : Int), (91 : Int), ()))
                else
                  bif room (l.length + l2.length) 24 then
                    fD33.go N fuel b (l ++ l2) (IntKind.i64.wrap (jO_ + n_))
                  else none
      else none
    else some (.inr (l, jO_, ()))
namespace fD33
def g (N n : Nat) : Sh.den ins → Option (altsDen alts) := fun (a, b, c, _) => fD33.go N n a b c
def P (N : Nat) : Ps := ⟨ts, ins, asg, alts, g N N⟩
def lam (N : Nat) : Pcs := pcs []
theorem pok (N : Nat) : (lam N).Ok Tryz.prog (C N) code := pcsOk_nil
theorem ok (N : Nat) : ((P N).pc (fB37.C N)).Ok Tryz.prog (fB37.C N) (.loop code) := okL (F := P N) (g N) (fB37.cok N) mix (pok N) (fun _ => rfl) rfl fun _ _ => by kernel_rfl
end fD33
noncomputable def fB37.run (N : Nat) (b : (List UInt8)) : Option T31 :=
  obind (fD33.go N N b ([] : List (List UInt8)) (0 : Int)) fun y => match y with
  | .inl (t2, t3, t4, _) =>
      some (t2, t3, t4, ())
  | .inr (l, jO_, _) =>
      some (l, jO_, (0 : Int), ())
namespace fB37
def fn (N : Nat) : Sh.den ins → Option (Sh.den outs) := fun (a, _) => fB37.run N a
def S (N : Nat) : Fs := ⟨ins, outs, fn N⟩
def lam (N : Nat) : Pcs := pcs [([true, true, true, false, false], (fD33.P N).pc (C N))]
theorem pok (N : Nat) : (lam N).Ok Tryz.prog (C N) code := pcsOk_cons (c1 := .loop fD33.code) (by kernel_rfl) (fD33.ok N) (pcsOk_nil)
theorem ok (N : Nat) : (S N).con.Ok Tryz.prog 46 := okF (F := S N) [] Tryz.func46 (by kernel_rfl) (by rfl) mix (cok N) (pok N) fun _ => by kernel_rfl
end fB37
namespace fD24
def ins : Sh := (.cons (.val .str) .nil)
def C (N : Nat) : Ctx := ⟨U, 28, fun _ => true, gam [], gamY []⟩
theorem cok (N : Nat) : (C N).Ok Tryz.prog := ⟨U_ok, GamOk.nil, GamYOk.nil⟩
def code : Code := Tryz.f81.body.getD .skip
def outs : Sh := (.cons (.val .bool) .nil)
end fD24
namespace fB39
def ins : Sh := s48
def ts : List Tmp := [0, 3]
def asg : List Tmp := [2, 3, 4, 5, 6, 7, 8, 9, 10, 11, 12, 13, 14, 15, 16, 17, 18, 19]
def C (N : Nat) : Ctx := { fD24.C N with may := fun t => asg.any (Nat.beq t) }
def code : Code := loopBody (sub fD24.code [true, false, true, false])
theorem cok (N : Nat) : (C N).Ok Tryz.prog := okC (fD24.cok N) _
def alts : List Alt := [⟨.ret, [2], (.cons (.val .bool) .nil)⟩, ⟨(.exit 0), [], .nil⟩]
end fB39
noncomputable def fB39.go (N : Nat) : Nat → (List UInt8) → Int → Option T11
  | 0, _, _ => none
  | fuel + 1, s, i =>
    bif decide (i < (s.length : Int)) then
      bif inB i s.length then
        bif decide (((s.getD i.toNat (0 : UInt8)).toNat : Int) < (33 : Int)) then
          some (.inl (false, ()))
        else
          bif inB i s.length then
            bif decide (((s.getD i.toNat (0 : UInt8)).toNat : Int) > (126 : Int)) then
              some (.inl (false, ()))
            else fB39.go N fuel s (IntKind.i64.wrap (i + (1 : Int)))
          else none
      else none
    else some (.inr ())
namespace fB39
def g (N n : Nat) : Sh.den ins → Option (altsDen alts) := fun (a, b, _) => fB39.go N n a b
def P (N : Nat) : Ps := ⟨ts, ins, asg, alts, g N N⟩
def lam (N : Nat) : Pcs := pcs []
theorem pok (N : Nat) : (lam N).Ok Tryz.prog (C N) code := pcsOk_nil
theorem ok (N : Nat) : ((P N).pc (fD24.C N)).Ok Tryz.prog (fD24.C N) (.loop code) := okL (F := P N) (g N) (fD24.cok N) mix (pok N) (fun _ => rfl) rfl fun _ _ => by kernel_rfl
end fB39
noncomputable def fD24.run (N : Nat) (s : (List UInt8)) : Option (Bool × Unit) :=
  obind (fB39.go N N s (0 : Int)) fun y => match y with
  | .inl (t2, _) =>
      some (t2, ())
  | .inr (_) =>
      bif decide ((s.length : Int) ≥ (1 : Int)) then
        some (decide ((s.length : Int) ≤ (32 : Int)), ())
      else some (false, ())
namespace fD24
def fn (N : Nat) : Sh.den ins → Option (Sh.den outs) := fun (a, _) => fD24.run N a
def S (N : Nat) : Fs := ⟨ins, outs, fn N⟩
def lam (N : Nat) : Pcs := pcs [([true, false, true, false], (fB39.P N).pc (C N))]
theorem pok (N : Nat) : (lam N).Ok Tryz.prog (C N) code := pcsOk_cons (c1 := .loop fB39.code) (by kernel_rfl) (fB39.ok N) (pcsOk_nil)
theorem ok (N : Nat) : (S N).con.Ok Tryz.prog 81 := okF (F := S N) [] Tryz.func81 (by kernel_rfl) (by rfl) mix (cok N) (pok N) fun _ => by kernel_rfl
end fD24
namespace fB18
def ins : Sh := s63
def C (N : Nat) : Ctx := ⟨U, 47, fun _ => true, gam [(45, (ref_At.S N).con), (81, (fD24.S N).con)], gamY []⟩
theorem cok (N : Nat) : (C N).Ok Tryz.prog := ⟨U_ok, GamOk.cons (ref_At.ok N) (GamOk.cons (fD24.ok N) (GamOk.nil)), GamYOk.nil⟩
def code : Code := Tryz.f77.body.getD .skip
def outs : Sh := (.cons (.val (.int .i64)) .nil)
end fB18
namespace fD25
def ins : Sh := (.cons (.val (.int .i64)) (.cons (.val (.int .i64)) s56))
def ts : List Tmp := [1, 4, 5, 11]
def asg : List Tmp := [21, 22, 23, 24, 25, 26, 27, 28, 29, 30, 31, 32, 33, 34, 35, 36, 37, 38]
def C (N : Nat) : Ctx := { fB18.C N with may := fun t => asg.any (Nat.beq t) }
def code : Code := (sub fB18.code [true, true, false, false, true, true, true, true, false]).getD .skip
theorem cok (N : Nat) : (C N).Ok Tryz.prog := okC (fB18.cok N) _
def alts : List Alt := [⟨.normal, [21], (.cons (.val .bool) .nil)⟩]
end fD25
noncomputable def fD25.run (N : Nat) (call : Int) (n_ : Int) (room_ : Int) (steps : Int) (files : (List T1)) (armed : Bool) (dead : Bool) (left : Int) (k : Int) : Option ((Bool × Unit)) :=
  bif decide (call = (2 : Int)) then
    bif decide (n_ < (0 : Int)) then
      some (true, ())
    else
      bif inB k files.length then
        some (decide (n_ > ((files.getD k.toNat (([] : List UInt8), ([] : List UInt8), (0 : Int))).2.1.length : Int)), ())
      else none
  else some (false, ())
namespace fD25
def fn (N : Nat) : Sh.den ins → Option (altsDen alts) := fun (a, b, (c, d, e, f, g, h, _), i, _) => fD25.run N a b c d e f g h i
def P (N : Nat) : Ps := ⟨ts, ins, asg, alts, fn N⟩
def lam (N : Nat) : Pcs := pcs []
theorem pok (N : Nat) : (lam N).Ok Tryz.prog (C N) code := pcsOk_nil
theorem ok (N : Nat) : ((P N).pc (fB18.C N)).Ok Tryz.prog (fB18.C N) code := okP (F := P N) (fB18.cok N) mix (pok N) fun _ => by kernel_rfl
end fD25
noncomputable def fB18.run (N : Nat) (d : T5) (call : Int) (name : (List UInt8)) (jC_ : (List UInt8)) (n_ : Int) : Option (Int × Unit) :=
  obind (ref_At.run N d name) fun (n1, _) =>
    bif d.2.2.2.2.1 then
      some ((44 : Int), ())
    else
      bif decide (n1 < (0 : Int)) then
        some ((42 : Int), ())
      else
        obind (fD25.run N call n_ d.1 d.2.1 d.2.2.1 d.2.2.2.1 d.2.2.2.2.1 d.2.2.2.2.2 n1) fun (t21, _) =>
          bif t21 then
            some ((43 : Int), ())
          else
            bif decide (call = (3 : Int)) then
              obind (fD24.run N jC_) fun (b, _) =>
                bif !b then
                  some ((40 : Int), ())
                else some ((0 : Int), ())
            else some ((0 : Int), ())
namespace fB18
def fn (N : Nat) : Sh.den ins → Option (Sh.den outs) := fun (a, b, c, d, e, _) => fB18.run N a b c d e
def S (N : Nat) : Fs := ⟨ins, outs, fn N⟩
def lam (N : Nat) : Pcs := pcs [([true, true, false, false, true, true, true, true, false], (fD25.P N).pc (C N))]
theorem pok (N : Nat) : (lam N).Ok Tryz.prog (C N) code := pcsOk_cons (c1 := fD25.code) (by kernel_rfl) (fD25.ok N) (pcsOk_nil)
theorem ok (N : Nat) : (S N).con.Ok Tryz.prog 77 := okF (F := S N) [] Tryz.func77 (by kernel_rfl) (by rfl) mix (cok N) (pok N) fun _ => by kernel_rfl
end fB18
namespace fB41
def ins : Sh := s2
def C (N : Nat) : Ctx := ⟨U, 22, fun _ => true, gam [], gamY []⟩
theorem cok (N : Nat) : (C N).Ok Tryz.prog := ⟨U_ok, GamOk.nil, GamYOk.nil⟩
def code : Code := Tryz.f78.body.getD .skip
def outs : Sh := (.cons (.val (.pair (.int .i64) (.pair (.int .i64) (.pair (.slice (.pair .str (.pair (.slice .byte) (.int .i64)))) (.pair .bool (.pair .bool (.int .i64))))))) (.cons (.val .bool) .nil))
end fB41
noncomputable def fB41.run (N : Nat) (d : T5) : Option T47 :=
  bif d.2.2.2.1 then
    bif decide (d.2.2.2.2.2 = (0 : Int)) then
      some ((d.1, IntKind.i64.wrap (d.2.1 + (1 : Int)), d.2.2.1, d.2.2.2.1, true, d.2.2.2.2.2), true, ())
    else some ((d.1, IntKind.i64.wrap (d.2.1 + (1 : Int)), d.2.2.1, d.2.2.2.1, d.2.2.2.2.1, IntKind.i64.wrap (d.2.2.2.2.2 - (1 : Int))), false, ())
  else some ((d.1, IntKind.i64.wrap (d.2.1 + (1 : Int)), d.2.2.1, d.2.2.2.1, d.2.2.2.2.1, IntKind.i64.wrap (d.2.2.2.2.2 - (1 : Int))), false, ())
namespace fB41
def fn (N : Nat) : Sh.den ins → Option (Sh.den outs) := fun (a, _) => fB41.run N a
def S (N : Nat) : Fs := ⟨ins, outs, fn N⟩
def lam (N : Nat) : Pcs := pcs []
theorem pok (N : Nat) : (lam N).Ok Tryz.prog (C N) code := pcsOk_nil
theorem ok (N : Nat) : (S N).con.Ok Tryz.prog 78 := okF (F := S N) [] Tryz.func78 (by kernel_rfl) (by rfl) mix (cok N) (pok N) fun _ => by kernel_rfl
end fB41
namespace fC20
def ins : Sh := (.cons (.val (.pair (.int .i64) (.pair (.int .i64) (.pair (.slice (.pair .str (.pair (.slice .byte) (.int .i64)))) (.pair .bool (.pair .bool (.int .i64))))))) (.cons (.val (.pair .str (.pair (.slice .byte) (.int .i64)))) .nil))
def C (N : Nat) : Ctx := ⟨U, 52, fun _ => true, gam [], gamY []⟩
theorem cok (N : Nat) : (C N).Ok Tryz.prog := ⟨U_ok, GamOk.nil, GamYOk.nil⟩
def code : Code := Tryz.f79.body.getD .skip
def outs : Sh := s2
end fC20
namespace fD17
def ins : Sh := (.cons (.rbox 28 s55) (.cons (.rbox 83 (.cons (.val .str) s35)) (.cons (.own 83 (.pair .str (.pair (.slice .byte) (.int .i64)))) s54)))
def ts : List Tmp := [2, 3, 5, 6, 7]
def asg : List Tmp := [5, 6, 7, 8, 9, 10, 11, 12, 13, 14, 15, 16, 17, 18, 19, 20, 21, 22, 23, 24, 25, 26, 27, 28, 29, 30, 31, 32, 33, 34, 35, 36, 37, 38, 39, 40, 41, 42]
def C (N : Nat) : Ctx := { fC20.C N with may := fun t => asg.any (Nat.beq t) }
def code : Code := loopBody (sub fC20.code [true, true, true, false, true, false])
theorem cok (N : Nat) : (C N).Ok Tryz.prog := okC (fC20.cok N) _
def alts : List Alt := [⟨(.exit 0), [5, 6], s64⟩]
end fD17
namespace fC31
def ins : Sh := (.cons (.rbox 83 (.cons (.val .str) s35)) (.cons (.own 83 (.pair .str (.pair (.slice .byte) (.int .i64)))) (.cons (.val .bool) (.cons (.rbox 83 (.cons (.val .str) s35)) .nil))))
def ts : List Tmp := [3, 5, 6, 8]
def asg : List Tmp := [5, 6, 21, 22, 23, 24, 25, 26, 27, 28, 29, 30, 31, 32, 33]
def C (N : Nat) : Ctx := { fD17.C N with may := fun t => asg.any (Nat.beq t) }
def code : Code := (sub fD17.code [true, false, false, true, false]).getD .skip
theorem cok (N : Nat) : (C N).Ok Tryz.prog := okC (fD17.cok N) _
def alts : List Alt := [⟨.normal, [5, 6], s64⟩]
end fC31
noncomputable def fC31.run (N : Nat) (name : (List UInt8)) (bytes : (List UInt8)) (last : Int) (l : (List T1)) (done : Bool) (name1 : (List UInt8)) (bytes1 : (List UInt8)) (last1 : Int) : Option (T48) :=
  bif !done then
    bif (Go.Op.bytesLess name name1) || (decide (name = name1)) then
      bif room (l.length + 1) 48 then
        some (l ++ ([(name, bytes, last)] : List T1), true, ())
      else none
    else some (l, done, ())
  else some (l, done, ())
namespace fC31
def fn (N : Nat) : Sh.den ins → Option (altsDen alts) := fun ((a, b, c, _), d, e, (f, g, h, _), _) => fC31.run N a b c d e f g h
def P (N : Nat) : Ps := ⟨ts, ins, asg, alts, fn N⟩
def lam (N : Nat) : Pcs := pcs []
theorem pok (N : Nat) : (lam N).Ok Tryz.prog (C N) code := pcsOk_nil
theorem ok (N : Nat) : ((P N).pc (fD17.C N)).Ok Tryz.prog (fD17.C N) code := okP (F := P N) (fD17.cok N) mix (pok N) fun _ => by kernel_rfl
end fC31
noncomputable def fD17.go (N : Nat) : Nat → Int → Int → (List T1) → Bool → Bool → Int → (List UInt8) → (List UInt8) → Int → (List T1) → Bool → Int → Option (T48)
  | 0, _, _, _, _, _, _, _, _, _, _, _, _ => none
  | fuel + 1, room_, steps, files, armed, dead, left, name, bytes, last, l, done, i =>
    bif decide (i < (files.length : Int)) then
      bif inB i files.length then
        obind (fC31.run N name bytes last l done (files.getD i.toNat (([] : List UInt8), ([] : List UInt8), (0 : Int))).1 (files.getD i.toNat (([] : List UInt8), ([] : List UInt8), (0 : Int))).2.1 (files.getD i.toNat (([] : List UInt8), ([] : List UInt8), (0 : Int))).2.2) fun (l1, done1, _) =>
          bif !(decide ((files.getD i.toNat (([] : List UInt8), ([] : List UInt8), (0 : Int))).1 = name)) then
            bif room (l1.length + 1) 48 then
              fD17.go N fuel room_ steps files armed dead left name bytes last (l1 ++ ([files.getD i.toNat (([] : List UInt8), ([] : List UInt8), (0 : Int))] : List T1)) done1 (IntKind.i64.wrap (i + (1 : Int)))
            else none
          else fD17.go N fuel room_ steps files armed dead left name bytes last l1 done1 (IntKind.i64.wrap (i + (1 : Int)))
      else none
    else some (l, done, ())
namespace fD17
def g (N n : Nat) : Sh.den ins → Option (altsDen alts) := fun ((a, b, c, d, e, f, _), (g, h, i, _), j, k, l, _) => fD17.go N n a b c d e f g h i j k l
def P (N : Nat) : Ps := ⟨ts, ins, asg, alts, g N N⟩
def lam (N : Nat) : Pcs := pcs [([true, false, false, true, false], (fC31.P N).pc (C N))]
theorem pok (N : Nat) : (lam N).Ok Tryz.prog (C N) code := pcsOk_cons (c1 := fC31.code) (by kernel_rfl) (fC31.ok N) (pcsOk_nil)
theorem ok (N : Nat) : ((P N).pc (fC20.C N)).Ok Tryz.prog (fC20.C N) (.loop code) := okL (F := P N) (g N) (fC20.cok N) mix (pok N) (fun _ => rfl) rfl fun _ _ => by kernel_rfl
end fD17
noncomputable def fC20.run (N : Nat) (d : T5) (f : T1) : Option (T5 × Unit) :=
  obind (fD17.go N N d.1 d.2.1 d.2.2.1 d.2.2.2.1 d.2.2.2.2.1 d.2.2.2.2.2 f.1 f.2.1 f.2.2 ([] : List T1) false (0 : Int)) fun (l, done, _) =>
    bif !done then
      bif room (l.length + 1) 48 then
        some ((d.1, d.2.1, l ++ ([f] : List T1), d.2.2.2), ())
      else none
    else some ((d.1, d.2.1, l, d.2.2.2), ())
namespace fC20
def fn (N : Nat) : Sh.den ins → Option (Sh.den outs) := fun (a, b, _) => fC20.run N a b
def S (N : Nat) : Fs := ⟨ins, outs, fn N⟩
def lam (N : Nat) : Pcs := pcs [([true, true, true, false, true, false], (fD17.P N).pc (C N))]
theorem pok (N : Nat) : (lam N).Ok Tryz.prog (C N) code := pcsOk_cons (c1 := .loop fD17.code) (by kernel_rfl) (fD17.ok N) (pcsOk_nil)
theorem ok (N : Nat) : (S N).con.Ok Tryz.prog 79 := okF (F := S N) [] Tryz.func79 (by kernel_rfl) (by rfl) mix (cok N) (pok N) fun _ => by kernel_rfl
end fC20
namespace fC19
def ins : Sh := (.cons (.val (.slice .byte)) (.cons (.rown 5 .byte) .nil))
def C (N : Nat) : Ctx := ⟨U, 13, fun _ => true, gam [], gamY []⟩
theorem cok (N : Nat) : (C N).Ok Tryz.prog := ⟨U_ok, GamOk.nil, GamYOk.nil⟩
def code : Code := Tryz.f51.body.getD .skip
def outs : Sh := (.cons (.own 5 .byte) .nil)
end fC19
noncomputable def fC19.run (N : Nat) (a : (List UInt8)) (b : (List UInt8)) : Option T6 :=
  bif room a.length 1 then
    bif room (a.length + b.length) 1 then
      some (a ++ b, ())
    else none
  else none
namespace fC19
def fn (N : Nat) : Sh.den ins → Option (Sh.den outs) := fun (a, b, _) => fC19.run N a b
def S (N : Nat) : Fs := ⟨ins, outs, fn N⟩
def lam (N : Nat) : Pcs := pcs []
theorem pok (N : Nat) : (lam N).Ok Tryz.prog (C N) code := pcsOk_nil
theorem ok (N : Nat) : (S N).con.Ok Tryz.prog 51 := okF (F := S N) [] Tryz.func51 (by kernel_rfl) (by rfl) mix (cok N) (pok N) fun _ => by kernel_rfl
end fC19
namespace fB16
def ins : Sh := s53
def C (N : Nat) : Ctx := ⟨U, 33, fun _ => true, gam [], gamY []⟩
theorem cok (N : Nat) : (C N).Ok Tryz.prog := ⟨U_ok, GamOk.nil, GamYOk.nil⟩
def code : Code := Tryz.f80.body.getD .skip
def outs : Sh := s2
end fB16
namespace fD21
def ins : Sh := (.cons (.val .str) (.cons (.rbox 28 s55) (.cons (.own 83 (.pair .str (.pair (.slice .byte) (.int .i64)))) (.cons (.val (.int .i64)) .nil))))
def ts : List Tmp := [1, 2, 5, 6]
def asg : List Tmp := [5, 6, 7, 8, 9, 10, 11, 12, 13, 14, 15, 16, 17, 18, 19, 20, 21, 22, 23, 24, 25, 26, 27, 28, 29]
def C (N : Nat) : Ctx := { fB16.C N with may := fun t => asg.any (Nat.beq t) }
def code : Code := loopBody (sub fB16.code [true, true, false, true, false])
theorem cok (N : Nat) : (C N).Ok Tryz.prog := okC (fB16.cok N) _
def alts : List Alt := [⟨(.exit 0), [5], (.cons (.own 83 (.pair .str (.pair (.slice .byte) (.int .i64)))) .nil)⟩]
end fD21
noncomputable def fD21.go (N : Nat) : Nat → (List UInt8) → Int → Int → (List T1) → Bool → Bool → Int → (List T1) → Int → Option (T49)
  | 0, _, _, _, _, _, _, _, _, _ => none
  | fuel + 1, name, room_, steps, files, armed, dead, left, l, i =>
    bif decide (i < (files.length : Int)) then
      bif inB i files.length then
        bif !(decide ((files.getD i.toNat (([] : List UInt8), ([] : List UInt8), (0 : Int))).1 = name)) then
          bif inB i files.length then
            bif room (l.length + 1) 48 then
              fD21.go N fuel name room_ steps files armed dead left (l ++ ([files.getD i.toNat (([] : List UInt8), ([] : List UInt8), (0 : Int))] : List T1)) (IntKind.i64.wrap (i + (1 : Int)))
            else none
          else none
        else fD21.go N fuel name room_ steps files armed dead left l (IntKind.i64.wrap (i + (1 : Int)))
      else none
    else some (l, ())
namespace fD21
def g (N n : Nat) : Sh.den ins → Option (altsDen alts) := fun (a, (b, c, d, e, f, g, _), h, i, _) => fD21.go N n a b c d e f g h i
def P (N : Nat) : Ps := ⟨ts, ins, asg, alts, g N N⟩
def lam (N : Nat) : Pcs := pcs []
theorem pok (N : Nat) : (lam N).Ok Tryz.prog (C N) code := pcsOk_nil
theorem ok (N : Nat) : ((P N).pc (fB16.C N)).Ok Tryz.prog (fB16.C N) (.loop code) := okL (F := P N) (g N) (fB16.cok N) mix (pok N) (fun _ => rfl) rfl fun _ _ => by kernel_rfl
end fD21
noncomputable def fB16.run (N : Nat) (d : T5) (name : (List UInt8)) : Option (T5 × Unit) :=
  obind (fD21.go N N name d.1 d.2.1 d.2.2.1 d.2.2.2.1 d.2.2.2.2.1 d.2.2.2.2.2 ([] : List T1) (0 : Int)) fun (l, _) =>
    some ((d.1, d.2.1, l, d.2.2.2), ())
namespace fB16
def fn (N : Nat) : Sh.den ins → Option (Sh.den outs) := fun (a, b, _) => fB16.run N a b
def S (N : Nat) : Fs := ⟨ins, outs, fn N⟩
def lam (N : Nat) : Pcs := pcs [([true, true, false, true, false], (fD21.P N).pc (C N))]
theorem pok (N : Nat) : (lam N).Ok Tryz.prog (C N) code := pcsOk_cons (c1 := .loop fD21.code) (by kernel_rfl) (fD21.ok N) (pcsOk_nil)
theorem ok (N : Nat) : (S N).con.Ok Tryz.prog 80 := okF (F := S N) [] Tryz.func80 (by kernel_rfl) (by rfl) mix (cok N) (pok N) fun _ => by kernel_rfl
end fB16
namespace ref_Do
def ins : Sh := s63
def C (N : Nat) : Ctx := ⟨U, 79, fun _ => true, gam [(77, (fB18.S N).con), (78, (fB41.S N).con), (45, (ref_At.S N).con), (79, (fC20.S N).con), (51, (fC19.S N).con), (80, (fB16.S N).con)], gamY []⟩
theorem cok (N : Nat) : (C N).Ok Tryz.prog := ⟨U_ok, GamOk.cons (fB18.ok N) (GamOk.cons (fB41.ok N) (GamOk.cons (ref_At.ok N) (GamOk.cons (fC20.ok N) (GamOk.cons (fC19.ok N) (GamOk.cons (fB16.ok N) (GamOk.nil)))))), GamYOk.nil⟩
def code : Code := Tryz.f47.body.getD .skip
def outs : Sh := s65
end ref_Do
noncomputable def ref_Do.run (N : Nat) (d : T5) (call : Int) (name : (List UInt8)) (jC_ : (List UInt8)) (n_ : Int) : Option T50 :=
  obind (fB18.run N d call name jC_ n_) fun (n1, _) =>
    bif !(decide (n1 = (0 : Int))) then
      some (d, n1, ())
    else
      obind (fB41.run N d) fun (v, b, _) =>
        bif b then
          some (v, (44 : Int), ())
        else
          obind (ref_At.run N v name) fun (n2, _) =>
            bif inB n2 v.2.2.1.length then
              bif decide (call = (1 : Int)) then
                obind (fC20.run N v ((v.2.2.1.getD n2.toNat (([] : List UInt8), ([] : List UInt8), (0 : Int))).1, (v.2.2.1.getD n2.toNat (([] : List UInt8), ([] : List UInt8), (0 : Int))).2.1, ((v.2.2.1.getD n2.toNat (([] : List UInt8), ([] : List UInt8), (0 : Int))).2.1.length : Int))) fun (v1, _) =>
                  some (v1, (0 : Int), ())
              else
                bif decide (call = (2 : Int)) then
                  bif okB (0 : Int) n_ (v.2.2.1.getD n2.toNat (([] : List UInt8), ([] : List UInt8), (0 : Int))).2.1.length then
                    obind (fC19.run N ((v.2.2.1.getD n2.toNat (([] : List UInt8), ([] : List UInt8), (0 : Int))).2.1.take n_.toNat) ([] : List UInt8)) fun (l, _) =>
                      obind (fC20.run N v ((v.2.2.1.getD n2.toNat (([] : List UInt8), ([] : List UInt8), (0 : Int))).1, l, min (v.2.2.1.getD n2.toNat (([] : List UInt8), ([] : List UInt8), (0 : Int))).2.2 n_)) fun (v2, _) =>
                        some (v2, (0 : Int), ())
                  else none
                else
                  bif decide (call = (3 : Int)) then
                    obind (fB16.run N v name) fun (v3, _) =>
                      obind (fC20.run N v3 (jC_, (v.2.2.1.getD n2.toNat (([] : List UInt8), ([] : List UInt8), (0 : Int))).2)) fun (v4, _) =>
                        some (v4, (0 : Int), ())
                  else
                    obind (fB16.run N v name) fun (v5, _) =>
                      some (v5, (0 : Int), ())
            else none
namespace ref_Do
def fn (N : Nat) : Sh.den ins → Option (Sh.den outs) := fun (a, b, c, d, e, _) => ref_Do.run N a b c d e
def S (N : Nat) : Fs := ⟨ins, outs, fn N⟩
def lam (N : Nat) : Pcs := pcs []
theorem pok (N : Nat) : (lam N).Ok Tryz.prog (C N) code := pcsOk_nil
theorem ok (N : Nat) : (S N).con.Ok Tryz.prog 47 := okF (F := S N) [] Tryz.func47 (by kernel_rfl) (by rfl) mix (cok N) (pok N) fun _ => by kernel_rfl
end ref_Do
namespace fB2
def ins : Sh := s53
def C (N : Nat) : Ctx := ⟨U, 68, fun _ => true, gam [(45, (ref_At.S N).con), (46, (fB37.S N).con), (47, (ref_Do.S N).con)], gamY []⟩
theorem cok (N : Nat) : (C N).Ok Tryz.prog := ⟨U_ok, GamOk.cons (ref_At.ok N) (GamOk.cons (fB37.ok N) (GamOk.cons (ref_Do.ok N) (GamOk.nil))), GamYOk.nil⟩
def code : Code := Tryz.f18.body.getD .skip
def outs : Sh := s66
end fB2
namespace fD39
def ins : Sh := (.cons (.val .str) (.cons (.box 28 s55) (.cons (.val (.slice .byte)) s13)))
def ts : List Tmp := [1, 2, 8, 10, 11]
def asg : List Tmp := [11, 35, 36, 37, 38, 39, 40, 41, 42, 43, 44, 45, 46, 47, 48, 49]
def C (N : Nat) : Ctx := { fB2.C N with may := fun t => asg.any (Nat.beq t) }
def code : Code := (sub fB2.code [true, true, true, true, true, true, false]).getD .skip
theorem cok (N : Nat) : (C N).Ok Tryz.prog := okC (fB2.cok N) _
def alts : List Alt := [⟨.normal, [11], s67⟩]
end fD39
noncomputable def fD39.run (N : Nat) (name : (List UInt8)) (room_ : Int) (steps : Int) (files : (List T1)) (armed : Bool) (dead : Bool) (left : Int) (b : (List UInt8)) (n_ : Int) (e : Int) : Option (T52) :=
  bif decide (e = (0 : Int)) then
    bif decide (n_ < (b.length : Int)) then
      obind (ref_Do.run N (room_, steps, files, armed, dead, left) (2 : Int) name ([] : List UInt8) n_) fun (v, n1, _) =>
        some ((v.1, v.2.1, v.2.2.1, v.2.2.2.1, v.2.2.2.2.1, v.2.2.2.2.2, ()), n1, ())
    else some ((room_, steps, files, armed, dead, left, ()), e, ())
  else some ((room_, steps, files, armed, dead, left, ()), e, ())
namespace fD39
def fn (N : Nat) : Sh.den ins → Option (altsDen alts) := fun (a, (b, c, d, e, f, g, _), h, i, j, _) => fD39.run N a b c d e f g h i j
def P (N : Nat) : Ps := ⟨ts, ins, asg, alts, fn N⟩
def lam (N : Nat) : Pcs := pcs []
theorem pok (N : Nat) : (lam N).Ok Tryz.prog (C N) code := pcsOk_nil
theorem ok (N : Nat) : ((P N).pc (fB2.C N)).Ok Tryz.prog (fB2.C N) code := okP (F := P N) (fB2.cok N) mix (pok N) fun _ => by kernel_rfl
end fD39
namespace fB40
def ins : Sh := s68
def ts : List Tmp := [1, 2, 11]
def asg : List Tmp := [11, 50, 51, 52, 53, 54, 55, 56, 57]
def C (N : Nat) : Ctx := { fB2.C N with may := fun t => asg.any (Nat.beq t) }
def code : Code := (sub fB2.code [true, true, true, true, true, true, true, false]).getD .skip
theorem cok (N : Nat) : (C N).Ok Tryz.prog := okC (fB2.cok N) _
def alts : List Alt := [⟨.normal, [11], s67⟩]
end fB40
noncomputable def fB40.run (N : Nat) (name : (List UInt8)) (room_ : Int) (steps : Int) (files : (List T1)) (armed : Bool) (dead : Bool) (left : Int) (e : Int) : Option (T52) :=
  bif decide (e = (0 : Int)) then
    obind (ref_Do.run N (room_, steps, files, armed, dead, left) (1 : Int) name ([] : List UInt8) (0 : Int)) fun (v, n_, _) =>
      some ((v.1, v.2.1, v.2.2.1, v.2.2.2.1, v.2.2.2.2.1, v.2.2.2.2.2, ()), n_, ())
  else some ((room_, steps, files, armed, dead, left, ()), e, ())
namespace fB40
def fn (N : Nat) : Sh.den ins → Option (altsDen alts) := fun (a, (b, c, d, e, f, g, _), h, _) => fB40.run N a b c d e f g h
def P (N : Nat) : Ps := ⟨ts, ins, asg, alts, fn N⟩
def lam (N : Nat) : Pcs := pcs []
theorem pok (N : Nat) : (lam N).Ok Tryz.prog (C N) code := pcsOk_nil
theorem ok (N : Nat) : ((P N).pc (fB2.C N)).Ok Tryz.prog (fB2.C N) code := okP (F := P N) (fB2.cok N) mix (pok N) fun _ => by kernel_rfl
end fB40
noncomputable def fB2.run (N : Nat) (d : T5) (name : (List UInt8)) : Option T54 :=
  bif d.2.2.2.2.1 then
    some (d, (([] : List UInt8), ([] : List (List UInt8)), (0 : Int)), (44 : Int), ())
  else
    obind (ref_At.run N d name) fun (n_, _) =>
      bif decide (n_ < (0 : Int)) then
        some (d, (([] : List UInt8), ([] : List (List UInt8)), (0 : Int)), (42 : Int), ())
      else
        bif inB n_ d.2.2.1.length then
          obind (fB37.run N (d.2.2.1.getD n_.toNat (([] : List UInt8), ([] : List UInt8), (0 : Int))).2.1) fun (l, n1, n2, _) =>
            obind (fD39.run N name d.1 d.2.1 d.2.2.1 d.2.2.2.1 d.2.2.2.2.1 d.2.2.2.2.2 (d.2.2.1.getD n_.toNat (([] : List UInt8), ([] : List UInt8), (0 : Int))).2.1 n1 n2) fun ((room_, steps, files, armed, dead, left, _), e, _) =>
              obind (fB40.run N name room_ steps files armed dead left e) fun ((room1, steps1, files1, armed1, dead1, left1, _), e1, _) =>
                bif !(decide (e1 = (0 : Int))) then
                  some ((room1, steps1, files1, armed1, dead1, left1), (([] : List UInt8), ([] : List (List UInt8)), (0 : Int)), e1, ())
                else some ((room1, steps1, files1, armed1, dead1, left1), (name, l, n1), (0 : Int), ())
        else none
namespace fB2
def fn (N : Nat) : Sh.den ins → Option (Sh.den outs) := fun (a, b, _) => fB2.run N a b
def S (N : Nat) : Fs := ⟨ins, outs, fn N⟩
def lam (N : Nat) : Pcs := pcs [([true, true, true, true, true, true, false], (fD39.P N).pc (C N)), ([true, true, true, true, true, true, true, false], (fB40.P N).pc (C N))]
theorem pok (N : Nat) : (lam N).Ok Tryz.prog (C N) code := pcsOk_cons (c1 := fD39.code) (by kernel_rfl) (fD39.ok N) (pcsOk_cons (c1 := fB40.code) (by kernel_rfl) (fB40.ok N) (pcsOk_nil))
theorem ok (N : Nat) : (S N).con.Ok Tryz.prog 18 := okF (F := S N) [] Tryz.func18 (by kernel_rfl) (by rfl) mix (cok N) (pok N) fun _ => by kernel_rfl
end fB2
namespace law_laid
def ins : Sh := (.cons (.agg s69) s70)
def C (N : Nat) : Ctx := ⟨U, 34, fun _ => true, gam [], gamY []⟩
theorem cok (N : Nat) : (C N).Ok Tryz.prog := ⟨U_ok, GamOk.nil, GamYOk.nil⟩
def code : Code := Tryz.f19.body.getD .skip
def outs : Sh := (.cons (.upd 0 54 s1) s72)
end law_laid
noncomputable def law_laid.run (N : Nat) (room_ : Int) (used : Int) (files : (List T1)) (steps : Int) (left : Int) (dead : Bool) (w : Int) (w1 : Int) (w2 : (List T1)) (w3 : Bool) (w4 : Bool) (w5 : Int) (w6 : (List UInt8)) (w7 : T12) (w8 : Int) (w9 : Bool) (e : Int) (rd : T5) (rl : T53) (f : Int) : Option T56 :=
  bif decide (e = f) then
    some ((room_, used, files, steps, left, dead, ()), ((), (), rd.1, rd.2.1, rd.2.2.1, rd.2.2.2.1, rd.2.2.2.2.1, rd.2.2.2.2.2, rl.1, rl.2.1, rl.2.2, decide (f = (0 : Int)), ()), false == (decide (f = (0 : Int))), ())
  else some ((room_, used, files, steps, left, dead, ()), ((), (), rd.1, rd.2.1, rd.2.2.1, rd.2.2.2.1, rd.2.2.2.2.1, rd.2.2.2.2.2, rl.1, rl.2.1, rl.2.2, decide (f = (0 : Int)), ()), false, ())
namespace law_laid
def fn (N : Nat) : Sh.den ins → Option (Sh.den outs) := fun (((a, b, c, d, e, f, _), _, g, h, i, j, k, l, m, o, p, q, _), _, r, s, t, u, _) => law_laid.run N a b c d e f g h i j k l m o p q r s t u
def S (N : Nat) : Fs := ⟨ins, outs, fn N⟩
def lam (N : Nat) : Pcs := pcs []
theorem pok (N : Nat) : (lam N).Ok Tryz.prog (C N) code := pcsOk_nil
theorem ok (N : Nat) : (S N).con.Ok Tryz.prog 19 := okF (F := S N) [] Tryz.func19 (by kernel_rfl) (by rfl) mix (cok N) (pok N) fun _ => by kernel_rfl
end law_laid
namespace law_laid_b
def ins : Sh := (.cons (.agg s69) s73)
def C (N : Nat) : Ctx := ⟨U, 34, fun _ => true, gam [], gamY []⟩
theorem cok (N : Nat) : (C N).Ok Tryz.prog := ⟨U_ok, GamOk.nil, GamYOk.nil⟩
def code : Code := Tryz.f19.body.getD .skip
def outs : Sh := (.cons (.upd 0 54 s1) (.cons (.upd 3 69 (.cons (.ref 0) (.cons (.val .str) s16))) s74))
end law_laid_b
noncomputable def law_laid_b.run (N : Nat) (room_ : Int) (used : Int) (files : (List T1)) (steps : Int) (left : Int) (dead : Bool) (w : Int) (w1 : Int) (w2 : (List T1)) (w3 : Bool) (w4 : Bool) (w5 : Int) (w6 : (List UInt8)) (w7 : T12) (w8 : Int) (w9 : Bool) (name : (List UInt8)) (l : T12) (size : Int) (e : Int) (rd : T5) (rl : T53) (f : Int) : Option T57 :=
  bif decide (e = f) then
    some ((room_, used, files, steps, left, dead, ()), ((), name, l, size, ()), ((), (), rd.1, rd.2.1, rd.2.2.1, rd.2.2.2.1, rd.2.2.2.2.1, rd.2.2.2.2.2, rl.1, rl.2.1, rl.2.2, decide (f = (0 : Int)), ()), true == (decide (f = (0 : Int))), ())
  else some ((room_, used, files, steps, left, dead, ()), ((), name, l, size, ()), ((), (), rd.1, rd.2.1, rd.2.2.1, rd.2.2.2.1, rd.2.2.2.2.1, rd.2.2.2.2.2, rl.1, rl.2.1, rl.2.2, decide (f = (0 : Int)), ()), false, ())
end
end Go.Hay.YthlojpcjafefjaaGreat
