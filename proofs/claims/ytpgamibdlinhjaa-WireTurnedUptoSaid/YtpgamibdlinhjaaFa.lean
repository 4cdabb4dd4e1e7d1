/- Functions of the program as functions of Lean, and that they are what the program computes. Conditions: none. -/
import Derived.Test.YtpgamibdlinhjaaU
set_option linter.unusedVariables false
namespace Go.Hay.Ytpgamibdlinhjaa
open Go Go.Hay Go.Proofs
noncomputable section
set_option maxRecDepth 100000
instance : Sites := ⟨fun _ _ => .cells #[] 0 (0, 0), fun _ _ _ h => nomatch h⟩
abbrev T0 : Type := (List UInt8) × Unit
abbrev T1 : Type := Unit × Unit × Bool × Unit
abbrev T2 : Type := (Unit × Unit) × T1 × Unit
abbrev T3 : Type := Int × (List UInt8)
abbrev T4 : Type := Int × (Bool × T3)
abbrev T5 : Type := (List T4) × Int
abbrev T6 : Type := (Int × Int) × T5
abbrev T7 : Type := (Int × Int) × T6
abbrev T8 : Type := (Int × Int) × (Int × Int)
abbrev T9 : Type := T0 × T1 × Unit
abbrev T10 : Type := Int × Int × Int × Int × Int × Int × Int × Int × Int × Int × Int × Bool × Bool × Bool × Int × Int × (List T7) × (List T8) × (List T6) × Unit
abbrev T11 : Type := T0 × T1 × T10 × Unit
abbrev T12 : Type := T0 × T10 × Unit
abbrev T13 : Type := Int × Int × Int × Int × (List T4) × Int × Unit
abbrev T14 : Type := T0 × T1 × T13 × Unit
abbrev T15 : Type := T0 × T13 × Unit
abbrev T16 : Type := (Bool × Unit) ⊕ Unit
abbrev T17 : Type := (List UInt8) × Int × Unit
abbrev T18 : Type := Int × Int × Int × Int × Unit
abbrev T19 : Type := T0 × T1 × T18 × Unit
abbrev T20 : Type := T0 × T18 × Unit
abbrev T21 : Type := Int × Int × (List T4) × Int × Unit
abbrev T22 : Type := T0 × T21 × Unit
abbrev T23 : Type := T0 × T1 × T21 × Unit
abbrev T24 : Type := T0 × T1 × T10 × Bool × Unit
abbrev T25 : Type := T17 × (List UInt8) × Bool × Unit
abbrev T26 : Type := T17 × Int × Unit
abbrev T27 : Type := T17 × UInt8 × Unit
abbrev T28 : Type := T17 × T1 × Unit
abbrev T29 : Type := T17 × T1 × T10 × Unit
abbrev T30 : Type := T17 × T10 × Unit
abbrev T31 : Type := T17 × Int × Int × Unit
abbrev T32 : Type := T17 × T13 × Unit
abbrev T33 : Type := T17 × (List UInt8) × Unit
abbrev T34 : Type := T4 × (List UInt8) × Bool × Unit
abbrev T35 : Type := (List T4) × Int × Unit
abbrev T36 : Type := (List UInt8) × (List T4) × Unit
abbrev T37 : Type := T17 × T1 × T13 × Unit
abbrev T38 : Type := T17 × T18 × Unit
abbrev T39 : Type := T17 × T1 × (Int × Unit) × Unit
abbrev T40 : Type := T17 × T21 × Unit
abbrev T41 : Type := T17 × T1 × T21 × Unit
abbrev T42 : Type := T17 × T1 × T10 × Bool × Unit
abbrev T43 : Type := (List Int) × Unit
abbrev T44 : Type := (List T7) × (List T8)
abbrev T45 : Type := T44 × (List T6)
abbrev T46 : Type := (Int × Int) × T45
abbrev T47 : Type := Bool × (Bool × T46)
abbrev T48 : Type := Int × (Bool × T47)
abbrev T49 : Type := Int × (Int × T48)
abbrev T50 : Type := Int × (Int × T49)
abbrev T51 : Type := Int × (Int × T50)
abbrev T52 : Type := Int × (Int × T51)
abbrev T53 : Type := Int × (Int × T52)
abbrev T54 : Type := (List UInt8) × Int × Int × Unit
abbrev T55 : Type := T53 × Int × Unit
abbrev T56 : Type := Unit ⊕ (Bool × Unit)
def s0 : Sh := (.cons (.upd 0 60 (.cons (.own 5 .byte) .nil)) .nil)
def s1 : Sh := (.cons (.nilp) (.cons (.val .bool) .nil))
def s2 : Sh := (.box 47 (.cons (.box 60 (.cons (.rown 5 .byte) .nil)) s1))
def s3 : Sh := (.cons (.upd 0 47 (.cons (.ref 0) s1)) .nil)
def s4 : Sh := (.cons (.upd 1 60 (.cons (.keep 1 2) .nil)) s3)
def s5 : Sh := (.cons (.box 60 (.cons (.own 5 .byte) .nil)) s1)
def s6 : Sh := (.cons (.val (.slice (.pair (.pair (.int .u64) (.int .u32)) (.pair (.slice (.pair (.int .i64) (.pair .bool (.pair (.int .i64) .str)))) (.int .u64))))) .nil)
def s7 : Sh := (.cons (.val (.int .i64)) (.cons (.val (.int .i64)) (.cons (.val (.int .i64)) (.cons (.val (.int .u64)) (.cons (.val (.int .u64)) (.cons (.val (.int .u64)) (.cons (.val (.int .u64)) (.cons (.val (.int .u64)) (.cons (.val (.int .u64)) (.cons (.val (.int .u64)) (.cons (.val (.int .i64)) (.cons (.val .bool) (.cons (.val .bool) (.cons (.val .bool) (.cons (.val (.int .i64)) (.cons (.val (.int .i64)) (.cons (.val (.slice (.pair (.pair (.int .i64) (.int .i64)) (.pair (.pair (.int .u64) (.int .u32)) (.pair (.slice (.pair (.int .i64) (.pair .bool (.pair (.int .i64) .str)))) (.int .u64)))))) (.cons (.val (.slice (.pair (.pair (.int .i64) (.int .i64)) (.pair (.int .u64) (.int .u32))))) s6))))))))))))))))))
def s8 : Sh := (.cons (.upd 1 60 (.cons (.own 5 .byte) .nil)) s3)
def s9 : Sh := (.cons (.upd 1 60 (.cons (.own 5 .byte) .nil)) (.cons (.upd 0 47 (.cons (.ref 0) s1)) (.cons (.upd 3 31 s7) .nil)))
def s10 : Sh := (.cons (.val (.int .u64)) (.cons (.val (.int .i64)) .nil))
def s11 : Sh := (.cons (.box 60 (.cons (.own 5 .byte) .nil)) s10)
def s12 : Sh := (.cons (.box 60 (.cons (.own 5 .byte) .nil)) (.cons (.val (.int .u64)) .nil))
def s13 : Sh := (.cons (.upd 1 60 (.cons (.own 5 .byte) .nil)) (.cons (.upd 3 31 s7) .nil))
def s14 : Sh := (.cons (.val (.int .u64)) (.cons (.val (.int .u32)) (.cons (.val (.slice (.pair (.int .i64) (.pair .bool (.pair (.int .i64) .str))))) (.cons (.val (.int .u64)) .nil))))
def s15 : Sh := (.cons (.val (.int .i64)) (.cons (.val (.int .i64)) s14))
def s16 : Sh := (.cons (.upd 1 60 (.cons (.own 5 .byte) .nil)) (.cons (.upd 0 47 (.cons (.ref 0) s1)) (.cons (.upd 3 80 s15) .nil)))
def s17 : Sh := (.cons (.box 47 s5) (.cons (.box 80 s15) .nil))
def s18 : Sh := (.cons (.val (.pair (.int .i64) (.pair .bool (.pair (.int .i64) .str)))) .nil)
def s19 : Sh := (.cons (.val (.slice (.pair (.int .i64) (.pair .bool (.pair (.int .i64) .str))))) .nil)
def s20 : Sh := (.cons (.val (.int .i64)) (.cons (.val (.int .i64)) .nil))
def s21 : Sh := (.cons (.val (.slice (.pair (.int .i64) (.pair .bool (.pair (.int .i64) .str))))) s20)
def s22 : Sh := (.cons (.own 5 .byte) (.cons (.val (.int .i64)) .nil))
def s23 : Sh := (.cons (.box 60 (.cons (.own 5 .byte) .nil)) (.cons (.rown 5 .byte) .nil))
def s24 : Sh := (.cons (.fnb 1 63 (.cons (.ref 0) .nil)) .nil)
def s25 : Sh := (.cons (.val (.slice (.pair (.pair (.int .i64) (.int .i64)) (.pair (.pair (.int .u64) (.int .u32)) (.pair (.slice (.pair (.int .i64) (.pair .bool (.pair (.int .i64) .str)))) (.int .u64)))))) s20)
def s26 : Sh := (.cons (.val (.int .i64)) (.cons (.val (.int .i64)) (.cons (.val (.int .u64)) (.cons (.val (.int .u32)) .nil))))
def s27 : Sh := (.cons (.upd 1 60 (.cons (.own 5 .byte) .nil)) (.cons (.upd 0 47 (.cons (.ref 0) s1)) (.cons (.upd 3 84 s26) .nil)))
def s28 : Sh := (.cons (.box 47 s5) (.cons (.box 84 s26) .nil))
def s29 : Sh := (.cons (.rbox 47 s5) (.cons (.bxo 2 84 s26) .nil))
def s30 : Sh := (.cons (.upd 1 60 (.cons (.own 5 .byte) .nil)) (.cons (.upd 3 84 s26) .nil))
def s31 : Sh := (.cons (.fnb 1 65 (.cons (.ref 0) .nil)) .nil)
def s32 : Sh := (.cons (.val (.slice (.pair (.pair (.int .i64) (.int .i64)) (.pair (.int .u64) (.int .u32))))) s20)
def s33 : Sh := (.cons (.rbox 49 (.cons (.box 31 s7) .nil)) .nil)
def s34 : Sh := (.cons (.rbox 42 (.cons (.box 47 s5) .nil)) s33)
def s35 : Sh := (.cons (.upd 2 60 (.cons (.own 5 .byte) .nil)) (.cons (.upd 1 47 (.cons (.ref 0) s1)) (.cons (.upd 5 31 s7) .nil)))
def s36 : Sh := (.cons (.rbox 42 (.cons (.rbox 47 s5) .nil)) s33)
def s37 : Sh := (.cons (.upd 2 60 (.cons (.own 5 .byte) .nil)) (.cons (.upd 5 31 s7) .nil))
def s38 : Sh := (.cons (.box 47 s5) (.cons (.bxo 14 31 s7) .nil))
def s39 : Sh := (.cons (.upd 1 60 (.cons (.own 5 .byte) .nil)) (.cons (.upd 3 78 s14) .nil))
def s40 : Sh := (.cons (.upd 1 60 (.cons (.own 5 .byte) .nil)) (.cons (.upd 0 47 (.cons (.ref 0) s1)) (.cons (.upd 3 78 s14) .nil)))
def s41 : Sh := (.cons (.fnb 1 70 (.cons (.ref 0) .nil)) .nil)
def s42 : Sh := (.cons (.val (.slice (.pair (.pair (.int .u64) (.int .u32)) (.pair (.slice (.pair (.int .i64) (.pair .bool (.pair (.int .i64) .str)))) (.int .u64))))) s20)
def s43 : Sh := (.cons (.box 47 s5) (.cons (.box 31 s7) .nil))
def s44 : Sh := (.cons (.val (.slice .byte)) (.cons (.val (.int .i64)) .nil))
def s45 : Sh := (.cons (.box 68 s44) (.cons (.val (.int .i64)) .nil))
def s46 : Sh := (.cons (.val (.slice .byte)) (.cons (.val .bool) .nil))
def s47 : Sh := (.cons (.upd 0 68 s44) (.cons (.val (.int .u64)) .nil))
def s48 : Sh := (.cons (.nilp) (.cons (.box 68 s44) (.cons (.val .bool) .nil)))
def s49 : Sh := (.cons (.nilp) (.cons (.ref 0) (.cons (.val .bool) .nil)))
def s50 : Sh := (.cons (.upd 1 68 s44) (.cons (.upd 0 47 s49) .nil))
def s51 : Sh := (.cons (.val (.int .i64)) (.cons (.val (.int .i64)) (.cons (.val (.int .i64)) (.cons (.val (.int .u64)) (.cons (.val (.int .u64)) (.cons (.val (.int .u64)) (.cons (.val (.int .u64)) (.cons (.val (.int .u64)) (.cons (.val (.int .u64)) (.cons (.val (.int .u64)) (.cons (.val (.int .i64)) (.cons (.val .bool) (.cons (.val .bool) (.cons (.val .bool) (.cons (.val (.int .i64)) (.cons (.val (.int .i64)) (.cons (.own 80 (.pair (.pair (.int .i64) (.int .i64)) (.pair (.pair (.int .u64) (.int .u32)) (.pair (.slice (.pair (.int .i64) (.pair .bool (.pair (.int .i64) .str)))) (.int .u64))))) (.cons (.own 84 (.pair (.pair (.int .i64) (.int .i64)) (.pair (.int .u64) (.int .u32)))) (.cons (.own 78 (.pair (.pair (.int .u64) (.int .u32)) (.pair (.slice (.pair (.int .i64) (.pair .bool (.pair (.int .i64) .str)))) (.int .u64)))) .nil)))))))))))))))))))
def s52 : Sh := (.cons (.upd 1 68 s44) (.cons (.upd 0 47 s49) (.cons (.upd 2 31 s51) .nil)))
def s53 : Sh := (.cons (.upd 1 68 s44) (.cons (.upd 2 31 s51) .nil))
def s54 : Sh := (.cons (.val (.int .u64)) (.cons (.val (.int .u64)) .nil))
def s55 : Sh := (.cons (.val (.int .u64)) (.cons (.val (.int .u32)) (.cons (.own 109 (.pair (.int .i64) (.pair .bool (.pair (.int .i64) .str)))) (.cons (.val (.int .u64)) .nil))))
def s56 : Sh := (.cons (.val (.int .i64)) (.cons (.val (.int .i64)) s55))
def s57 : Sh := (.cons (.rbox 47 s48) (.cons (.box 80 s56) .nil))
def s58 : Sh := (.cons (.upd 1 68 s44) (.cons (.upd 2 80 s56) .nil))
def s59 : Sh := (.cons (.upd 0 68 s44) (.cons (.own 5 .byte) .nil))
def s60 : Sh := (.cons (.own 109 (.pair (.int .i64) (.pair .bool (.pair (.int .i64) .str)))) (.cons (.val (.int .i64)) .nil))
def s61 : Sh := (.cons (.upd 1 68 s44) (.cons (.upd 0 47 s49) (.cons (.upd 2 80 s56) .nil)))
def s62 : Sh := (.cons (.rbox 47 s48) (.cons (.box 84 s26) .nil))
def s63 : Sh := (.cons (.upd 1 68 s44) (.cons (.upd 2 84 s26) .nil))
def s64 : Sh := (.cons (.rbox 47 s48) (.cons (.bxo 2 84 s26) .nil))
def s65 : Sh := (.cons (.rbox 49 (.cons (.box 31 s51) .nil)) .nil)
def s66 : Sh := (.cons (.rbox 42 (.cons (.box 47 s48) .nil)) s65)
def s67 : Sh := (.cons (.upd 2 68 s44) (.cons (.upd 1 47 s49) (.cons (.upd 4 31 s51) .nil)))
def s68 : Sh := (.cons (.rbox 42 (.cons (.rbox 47 s48) .nil)) s65)
def s69 : Sh := (.cons (.upd 2 68 s44) (.cons (.upd 4 31 s51) .nil))
def s70 : Sh := (.cons (.rbox 47 s48) (.cons (.bxo 14 31 s51) .nil))
def s71 : Sh := (.cons (.rbox 47 s48) (.cons (.box 78 s55) .nil))
def s72 : Sh := (.cons (.upd 1 68 s44) (.cons (.upd 2 78 s55) .nil))
def s73 : Sh := (.cons (.upd 1 68 s44) (.cons (.upd 0 47 s49) (.cons (.upd 2 78 s55) .nil)))
def s74 : Sh := (.cons (.box 47 s48) (.cons (.box 31 s51) .nil))
def s75 : Sh := (.cons (.arr 105 (.int .u32) 16) (.cons (.val (.int .i64)) .nil))
def s76 : Sh := (.cons (.val (.int .u32)) (.cons (.val (.int .i64)) .nil))
def s77 : Sh := (.cons (.val (.pair (.pair (.int .u64) (.int .u32)) (.pair (.slice (.pair (.int .i64) (.pair .bool (.pair (.int .i64) .str)))) (.int .u64)))) (.cons (.val (.pair (.pair (.int .u64) (.int .u32)) (.pair (.slice (.pair (.int .i64) (.pair .bool (.pair (.int .i64) .str)))) (.int .u64)))) .nil))
def s78 : Sh := (.cons (.val (.slice (.pair (.pair (.int .i64) (.int .i64)) (.pair (.int .u64) (.int .u32))))) .nil)
def s79 : Sh := (.cons (.val (.pair (.int .i64) (.pair (.int .i64) (.pair (.int .i64) (.pair (.int .u64) (.pair (.int .u64) (.pair (.int .u64) (.pair (.int .u64) (.pair (.int .u64) (.pair (.int .u64) (.pair (.int .u64) (.pair (.int .i64) (.pair .bool (.pair .bool (.pair .bool (.pair (.pair (.int .i64) (.int .i64)) (.pair (.pair (.slice (.pair (.pair (.int .i64) (.int .i64)) (.pair (.pair (.int .u64) (.int .u32)) (.pair (.slice (.pair (.int .i64) (.pair .bool (.pair (.int .i64) .str)))) (.int .u64))))) (.slice (.pair (.pair (.int .i64) (.int .i64)) (.pair (.int .u64) (.int .u32))))) (.slice (.pair (.pair (.int .u64) (.int .u32)) (.pair (.slice (.pair (.int .i64) (.pair .bool (.pair (.int .i64) .str)))) (.int .u64))))))))))))))))))))) .nil)
def s80 : Sh := (.cons (.val (.pair (.int .i64) (.pair (.int .i64) (.pair (.int .i64) (.pair (.int .u64) (.pair (.int .u64) (.pair (.int .u64) (.pair (.int .u64) (.pair (.int .u64) (.pair (.int .u64) (.pair (.int .u64) (.pair (.int .i64) (.pair .bool (.pair .bool (.pair .bool (.pair (.pair (.int .i64) (.int .i64)) (.pair (.pair (.slice (.pair (.pair (.int .i64) (.int .i64)) (.pair (.pair (.int .u64) (.int .u32)) (.pair (.slice (.pair (.int .i64) (.pair .bool (.pair (.int .i64) .str)))) (.int .u64))))) (.slice (.pair (.pair (.int .i64) (.int .i64)) (.pair (.int .u64) (.int .u32))))) (.slice (.pair (.pair (.int .u64) (.int .u32)) (.pair (.slice (.pair (.int .i64) (.pair .bool (.pair (.int .i64) .str)))) (.int .u64))))))))))))))))))))) s79)
def s81 : Sh := (.cons (.rbox 31 s7) (.cons (.rbox 31 s7) .nil))
def s82 : Sh := (.cons (.val (.pair (.int .i64) (.pair (.int .i64) (.pair (.int .i64) (.pair (.int .u64) (.pair (.int .u64) (.pair (.int .u64) (.pair (.int .u64) (.pair (.int .u64) (.pair (.int .u64) (.pair (.int .u64) (.pair (.int .i64) (.pair .bool (.pair .bool (.pair .bool (.pair (.pair (.int .i64) (.int .i64)) (.pair (.pair (.slice (.pair (.pair (.int .i64) (.int .i64)) (.pair (.pair (.int .u64) (.int .u32)) (.pair (.slice (.pair (.int .i64) (.pair .bool (.pair (.int .i64) .str)))) (.int .u64))))) (.slice (.pair (.pair (.int .i64) (.int .i64)) (.pair (.int .u64) (.int .u32))))) (.slice (.pair (.pair (.int .u64) (.int .u32)) (.pair (.slice (.pair (.int .i64) (.pair .bool (.pair (.int .i64) .str)))) (.int .u64))))))))))))))))))))) (.cons (.val (.int .i64)) .nil))
def s83 : Sh := (.cons (.val (.slice (.pair (.pair (.int .i64) (.int .i64)) (.pair (.pair (.int .u64) (.int .u32)) (.pair (.slice (.pair (.int .i64) (.pair .bool (.pair (.int .i64) .str)))) (.int .u64)))))) s78)
def s84 : Sh := (.cons (.rbox 28 s83) (.cons (.rbox 28 s83) (.cons (.val (.int .i64)) .nil)))
namespace codec_New
def ins : Sh := .nil
def C (N : Nat) : Ctx := ⟨U, 3, fun _ => true, gam [], gamY []⟩
theorem cok (N : Nat) : (C N).Ok Try.prog := ⟨U_ok, GamOk.nil, GamYOk.nil⟩
def code : Code := Try.f10.body.getD .skip
def outs : Sh := (.cons (.box 60 (.cons (.own 5 .byte) .nil)) .nil)
end codec_New
def codec_New.run (N : Nat)  : Option (T0 × Unit) :=
  some ((([] : List UInt8), ()), ())
namespace codec_New
def fn (N : Nat) : Sh.den ins → Option (Sh.den outs) := fun _ => codec_New.run N
def S (N : Nat) : Fs := ⟨ins, outs, fn N⟩
def lam (N : Nat) : Pcs := pcs []
theorem pok (N : Nat) : (lam N).Ok Try.prog (C N) code := pcsOk_nil
theorem ok (N : Nat) : (S N).con.Ok Try.prog 10 := okF (F := S N) [] Try.func10 (by kernel_rfl) (by rfl) mix (cok N) (pok N) fun _ => by kernel_rfl
end codec_New
namespace codec_Writer_Byte
def ins : Sh := (.cons (.box 60 (.cons (.own 5 .byte) .nil)) (.cons (.val .byte) .nil))
def C (N : Nat) : Ctx := ⟨U, 14, fun _ => true, gam [], gamY []⟩
theorem cok (N : Nat) : (C N).Ok Try.prog := ⟨U_ok, GamOk.nil, GamYOk.nil⟩
def code : Code := Try.f37.body.getD .skip
def outs : Sh := s0
end codec_Writer_Byte
def codec_Writer_Byte.run (N : Nat) (b : (List UInt8)) (b1 : UInt8) : Option (T0 × Unit) :=
  bif room (b.length + 1) 1 then
    some ((b ++ ([Hay.u8 (b1.toNat : Int)] : List UInt8), ()), ())
  else none
namespace codec_Writer_Byte
def fn (N : Nat) : Sh.den ins → Option (Sh.den outs) := fun ((a, _), b, _) => codec_Writer_Byte.run N a b
def S (N : Nat) : Fs := ⟨ins, outs, fn N⟩
def lam (N : Nat) : Pcs := pcs []
theorem pok (N : Nat) : (lam N).Ok Try.prog (C N) code := pcsOk_nil
theorem ok (N : Nat) : (S N).con.Ok Try.prog 37 := okF (F := S N) [] Try.func37 (by kernel_rfl) (by rfl) mix (cok N) (pok N) fun _ => by kernel_rfl
end codec_Writer_Byte
namespace wire_pipe_must
def ins : Sh := (.cons s2 (.cons (.val .bool) .nil))
def C (N : Nat) : Ctx := ⟨U, 15, fun _ => true, gam [], gamY []⟩
theorem cok (N : Nat) : (C N).Ok Try.prog := ⟨U_ok, GamOk.nil, GamYOk.nil⟩
def code : Code := Try.f23.body.getD .skip
def outs : Sh := s4
end wire_pipe_must
def wire_pipe_must.run (N : Nat) (b : (List UInt8)) (wrong : Bool) (ok_ : Bool) : Option T2 :=
  bif wrong then
    some (((), ()), ((), (), true, ()), ())
  else some (((), ()), ((), (), !ok_, ()), ())
namespace wire_pipe_must
def fn (N : Nat) : Sh.den ins → Option (Sh.den outs) := fun (((a, _), _, b, _), c, _) => wire_pipe_must.run N a b c
def S (N : Nat) : Fs := ⟨ins, outs, fn N⟩
def lam (N : Nat) : Pcs := pcs []
theorem pok (N : Nat) : (lam N).Ok Try.prog (C N) code := pcsOk_nil
theorem ok (N : Nat) : (S N).con.Ok Try.prog 23 := okF (F := S N) [] Try.func23 (by kernel_rfl) (by rfl) mix (cok N) (pok N) fun _ => by kernel_rfl
end wire_pipe_must
namespace wire_pipe_byte
def ins : Sh := (.cons (.box 47 s5) (.cons (.rbox 31 s7) (.cons (.val (.int .i64)) .nil)))
def C (N : Nat) : Ctx := ⟨U, 41, fun _ => true, gam [(37, (codec_Writer_Byte.S N).con), (23, (wire_pipe_must.S N).con)], gamY []⟩
theorem cok (N : Nat) : (C N).Ok Try.prog := ⟨U_ok, GamOk.cons (codec_Writer_Byte.ok N) (GamOk.cons (wire_pipe_must.ok N) (GamOk.nil)), GamYOk.nil⟩
def code : Code := Try.f21.body.getD .skip
def outs : Sh := s8
end wire_pipe_byte
def wire_pipe_byte.run (N : Nat) (b : (List UInt8)) (wrong : Bool) (kind : Int) (from_ : Int) (to_ : Int) (txn : Int) (base : Int) (epoch : Int) (since : Int) (mark : Int) (ask : Int) (attempt : Int) (node : Int) (yes : Bool) (no : Bool) (wiped : Bool) (at_ : Int) (at1 : Int) (part : (List T7)) (part1 : (List T8)) (versions : (List T6)) (most : Int) : Option T9 :=
  obind (codec_Writer_Byte.run N b (Hay.u8 (IntKind.u8.wrap kind))) fun ((b1, _), _) =>
    bif decide (kind ≥ (0 : Int)) then
      obind (wire_pipe_must.run N b1 wrong (decide (kind ≤ most))) fun ((_, _), (_, _, wrong1, _), _) =>
        some ((b1, ()), ((), (), wrong1, ()), ())
    else
      obind (wire_pipe_must.run N b1 wrong false) fun ((_, _), (_, _, wrong2, _), _) =>
        some ((b1, ()), ((), (), wrong2, ()), ())
namespace wire_pipe_byte
def fn (N : Nat) : Sh.den ins → Option (Sh.den outs) := fun (((a, _), _, b, _), (c, d, e, f, g, h, i, j, k, l, m, o, p, q, r, s, t, u, v, _), w, _) => wire_pipe_byte.run N a b c d e f g h i j k l m o p q r s t u v w
def S (N : Nat) : Fs := ⟨ins, outs, fn N⟩
def lam (N : Nat) : Pcs := pcs []
theorem pok (N : Nat) : (lam N).Ok Try.prog (C N) code := pcsOk_nil
theorem ok (N : Nat) : (S N).con.Ok Try.prog 21 := okF (F := S N) [] Try.func21 (by kernel_rfl) (by rfl) mix (cok N) (pok N) fun _ => by kernel_rfl
end wire_pipe_byte
namespace wire_pipe_byte_b
def ins : Sh := (.cons (.box 47 s5) (.cons (.bxo 1 31 s7) (.cons (.val (.int .i64)) .nil)))
def C (N : Nat) : Ctx := ⟨U, 41, fun _ => true, gam [(37, (codec_Writer_Byte.S N).con), (23, (wire_pipe_must.S N).con)], gamY []⟩
theorem cok (N : Nat) : (C N).Ok Try.prog := ⟨U_ok, GamOk.cons (codec_Writer_Byte.ok N) (GamOk.cons (wire_pipe_must.ok N) (GamOk.nil)), GamYOk.nil⟩
def code : Code := Try.f21.body.getD .skip
def outs : Sh := s9
end wire_pipe_byte_b
def wire_pipe_byte_b.run (N : Nat) (b : (List UInt8)) (wrong : Bool) (kind : Int) (from_ : Int) (to_ : Int) (txn : Int) (base : Int) (epoch : Int) (since : Int) (mark : Int) (ask : Int) (attempt : Int) (node : Int) (yes : Bool) (no : Bool) (wiped : Bool) (at_ : Int) (at1 : Int) (part : (List T7)) (part1 : (List T8)) (versions : (List T6)) (most : Int) : Option T11 :=
  obind (codec_Writer_Byte.run N b (Hay.u8 (IntKind.u8.wrap from_))) fun ((b1, _), _) =>
    bif decide (from_ ≥ (0 : Int)) then
      obind (wire_pipe_must.run N b1 wrong (decide (from_ ≤ most))) fun ((_, _), (_, _, wrong1, _), _) =>
        some ((b1, ()), ((), (), wrong1, ()), (kind, from_, to_, txn, base, epoch, since, mark, ask, attempt, node, yes, no, wiped, at_, at1, part, part1, versions, ()), ())
    else
      obind (wire_pipe_must.run N b1 wrong false) fun ((_, _), (_, _, wrong2, _), _) =>
        some ((b1, ()), ((), (), wrong2, ()), (kind, from_, to_, txn, base, epoch, since, mark, ask, attempt, node, yes, no, wiped, at_, at1, part, part1, versions, ()), ())
namespace wire_pipe_byte_b
def fn (N : Nat) : Sh.den ins → Option (Sh.den outs) := fun (((a, _), _, b, _), (c, d, e, f, g, h, i, j, k, l, m, o, p, q, r, s, t, u, v, _), w, _) => wire_pipe_byte_b.run N a b c d e f g h i j k l m o p q r s t u v w
def S (N : Nat) : Fs := ⟨ins, outs, fn N⟩
def lam (N : Nat) : Pcs := pcs []
theorem pok (N : Nat) : (lam N).Ok Try.prog (C N) code := pcsOk_nil
theorem ok (N : Nat) : (S N).con.Ok Try.prog 21 := okF (F := S N) [] Try.func21 (by kernel_rfl) (by rfl) mix (cok N) (pok N) fun _ => by kernel_rfl
end wire_pipe_byte_b
namespace wire_pipe_node
def ins : Sh := (.cons (.box 47 s5) (.cons (.bxo 1 31 s7) .nil))
def C (N : Nat) : Ctx := ⟨U, 7, fun _ => true, gam [(21, (wire_pipe_byte_b.S N).con)], gamY []⟩
theorem cok (N : Nat) : (C N).Ok Try.prog := ⟨U_ok, GamOk.cons (wire_pipe_byte_b.ok N) (GamOk.nil), GamYOk.nil⟩
def code : Code := Try.f22.body.getD .skip
def outs : Sh := s9
end wire_pipe_node
def wire_pipe_node.run (N : Nat) (b : (List UInt8)) (wrong : Bool) (kind : Int) (from_ : Int) (to_ : Int) (txn : Int) (base : Int) (epoch : Int) (since : Int) (mark : Int) (ask : Int) (attempt : Int) (node : Int) (yes : Bool) (no : Bool) (wiped : Bool) (at_ : Int) (at1 : Int) (part : (List T7)) (part1 : (List T8)) (versions : (List T6)) : Option T11 :=
  obind (wire_pipe_byte_b.run N b wrong kind from_ to_ txn base epoch since mark ask attempt node yes no wiped at_ at1 part part1 versions (8 : Int)) fun ((b1, _), (_, _, wrong1, _), (kind1, from1, to1, txn1, base1, epoch1, since1, mark1, ask1, attempt1, node1, yes1, no1, wiped1, at2, at3, part2, part3, versions1, _), _) =>
    some ((b1, ()), ((), (), wrong1, ()), (kind1, from1, to1, txn1, base1, epoch1, since1, mark1, ask1, attempt1, node1, yes1, no1, wiped1, at2, at3, part2, part3, versions1, ()), ())
namespace wire_pipe_node
def fn (N : Nat) : Sh.den ins → Option (Sh.den outs) := fun (((a, _), _, b, _), (c, d, e, f, g, h, i, j, k, l, m, o, p, q, r, s, t, u, v, _), _) => wire_pipe_node.run N a b c d e f g h i j k l m o p q r s t u v
def S (N : Nat) : Fs := ⟨ins, outs, fn N⟩
def lam (N : Nat) : Pcs := pcs []
theorem pok (N : Nat) : (lam N).Ok Try.prog (C N) code := pcsOk_nil
theorem ok (N : Nat) : (S N).con.Ok Try.prog 22 := okF (F := S N) [] Try.func22 (by kernel_rfl) (by rfl) mix (cok N) (pok N) fun _ => by kernel_rfl
end wire_pipe_node
namespace wire_pipe_byte_c
def ins : Sh := (.cons (.box 47 s5) (.cons (.bxo 2 31 s7) (.cons (.val (.int .i64)) .nil)))
def C (N : Nat) : Ctx := ⟨U, 41, fun _ => true, gam [(37, (codec_Writer_Byte.S N).con), (23, (wire_pipe_must.S N).con)], gamY []⟩
theorem cok (N : Nat) : (C N).Ok Try.prog := ⟨U_ok, GamOk.cons (codec_Writer_Byte.ok N) (GamOk.cons (wire_pipe_must.ok N) (GamOk.nil)), GamYOk.nil⟩
def code : Code := Try.f21.body.getD .skip
def outs : Sh := s9
end wire_pipe_byte_c
def wire_pipe_byte_c.run (N : Nat) (b : (List UInt8)) (wrong : Bool) (kind : Int) (from_ : Int) (to_ : Int) (txn : Int) (base : Int) (epoch : Int) (since : Int) (mark : Int) (ask : Int) (attempt : Int) (node : Int) (yes : Bool) (no : Bool) (wiped : Bool) (at_ : Int) (at1 : Int) (part : (List T7)) (part1 : (List T8)) (versions : (List T6)) (most : Int) : Option T11 :=
  obind (codec_Writer_Byte.run N b (Hay.u8 (IntKind.u8.wrap to_))) fun ((b1, _), _) =>
    bif decide (to_ ≥ (0 : Int)) then
      obind (wire_pipe_must.run N b1 wrong (decide (to_ ≤ most))) fun ((_, _), (_, _, wrong1, _), _) =>
        some ((b1, ()), ((), (), wrong1, ()), (kind, from_, to_, txn, base, epoch, since, mark, ask, attempt, node, yes, no, wiped, at_, at1, part, part1, versions, ()), ())
    else
      obind (wire_pipe_must.run N b1 wrong false) fun ((_, _), (_, _, wrong2, _), _) =>
        some ((b1, ()), ((), (), wrong2, ()), (kind, from_, to_, txn, base, epoch, since, mark, ask, attempt, node, yes, no, wiped, at_, at1, part, part1, versions, ()), ())
namespace wire_pipe_byte_c
def fn (N : Nat) : Sh.den ins → Option (Sh.den outs) := fun (((a, _), _, b, _), (c, d, e, f, g, h, i, j, k, l, m, o, p, q, r, s, t, u, v, _), w, _) => wire_pipe_byte_c.run N a b c d e f g h i j k l m o p q r s t u v w
def S (N : Nat) : Fs := ⟨ins, outs, fn N⟩
def lam (N : Nat) : Pcs := pcs []
theorem pok (N : Nat) : (lam N).Ok Try.prog (C N) code := pcsOk_nil
theorem ok (N : Nat) : (S N).con.Ok Try.prog 21 := okF (F := S N) [] Try.func21 (by kernel_rfl) (by rfl) mix (cok N) (pok N) fun _ => by kernel_rfl
end wire_pipe_byte_c
namespace wire_pipe_node_b
def ins : Sh := (.cons (.box 47 s5) (.cons (.bxo 2 31 s7) .nil))
def C (N : Nat) : Ctx := ⟨U, 7, fun _ => true, gam [(21, (wire_pipe_byte_c.S N).con)], gamY []⟩
theorem cok (N : Nat) : (C N).Ok Try.prog := ⟨U_ok, GamOk.cons (wire_pipe_byte_c.ok N) (GamOk.nil), GamYOk.nil⟩
def code : Code := Try.f22.body.getD .skip
def outs : Sh := s9
end wire_pipe_node_b
def wire_pipe_node_b.run (N : Nat) (b : (List UInt8)) (wrong : Bool) (kind : Int) (from_ : Int) (to_ : Int) (txn : Int) (base : Int) (epoch : Int) (since : Int) (mark : Int) (ask : Int) (attempt : Int) (node : Int) (yes : Bool) (no : Bool) (wiped : Bool) (at_ : Int) (at1 : Int) (part : (List T7)) (part1 : (List T8)) (versions : (List T6)) : Option T11 :=
  obind (wire_pipe_byte_c.run N b wrong kind from_ to_ txn base epoch since mark ask attempt node yes no wiped at_ at1 part part1 versions (8 : Int)) fun ((b1, _), (_, _, wrong1, _), (kind1, from1, to1, txn1, base1, epoch1, since1, mark1, ask1, attempt1, node1, yes1, no1, wiped1, at2, at3, part2, part3, versions1, _), _) =>
    some ((b1, ()), ((), (), wrong1, ()), (kind1, from1, to1, txn1, base1, epoch1, since1, mark1, ask1, attempt1, node1, yes1, no1, wiped1, at2, at3, part2, part3, versions1, ()), ())
namespace wire_pipe_node_b
def fn (N : Nat) : Sh.den ins → Option (Sh.den outs) := fun (((a, _), _, b, _), (c, d, e, f, g, h, i, j, k, l, m, o, p, q, r, s, t, u, v, _), _) => wire_pipe_node_b.run N a b c d e f g h i j k l m o p q r s t u v
def S (N : Nat) : Fs := ⟨ins, outs, fn N⟩
def lam (N : Nat) : Pcs := pcs []
theorem pok (N : Nat) : (lam N).Ok Try.prog (C N) code := pcsOk_nil
theorem ok (N : Nat) : (S N).con.Ok Try.prog 22 := okF (F := S N) [] Try.func22 (by kernel_rfl) (by rfl) mix (cok N) (pok N) fun _ => by kernel_rfl
end wire_pipe_node_b
namespace codec_Writer_high
def ins : Sh := s11
def C (N : Nat) : Ctx := ⟨U, 24, fun _ => true, gam [], gamY []⟩
theorem cok (N : Nat) : (C N).Ok Try.prog := ⟨U_ok, GamOk.nil, GamYOk.nil⟩
def code : Code := Try.f57.body.getD .skip
def outs : Sh := s0
end codec_Writer_high
namespace codec_Writer_high_0
def ins : Sh := s11
def ts : List Tmp := [0, 1, 2]
def asg : List Tmp := [2, 6, 7, 8, 9, 10, 11, 12, 13, 14, 15, 16, 17, 18, 19, 20, 21, 22, 23]
def C (N : Nat) : Ctx := { codec_Writer_high.C N with may := fun t => asg.any (Nat.beq t) }
def code : Code := loopBody (sub codec_Writer_high.code [false])
theorem cok (N : Nat) : (C N).Ok Try.prog := okC (codec_Writer_high.cok N) _
def alts : List Alt := [⟨(.exit 0), [], s0⟩]
end codec_Writer_high_0
def codec_Writer_high_0.go (N : Nat) : Nat → (List UInt8) → Int → Int → Option ((T0 × Unit))
  | 0, _, _, _ => none
  | fuel + 1, b, n_, many =>
    bif decide (many > (0 : Int)) then
      bif decide ((0 : Int) ≤ (IntKind.i64.wrap ((8 : Int) * (IntKind.i64.wrap (many - (1 : Int)))))) then
        bif room (b.length + 1) 1 then
          codec_Writer_high_0.go N fuel (b ++ ([Hay.u8 (IntKind.u8.wrap (n_.fdiv (2 ^ (min (IntKind.i64.wrap ((8 : Int) * (IntKind.i64.wrap (many - (1 : Int))))).toNat 64))))] : List UInt8)) n_ (IntKind.i64.wrap (many - (1 : Int)))
        else none
      else none
    else some ((b, ()), ())
namespace codec_Writer_high_0
def g (N n : Nat) : Sh.den ins → Option (altsDen alts) := fun ((a, _), b, c, _) => codec_Writer_high_0.go N n a b c
def P (N : Nat) : Ps := ⟨ts, ins, asg, alts, g N N⟩
def lam (N : Nat) : Pcs := pcs []
theorem pok (N : Nat) : (lam N).Ok Try.prog (C N) code := pcsOk_nil
theorem ok (N : Nat) : ((P N).pc (codec_Writer_high.C N)).Ok Try.prog (codec_Writer_high.C N) (.loop code) := okL (F := P N) (g N) (codec_Writer_high.cok N) mix (pok N) (fun _ => rfl) rfl fun _ _ => by kernel_rfl
end codec_Writer_high_0
def codec_Writer_high.run (N : Nat) (b : (List UInt8)) (n_ : Int) (many : Int) : Option (T0 × Unit) :=
  obind (codec_Writer_high_0.go N N b n_ many) fun ((b1, _), _) =>
    some ((b1, ()), ())
namespace codec_Writer_high
def fn (N : Nat) : Sh.den ins → Option (Sh.den outs) := fun ((a, _), b, c, _) => codec_Writer_high.run N a b c
def S (N : Nat) : Fs := ⟨ins, outs, fn N⟩
def lam (N : Nat) : Pcs := pcs [([false], (codec_Writer_high_0.P N).pc (C N))]
theorem pok (N : Nat) : (lam N).Ok Try.prog (C N) code := pcsOk_cons (c1 := .loop codec_Writer_high_0.code) (by kernel_rfl) (codec_Writer_high_0.ok N) (pcsOk_nil)
theorem ok (N : Nat) : (S N).con.Ok Try.prog 57 := okF (F := S N) [] Try.func57 (by kernel_rfl) (by rfl) mix (cok N) (pok N) fun _ => by kernel_rfl
end codec_Writer_high
namespace codec_Writer_Long
def ins : Sh := s12
def C (N : Nat) : Ctx := ⟨U, 7, fun _ => true, gam [(57, (codec_Writer_high.S N).con)], gamY []⟩
theorem cok (N : Nat) : (C N).Ok Try.prog := ⟨U_ok, GamOk.cons (codec_Writer_high.ok N) (GamOk.nil), GamYOk.nil⟩
def code : Code := Try.f66.body.getD .skip
def outs : Sh := s0
end codec_Writer_Long
def codec_Writer_Long.run (N : Nat) (b : (List UInt8)) (n_ : Int) : Option (T0 × Unit) :=
  obind (codec_Writer_high.run N b n_ (8 : Int)) fun ((b1, _), _) =>
    some ((b1, ()), ())
namespace codec_Writer_Long
def fn (N : Nat) : Sh.den ins → Option (Sh.den outs) := fun ((a, _), b, _) => codec_Writer_Long.run N a b
def S (N : Nat) : Fs := ⟨ins, outs, fn N⟩
def lam (N : Nat) : Pcs := pcs []
theorem pok (N : Nat) : (lam N).Ok Try.prog (C N) code := pcsOk_nil
theorem ok (N : Nat) : (S N).con.Ok Try.prog 66 := okF (F := S N) [] Try.func66 (by kernel_rfl) (by rfl) mix (cok N) (pok N) fun _ => by kernel_rfl
end codec_Writer_Long
namespace wire_pipe_long
def ins : Sh := (.cons (.rbox 47 s5) (.cons (.bxo 3 31 s7) .nil))
def C (N : Nat) : Ctx := ⟨U, 24, fun _ => true, gam [(66, (codec_Writer_Long.S N).con)], gamY []⟩
theorem cok (N : Nat) : (C N).Ok Try.prog := ⟨U_ok, GamOk.cons (codec_Writer_Long.ok N) (GamOk.nil), GamYOk.nil⟩
def code : Code := Try.f43.body.getD .skip
def outs : Sh := s13
end wire_pipe_long
def wire_pipe_long.run (N : Nat) (b : (List UInt8)) (wrong : Bool) (kind : Int) (from_ : Int) (to_ : Int) (txn : Int) (base : Int) (epoch : Int) (since : Int) (mark : Int) (ask : Int) (attempt : Int) (node : Int) (yes : Bool) (no : Bool) (wiped : Bool) (at_ : Int) (at1 : Int) (part : (List T7)) (part1 : (List T8)) (versions : (List T6)) : Option T12 :=
  obind (codec_Writer_Long.run N b txn) fun ((b1, _), _) =>
    some ((b1, ()), (kind, from_, to_, txn, base, epoch, since, mark, ask, attempt, node, yes, no, wiped, at_, at1, part, part1, versions, ()), ())
namespace wire_pipe_long
def fn (N : Nat) : Sh.den ins → Option (Sh.den outs) := fun (((a, _), _, b, _), (c, d, e, f, g, h, i, j, k, l, m, o, p, q, r, s, t, u, v, _), _) => wire_pipe_long.run N a b c d e f g h i j k l m o p q r s t u v
def S (N : Nat) : Fs := ⟨ins, outs, fn N⟩
def lam (N : Nat) : Pcs := pcs []
theorem pok (N : Nat) : (lam N).Ok Try.prog (C N) code := pcsOk_nil
theorem ok (N : Nat) : (S N).con.Ok Try.prog 43 := okF (F := S N) [] Try.func43 (by kernel_rfl) (by rfl) mix (cok N) (pok N) fun _ => by kernel_rfl
end wire_pipe_long
namespace wire_pipe_long_b
def ins : Sh := (.cons (.rbox 47 s5) (.cons (.bxo 4 31 s7) .nil))
def C (N : Nat) : Ctx := ⟨U, 24, fun _ => true, gam [(66, (codec_Writer_Long.S N).con)], gamY []⟩
theorem cok (N : Nat) : (C N).Ok Try.prog := ⟨U_ok, GamOk.cons (codec_Writer_Long.ok N) (GamOk.nil), GamYOk.nil⟩
def code : Code := Try.f43.body.getD .skip
def outs : Sh := s13
end wire_pipe_long_b
def wire_pipe_long_b.run (N : Nat) (b : (List UInt8)) (wrong : Bool) (kind : Int) (from_ : Int) (to_ : Int) (txn : Int) (base : Int) (epoch : Int) (since : Int) (mark : Int) (ask : Int) (attempt : Int) (node : Int) (yes : Bool) (no : Bool) (wiped : Bool) (at_ : Int) (at1 : Int) (part : (List T7)) (part1 : (List T8)) (versions : (List T6)) : Option T12 :=
  obind (codec_Writer_Long.run N b base) fun ((b1, _), _) =>
    some ((b1, ()), (kind, from_, to_, txn, base, epoch, since, mark, ask, attempt, node, yes, no, wiped, at_, at1, part, part1, versions, ()), ())
namespace wire_pipe_long_b
def fn (N : Nat) : Sh.den ins → Option (Sh.den outs) := fun (((a, _), _, b, _), (c, d, e, f, g, h, i, j, k, l, m, o, p, q, r, s, t, u, v, _), _) => wire_pipe_long_b.run N a b c d e f g h i j k l m o p q r s t u v
def S (N : Nat) : Fs := ⟨ins, outs, fn N⟩
def lam (N : Nat) : Pcs := pcs []
theorem pok (N : Nat) : (lam N).Ok Try.prog (C N) code := pcsOk_nil
theorem ok (N : Nat) : (S N).con.Ok Try.prog 43 := okF (F := S N) [] Try.func43 (by kernel_rfl) (by rfl) mix (cok N) (pok N) fun _ => by kernel_rfl
end wire_pipe_long_b
namespace wire_pipe_longs
def ins : Sh := (.cons (.rbox 47 s5) (.cons (.els 1 2 (.cons (.bxo 3 31 s7) (.cons (.refo 3 4) .nil))) .nil))
def C (N : Nat) : Ctx := ⟨U, 16, fun _ => true, gam [(43, (((wire_pipe_long.S N).con).or (wire_pipe_long_b.S N).con))], gamY []⟩
theorem cok (N : Nat) : (C N).Ok Try.prog := ⟨U_ok, GamOk.cons (Con.or_ok (wire_pipe_long.ok N) (wire_pipe_long_b.ok N)) (GamOk.nil), GamYOk.nil⟩
def code : Code := Try.f40.body.getD .skip
def outs : Sh := s13
end wire_pipe_longs
def wire_pipe_longs.run (N : Nat) (b : (List UInt8)) (wrong : Bool) (kind : Int) (from_ : Int) (to_ : Int) (txn : Int) (base : Int) (epoch : Int) (since : Int) (mark : Int) (ask : Int) (attempt : Int) (node : Int) (yes : Bool) (no : Bool) (wiped : Bool) (at_ : Int) (at1 : Int) (part : (List T7)) (part1 : (List T8)) (versions : (List T6)) : Option T12 :=
  obind (wire_pipe_long.run N b wrong kind from_ to_ txn base epoch since mark ask attempt node yes no wiped at_ at1 part part1 versions) fun ((b1, _), (kind1, from1, to1, txn1, base1, epoch1, since1, mark1, ask1, attempt1, node1, yes1, no1, wiped1, at2, at3, part2, part3, versions1, _), _) =>
    obind (wire_pipe_long_b.run N b1 wrong kind1 from1 to1 txn1 base1 epoch1 since1 mark1 ask1 attempt1 node1 yes1 no1 wiped1 at2 at3 part2 part3 versions1) fun ((b2, _), (kind2, from2, to2, txn2, base2, epoch2, since2, mark2, ask2, attempt2, node2, yes2, no2, wiped2, at4, at5, part4, part5, versions2, _), _) =>
      some ((b2, ()), (kind2, from2, to2, txn2, base2, epoch2, since2, mark2, ask2, attempt2, node2, yes2, no2, wiped2, at4, at5, part4, part5, versions2, ()), ())
namespace wire_pipe_longs
def fn (N : Nat) : Sh.den ins → Option (Sh.den outs) := fun (((a, _), _, b, _), ((c, d, e, f, g, h, i, j, k, l, m, o, p, q, r, s, t, u, v, _), _, _), _) => wire_pipe_longs.run N a b c d e f g h i j k l m o p q r s t u v
def S (N : Nat) : Fs := ⟨ins, outs, fn N⟩
def lam (N : Nat) : Pcs := pcs [([true, false], (Pc.unroll (C N) (loopBody (sub code [true, false])) (pcs []) 3))]
theorem pok (N : Nat) : (lam N).Ok Try.prog (C N) code := pcsOk_cons (c1 := .loop (loopBody (sub code [true, false]))) (by kernel_rfl) (unroll_ok (cok N) mix pcsOk_nil 3) (pcsOk_nil)
theorem ok (N : Nat) : (S N).con.Ok Try.prog 40 := okF (F := S N) [] Try.func40 (by kernel_rfl) (by rfl) mix (cok N) (pok N) fun _ => by kernel_rfl
end wire_pipe_longs
namespace codec_Writer_Var
def ins : Sh := s12
def C (N : Nat) : Ctx := ⟨U, 32, fun _ => true, gam [(37, (codec_Writer_Byte.S N).con), (57, (codec_Writer_high.S N).con)], gamY []⟩
theorem cok (N : Nat) : (C N).Ok Try.prog := ⟨U_ok, GamOk.cons (codec_Writer_Byte.ok N) (GamOk.cons (codec_Writer_high.ok N) (GamOk.nil)), GamYOk.nil⟩
def code : Code := Try.f71.body.getD .skip
def outs : Sh := s0
end codec_Writer_Var
def codec_Writer_Var.run (N : Nat) (b : (List UInt8)) (n_ : Int) : Option (T0 × Unit) :=
  bif decide (n_ < (253 : Int)) then
    obind (codec_Writer_Byte.run N b (Hay.u8 (IntKind.u8.wrap n_))) fun ((b1, _), _) =>
      some ((b1, ()), ())
  else
    bif decide (n_ ≤ (65535 : Int)) then
      obind (codec_Writer_Byte.run N b (253 : UInt8)) fun ((b2, _), _) =>
        obind (codec_Writer_high.run N b2 n_ (2 : Int)) fun ((b3, _), _) =>
          some ((b3, ()), ())
    else
      bif decide (n_ ≤ (4294967295 : Int)) then
        obind (codec_Writer_Byte.run N b (254 : UInt8)) fun ((b4, _), _) =>
          obind (codec_Writer_high.run N b4 n_ (4 : Int)) fun ((b5, _), _) =>
            some ((b5, ()), ())
      else
        obind (codec_Writer_Byte.run N b (255 : UInt8)) fun ((b6, _), _) =>
          obind (codec_Writer_high.run N b6 n_ (8 : Int)) fun ((b7, _), _) =>
            some ((b7, ()), ())
namespace codec_Writer_Var
def fn (N : Nat) : Sh.den ins → Option (Sh.den outs) := fun ((a, _), b, _) => codec_Writer_Var.run N a b
def S (N : Nat) : Fs := ⟨ins, outs, fn N⟩
def lam (N : Nat) : Pcs := pcs []
theorem pok (N : Nat) : (lam N).Ok Try.prog (C N) code := pcsOk_nil
theorem ok (N : Nat) : (S N).con.Ok Try.prog 71 := okF (F := S N) [] Try.func71 (by kernel_rfl) (by rfl) mix (cok N) (pok N) fun _ => by kernel_rfl
end codec_Writer_Var
namespace wire_pipe_place
def ins : Sh := (.cons (.box 47 s5) (.cons (.rbox 80 s15) .nil))
def C (N : Nat) : Ctx := ⟨U, 38, fun _ => true, gam [(23, (wire_pipe_must.S N).con), (71, (codec_Writer_Var.S N).con)], gamY []⟩
theorem cok (N : Nat) : (C N).Ok Try.prog := ⟨U_ok, GamOk.cons (wire_pipe_must.ok N) (GamOk.cons (codec_Writer_Var.ok N) (GamOk.nil)), GamYOk.nil⟩
def code : Code := Try.f68.body.getD .skip
def outs : Sh := s8
end wire_pipe_place
def wire_pipe_place.run (N : Nat) (b : (List UInt8)) (wrong : Bool) (at_ : Int) (at1 : Int) (ver : Int) (ver1 : Int) (ver2 : (List T4)) (ver3 : Int) : Option T9 :=
  bif decide (at_ ≥ (0 : Int)) then
    obind (wire_pipe_must.run N b wrong (decide (at_ ≤ (2147483647 : Int)))) fun ((_, _), (_, _, wrong1, _), _) =>
      obind (codec_Writer_Var.run N b (IntKind.u64.wrap at_)) fun ((b1, _), _) =>
        some ((b1, ()), ((), (), wrong1, ()), ())
  else
    obind (wire_pipe_must.run N b wrong false) fun ((_, _), (_, _, wrong2, _), _) =>
      obind (codec_Writer_Var.run N b (IntKind.u64.wrap at_)) fun ((b2, _), _) =>
        some ((b2, ()), ((), (), wrong2, ()), ())
namespace wire_pipe_place
def fn (N : Nat) : Sh.den ins → Option (Sh.den outs) := fun (((a, _), _, b, _), (c, d, e, f, g, h, _), _) => wire_pipe_place.run N a b c d e f g h
def S (N : Nat) : Fs := ⟨ins, outs, fn N⟩
def lam (N : Nat) : Pcs := pcs []
theorem pok (N : Nat) : (lam N).Ok Try.prog (C N) code := pcsOk_nil
theorem ok (N : Nat) : (S N).con.Ok Try.prog 68 := okF (F := S N) [] Try.func68 (by kernel_rfl) (by rfl) mix (cok N) (pok N) fun _ => by kernel_rfl
end wire_pipe_place
namespace wire_pipe_place_b
def ins : Sh := (.cons (.box 47 s5) (.cons (.bxo 1 80 s15) .nil))
def C (N : Nat) : Ctx := ⟨U, 38, fun _ => true, gam [(23, (wire_pipe_must.S N).con), (71, (codec_Writer_Var.S N).con)], gamY []⟩
theorem cok (N : Nat) : (C N).Ok Try.prog := ⟨U_ok, GamOk.cons (wire_pipe_must.ok N) (GamOk.cons (codec_Writer_Var.ok N) (GamOk.nil)), GamYOk.nil⟩
def code : Code := Try.f68.body.getD .skip
def outs : Sh := s16
end wire_pipe_place_b
def wire_pipe_place_b.run (N : Nat) (b : (List UInt8)) (wrong : Bool) (at_ : Int) (at1 : Int) (ver : Int) (ver1 : Int) (ver2 : (List T4)) (ver3 : Int) : Option T14 :=
  bif decide (at1 ≥ (0 : Int)) then
    obind (wire_pipe_must.run N b wrong (decide (at1 ≤ (2147483647 : Int)))) fun ((_, _), (_, _, wrong1, _), _) =>
      obind (codec_Writer_Var.run N b (IntKind.u64.wrap at1)) fun ((b1, _), _) =>
        some ((b1, ()), ((), (), wrong1, ()), (at_, at1, ver, ver1, ver2, ver3, ()), ())
  else
    obind (wire_pipe_must.run N b wrong false) fun ((_, _), (_, _, wrong2, _), _) =>
      obind (codec_Writer_Var.run N b (IntKind.u64.wrap at1)) fun ((b2, _), _) =>
        some ((b2, ()), ((), (), wrong2, ()), (at_, at1, ver, ver1, ver2, ver3, ()), ())
namespace wire_pipe_place_b
def fn (N : Nat) : Sh.den ins → Option (Sh.den outs) := fun (((a, _), _, b, _), (c, d, e, f, g, h, _), _) => wire_pipe_place_b.run N a b c d e f g h
def S (N : Nat) : Fs := ⟨ins, outs, fn N⟩
def lam (N : Nat) : Pcs := pcs []
theorem pok (N : Nat) : (lam N).Ok Try.prog (C N) code := pcsOk_nil
theorem ok (N : Nat) : (S N).con.Ok Try.prog 68 := okF (F := S N) [] Try.func68 (by kernel_rfl) (by rfl) mix (cok N) (pok N) fun _ => by kernel_rfl
end wire_pipe_place_b
namespace wire_pipe_segment
def ins : Sh := s17
def C (N : Nat) : Ctx := ⟨U, 14, fun _ => true, gam [(68, (((wire_pipe_place.S N).con).or (wire_pipe_place_b.S N).con))], gamY []⟩
theorem cok (N : Nat) : (C N).Ok Try.prog := ⟨U_ok, GamOk.cons (Con.or_ok (wire_pipe_place.ok N) (wire_pipe_place_b.ok N)) (GamOk.nil), GamYOk.nil⟩
def code : Code := Try.f48.body.getD .skip
def outs : Sh := s16
end wire_pipe_segment
def wire_pipe_segment.run (N : Nat) (b : (List UInt8)) (wrong : Bool) (at_ : Int) (at1 : Int) (ver : Int) (ver1 : Int) (ver2 : (List T4)) (ver3 : Int) : Option T14 :=
  obind (wire_pipe_place.run N b wrong at_ at1 ver ver1 ver2 ver3) fun ((b1, _), (_, _, wrong1, _), _) =>
    obind (wire_pipe_place_b.run N b1 wrong1 at_ at1 ver ver1 ver2 ver3) fun ((b2, _), (_, _, wrong2, _), (at2, at3, ver4, ver5, ver6, ver7, _), _) =>
      some ((b2, ()), ((), (), wrong2, ()), (at2, at3, ver4, ver5, ver6, ver7, ()), ())
namespace wire_pipe_segment
def fn (N : Nat) : Sh.den ins → Option (Sh.den outs) := fun (((a, _), _, b, _), (c, d, e, f, g, h, _), _) => wire_pipe_segment.run N a b c d e f g h
def S (N : Nat) : Fs := ⟨ins, outs, fn N⟩
def lam (N : Nat) : Pcs := pcs []
theorem pok (N : Nat) : (lam N).Ok Try.prog (C N) code := pcsOk_nil
theorem ok (N : Nat) : (S N).con.Ok Try.prog 48 := okF (F := S N) [] Try.func48 (by kernel_rfl) (by rfl) mix (cok N) (pok N) fun _ => by kernel_rfl
end wire_pipe_segment
namespace codec_Writer_Word
def ins : Sh := (.cons (.box 60 (.cons (.own 5 .byte) .nil)) (.cons (.val (.int .u32)) .nil))
def C (N : Nat) : Ctx := ⟨U, 8, fun _ => true, gam [(57, (codec_Writer_high.S N).con)], gamY []⟩
theorem cok (N : Nat) : (C N).Ok Try.prog := ⟨U_ok, GamOk.cons (codec_Writer_high.ok N) (GamOk.nil), GamYOk.nil⟩
def code : Code := Try.f26.body.getD .skip
def outs : Sh := s0
end codec_Writer_Word
def codec_Writer_Word.run (N : Nat) (b : (List UInt8)) (n_ : Int) : Option (T0 × Unit) :=
  obind (codec_Writer_high.run N b (IntKind.u64.wrap n_) (4 : Int)) fun ((b1, _), _) =>
    some ((b1, ()), ())
namespace codec_Writer_Word
def fn (N : Nat) : Sh.den ins → Option (Sh.den outs) := fun ((a, _), b, _) => codec_Writer_Word.run N a b
def S (N : Nat) : Fs := ⟨ins, outs, fn N⟩
def lam (N : Nat) : Pcs := pcs []
theorem pok (N : Nat) : (lam N).Ok Try.prog (C N) code := pcsOk_nil
theorem ok (N : Nat) : (S N).con.Ok Try.prog 26 := okF (F := S N) [] Try.func26 (by kernel_rfl) (by rfl) mix (cok N) (pok N) fun _ => by kernel_rfl
end codec_Writer_Word
namespace wire_pipe_word
def ins : Sh := (.cons (.rbox 47 s5) (.cons (.bxo 3 80 s15) .nil))
def C (N : Nat) : Ctx := ⟨U, 24, fun _ => true, gam [(26, (codec_Writer_Word.S N).con)], gamY []⟩
theorem cok (N : Nat) : (C N).Ok Try.prog := ⟨U_ok, GamOk.cons (codec_Writer_Word.ok N) (GamOk.nil), GamYOk.nil⟩
def code : Code := Try.f74.body.getD .skip
def outs : Sh := (.cons (.upd 1 60 (.cons (.own 5 .byte) .nil)) (.cons (.upd 3 80 s15) .nil))
end wire_pipe_word
def wire_pipe_word.run (N : Nat) (b : (List UInt8)) (wrong : Bool) (at_ : Int) (at1 : Int) (ver : Int) (ver1 : Int) (ver2 : (List T4)) (ver3 : Int) : Option T15 :=
  obind (codec_Writer_Word.run N b ver1) fun ((b1, _), _) =>
    some ((b1, ()), (at_, at1, ver, ver1, ver2, ver3, ()), ())
namespace wire_pipe_word
def fn (N : Nat) : Sh.den ins → Option (Sh.den outs) := fun (((a, _), _, b, _), (c, d, e, f, g, h, _), _) => wire_pipe_word.run N a b c d e f g h
def S (N : Nat) : Fs := ⟨ins, outs, fn N⟩
def lam (N : Nat) : Pcs := pcs []
theorem pok (N : Nat) : (lam N).Ok Try.prog (C N) code := pcsOk_nil
theorem ok (N : Nat) : (S N).con.Ok Try.prog 74 := okF (F := S N) [] Try.func74 (by kernel_rfl) (by rfl) mix (cok N) (pok N) fun _ => by kernel_rfl
end wire_pipe_word
namespace value_Null
def ins : Sh := .nil
def C (N : Nat) : Ctx := ⟨U, 2, fun _ => true, gam [], gamY []⟩
theorem cok (N : Nat) : (C N).Ok Try.prog := ⟨U_ok, GamOk.nil, GamYOk.nil⟩
def code : Code := Try.f88.body.getD .skip
def outs : Sh := s18
end value_Null
def value_Null.run (N : Nat)  : Option (T4 × Unit) :=
  some (((0 : Int), false, (0 : Int), ([] : List UInt8)), ())
namespace value_Null
def fn (N : Nat) : Sh.den ins → Option (Sh.den outs) := fun _ => value_Null.run N
def S (N : Nat) : Fs := ⟨ins, outs, fn N⟩
def lam (N : Nat) : Pcs := pcs []
theorem pok (N : Nat) : (lam N).Ok Try.prog (C N) code := pcsOk_nil
theorem ok (N : Nat) : (S N).con.Ok Try.prog 88 := okF (F := S N) [] Try.func88 (by kernel_rfl) (by rfl) mix (cok N) (pok N) fun _ => by kernel_rfl
end value_Null
namespace value_Bool
def ins : Sh := (.cons (.val .bool) .nil)
def C (N : Nat) : Ctx := ⟨U, 5, fun _ => true, gam [], gamY []⟩
theorem cok (N : Nat) : (C N).Ok Try.prog := ⟨U_ok, GamOk.nil, GamYOk.nil⟩
def code : Code := Try.f89.body.getD .skip
def outs : Sh := s18
end value_Bool
def value_Bool.run (N : Nat) (b : Bool) : Option (T4 × Unit) :=
  some (((1 : Int), b, (0 : Int), ([] : List UInt8)), ())
namespace value_Bool
def fn (N : Nat) : Sh.den ins → Option (Sh.den outs) := fun (a, _) => value_Bool.run N a
def S (N : Nat) : Fs := ⟨ins, outs, fn N⟩
def lam (N : Nat) : Pcs := pcs []
theorem pok (N : Nat) : (lam N).Ok Try.prog (C N) code := pcsOk_nil
theorem ok (N : Nat) : (S N).con.Ok Try.prog 89 := okF (F := S N) [] Try.func89 (by kernel_rfl) (by rfl) mix (cok N) (pok N) fun _ => by kernel_rfl
end value_Bool
namespace value_Int
def ins : Sh := (.cons (.val (.int .i64)) .nil)
def C (N : Nat) : Ctx := ⟨U, 5, fun _ => true, gam [], gamY []⟩
theorem cok (N : Nat) : (C N).Ok Try.prog := ⟨U_ok, GamOk.nil, GamYOk.nil⟩
def code : Code := Try.f90.body.getD .skip
def outs : Sh := s18
end value_Int
def value_Int.run (N : Nat) (n_ : Int) : Option (T4 × Unit) :=
  some (((2 : Int), false, n_, ([] : List UInt8)), ())
namespace value_Int
def fn (N : Nat) : Sh.den ins → Option (Sh.den outs) := fun (a, _) => value_Int.run N a
def S (N : Nat) : Fs := ⟨ins, outs, fn N⟩
def lam (N : Nat) : Pcs := pcs []
theorem pok (N : Nat) : (lam N).Ok Try.prog (C N) code := pcsOk_nil
theorem ok (N : Nat) : (S N).con.Ok Try.prog 90 := okF (F := S N) [] Try.func90 (by kernel_rfl) (by rfl) mix (cok N) (pok N) fun _ => by kernel_rfl
end value_Int
namespace value_Text
def ins : Sh := (.cons (.val .str) .nil)
def C (N : Nat) : Ctx := ⟨U, 5, fun _ => true, gam [], gamY []⟩
theorem cok (N : Nat) : (C N).Ok Try.prog := ⟨U_ok, GamOk.nil, GamYOk.nil⟩
def code : Code := Try.f92.body.getD .skip
def outs : Sh := s18
end value_Text
def value_Text.run (N : Nat) (s : (List UInt8)) : Option (T4 × Unit) :=
  some (((3 : Int), false, (0 : Int), s), ())
namespace value_Text
def fn (N : Nat) : Sh.den ins → Option (Sh.den outs) := fun (a, _) => value_Text.run N a
def S (N : Nat) : Fs := ⟨ins, outs, fn N⟩
def lam (N : Nat) : Pcs := pcs []
theorem pok (N : Nat) : (lam N).Ok Try.prog (C N) code := pcsOk_nil
theorem ok (N : Nat) : (S N).con.Ok Try.prog 92 := okF (F := S N) [] Try.func92 (by kernel_rfl) (by rfl) mix (cok N) (pok N) fun _ => by kernel_rfl
end value_Text
namespace value_Right
def ins : Sh := s18
def C (N : Nat) : Ctx := ⟨U, 43, fun _ => true, gam [(88, (value_Null.S N).con), (89, (value_Bool.S N).con), (90, (value_Int.S N).con), (92, (value_Text.S N).con)], gamY []⟩
theorem cok (N : Nat) : (C N).Ok Try.prog := ⟨U_ok, GamOk.cons (value_Null.ok N) (GamOk.cons (value_Bool.ok N) (GamOk.cons (value_Int.ok N) (GamOk.cons (value_Text.ok N) (GamOk.nil)))), GamYOk.nil⟩
def code : Code := Try.f86.body.getD .skip
def outs : Sh := (.cons (.val .bool) .nil)
end value_Right
def value_Right.run (N : Nat) (v : T4) : Option (Bool × Unit) :=
  bif decide (v.1 = (0 : Int)) then
    obind (value_Null.run N) fun (v1, _) =>
      some ((decide (v.1 = v1.1)) && ((v.2.1 == v1.2.1) && ((decide (v.2.2.1 = v1.2.2.1)) && ((decide (v.2.2.2 = v1.2.2.2)) && true))), ())
  else
    bif decide (v.1 = (1 : Int)) then
      obind (value_Bool.run N v.2.1) fun (v2, _) =>
        some ((decide (v.1 = v2.1)) && ((v.2.1 == v2.2.1) && ((decide (v.2.2.1 = v2.2.2.1)) && ((decide (v.2.2.2 = v2.2.2.2)) && true))), ())
    else
      bif decide (v.1 = (2 : Int)) then
        obind (value_Int.run N v.2.2.1) fun (v3, _) =>
          some ((decide (v.1 = v3.1)) && ((v.2.1 == v3.2.1) && ((decide (v.2.2.1 = v3.2.2.1)) && ((decide (v.2.2.2 = v3.2.2.2)) && true))), ())
      else
        bif decide (v.1 = (3 : Int)) then
          obind (value_Text.run N v.2.2.2) fun (v4, _) =>
            bif (decide (v.1 = v4.1)) && ((v.2.1 == v4.2.1) && ((decide (v.2.2.1 = v4.2.2.1)) && ((decide (v.2.2.2 = v4.2.2.2)) && true))) then
              some (decide ((v.2.2.2.length : Int) ≤ (64 : Int)), ())
            else some (false, ())
        else some (false, ())
namespace value_Right
def fn (N : Nat) : Sh.den ins → Option (Sh.den outs) := fun (a, _) => value_Right.run N a
def S (N : Nat) : Fs := ⟨ins, outs, fn N⟩
def lam (N : Nat) : Pcs := pcs []
theorem pok (N : Nat) : (lam N).Ok Try.prog (C N) code := pcsOk_nil
theorem ok (N : Nat) : (S N).con.Ok Try.prog 86 := okF (F := S N) [] Try.func86 (by kernel_rfl) (by rfl) mix (cok N) (pok N) fun _ => by kernel_rfl
end value_Right
namespace rows_may
def ins : Sh := s19
def C (N : Nat) : Ctx := ⟨U, 18, fun _ => true, gam [(86, (value_Right.S N).con)], gamY []⟩
theorem cok (N : Nat) : (C N).Ok Try.prog := ⟨U_ok, GamOk.cons (value_Right.ok N) (GamOk.nil), GamYOk.nil⟩
def code : Code := Try.f82.body.getD .skip
def outs : Sh := (.cons (.val .bool) .nil)
end rows_may
namespace rows_may_0
def ins : Sh := s21
def ts : List Tmp := [5, 6, 7]
def asg : List Tmp := [2, 4, 7, 8, 9, 10, 11, 12, 13, 14]
def C (N : Nat) : Ctx := { rows_may.C N with may := fun t => asg.any (Nat.beq t) }
def code : Code := loopBody (sub rows_may.code [true, false, true, false])
theorem cok (N : Nat) : (C N).Ok Try.prog := okC (rows_may.cok N) _
def alts : List Alt := [⟨.ret, [2], (.cons (.val .bool) .nil)⟩, ⟨(.exit 0), [], .nil⟩]
end rows_may_0
def rows_may_0.go (N : Nat) : Nat → (List T4) → Int → Int → Option T16
  | 0, _, _, _ => none
  | fuel + 1, t5, t6, t7 =>
    bif decide (t7 < t6) then
      bif inB t7 t5.length then
        obind (value_Right.run N (t5.getD t7.toNat ((0 : Int), false, (0 : Int), ([] : List UInt8)))) fun (b, _) =>
          bif !b then
            some (.inl (false, ()))
          else rows_may_0.go N fuel t5 t6 (IntKind.i64.wrap (t7 + (1 : Int)))
      else none
    else some (.inr ())
namespace rows_may_0
def g (N n : Nat) : Sh.den ins → Option (altsDen alts) := fun (a, b, c, _) => rows_may_0.go N n a b c
def P (N : Nat) : Ps := ⟨ts, ins, asg, alts, g N N⟩
def lam (N : Nat) : Pcs := pcs []
theorem pok (N : Nat) : (lam N).Ok Try.prog (C N) code := pcsOk_nil
theorem ok (N : Nat) : ((P N).pc (rows_may.C N)).Ok Try.prog (rows_may.C N) (.loop code) := okL (F := P N) (g N) (rows_may.cok N) mix (pok N) (fun _ => rfl) rfl fun _ _ => by kernel_rfl
end rows_may_0
def rows_may.run (N : Nat) (row : (List T4)) : Option (Bool × Unit) :=
  obind (rows_may_0.go N N row (row.length : Int) (0 : Int)) fun y => match y with
  | .inl (t2, _) =>
      some (t2, ())
  | .inr (_) =>
      some (decide ((row.length : Int) ≤ (16 : Int)), ())
namespace rows_may
def fn (N : Nat) : Sh.den ins → Option (Sh.den outs) := fun (a, _) => rows_may.run N a
def S (N : Nat) : Fs := ⟨ins, outs, fn N⟩
def lam (N : Nat) : Pcs := pcs [([true, false, true, false], (rows_may_0.P N).pc (C N))]
theorem pok (N : Nat) : (lam N).Ok Try.prog (C N) code := pcsOk_cons (c1 := .loop rows_may_0.code) (by kernel_rfl) (rows_may_0.ok N) (pcsOk_nil)
theorem ok (N : Nat) : (S N).con.Ok Try.prog 82 := okF (F := S N) [] Try.func82 (by kernel_rfl) (by rfl) mix (cok N) (pok N) fun _ => by kernel_rfl
end rows_may
namespace rows_eight
def ins : Sh := (.cons (.own 5 .byte) (.cons (.val (.int .u64)) .nil))
def C (N : Nat) : Ctx := ⟨U, 22, fun _ => true, gam [], gamY []⟩
theorem cok (N : Nat) : (C N).Ok Try.prog := ⟨U_ok, GamOk.nil, GamYOk.nil⟩
def code : Code := Try.f87.body.getD .skip
def outs : Sh := (.cons (.own 5 .byte) .nil)
end rows_eight
namespace rows_eight_0
def ins : Sh := (.cons (.val (.int .u64)) (.cons (.arr 149 .byte 8) (.cons (.val (.int .i64)) .nil)))
def ts : List Tmp := [1, 5, 7]
def asg : List Tmp := [6, 7, 8, 9, 10, 11, 12, 13, 14, 15, 16, 17, 18]
def C (N : Nat) : Ctx := { rows_eight.C N with may := fun t => asg.any (Nat.beq t) }
def code : Code := loopBody (sub rows_eight.code [true, true, false, true, false])
theorem cok (N : Nat) : (C N).Ok Try.prog := okC (rows_eight.cok N) _
def alts : List Alt := [⟨(.exit 0), [], (.cons (.updr 0 149 .byte) .nil)⟩]
end rows_eight_0
def rows_eight_0.go (N : Nat) : Nat → Int → (List UInt8) → Int → Option (T0)
  | 0, _, _, _ => none
  | fuel + 1, n_, x, t7 =>
    bif decide (t7 < (8 : Int)) then
      bif decide ((0 : Int) ≤ (IntKind.i64.wrap ((56 : Int) - (IntKind.i64.wrap ((8 : Int) * t7))))) then
        bif inB t7 8 then
          bif decide (t7.toNat < x.length) then
            rows_eight_0.go N fuel n_ (x.set t7.toNat (Hay.u8 (IntKind.u8.wrap (n_.fdiv (2 ^ (min (IntKind.i64.wrap ((56 : Int) - (IntKind.i64.wrap ((8 : Int) * t7)))).toNat 64)))))) (IntKind.i64.wrap (t7 + (1 : Int)))
          else none
        else none
      else none
    else some (x, ())
namespace rows_eight_0
def g (N n : Nat) : Sh.den ins → Option (altsDen alts) := fun (a, b, c, _) => rows_eight_0.go N n a b c
def P (N : Nat) : Ps := ⟨ts, ins, asg, alts, g N N⟩
def lam (N : Nat) : Pcs := pcs []
theorem pok (N : Nat) : (lam N).Ok Try.prog (C N) code := pcsOk_nil
theorem ok (N : Nat) : ((P N).pc (rows_eight.C N)).Ok Try.prog (rows_eight.C N) (.loop code) := okL (F := P N) (g N) (rows_eight.cok N) mix (pok N) (fun _ => rfl) rfl fun _ _ => by kernel_rfl
end rows_eight_0
def rows_eight.run (N : Nat) (b : (List UInt8)) (n_ : Int) : Option T0 :=
  obind (rows_eight_0.go N N n_ (List.replicate 8 (0 : UInt8)) (0 : Int)) fun (v, _) =>
    bif room (b.length + ((v.drop 0).take 8).length) 1 then
      some (b ++ ((v.drop 0).take 8), ())
    else none
namespace rows_eight
def fn (N : Nat) : Sh.den ins → Option (Sh.den outs) := fun (a, b, _) => rows_eight.run N a b
def S (N : Nat) : Fs := ⟨ins, outs, fn N⟩
def lam (N : Nat) : Pcs := pcs [([true, true, false, true, false], (rows_eight_0.P N).pc (C N))]
theorem pok (N : Nat) : (lam N).Ok Try.prog (C N) code := pcsOk_cons (c1 := .loop rows_eight_0.code) (by kernel_rfl) (rows_eight_0.ok N) (pcsOk_nil)
theorem ok (N : Nat) : (S N).con.Ok Try.prog 87 := okF (F := S N) [] Try.func87 (by kernel_rfl) (by rfl) mix (cok N) (pok N) fun _ => by kernel_rfl
end rows_eight
namespace rows_one
def ins : Sh := (.cons (.own 5 .byte) s18)
def C (N : Nat) : Ctx := ⟨U, 44, fun _ => true, gam [(87, (rows_eight.S N).con)], gamY []⟩
theorem cok (N : Nat) : (C N).Ok Try.prog := ⟨U_ok, GamOk.cons (rows_eight.ok N) (GamOk.nil), GamYOk.nil⟩
def code : Code := Try.f83.body.getD .skip
def outs : Sh := (.cons (.own 5 .byte) .nil)
end rows_one
def rows_one.run (N : Nat) (b : (List UInt8)) (v : T4) : Option T0 :=
  bif room (b.length + 1) 1 then
    bif decide (v.1 = (1 : Int)) then
      bif v.2.1 then
        bif room ((b ++ ([Hay.u8 (IntKind.u8.wrap v.1)] : List UInt8)).length + 1) 1 then
          some ((b ++ ([Hay.u8 (IntKind.u8.wrap v.1)] : List UInt8)) ++ ([(1 : UInt8)] : List UInt8), ())
        else none
      else
        bif room ((b ++ ([Hay.u8 (IntKind.u8.wrap v.1)] : List UInt8)).length + 1) 1 then
          some ((b ++ ([Hay.u8 (IntKind.u8.wrap v.1)] : List UInt8)) ++ ([(0 : UInt8)] : List UInt8), ())
        else none
    else
      bif decide (v.1 = (2 : Int)) then
        obind (rows_eight.run N (b ++ ([Hay.u8 (IntKind.u8.wrap v.1)] : List UInt8)) (IntKind.u64.wrap v.2.2.1)) fun (l, _) =>
          some (l, ())
      else
        bif decide (v.1 = (3 : Int)) then
          bif room ((b ++ ([Hay.u8 (IntKind.u8.wrap v.1)] : List UInt8)).length + 1) 1 then
            bif room (((b ++ ([Hay.u8 (IntKind.u8.wrap v.1)] : List UInt8)) ++ ([Hay.u8 (IntKind.u8.wrap (v.2.2.2.length : Int))] : List UInt8)).length + v.2.2.2.length) 1 then
              some (((b ++ ([Hay.u8 (IntKind.u8.wrap v.1)] : List UInt8)) ++ ([Hay.u8 (IntKind.u8.wrap (v.2.2.2.length : Int))] : List UInt8)) ++ v.2.2.2, ())
            else none
          else none
        else some (b ++ ([Hay.u8 (IntKind.u8.wrap v.1)] : List UInt8), ())
  else none
namespace rows_one
def fn (N : Nat) : Sh.den ins → Option (Sh.den outs) := fun (a, b, _) => rows_one.run N a b
def S (N : Nat) : Fs := ⟨ins, outs, fn N⟩
def lam (N : Nat) : Pcs := pcs []
theorem pok (N : Nat) : (lam N).Ok Try.prog (C N) code := pcsOk_nil
theorem ok (N : Nat) : (S N).con.Ok Try.prog 83 := okF (F := S N) [] Try.func83 (by kernel_rfl) (by rfl) mix (cok N) (pok N) fun _ => by kernel_rfl
end rows_one
namespace rows_Encode
def ins : Sh := s19
def C (N : Nat) : Ctx := ⟨U, 25, fun _ => true, gam [(82, (rows_may.S N).con), (83, (rows_one.S N).con)], gamY []⟩
theorem cok (N : Nat) : (C N).Ok Try.prog := ⟨U_ok, GamOk.cons (rows_may.ok N) (GamOk.cons (rows_one.ok N) (GamOk.nil)), GamYOk.nil⟩
def code : Code := Try.f78.body.getD .skip
def outs : Sh := s22
end rows_Encode
namespace rows_Encode_0
def ins : Sh := (.cons (.own 5 .byte) s21)
def ts : List Tmp := [4, 14, 15, 16]
def asg : List Tmp := [4, 6, 16, 17, 18, 19, 20, 21, 22, 23]
def C (N : Nat) : Ctx := { rows_Encode.C N with may := fun t => asg.any (Nat.beq t) }
def code : Code := loopBody (sub rows_Encode.code [true, true, true, false, true, false])
theorem cok (N : Nat) : (C N).Ok Try.prog := okC (rows_Encode.cok N) _
def alts : List Alt := [⟨(.exit 0), [4], (.cons (.own 5 .byte) .nil)⟩]
end rows_Encode_0
def rows_Encode_0.go (N : Nat) : Nat → (List UInt8) → (List T4) → Int → Int → Option (T0)
  | 0, _, _, _, _ => none
  | fuel + 1, b, t14, t15, t16 =>
    bif decide (t16 < t15) then
      bif inB t16 t14.length then
        obind (rows_one.run N b (t14.getD t16.toNat ((0 : Int), false, (0 : Int), ([] : List UInt8)))) fun (l, _) =>
          rows_Encode_0.go N fuel l t14 t15 (IntKind.i64.wrap (t16 + (1 : Int)))
      else none
    else some (b, ())
namespace rows_Encode_0
def g (N n : Nat) : Sh.den ins → Option (altsDen alts) := fun (a, b, c, d, _) => rows_Encode_0.go N n a b c d
def P (N : Nat) : Ps := ⟨ts, ins, asg, alts, g N N⟩
def lam (N : Nat) : Pcs := pcs []
theorem pok (N : Nat) : (lam N).Ok Try.prog (C N) code := pcsOk_nil
theorem ok (N : Nat) : ((P N).pc (rows_Encode.C N)).Ok Try.prog (rows_Encode.C N) (.loop code) := okL (F := P N) (g N) (rows_Encode.cok N) mix (pok N) (fun _ => rfl) rfl fun _ _ => by kernel_rfl
end rows_Encode_0
def rows_Encode.run (N : Nat) (row : (List T4)) : Option T17 :=
  obind (rows_may.run N row) fun (b, _) =>
    bif !b then
      some (([] : List UInt8), (30 : Int), ())
    else
      obind (rows_Encode_0.go N N ([Hay.u8 (IntKind.u8.wrap (row.length : Int))] : List UInt8) row (row.length : Int) (0 : Int)) fun (b1, _) =>
        some (b1, (0 : Int), ())
namespace rows_Encode
def fn (N : Nat) : Sh.den ins → Option (Sh.den outs) := fun (a, _) => rows_Encode.run N a
def S (N : Nat) : Fs := ⟨ins, outs, fn N⟩
def lam (N : Nat) : Pcs := pcs [([true, true, true, false, true, false], (rows_Encode_0.P N).pc (C N))]
theorem pok (N : Nat) : (lam N).Ok Try.prog (C N) code := pcsOk_cons (c1 := .loop rows_Encode_0.code) (by kernel_rfl) (rows_Encode_0.ok N) (pcsOk_nil)
theorem ok (N : Nat) : (S N).con.Ok Try.prog 78 := okF (F := S N) [] Try.func78 (by kernel_rfl) (by rfl) mix (cok N) (pok N) fun _ => by kernel_rfl
end rows_Encode
namespace codec_Writer_Raw
def ins : Sh := s23
def C (N : Nat) : Ctx := ⟨U, 13, fun _ => true, gam [], gamY []⟩
theorem cok (N : Nat) : (C N).Ok Try.prog := ⟨U_ok, GamOk.nil, GamYOk.nil⟩
def code : Code := Try.f28.body.getD .skip
def outs : Sh := s0
end codec_Writer_Raw
def codec_Writer_Raw.run (N : Nat) (b : (List UInt8)) (b1 : (List UInt8)) : Option (T0 × Unit) :=
  bif room (b.length + b1.length) 1 then
    some ((b ++ b1, ()), ())
  else none
namespace codec_Writer_Raw
def fn (N : Nat) : Sh.den ins → Option (Sh.den outs) := fun ((a, _), b, _) => codec_Writer_Raw.run N a b
def S (N : Nat) : Fs := ⟨ins, outs, fn N⟩
def lam (N : Nat) : Pcs := pcs []
theorem pok (N : Nat) : (lam N).Ok Try.prog (C N) code := pcsOk_nil
theorem ok (N : Nat) : (S N).con.Ok Try.prog 28 := okF (F := S N) [] Try.func28 (by kernel_rfl) (by rfl) mix (cok N) (pok N) fun _ => by kernel_rfl
end codec_Writer_Raw
namespace codec_Writer_Text
def ins : Sh := s23
def C (N : Nat) : Ctx := ⟨U, 12, fun _ => true, gam [(71, (codec_Writer_Var.S N).con), (28, (codec_Writer_Raw.S N).con)], gamY []⟩
theorem cok (N : Nat) : (C N).Ok Try.prog := ⟨U_ok, GamOk.cons (codec_Writer_Var.ok N) (GamOk.cons (codec_Writer_Raw.ok N) (GamOk.nil)), GamYOk.nil⟩
def code : Code := Try.f79.body.getD .skip
def outs : Sh := s0
end codec_Writer_Text
def codec_Writer_Text.run (N : Nat) (b : (List UInt8)) (b1 : (List UInt8)) : Option (T0 × Unit) :=
  obind (codec_Writer_Var.run N b (IntKind.u64.wrap (b1.length : Int))) fun ((b2, _), _) =>
    obind (codec_Writer_Raw.run N b2 b1) fun ((b3, _), _) =>
      some ((b3, ()), ())
namespace codec_Writer_Text
def fn (N : Nat) : Sh.den ins → Option (Sh.den outs) := fun ((a, _), b, _) => codec_Writer_Text.run N a b
def S (N : Nat) : Fs := ⟨ins, outs, fn N⟩
def lam (N : Nat) : Pcs := pcs []
theorem pok (N : Nat) : (lam N).Ok Try.prog (C N) code := pcsOk_nil
theorem ok (N : Nat) : (S N).con.Ok Try.prog 79 := okF (F := S N) [] Try.func79 (by kernel_rfl) (by rfl) mix (cok N) (pok N) fun _ => by kernel_rfl
end codec_Writer_Text
namespace wire_pipe_row
def ins : Sh := (.cons (.box 47 s5) (.cons (.bxo 4 80 s15) .nil))
def C (N : Nat) : Ctx := ⟨U, 39, fun _ => true, gam [(78, (rows_Encode.S N).con), (79, (codec_Writer_Text.S N).con), (23, (wire_pipe_must.S N).con)], gamY []⟩
theorem cok (N : Nat) : (C N).Ok Try.prog := ⟨U_ok, GamOk.cons (rows_Encode.ok N) (GamOk.cons (codec_Writer_Text.ok N) (GamOk.cons (wire_pipe_must.ok N) (GamOk.nil))), GamYOk.nil⟩
def code : Code := Try.f75.body.getD .skip
def outs : Sh := s16
end wire_pipe_row
def wire_pipe_row.run (N : Nat) (b : (List UInt8)) (wrong : Bool) (at_ : Int) (at1 : Int) (ver : Int) (ver1 : Int) (ver2 : (List T4)) (ver3 : Int) : Option T14 :=
  obind (rows_Encode.run N ver2) fun (l, n_, _) =>
    obind (codec_Writer_Text.run N b l) fun ((b1, _), _) =>
      obind (wire_pipe_must.run N b1 wrong (decide (n_ = (0 : Int)))) fun ((_, _), (_, _, wrong1, _), _) =>
        some ((b1, ()), ((), (), wrong1, ()), (at_, at1, ver, ver1, ver2, ver3, ()), ())
namespace wire_pipe_row
def fn (N : Nat) : Sh.den ins → Option (Sh.den outs) := fun (((a, _), _, b, _), (c, d, e, f, g, h, _), _) => wire_pipe_row.run N a b c d e f g h
def S (N : Nat) : Fs := ⟨ins, outs, fn N⟩
def lam (N : Nat) : Pcs := pcs []
theorem pok (N : Nat) : (lam N).Ok Try.prog (C N) code := pcsOk_nil
theorem ok (N : Nat) : (S N).con.Ok Try.prog 75 := okF (F := S N) [] Try.func75 (by kernel_rfl) (by rfl) mix (cok N) (pok N) fun _ => by kernel_rfl
end wire_pipe_row
namespace wire_pipe_insert
def ins : Sh := s17
def C (N : Nat) : Ctx := ⟨U, 39, fun _ => true, gam [(23, (wire_pipe_must.S N).con), (48, (wire_pipe_segment.S N).con), (74, (wire_pipe_word.S N).con), (75, (wire_pipe_row.S N).con)], gamY []⟩
theorem cok (N : Nat) : (C N).Ok Try.prog := ⟨U_ok, GamOk.cons (wire_pipe_must.ok N) (GamOk.cons (wire_pipe_segment.ok N) (GamOk.cons (wire_pipe_word.ok N) (GamOk.cons (wire_pipe_row.ok N) (GamOk.nil)))), GamYOk.nil⟩
def code : Code := Try.f63.body.getD .skip
def outs : Sh := s16
end wire_pipe_insert
namespace wire_pipe_insert_0
def ins : Sh := (.cons s2 (.cons (.rbox 80 s15) .nil))
def ts : List Tmp := [0, 1]
def asg : List Tmp := [4, 5, 6, 7, 8, 9, 10, 11, 12, 13, 14, 15, 16, 17, 18, 19, 20]
def C (N : Nat) : Ctx := { wire_pipe_insert.C N with may := fun t => asg.any (Nat.beq t) }
def code : Code := (sub wire_pipe_insert.code [false]).getD .skip
theorem cok (N : Nat) : (C N).Ok Try.prog := okC (wire_pipe_insert.cok N) _
def alts : List Alt := [⟨.normal, [], s4⟩]
end wire_pipe_insert_0
def wire_pipe_insert_0.run (N : Nat) (b : (List UInt8)) (wrong : Bool) (at_ : Int) (at1 : Int) (ver : Int) (ver1 : Int) (ver2 : (List T4)) (ver3 : Int) : Option (T2) :=
  bif decide (ver = (0 : Int)) then
    obind (wire_pipe_must.run N b wrong (decide (ver3 = (0 : Int)))) fun ((_, _), (_, _, wrong1, _), _) =>
      some (((), ()), ((), (), wrong1, ()), ())
  else
    obind (wire_pipe_must.run N b wrong false) fun ((_, _), (_, _, wrong2, _), _) =>
      some (((), ()), ((), (), wrong2, ()), ())
namespace wire_pipe_insert_0
def fn (N : Nat) : Sh.den ins → Option (altsDen alts) := fun (((a, _), _, b, _), (c, d, e, f, g, h, _), _) => wire_pipe_insert_0.run N a b c d e f g h
def P (N : Nat) : Ps := ⟨ts, ins, asg, alts, fn N⟩
def lam (N : Nat) : Pcs := pcs []
theorem pok (N : Nat) : (lam N).Ok Try.prog (C N) code := pcsOk_nil
theorem ok (N : Nat) : ((P N).pc (wire_pipe_insert.C N)).Ok Try.prog (wire_pipe_insert.C N) code := okP (F := P N) (wire_pipe_insert.cok N) mix (pok N) fun _ => by kernel_rfl
end wire_pipe_insert_0
def wire_pipe_insert.run (N : Nat) (b : (List UInt8)) (wrong : Bool) (at_ : Int) (at1 : Int) (ver : Int) (ver1 : Int) (ver2 : (List T4)) (ver3 : Int) : Option T14 :=
  obind (wire_pipe_insert_0.run N b wrong at_ at1 ver ver1 ver2 ver3) fun ((_, _), (_, _, wrong3, _), _) =>
    obind (wire_pipe_segment.run N b wrong3 at_ at1 ver ver1 ver2 ver3) fun ((b1, _), (_, _, wrong4, _), (at2, at3, ver4, ver5, ver6, ver7, _), _) =>
      obind (wire_pipe_word.run N b1 wrong4 at2 at3 ver4 ver5 ver6 ver7) fun ((b2, _), (at4, at5, ver8, ver9, ver10, ver11, _), _) =>
        obind (wire_pipe_row.run N b2 wrong4 at4 at5 ver8 ver9 ver10 ver11) fun ((b3, _), (_, _, wrong5, _), (at6, at7, ver12, ver13, ver14, ver15, _), _) =>
          some ((b3, ()), ((), (), wrong5, ()), (at6, at7, ver12, ver13, ver14, ver15, ()), ())
namespace wire_pipe_insert
def fn (N : Nat) : Sh.den ins → Option (Sh.den outs) := fun (((a, _), _, b, _), (c, d, e, f, g, h, _), _) => wire_pipe_insert.run N a b c d e f g h
def S (N : Nat) : Fs := ⟨ins, outs, fn N⟩
def lam (N : Nat) : Pcs := pcs [([false], (wire_pipe_insert_0.P N).pc (C N))]
theorem pok (N : Nat) : (lam N).Ok Try.prog (C N) code := pcsOk_cons (c1 := wire_pipe_insert_0.code) (by kernel_rfl) (wire_pipe_insert_0.ok N) (pcsOk_nil)
theorem ok (N : Nat) : (S N).con.Ok Try.prog 63 := okF (F := S N) [] Try.func63 (by kernel_rfl) (by rfl) mix (cok N) (pok N) fun _ => by kernel_rfl
end wire_pipe_insert
namespace wire_list_api_Insert
def ins : Sh := (.cons (.box 47 s5) (.cons (.bxo 16 31 s7) s24))
def C (N : Nat) : Ctx := ⟨U, 62, fun _ => true, gam [(71, (codec_Writer_Var.S N).con), (63, (wire_pipe_insert.S N).con)], gamY []⟩
theorem cok (N : Nat) : (C N).Ok Try.prog := ⟨U_ok, GamOk.cons (codec_Writer_Var.ok N) (GamOk.cons (wire_pipe_insert.ok N) (GamOk.nil)), GamYOk.nil⟩
def code : Code := Try.f62.body.getD .skip
def outs : Sh := s9
end wire_list_api_Insert
namespace wire_list_api_Insert_0
def ins : Sh := (.cons (.fnb 1 63 (.cons (.box 47 s5) .nil)) s25)
def ts : List Tmp := [2, 27, 28, 29]
def asg : List Tmp := [7, 29, 30, 31, 32, 33, 34, 35]
def C (N : Nat) : Ctx := { wire_list_api_Insert.C N with may := fun t => asg.any (Nat.beq t) }
def code : Code := loopBody (sub wire_list_api_Insert.code [false, true, false, true, false, true, false])
theorem cok (N : Nat) : (C N).Ok Try.prog := okC (wire_list_api_Insert.cok N) _
def alts : List Alt := [⟨(.exit 0), [], s8⟩]
end wire_list_api_Insert_0
def wire_list_api_Insert_0.go (N : Nat) : Nat → (List UInt8) → Bool → (List T7) → Int → Int → Option (T9)
  | 0, _, _, _, _, _ => none
  | fuel + 1, b, wrong, t27, t28, t29 =>
    bif decide (t29 < t28) then
      bif inB t29 t27.length then
        obind (wire_pipe_insert.run N b wrong (t27.getD t29.toNat (((0 : Int), (0 : Int)), ((0 : Int), (0 : Int)), ([] : List T4), (0 : Int))).1.1 (t27.getD t29.toNat (((0 : Int), (0 : Int)), ((0 : Int), (0 : Int)), ([] : List T4), (0 : Int))).1.2 (t27.getD t29.toNat (((0 : Int), (0 : Int)), ((0 : Int), (0 : Int)), ([] : List T4), (0 : Int))).2.1.1 (t27.getD t29.toNat (((0 : Int), (0 : Int)), ((0 : Int), (0 : Int)), ([] : List T4), (0 : Int))).2.1.2 (t27.getD t29.toNat (((0 : Int), (0 : Int)), ((0 : Int), (0 : Int)), ([] : List T4), (0 : Int))).2.2.1 (t27.getD t29.toNat (((0 : Int), (0 : Int)), ((0 : Int), (0 : Int)), ([] : List T4), (0 : Int))).2.2.2) fun ((b1, _), (_, _, wrong1, _), (at_, at1, ver, ver1, ver2, ver3, _), _) =>
          wire_list_api_Insert_0.go N fuel b1 wrong1 t27 t28 (IntKind.i64.wrap (t29 + (1 : Int)))
      else none
    else some ((b, ()), ((), (), wrong, ()), ())
namespace wire_list_api_Insert_0
def g (N n : Nat) : Sh.den ins → Option (altsDen alts) := fun ((((a, _), _, b, _), _), c, d, e, _) => wire_list_api_Insert_0.go N n a b c d e
def P (N : Nat) : Ps := ⟨ts, ins, asg, alts, g N N⟩
def lam (N : Nat) : Pcs := pcs []
theorem pok (N : Nat) : (lam N).Ok Try.prog (C N) code := pcsOk_nil
theorem ok (N : Nat) : ((P N).pc (wire_list_api_Insert.C N)).Ok Try.prog (wire_list_api_Insert.C N) (.loop code) := okL (F := P N) (g N) (wire_list_api_Insert.cok N) mix (pok N) (fun _ => rfl) rfl fun _ _ => by kernel_rfl
end wire_list_api_Insert_0
def wire_list_api_Insert.run (N : Nat) (b : (List UInt8)) (wrong : Bool) (kind : Int) (from_ : Int) (to_ : Int) (txn : Int) (base : Int) (epoch : Int) (since : Int) (mark : Int) (ask : Int) (attempt : Int) (node : Int) (yes : Bool) (no : Bool) (wiped : Bool) (at_ : Int) (at1 : Int) (part : (List T7)) (part1 : (List T8)) (versions : (List T6)) : Option T11 :=
  obind (codec_Writer_Var.run N b (IntKind.u64.wrap (part.length : Int))) fun ((b1, _), _) =>
    obind (wire_list_api_Insert_0.go N N b1 wrong part (part.length : Int) (0 : Int)) fun ((b2, _), (_, _, wrong1, _), _) =>
      some ((b2, ()), ((), (), wrong1, ()), (kind, from_, to_, txn, base, epoch, since, mark, ask, attempt, node, yes, no, wiped, at_, at1, part, part1, versions, ()), ())
namespace wire_list_api_Insert
def fn (N : Nat) : Sh.den ins → Option (Sh.den outs) := fun (((a, _), _, b, _), (c, d, e, f, g, h, i, j, k, l, m, o, p, q, r, s, t, u, v, _), (_, _), _) => wire_list_api_Insert.run N a b c d e f g h i j k l m o p q r s t u v
def S (N : Nat) : Fs := ⟨ins, outs, fn N⟩
def lam (N : Nat) : Pcs := pcs [([false, true, false, true, false, true, false], (wire_list_api_Insert_0.P N).pc (C N))]
theorem pok (N : Nat) : (lam N).Ok Try.prog (C N) code := pcsOk_cons (c1 := .loop wire_list_api_Insert_0.code) (by kernel_rfl) (wire_list_api_Insert_0.ok N) (pcsOk_nil)
theorem ok (N : Nat) : (S N).con.Ok Try.prog 62 := okF (F := S N) [] Try.func62 (by kernel_rfl) (by rfl) mix (cok N) (pok N) fun _ => by kernel_rfl
end wire_list_api_Insert
namespace wire_pipe_place_c
def ins : Sh := (.cons (.box 47 s5) (.cons (.rbox 84 s26) .nil))
def C (N : Nat) : Ctx := ⟨U, 38, fun _ => true, gam [(23, (wire_pipe_must.S N).con), (71, (codec_Writer_Var.S N).con)], gamY []⟩
theorem cok (N : Nat) : (C N).Ok Try.prog := ⟨U_ok, GamOk.cons (wire_pipe_must.ok N) (GamOk.cons (codec_Writer_Var.ok N) (GamOk.nil)), GamYOk.nil⟩
def code : Code := Try.f68.body.getD .skip
def outs : Sh := s8
end wire_pipe_place_c
def wire_pipe_place_c.run (N : Nat) (b : (List UInt8)) (wrong : Bool) (at_ : Int) (at1 : Int) (id_ : Int) (id1 : Int) : Option T9 :=
  bif decide (at_ ≥ (0 : Int)) then
    obind (wire_pipe_must.run N b wrong (decide (at_ ≤ (2147483647 : Int)))) fun ((_, _), (_, _, wrong1, _), _) =>
      obind (codec_Writer_Var.run N b (IntKind.u64.wrap at_)) fun ((b1, _), _) =>
        some ((b1, ()), ((), (), wrong1, ()), ())
  else
    obind (wire_pipe_must.run N b wrong false) fun ((_, _), (_, _, wrong2, _), _) =>
      obind (codec_Writer_Var.run N b (IntKind.u64.wrap at_)) fun ((b2, _), _) =>
        some ((b2, ()), ((), (), wrong2, ()), ())
namespace wire_pipe_place_c
def fn (N : Nat) : Sh.den ins → Option (Sh.den outs) := fun (((a, _), _, b, _), (c, d, e, f, _), _) => wire_pipe_place_c.run N a b c d e f
def S (N : Nat) : Fs := ⟨ins, outs, fn N⟩
def lam (N : Nat) : Pcs := pcs []
theorem pok (N : Nat) : (lam N).Ok Try.prog (C N) code := pcsOk_nil
theorem ok (N : Nat) : (S N).con.Ok Try.prog 68 := okF (F := S N) [] Try.func68 (by kernel_rfl) (by rfl) mix (cok N) (pok N) fun _ => by kernel_rfl
end wire_pipe_place_c
namespace wire_pipe_place_d
def ins : Sh := (.cons (.box 47 s5) (.cons (.bxo 1 84 s26) .nil))
def C (N : Nat) : Ctx := ⟨U, 38, fun _ => true, gam [(23, (wire_pipe_must.S N).con), (71, (codec_Writer_Var.S N).con)], gamY []⟩
theorem cok (N : Nat) : (C N).Ok Try.prog := ⟨U_ok, GamOk.cons (wire_pipe_must.ok N) (GamOk.cons (codec_Writer_Var.ok N) (GamOk.nil)), GamYOk.nil⟩
def code : Code := Try.f68.body.getD .skip
def outs : Sh := s27
end wire_pipe_place_d
def wire_pipe_place_d.run (N : Nat) (b : (List UInt8)) (wrong : Bool) (at_ : Int) (at1 : Int) (id_ : Int) (id1 : Int) : Option T19 :=
  bif decide (at1 ≥ (0 : Int)) then
    obind (wire_pipe_must.run N b wrong (decide (at1 ≤ (2147483647 : Int)))) fun ((_, _), (_, _, wrong1, _), _) =>
      obind (codec_Writer_Var.run N b (IntKind.u64.wrap at1)) fun ((b1, _), _) =>
        some ((b1, ()), ((), (), wrong1, ()), (at_, at1, id_, id1, ()), ())
  else
    obind (wire_pipe_must.run N b wrong false) fun ((_, _), (_, _, wrong2, _), _) =>
      obind (codec_Writer_Var.run N b (IntKind.u64.wrap at1)) fun ((b2, _), _) =>
        some ((b2, ()), ((), (), wrong2, ()), (at_, at1, id_, id1, ()), ())
namespace wire_pipe_place_d
def fn (N : Nat) : Sh.den ins → Option (Sh.den outs) := fun (((a, _), _, b, _), (c, d, e, f, _), _) => wire_pipe_place_d.run N a b c d e f
def S (N : Nat) : Fs := ⟨ins, outs, fn N⟩
def lam (N : Nat) : Pcs := pcs []
theorem pok (N : Nat) : (lam N).Ok Try.prog (C N) code := pcsOk_nil
theorem ok (N : Nat) : (S N).con.Ok Try.prog 68 := okF (F := S N) [] Try.func68 (by kernel_rfl) (by rfl) mix (cok N) (pok N) fun _ => by kernel_rfl
end wire_pipe_place_d
namespace wire_pipe_segment_b
def ins : Sh := s28
def C (N : Nat) : Ctx := ⟨U, 14, fun _ => true, gam [(68, (((wire_pipe_place_c.S N).con).or (wire_pipe_place_d.S N).con))], gamY []⟩
theorem cok (N : Nat) : (C N).Ok Try.prog := ⟨U_ok, GamOk.cons (Con.or_ok (wire_pipe_place_c.ok N) (wire_pipe_place_d.ok N)) (GamOk.nil), GamYOk.nil⟩
def code : Code := Try.f48.body.getD .skip
def outs : Sh := s27
end wire_pipe_segment_b
def wire_pipe_segment_b.run (N : Nat) (b : (List UInt8)) (wrong : Bool) (at_ : Int) (at1 : Int) (id_ : Int) (id1 : Int) : Option T19 :=
  obind (wire_pipe_place_c.run N b wrong at_ at1 id_ id1) fun ((b1, _), (_, _, wrong1, _), _) =>
    obind (wire_pipe_place_d.run N b1 wrong1 at_ at1 id_ id1) fun ((b2, _), (_, _, wrong2, _), (at2, at3, id2, id3, _), _) =>
      some ((b2, ()), ((), (), wrong2, ()), (at2, at3, id2, id3, ()), ())
namespace wire_pipe_segment_b
def fn (N : Nat) : Sh.den ins → Option (Sh.den outs) := fun (((a, _), _, b, _), (c, d, e, f, _), _) => wire_pipe_segment_b.run N a b c d e f
def S (N : Nat) : Fs := ⟨ins, outs, fn N⟩
def lam (N : Nat) : Pcs := pcs []
theorem pok (N : Nat) : (lam N).Ok Try.prog (C N) code := pcsOk_nil
theorem ok (N : Nat) : (S N).con.Ok Try.prog 48 := okF (F := S N) [] Try.func48 (by kernel_rfl) (by rfl) mix (cok N) (pok N) fun _ => by kernel_rfl
end wire_pipe_segment_b
namespace wire_pipe_long_c
def ins : Sh := s29
def C (N : Nat) : Ctx := ⟨U, 24, fun _ => true, gam [(66, (codec_Writer_Long.S N).con)], gamY []⟩
theorem cok (N : Nat) : (C N).Ok Try.prog := ⟨U_ok, GamOk.cons (codec_Writer_Long.ok N) (GamOk.nil), GamYOk.nil⟩
def code : Code := Try.f43.body.getD .skip
def outs : Sh := s30
end wire_pipe_long_c
def wire_pipe_long_c.run (N : Nat) (b : (List UInt8)) (wrong : Bool) (at_ : Int) (at1 : Int) (id_ : Int) (id1 : Int) : Option T20 :=
  obind (codec_Writer_Long.run N b id_) fun ((b1, _), _) =>
    some ((b1, ()), (at_, at1, id_, id1, ()), ())
namespace wire_pipe_long_c
def fn (N : Nat) : Sh.den ins → Option (Sh.den outs) := fun (((a, _), _, b, _), (c, d, e, f, _), _) => wire_pipe_long_c.run N a b c d e f
def S (N : Nat) : Fs := ⟨ins, outs, fn N⟩
def lam (N : Nat) : Pcs := pcs []
theorem pok (N : Nat) : (lam N).Ok Try.prog (C N) code := pcsOk_nil
theorem ok (N : Nat) : (S N).con.Ok Try.prog 43 := okF (F := S N) [] Try.func43 (by kernel_rfl) (by rfl) mix (cok N) (pok N) fun _ => by kernel_rfl
end wire_pipe_long_c
namespace wire_pipe_word_b
def ins : Sh := (.cons (.rbox 47 s5) (.cons (.bxo 3 84 s26) .nil))
def C (N : Nat) : Ctx := ⟨U, 24, fun _ => true, gam [(26, (codec_Writer_Word.S N).con)], gamY []⟩
theorem cok (N : Nat) : (C N).Ok Try.prog := ⟨U_ok, GamOk.cons (codec_Writer_Word.ok N) (GamOk.nil), GamYOk.nil⟩
def code : Code := Try.f74.body.getD .skip
def outs : Sh := s30
end wire_pipe_word_b
def wire_pipe_word_b.run (N : Nat) (b : (List UInt8)) (wrong : Bool) (at_ : Int) (at1 : Int) (id_ : Int) (id1 : Int) : Option T20 :=
  obind (codec_Writer_Word.run N b id1) fun ((b1, _), _) =>
    some ((b1, ()), (at_, at1, id_, id1, ()), ())
namespace wire_pipe_word_b
def fn (N : Nat) : Sh.den ins → Option (Sh.den outs) := fun (((a, _), _, b, _), (c, d, e, f, _), _) => wire_pipe_word_b.run N a b c d e f
def S (N : Nat) : Fs := ⟨ins, outs, fn N⟩
def lam (N : Nat) : Pcs := pcs []
theorem pok (N : Nat) : (lam N).Ok Try.prog (C N) code := pcsOk_nil
theorem ok (N : Nat) : (S N).con.Ok Try.prog 74 := okF (F := S N) [] Try.func74 (by kernel_rfl) (by rfl) mix (cok N) (pok N) fun _ => by kernel_rfl
end wire_pipe_word_b
namespace wire_pipe_name
def ins : Sh := s29
def C (N : Nat) : Ctx := ⟨U, 14, fun _ => true, gam [(43, (wire_pipe_long_c.S N).con), (74, (wire_pipe_word_b.S N).con)], gamY []⟩
theorem cok (N : Nat) : (C N).Ok Try.prog := ⟨U_ok, GamOk.cons (wire_pipe_long_c.ok N) (GamOk.cons (wire_pipe_word_b.ok N) (GamOk.nil)), GamYOk.nil⟩
def code : Code := Try.f76.body.getD .skip
def outs : Sh := s30
end wire_pipe_name
def wire_pipe_name.run (N : Nat) (b : (List UInt8)) (wrong : Bool) (at_ : Int) (at1 : Int) (id_ : Int) (id1 : Int) : Option T20 :=
  obind (wire_pipe_long_c.run N b wrong at_ at1 id_ id1) fun ((b1, _), (at2, at3, id2, id3, _), _) =>
    obind (wire_pipe_word_b.run N b1 wrong at2 at3 id2 id3) fun ((b2, _), (at4, at5, id4, id5, _), _) =>
      some ((b2, ()), (at4, at5, id4, id5, ()), ())
namespace wire_pipe_name
def fn (N : Nat) : Sh.den ins → Option (Sh.den outs) := fun (((a, _), _, b, _), (c, d, e, f, _), _) => wire_pipe_name.run N a b c d e f
def S (N : Nat) : Fs := ⟨ins, outs, fn N⟩
def lam (N : Nat) : Pcs := pcs []
theorem pok (N : Nat) : (lam N).Ok Try.prog (C N) code := pcsOk_nil
theorem ok (N : Nat) : (S N).con.Ok Try.prog 76 := okF (F := S N) [] Try.func76 (by kernel_rfl) (by rfl) mix (cok N) (pok N) fun _ => by kernel_rfl
end wire_pipe_name
namespace wire_pipe_erase
def ins : Sh := s28
def C (N : Nat) : Ctx := ⟨U, 14, fun _ => true, gam [(48, (wire_pipe_segment_b.S N).con), (76, (wire_pipe_name.S N).con)], gamY []⟩
theorem cok (N : Nat) : (C N).Ok Try.prog := ⟨U_ok, GamOk.cons (wire_pipe_segment_b.ok N) (GamOk.cons (wire_pipe_name.ok N) (GamOk.nil)), GamYOk.nil⟩
def code : Code := Try.f65.body.getD .skip
def outs : Sh := s27
end wire_pipe_erase
def wire_pipe_erase.run (N : Nat) (b : (List UInt8)) (wrong : Bool) (at_ : Int) (at1 : Int) (id_ : Int) (id1 : Int) : Option T19 :=
  obind (wire_pipe_segment_b.run N b wrong at_ at1 id_ id1) fun ((b1, _), (_, _, wrong1, _), (at2, at3, id2, id3, _), _) =>
    obind (wire_pipe_name.run N b1 wrong1 at2 at3 id2 id3) fun ((b2, _), (at4, at5, id4, id5, _), _) =>
      some ((b2, ()), ((), (), wrong1, ()), (at4, at5, id4, id5, ()), ())
namespace wire_pipe_erase
def fn (N : Nat) : Sh.den ins → Option (Sh.den outs) := fun (((a, _), _, b, _), (c, d, e, f, _), _) => wire_pipe_erase.run N a b c d e f
def S (N : Nat) : Fs := ⟨ins, outs, fn N⟩
def lam (N : Nat) : Pcs := pcs []
theorem pok (N : Nat) : (lam N).Ok Try.prog (C N) code := pcsOk_nil
theorem ok (N : Nat) : (S N).con.Ok Try.prog 65 := okF (F := S N) [] Try.func65 (by kernel_rfl) (by rfl) mix (cok N) (pok N) fun _ => by kernel_rfl
end wire_pipe_erase
namespace wire_list_api_Erase
def ins : Sh := (.cons (.box 47 s5) (.cons (.bxo 17 31 s7) s31))
def C (N : Nat) : Ctx := ⟨U, 62, fun _ => true, gam [(71, (codec_Writer_Var.S N).con), (65, (wire_pipe_erase.S N).con)], gamY []⟩
theorem cok (N : Nat) : (C N).Ok Try.prog := ⟨U_ok, GamOk.cons (codec_Writer_Var.ok N) (GamOk.cons (wire_pipe_erase.ok N) (GamOk.nil)), GamYOk.nil⟩
def code : Code := Try.f64.body.getD .skip
def outs : Sh := s9
end wire_list_api_Erase
namespace wire_list_api_Erase_0
def ins : Sh := (.cons (.fnb 1 65 (.cons (.box 47 s5) .nil)) s32)
def ts : List Tmp := [2, 27, 28, 29]
def asg : List Tmp := [7, 29, 30, 31, 32, 33, 34, 35]
def C (N : Nat) : Ctx := { wire_list_api_Erase.C N with may := fun t => asg.any (Nat.beq t) }
def code : Code := loopBody (sub wire_list_api_Erase.code [false, true, false, true, false, true, false])
theorem cok (N : Nat) : (C N).Ok Try.prog := okC (wire_list_api_Erase.cok N) _
def alts : List Alt := [⟨(.exit 0), [], s8⟩]
end wire_list_api_Erase_0
def wire_list_api_Erase_0.go (N : Nat) : Nat → (List UInt8) → Bool → (List T8) → Int → Int → Option (T9)
  | 0, _, _, _, _, _ => none
  | fuel + 1, b, wrong, t27, t28, t29 =>
    bif decide (t29 < t28) then
      bif inB t29 t27.length then
        obind (wire_pipe_erase.run N b wrong (t27.getD t29.toNat (((0 : Int), (0 : Int)), (0 : Int), (0 : Int))).1.1 (t27.getD t29.toNat (((0 : Int), (0 : Int)), (0 : Int), (0 : Int))).1.2 (t27.getD t29.toNat (((0 : Int), (0 : Int)), (0 : Int), (0 : Int))).2.1 (t27.getD t29.toNat (((0 : Int), (0 : Int)), (0 : Int), (0 : Int))).2.2) fun ((b1, _), (_, _, wrong1, _), (at_, at1, id_, id1, _), _) =>
          wire_list_api_Erase_0.go N fuel b1 wrong1 t27 t28 (IntKind.i64.wrap (t29 + (1 : Int)))
      else none
    else some ((b, ()), ((), (), wrong, ()), ())
namespace wire_list_api_Erase_0
def g (N n : Nat) : Sh.den ins → Option (altsDen alts) := fun ((((a, _), _, b, _), _), c, d, e, _) => wire_list_api_Erase_0.go N n a b c d e
def P (N : Nat) : Ps := ⟨ts, ins, asg, alts, g N N⟩
def lam (N : Nat) : Pcs := pcs []
theorem pok (N : Nat) : (lam N).Ok Try.prog (C N) code := pcsOk_nil
theorem ok (N : Nat) : ((P N).pc (wire_list_api_Erase.C N)).Ok Try.prog (wire_list_api_Erase.C N) (.loop code) := okL (F := P N) (g N) (wire_list_api_Erase.cok N) mix (pok N) (fun _ => rfl) rfl fun _ _ => by kernel_rfl
end wire_list_api_Erase_0
def wire_list_api_Erase.run (N : Nat) (b : (List UInt8)) (wrong : Bool) (kind : Int) (from_ : Int) (to_ : Int) (txn : Int) (base : Int) (epoch : Int) (since : Int) (mark : Int) (ask : Int) (attempt : Int) (node : Int) (yes : Bool) (no : Bool) (wiped : Bool) (at_ : Int) (at1 : Int) (part : (List T7)) (part1 : (List T8)) (versions : (List T6)) : Option T11 :=
  obind (codec_Writer_Var.run N b (IntKind.u64.wrap (part1.length : Int))) fun ((b1, _), _) =>
    obind (wire_list_api_Erase_0.go N N b1 wrong part1 (part1.length : Int) (0 : Int)) fun ((b2, _), (_, _, wrong1, _), _) =>
      some ((b2, ()), ((), (), wrong1, ()), (kind, from_, to_, txn, base, epoch, since, mark, ask, attempt, node, yes, no, wiped, at_, at1, part, part1, versions, ()), ())
namespace wire_list_api_Erase
def fn (N : Nat) : Sh.den ins → Option (Sh.den outs) := fun (((a, _), _, b, _), (c, d, e, f, g, h, i, j, k, l, m, o, p, q, r, s, t, u, v, _), (_, _), _) => wire_list_api_Erase.run N a b c d e f g h i j k l m o p q r s t u v
def S (N : Nat) : Fs := ⟨ins, outs, fn N⟩
def lam (N : Nat) : Pcs := pcs [([false, true, false, true, false, true, false], (wire_list_api_Erase_0.P N).pc (C N))]
theorem pok (N : Nat) : (lam N).Ok Try.prog (C N) code := pcsOk_cons (c1 := .loop wire_list_api_Erase_0.code) (by kernel_rfl) (wire_list_api_Erase_0.ok N) (pcsOk_nil)
theorem ok (N : Nat) : (S N).con.Ok Try.prog 64 := okF (F := S N) [] Try.func64 (by kernel_rfl) (by rfl) mix (cok N) (pok N) fun _ => by kernel_rfl
end wire_list_api_Erase
namespace wire_pipe_part
def ins : Sh := (.cons (.box 47 s5) (.cons (.bxo 16 31 s7) .nil))
def C (N : Nat) : Ctx := ⟨U, 18, fun _ => true, gam [(62, (wire_list_api_Insert.S N).con), (64, (wire_list_api_Erase.S N).con)], gamY []⟩
theorem cok (N : Nat) : (C N).Ok Try.prog := ⟨U_ok, GamOk.cons (wire_list_api_Insert.ok N) (GamOk.cons (wire_list_api_Erase.ok N) (GamOk.nil)), GamYOk.nil⟩
def code : Code := Try.f41.body.getD .skip
def outs : Sh := s9
end wire_pipe_part
def wire_pipe_part.run (N : Nat) (b : (List UInt8)) (wrong : Bool) (kind : Int) (from_ : Int) (to_ : Int) (txn : Int) (base : Int) (epoch : Int) (since : Int) (mark : Int) (ask : Int) (attempt : Int) (node : Int) (yes : Bool) (no : Bool) (wiped : Bool) (at_ : Int) (at1 : Int) (part : (List T7)) (part1 : (List T8)) (versions : (List T6)) : Option T11 :=
  obind (wire_list_api_Insert.run N b wrong kind from_ to_ txn base epoch since mark ask attempt node yes no wiped at_ at1 part part1 versions) fun ((b1, _), (_, _, wrong1, _), (kind1, from1, to1, txn1, base1, epoch1, since1, mark1, ask1, attempt1, node1, yes1, no1, wiped1, at2, at3, part2, part3, versions1, _), _) =>
    obind (wire_list_api_Erase.run N b1 wrong1 kind1 from1 to1 txn1 base1 epoch1 since1 mark1 ask1 attempt1 node1 yes1 no1 wiped1 at2 at3 part2 part3 versions1) fun ((b2, _), (_, _, wrong2, _), (kind2, from2, to2, txn2, base2, epoch2, since2, mark2, ask2, attempt2, node2, yes2, no2, wiped2, at4, at5, part4, part5, versions2, _), _) =>
      some ((b2, ()), ((), (), wrong2, ()), (kind2, from2, to2, txn2, base2, epoch2, since2, mark2, ask2, attempt2, node2, yes2, no2, wiped2, at4, at5, part4, part5, versions2, ()), ())
namespace wire_pipe_part
def fn (N : Nat) : Sh.den ins → Option (Sh.den outs) := fun (((a, _), _, b, _), (c, d, e, f, g, h, i, j, k, l, m, o, p, q, r, s, t, u, v, _), _) => wire_pipe_part.run N a b c d e f g h i j k l m o p q r s t u v
def S (N : Nat) : Fs := ⟨ins, outs, fn N⟩
def lam (N : Nat) : Pcs := pcs []
theorem pok (N : Nat) : (lam N).Ok Try.prog (C N) code := pcsOk_nil
theorem ok (N : Nat) : (S N).con.Ok Try.prog 41 := okF (F := S N) [] Try.func41 (by kernel_rfl) (by rfl) mix (cok N) (pok N) fun _ => by kernel_rfl
end wire_pipe_part
namespace wire_pipe_fields_f1
def ins : Sh := s34
def C (N : Nat) : Ctx := ⟨U, 16, fun _ => true, gam [(40, (wire_pipe_longs.S N).con), (41, (wire_pipe_part.S N).con)], gamY []⟩
theorem cok (N : Nat) : (C N).Ok Try.prog := ⟨U_ok, GamOk.cons (wire_pipe_longs.ok N) (GamOk.cons (wire_pipe_part.ok N) (GamOk.nil)), GamYOk.nil⟩
def code : Code := Try.f39.body.getD .skip
def outs : Sh := s35
end wire_pipe_fields_f1
def wire_pipe_fields_f1.run (N : Nat) (b : (List UInt8)) (wrong : Bool) (kind : Int) (from_ : Int) (to_ : Int) (txn : Int) (base : Int) (epoch : Int) (since : Int) (mark : Int) (ask : Int) (attempt : Int) (node : Int) (yes : Bool) (no : Bool) (wiped : Bool) (at_ : Int) (at1 : Int) (part : (List T7)) (part1 : (List T8)) (versions : (List T6)) : Option T11 :=
  obind (wire_pipe_longs.run N b wrong kind from_ to_ txn base epoch since mark ask attempt node yes no wiped at_ at1 part part1 versions) fun ((b1, _), (kind1, from1, to1, txn1, base1, epoch1, since1, mark1, ask1, attempt1, node1, yes1, no1, wiped1, at2, at3, part2, part3, versions1, _), _) =>
    obind (wire_pipe_part.run N b1 wrong kind1 from1 to1 txn1 base1 epoch1 since1 mark1 ask1 attempt1 node1 yes1 no1 wiped1 at2 at3 part2 part3 versions1) fun ((b2, _), (_, _, wrong1, _), (kind2, from2, to2, txn2, base2, epoch2, since2, mark2, ask2, attempt2, node2, yes2, no2, wiped2, at4, at5, part4, part5, versions2, _), _) =>
      some ((b2, ()), ((), (), wrong1, ()), (kind2, from2, to2, txn2, base2, epoch2, since2, mark2, ask2, attempt2, node2, yes2, no2, wiped2, at4, at5, part4, part5, versions2, ()), ())
namespace wire_pipe_fields_f1
def fn (N : Nat) : Sh.den ins → Option (Sh.den outs) := fun ((((a, _), _, b, _), _), ((c, d, e, f, g, h, i, j, k, l, m, o, p, q, r, s, t, u, v, _), _), _) => wire_pipe_fields_f1.run N a b c d e f g h i j k l m o p q r s t u v
def S (N : Nat) : Fs := ⟨ins, outs, fn N⟩
def lam (N : Nat) : Pcs := pcs []
theorem pok (N : Nat) : (lam N).Ok Try.prog (C N) code := pcsOk_nil
theorem ok (N : Nat) : (S N).con.Ok Try.prog 39 := okF (F := S N) [] Try.func39 (by kernel_rfl) (by rfl) mix (cok N) (pok N) fun _ => by kernel_rfl
end wire_pipe_fields_f1
namespace wire_pipe_byte_d
def ins : Sh := (.cons (.box 47 s5) (.cons (.rbox 3 (.cons (.val (.int .i64)) .nil)) (.cons (.val (.int .i64)) .nil)))
def C (N : Nat) : Ctx := ⟨U, 41, fun _ => true, gam [(37, (codec_Writer_Byte.S N).con), (23, (wire_pipe_must.S N).con)], gamY []⟩
theorem cok (N : Nat) : (C N).Ok Try.prog := ⟨U_ok, GamOk.cons (codec_Writer_Byte.ok N) (GamOk.cons (wire_pipe_must.ok N) (GamOk.nil)), GamYOk.nil⟩
def code : Code := Try.f21.body.getD .skip
def outs : Sh := s8
end wire_pipe_byte_d
def wire_pipe_byte_d.run (N : Nat) (b : (List UInt8)) (wrong : Bool) (n_ : Int) (most : Int) : Option T9 :=
  obind (codec_Writer_Byte.run N b (Hay.u8 (IntKind.u8.wrap n_))) fun ((b1, _), _) =>
    bif decide (n_ ≥ (0 : Int)) then
      obind (wire_pipe_must.run N b1 wrong (decide (n_ ≤ most))) fun ((_, _), (_, _, wrong1, _), _) =>
        some ((b1, ()), ((), (), wrong1, ()), ())
    else
      obind (wire_pipe_must.run N b1 wrong false) fun ((_, _), (_, _, wrong2, _), _) =>
        some ((b1, ()), ((), (), wrong2, ()), ())
namespace wire_pipe_byte_d
def fn (N : Nat) : Sh.den ins → Option (Sh.den outs) := fun (((a, _), _, b, _), (c, _), d, _) => wire_pipe_byte_d.run N a b c d
def S (N : Nat) : Fs := ⟨ins, outs, fn N⟩
def lam (N : Nat) : Pcs := pcs []
theorem pok (N : Nat) : (lam N).Ok Try.prog (C N) code := pcsOk_nil
theorem ok (N : Nat) : (S N).con.Ok Try.prog 21 := okF (F := S N) [] Try.func21 (by kernel_rfl) (by rfl) mix (cok N) (pok N) fun _ => by kernel_rfl
end wire_pipe_byte_d
namespace wire_pipe_truth
def ins : Sh := (.cons (.box 47 s5) (.cons (.bxo 11 31 s7) .nil))
def C (N : Nat) : Ctx := ⟨U, 14, fun _ => true, gam [(21, (wire_pipe_byte_d.S N).con)], gamY []⟩
theorem cok (N : Nat) : (C N).Ok Try.prog := ⟨U_ok, GamOk.cons (wire_pipe_byte_d.ok N) (GamOk.nil), GamYOk.nil⟩
def code : Code := Try.f44.body.getD .skip
def outs : Sh := s9
end wire_pipe_truth
def wire_pipe_truth.run (N : Nat) (b : (List UInt8)) (wrong : Bool) (kind : Int) (from_ : Int) (to_ : Int) (txn : Int) (base : Int) (epoch : Int) (since : Int) (mark : Int) (ask : Int) (attempt : Int) (node : Int) (yes : Bool) (no : Bool) (wiped : Bool) (at_ : Int) (at1 : Int) (part : (List T7)) (part1 : (List T8)) (versions : (List T6)) : Option T11 :=
  bif yes then
    obind (wire_pipe_byte_d.run N b wrong (1 : Int) (1 : Int)) fun ((b1, _), (_, _, wrong1, _), _) =>
      some ((b1, ()), ((), (), wrong1, ()), (kind, from_, to_, txn, base, epoch, since, mark, ask, attempt, node, true, no, wiped, at_, at1, part, part1, versions, ()), ())
  else
    obind (wire_pipe_byte_d.run N b wrong (0 : Int) (1 : Int)) fun ((b2, _), (_, _, wrong2, _), _) =>
      some ((b2, ()), ((), (), wrong2, ()), (kind, from_, to_, txn, base, epoch, since, mark, ask, attempt, node, false, no, wiped, at_, at1, part, part1, versions, ()), ())
namespace wire_pipe_truth
def fn (N : Nat) : Sh.den ins → Option (Sh.den outs) := fun (((a, _), _, b, _), (c, d, e, f, g, h, i, j, k, l, m, o, p, q, r, s, t, u, v, _), _) => wire_pipe_truth.run N a b c d e f g h i j k l m o p q r s t u v
def S (N : Nat) : Fs := ⟨ins, outs, fn N⟩
def lam (N : Nat) : Pcs := pcs []
theorem pok (N : Nat) : (lam N).Ok Try.prog (C N) code := pcsOk_nil
theorem ok (N : Nat) : (S N).con.Ok Try.prog 44 := okF (F := S N) [] Try.func44 (by kernel_rfl) (by rfl) mix (cok N) (pok N) fun _ => by kernel_rfl
end wire_pipe_truth
namespace wire_pipe_fields_f2
def ins : Sh := s34
def C (N : Nat) : Ctx := ⟨U, 12, fun _ => true, gam [(43, (wire_pipe_long.S N).con), (44, (wire_pipe_truth.S N).con)], gamY []⟩
theorem cok (N : Nat) : (C N).Ok Try.prog := ⟨U_ok, GamOk.cons (wire_pipe_long.ok N) (GamOk.cons (wire_pipe_truth.ok N) (GamOk.nil)), GamYOk.nil⟩
def code : Code := Try.f42.body.getD .skip
def outs : Sh := s35
end wire_pipe_fields_f2
def wire_pipe_fields_f2.run (N : Nat) (b : (List UInt8)) (wrong : Bool) (kind : Int) (from_ : Int) (to_ : Int) (txn : Int) (base : Int) (epoch : Int) (since : Int) (mark : Int) (ask : Int) (attempt : Int) (node : Int) (yes : Bool) (no : Bool) (wiped : Bool) (at_ : Int) (at1 : Int) (part : (List T7)) (part1 : (List T8)) (versions : (List T6)) : Option T11 :=
  obind (wire_pipe_long.run N b wrong kind from_ to_ txn base epoch since mark ask attempt node yes no wiped at_ at1 part part1 versions) fun ((b1, _), (kind1, from1, to1, txn1, base1, epoch1, since1, mark1, ask1, attempt1, node1, yes1, no1, wiped1, at2, at3, part2, part3, versions1, _), _) =>
    obind (wire_pipe_truth.run N b1 wrong kind1 from1 to1 txn1 base1 epoch1 since1 mark1 ask1 attempt1 node1 yes1 no1 wiped1 at2 at3 part2 part3 versions1) fun ((b2, _), (_, _, wrong1, _), (kind2, from2, to2, txn2, base2, epoch2, since2, mark2, ask2, attempt2, node2, yes2, no2, wiped2, at4, at5, part4, part5, versions2, _), _) =>
      some ((b2, ()), ((), (), wrong1, ()), (kind2, from2, to2, txn2, base2, epoch2, since2, mark2, ask2, attempt2, node2, yes2, no2, wiped2, at4, at5, part4, part5, versions2, ()), ())
namespace wire_pipe_fields_f2
def fn (N : Nat) : Sh.den ins → Option (Sh.den outs) := fun ((((a, _), _, b, _), _), ((c, d, e, f, g, h, i, j, k, l, m, o, p, q, r, s, t, u, v, _), _), _) => wire_pipe_fields_f2.run N a b c d e f g h i j k l m o p q r s t u v
def S (N : Nat) : Fs := ⟨ins, outs, fn N⟩
def lam (N : Nat) : Pcs := pcs []
theorem pok (N : Nat) : (lam N).Ok Try.prog (C N) code := pcsOk_nil
theorem ok (N : Nat) : (S N).con.Ok Try.prog 42 := okF (F := S N) [] Try.func42 (by kernel_rfl) (by rfl) mix (cok N) (pok N) fun _ => by kernel_rfl
end wire_pipe_fields_f2
namespace wire_pipe_long_d
def ins : Sh := (.cons (.rbox 47 s5) (.cons (.bxo 5 31 s7) .nil))
def C (N : Nat) : Ctx := ⟨U, 24, fun _ => true, gam [(66, (codec_Writer_Long.S N).con)], gamY []⟩
theorem cok (N : Nat) : (C N).Ok Try.prog := ⟨U_ok, GamOk.cons (codec_Writer_Long.ok N) (GamOk.nil), GamYOk.nil⟩
def code : Code := Try.f43.body.getD .skip
def outs : Sh := s13
end wire_pipe_long_d
def wire_pipe_long_d.run (N : Nat) (b : (List UInt8)) (wrong : Bool) (kind : Int) (from_ : Int) (to_ : Int) (txn : Int) (base : Int) (epoch : Int) (since : Int) (mark : Int) (ask : Int) (attempt : Int) (node : Int) (yes : Bool) (no : Bool) (wiped : Bool) (at_ : Int) (at1 : Int) (part : (List T7)) (part1 : (List T8)) (versions : (List T6)) : Option T12 :=
  obind (codec_Writer_Long.run N b epoch) fun ((b1, _), _) =>
    some ((b1, ()), (kind, from_, to_, txn, base, epoch, since, mark, ask, attempt, node, yes, no, wiped, at_, at1, part, part1, versions, ()), ())
namespace wire_pipe_long_d
def fn (N : Nat) : Sh.den ins → Option (Sh.den outs) := fun (((a, _), _, b, _), (c, d, e, f, g, h, i, j, k, l, m, o, p, q, r, s, t, u, v, _), _) => wire_pipe_long_d.run N a b c d e f g h i j k l m o p q r s t u v
def S (N : Nat) : Fs := ⟨ins, outs, fn N⟩
def lam (N : Nat) : Pcs := pcs []
theorem pok (N : Nat) : (lam N).Ok Try.prog (C N) code := pcsOk_nil
theorem ok (N : Nat) : (S N).con.Ok Try.prog 43 := okF (F := S N) [] Try.func43 (by kernel_rfl) (by rfl) mix (cok N) (pok N) fun _ => by kernel_rfl
end wire_pipe_long_d
namespace wire_pipe_longs_b
def ins : Sh := (.cons (.rbox 47 s5) (.cons (.els 1 2 (.cons (.bxo 5 31 s7) (.cons (.refo 3 3) .nil))) .nil))
def C (N : Nat) : Ctx := ⟨U, 16, fun _ => true, gam [(43, (((wire_pipe_long.S N).con).or (wire_pipe_long_d.S N).con))], gamY []⟩
theorem cok (N : Nat) : (C N).Ok Try.prog := ⟨U_ok, GamOk.cons (Con.or_ok (wire_pipe_long.ok N) (wire_pipe_long_d.ok N)) (GamOk.nil), GamYOk.nil⟩
def code : Code := Try.f40.body.getD .skip
def outs : Sh := s13
end wire_pipe_longs_b
def wire_pipe_longs_b.run (N : Nat) (b : (List UInt8)) (wrong : Bool) (kind : Int) (from_ : Int) (to_ : Int) (txn : Int) (base : Int) (epoch : Int) (since : Int) (mark : Int) (ask : Int) (attempt : Int) (node : Int) (yes : Bool) (no : Bool) (wiped : Bool) (at_ : Int) (at1 : Int) (part : (List T7)) (part1 : (List T8)) (versions : (List T6)) : Option T12 :=
  obind (wire_pipe_long_d.run N b wrong kind from_ to_ txn base epoch since mark ask attempt node yes no wiped at_ at1 part part1 versions) fun ((b1, _), (kind1, from1, to1, txn1, base1, epoch1, since1, mark1, ask1, attempt1, node1, yes1, no1, wiped1, at2, at3, part2, part3, versions1, _), _) =>
    obind (wire_pipe_long.run N b1 wrong kind1 from1 to1 txn1 base1 epoch1 since1 mark1 ask1 attempt1 node1 yes1 no1 wiped1 at2 at3 part2 part3 versions1) fun ((b2, _), (kind2, from2, to2, txn2, base2, epoch2, since2, mark2, ask2, attempt2, node2, yes2, no2, wiped2, at4, at5, part4, part5, versions2, _), _) =>
      some ((b2, ()), (kind2, from2, to2, txn2, base2, epoch2, since2, mark2, ask2, attempt2, node2, yes2, no2, wiped2, at4, at5, part4, part5, versions2, ()), ())
namespace wire_pipe_longs_b
def fn (N : Nat) : Sh.den ins → Option (Sh.den outs) := fun (((a, _), _, b, _), ((c, d, e, f, g, h, i, j, k, l, m, o, p, q, r, s, t, u, v, _), _, _), _) => wire_pipe_longs_b.run N a b c d e f g h i j k l m o p q r s t u v
def S (N : Nat) : Fs := ⟨ins, outs, fn N⟩
def lam (N : Nat) : Pcs := pcs [([true, false], (Pc.unroll (C N) (loopBody (sub code [true, false])) (pcs []) 3))]
theorem pok (N : Nat) : (lam N).Ok Try.prog (C N) code := pcsOk_cons (c1 := .loop (loopBody (sub code [true, false]))) (by kernel_rfl) (unroll_ok (cok N) mix pcsOk_nil 3) (pcsOk_nil)
theorem ok (N : Nat) : (S N).con.Ok Try.prog 40 := okF (F := S N) [] Try.func40 (by kernel_rfl) (by rfl) mix (cok N) (pok N) fun _ => by kernel_rfl
end wire_pipe_longs_b
namespace wire_pipe_fields_f3
def ins : Sh := s36
def C (N : Nat) : Ctx := ⟨U, 11, fun _ => true, gam [(40, (wire_pipe_longs_b.S N).con)], gamY []⟩
theorem cok (N : Nat) : (C N).Ok Try.prog := ⟨U_ok, GamOk.cons (wire_pipe_longs_b.ok N) (GamOk.nil), GamYOk.nil⟩
def code : Code := Try.f45.body.getD .skip
def outs : Sh := s37
end wire_pipe_fields_f3
def wire_pipe_fields_f3.run (N : Nat) (b : (List UInt8)) (wrong : Bool) (kind : Int) (from_ : Int) (to_ : Int) (txn : Int) (base : Int) (epoch : Int) (since : Int) (mark : Int) (ask : Int) (attempt : Int) (node : Int) (yes : Bool) (no : Bool) (wiped : Bool) (at_ : Int) (at1 : Int) (part : (List T7)) (part1 : (List T8)) (versions : (List T6)) : Option T12 :=
  obind (wire_pipe_longs_b.run N b wrong kind from_ to_ txn base epoch since mark ask attempt node yes no wiped at_ at1 part part1 versions) fun ((b1, _), (kind1, from1, to1, txn1, base1, epoch1, since1, mark1, ask1, attempt1, node1, yes1, no1, wiped1, at2, at3, part2, part3, versions1, _), _) =>
    some ((b1, ()), (kind1, from1, to1, txn1, base1, epoch1, since1, mark1, ask1, attempt1, node1, yes1, no1, wiped1, at2, at3, part2, part3, versions1, ()), ())
namespace wire_pipe_fields_f3
def fn (N : Nat) : Sh.den ins → Option (Sh.den outs) := fun ((((a, _), _, b, _), _), ((c, d, e, f, g, h, i, j, k, l, m, o, p, q, r, s, t, u, v, _), _), _) => wire_pipe_fields_f3.run N a b c d e f g h i j k l m o p q r s t u v
def S (N : Nat) : Fs := ⟨ins, outs, fn N⟩
def lam (N : Nat) : Pcs := pcs []
theorem pok (N : Nat) : (lam N).Ok Try.prog (C N) code := pcsOk_nil
theorem ok (N : Nat) : (S N).con.Ok Try.prog 45 := okF (F := S N) [] Try.func45 (by kernel_rfl) (by rfl) mix (cok N) (pok N) fun _ => by kernel_rfl
end wire_pipe_fields_f3
namespace wire_pipe_long_e
def ins : Sh := (.cons (.rbox 47 s5) (.cons (.bxo 7 31 s7) .nil))
def C (N : Nat) : Ctx := ⟨U, 24, fun _ => true, gam [(66, (codec_Writer_Long.S N).con)], gamY []⟩
theorem cok (N : Nat) : (C N).Ok Try.prog := ⟨U_ok, GamOk.cons (codec_Writer_Long.ok N) (GamOk.nil), GamYOk.nil⟩
def code : Code := Try.f43.body.getD .skip
def outs : Sh := s13
end wire_pipe_long_e
def wire_pipe_long_e.run (N : Nat) (b : (List UInt8)) (wrong : Bool) (kind : Int) (from_ : Int) (to_ : Int) (txn : Int) (base : Int) (epoch : Int) (since : Int) (mark : Int) (ask : Int) (attempt : Int) (node : Int) (yes : Bool) (no : Bool) (wiped : Bool) (at_ : Int) (at1 : Int) (part : (List T7)) (part1 : (List T8)) (versions : (List T6)) : Option T12 :=
  obind (codec_Writer_Long.run N b mark) fun ((b1, _), _) =>
    some ((b1, ()), (kind, from_, to_, txn, base, epoch, since, mark, ask, attempt, node, yes, no, wiped, at_, at1, part, part1, versions, ()), ())
namespace wire_pipe_long_e
def fn (N : Nat) : Sh.den ins → Option (Sh.den outs) := fun (((a, _), _, b, _), (c, d, e, f, g, h, i, j, k, l, m, o, p, q, r, s, t, u, v, _), _) => wire_pipe_long_e.run N a b c d e f g h i j k l m o p q r s t u v
def S (N : Nat) : Fs := ⟨ins, outs, fn N⟩
def lam (N : Nat) : Pcs := pcs []
theorem pok (N : Nat) : (lam N).Ok Try.prog (C N) code := pcsOk_nil
theorem ok (N : Nat) : (S N).con.Ok Try.prog 43 := okF (F := S N) [] Try.func43 (by kernel_rfl) (by rfl) mix (cok N) (pok N) fun _ => by kernel_rfl
end wire_pipe_long_e
namespace wire_pipe_longs_c
def ins : Sh := (.cons (.rbox 47 s5) (.cons (.els 1 2 (.cons (.bxo 5 31 s7) (.cons (.refo 3 7) .nil))) .nil))
def C (N : Nat) : Ctx := ⟨U, 16, fun _ => true, gam [(43, (((wire_pipe_long_d.S N).con).or (wire_pipe_long_e.S N).con))], gamY []⟩
theorem cok (N : Nat) : (C N).Ok Try.prog := ⟨U_ok, GamOk.cons (Con.or_ok (wire_pipe_long_d.ok N) (wire_pipe_long_e.ok N)) (GamOk.nil), GamYOk.nil⟩
def code : Code := Try.f40.body.getD .skip
def outs : Sh := s13
end wire_pipe_longs_c
def wire_pipe_longs_c.run (N : Nat) (b : (List UInt8)) (wrong : Bool) (kind : Int) (from_ : Int) (to_ : Int) (txn : Int) (base : Int) (epoch : Int) (since : Int) (mark : Int) (ask : Int) (attempt : Int) (node : Int) (yes : Bool) (no : Bool) (wiped : Bool) (at_ : Int) (at1 : Int) (part : (List T7)) (part1 : (List T8)) (versions : (List T6)) : Option T12 :=
  obind (wire_pipe_long_d.run N b wrong kind from_ to_ txn base epoch since mark ask attempt node yes no wiped at_ at1 part part1 versions) fun ((b1, _), (kind1, from1, to1, txn1, base1, epoch1, since1, mark1, ask1, attempt1, node1, yes1, no1, wiped1, at2, at3, part2, part3, versions1, _), _) =>
    obind (wire_pipe_long_e.run N b1 wrong kind1 from1 to1 txn1 base1 epoch1 since1 mark1 ask1 attempt1 node1 yes1 no1 wiped1 at2 at3 part2 part3 versions1) fun ((b2, _), (kind2, from2, to2, txn2, base2, epoch2, since2, mark2, ask2, attempt2, node2, yes2, no2, wiped2, at4, at5, part4, part5, versions2, _), _) =>
      some ((b2, ()), (kind2, from2, to2, txn2, base2, epoch2, since2, mark2, ask2, attempt2, node2, yes2, no2, wiped2, at4, at5, part4, part5, versions2, ()), ())
namespace wire_pipe_longs_c
def fn (N : Nat) : Sh.den ins → Option (Sh.den outs) := fun (((a, _), _, b, _), ((c, d, e, f, g, h, i, j, k, l, m, o, p, q, r, s, t, u, v, _), _, _), _) => wire_pipe_longs_c.run N a b c d e f g h i j k l m o p q r s t u v
def S (N : Nat) : Fs := ⟨ins, outs, fn N⟩
def lam (N : Nat) : Pcs := pcs [([true, false], (Pc.unroll (C N) (loopBody (sub code [true, false])) (pcs []) 3))]
theorem pok (N : Nat) : (lam N).Ok Try.prog (C N) code := pcsOk_cons (c1 := .loop (loopBody (sub code [true, false]))) (by kernel_rfl) (unroll_ok (cok N) mix pcsOk_nil 3) (pcsOk_nil)
theorem ok (N : Nat) : (S N).con.Ok Try.prog 40 := okF (F := S N) [] Try.func40 (by kernel_rfl) (by rfl) mix (cok N) (pok N) fun _ => by kernel_rfl
end wire_pipe_longs_c
namespace wire_pipe_fields_f4
def ins : Sh := s36
def C (N : Nat) : Ctx := ⟨U, 11, fun _ => true, gam [(40, (wire_pipe_longs_c.S N).con)], gamY []⟩
theorem cok (N : Nat) : (C N).Ok Try.prog := ⟨U_ok, GamOk.cons (wire_pipe_longs_c.ok N) (GamOk.nil), GamYOk.nil⟩
def code : Code := Try.f46.body.getD .skip
def outs : Sh := s37
end wire_pipe_fields_f4
def wire_pipe_fields_f4.run (N : Nat) (b : (List UInt8)) (wrong : Bool) (kind : Int) (from_ : Int) (to_ : Int) (txn : Int) (base : Int) (epoch : Int) (since : Int) (mark : Int) (ask : Int) (attempt : Int) (node : Int) (yes : Bool) (no : Bool) (wiped : Bool) (at_ : Int) (at1 : Int) (part : (List T7)) (part1 : (List T8)) (versions : (List T6)) : Option T12 :=
  obind (wire_pipe_longs_c.run N b wrong kind from_ to_ txn base epoch since mark ask attempt node yes no wiped at_ at1 part part1 versions) fun ((b1, _), (kind1, from1, to1, txn1, base1, epoch1, since1, mark1, ask1, attempt1, node1, yes1, no1, wiped1, at2, at3, part2, part3, versions1, _), _) =>
    some ((b1, ()), (kind1, from1, to1, txn1, base1, epoch1, since1, mark1, ask1, attempt1, node1, yes1, no1, wiped1, at2, at3, part2, part3, versions1, ()), ())
namespace wire_pipe_fields_f4
def fn (N : Nat) : Sh.den ins → Option (Sh.den outs) := fun ((((a, _), _, b, _), _), ((c, d, e, f, g, h, i, j, k, l, m, o, p, q, r, s, t, u, v, _), _), _) => wire_pipe_fields_f4.run N a b c d e f g h i j k l m o p q r s t u v
def S (N : Nat) : Fs := ⟨ins, outs, fn N⟩
def lam (N : Nat) : Pcs := pcs []
theorem pok (N : Nat) : (lam N).Ok Try.prog (C N) code := pcsOk_nil
theorem ok (N : Nat) : (S N).con.Ok Try.prog 46 := okF (F := S N) [] Try.func46 (by kernel_rfl) (by rfl) mix (cok N) (pok N) fun _ => by kernel_rfl
end wire_pipe_fields_f4
namespace wire_pipe_long_f
def ins : Sh := (.cons (.rbox 47 s5) (.cons (.bxo 8 31 s7) .nil))
def C (N : Nat) : Ctx := ⟨U, 24, fun _ => true, gam [(66, (codec_Writer_Long.S N).con)], gamY []⟩
theorem cok (N : Nat) : (C N).Ok Try.prog := ⟨U_ok, GamOk.cons (codec_Writer_Long.ok N) (GamOk.nil), GamYOk.nil⟩
def code : Code := Try.f43.body.getD .skip
def outs : Sh := s13
end wire_pipe_long_f
def wire_pipe_long_f.run (N : Nat) (b : (List UInt8)) (wrong : Bool) (kind : Int) (from_ : Int) (to_ : Int) (txn : Int) (base : Int) (epoch : Int) (since : Int) (mark : Int) (ask : Int) (attempt : Int) (node : Int) (yes : Bool) (no : Bool) (wiped : Bool) (at_ : Int) (at1 : Int) (part : (List T7)) (part1 : (List T8)) (versions : (List T6)) : Option T12 :=
  obind (codec_Writer_Long.run N b ask) fun ((b1, _), _) =>
    some ((b1, ()), (kind, from_, to_, txn, base, epoch, since, mark, ask, attempt, node, yes, no, wiped, at_, at1, part, part1, versions, ()), ())
namespace wire_pipe_long_f
def fn (N : Nat) : Sh.den ins → Option (Sh.den outs) := fun (((a, _), _, b, _), (c, d, e, f, g, h, i, j, k, l, m, o, p, q, r, s, t, u, v, _), _) => wire_pipe_long_f.run N a b c d e f g h i j k l m o p q r s t u v
def S (N : Nat) : Fs := ⟨ins, outs, fn N⟩
def lam (N : Nat) : Pcs := pcs []
theorem pok (N : Nat) : (lam N).Ok Try.prog (C N) code := pcsOk_nil
theorem ok (N : Nat) : (S N).con.Ok Try.prog 43 := okF (F := S N) [] Try.func43 (by kernel_rfl) (by rfl) mix (cok N) (pok N) fun _ => by kernel_rfl
end wire_pipe_long_f
namespace wire_pipe_longs_d
def ins : Sh := (.cons (.rbox 47 s5) (.cons (.els 1 2 (.cons (.bxo 8 31 s7) (.cons (.refo 3 5) .nil))) .nil))
def C (N : Nat) : Ctx := ⟨U, 16, fun _ => true, gam [(43, (((wire_pipe_long_d.S N).con).or (wire_pipe_long_f.S N).con))], gamY []⟩
theorem cok (N : Nat) : (C N).Ok Try.prog := ⟨U_ok, GamOk.cons (Con.or_ok (wire_pipe_long_d.ok N) (wire_pipe_long_f.ok N)) (GamOk.nil), GamYOk.nil⟩
def code : Code := Try.f40.body.getD .skip
def outs : Sh := s13
end wire_pipe_longs_d
def wire_pipe_longs_d.run (N : Nat) (b : (List UInt8)) (wrong : Bool) (kind : Int) (from_ : Int) (to_ : Int) (txn : Int) (base : Int) (epoch : Int) (since : Int) (mark : Int) (ask : Int) (attempt : Int) (node : Int) (yes : Bool) (no : Bool) (wiped : Bool) (at_ : Int) (at1 : Int) (part : (List T7)) (part1 : (List T8)) (versions : (List T6)) : Option T12 :=
  obind (wire_pipe_long_f.run N b wrong kind from_ to_ txn base epoch since mark ask attempt node yes no wiped at_ at1 part part1 versions) fun ((b1, _), (kind1, from1, to1, txn1, base1, epoch1, since1, mark1, ask1, attempt1, node1, yes1, no1, wiped1, at2, at3, part2, part3, versions1, _), _) =>
    obind (wire_pipe_long_d.run N b1 wrong kind1 from1 to1 txn1 base1 epoch1 since1 mark1 ask1 attempt1 node1 yes1 no1 wiped1 at2 at3 part2 part3 versions1) fun ((b2, _), (kind2, from2, to2, txn2, base2, epoch2, since2, mark2, ask2, attempt2, node2, yes2, no2, wiped2, at4, at5, part4, part5, versions2, _), _) =>
      some ((b2, ()), (kind2, from2, to2, txn2, base2, epoch2, since2, mark2, ask2, attempt2, node2, yes2, no2, wiped2, at4, at5, part4, part5, versions2, ()), ())
namespace wire_pipe_longs_d
def fn (N : Nat) : Sh.den ins → Option (Sh.den outs) := fun (((a, _), _, b, _), ((c, d, e, f, g, h, i, j, k, l, m, o, p, q, r, s, t, u, v, _), _, _), _) => wire_pipe_longs_d.run N a b c d e f g h i j k l m o p q r s t u v
def S (N : Nat) : Fs := ⟨ins, outs, fn N⟩
def lam (N : Nat) : Pcs := pcs [([true, false], (Pc.unroll (C N) (loopBody (sub code [true, false])) (pcs []) 3))]
theorem pok (N : Nat) : (lam N).Ok Try.prog (C N) code := pcsOk_cons (c1 := .loop (loopBody (sub code [true, false]))) (by kernel_rfl) (unroll_ok (cok N) mix pcsOk_nil 3) (pcsOk_nil)
theorem ok (N : Nat) : (S N).con.Ok Try.prog 40 := okF (F := S N) [] Try.func40 (by kernel_rfl) (by rfl) mix (cok N) (pok N) fun _ => by kernel_rfl
end wire_pipe_longs_d
namespace wire_pipe_place_e
def ins : Sh := s38
def C (N : Nat) : Ctx := ⟨U, 38, fun _ => true, gam [(23, (wire_pipe_must.S N).con), (71, (codec_Writer_Var.S N).con)], gamY []⟩
theorem cok (N : Nat) : (C N).Ok Try.prog := ⟨U_ok, GamOk.cons (wire_pipe_must.ok N) (GamOk.cons (codec_Writer_Var.ok N) (GamOk.nil)), GamYOk.nil⟩
def code : Code := Try.f68.body.getD .skip
def outs : Sh := s9
end wire_pipe_place_e
def wire_pipe_place_e.run (N : Nat) (b : (List UInt8)) (wrong : Bool) (kind : Int) (from_ : Int) (to_ : Int) (txn : Int) (base : Int) (epoch : Int) (since : Int) (mark : Int) (ask : Int) (attempt : Int) (node : Int) (yes : Bool) (no : Bool) (wiped : Bool) (at_ : Int) (at1 : Int) (part : (List T7)) (part1 : (List T8)) (versions : (List T6)) : Option T11 :=
  bif decide (at_ ≥ (0 : Int)) then
    obind (wire_pipe_must.run N b wrong (decide (at_ ≤ (2147483647 : Int)))) fun ((_, _), (_, _, wrong1, _), _) =>
      obind (codec_Writer_Var.run N b (IntKind.u64.wrap at_)) fun ((b1, _), _) =>
        some ((b1, ()), ((), (), wrong1, ()), (kind, from_, to_, txn, base, epoch, since, mark, ask, attempt, node, yes, no, wiped, at_, at1, part, part1, versions, ()), ())
  else
    obind (wire_pipe_must.run N b wrong false) fun ((_, _), (_, _, wrong2, _), _) =>
      obind (codec_Writer_Var.run N b (IntKind.u64.wrap at_)) fun ((b2, _), _) =>
        some ((b2, ()), ((), (), wrong2, ()), (kind, from_, to_, txn, base, epoch, since, mark, ask, attempt, node, yes, no, wiped, at_, at1, part, part1, versions, ()), ())
namespace wire_pipe_place_e
def fn (N : Nat) : Sh.den ins → Option (Sh.den outs) := fun (((a, _), _, b, _), (c, d, e, f, g, h, i, j, k, l, m, o, p, q, r, s, t, u, v, _), _) => wire_pipe_place_e.run N a b c d e f g h i j k l m o p q r s t u v
def S (N : Nat) : Fs := ⟨ins, outs, fn N⟩
def lam (N : Nat) : Pcs := pcs []
theorem pok (N : Nat) : (lam N).Ok Try.prog (C N) code := pcsOk_nil
theorem ok (N : Nat) : (S N).con.Ok Try.prog 68 := okF (F := S N) [] Try.func68 (by kernel_rfl) (by rfl) mix (cok N) (pok N) fun _ => by kernel_rfl
end wire_pipe_place_e
namespace wire_pipe_place_f
def ins : Sh := (.cons (.box 47 s5) (.cons (.bxo 15 31 s7) .nil))
def C (N : Nat) : Ctx := ⟨U, 38, fun _ => true, gam [(23, (wire_pipe_must.S N).con), (71, (codec_Writer_Var.S N).con)], gamY []⟩
theorem cok (N : Nat) : (C N).Ok Try.prog := ⟨U_ok, GamOk.cons (wire_pipe_must.ok N) (GamOk.cons (codec_Writer_Var.ok N) (GamOk.nil)), GamYOk.nil⟩
def code : Code := Try.f68.body.getD .skip
def outs : Sh := s9
end wire_pipe_place_f
def wire_pipe_place_f.run (N : Nat) (b : (List UInt8)) (wrong : Bool) (kind : Int) (from_ : Int) (to_ : Int) (txn : Int) (base : Int) (epoch : Int) (since : Int) (mark : Int) (ask : Int) (attempt : Int) (node : Int) (yes : Bool) (no : Bool) (wiped : Bool) (at_ : Int) (at1 : Int) (part : (List T7)) (part1 : (List T8)) (versions : (List T6)) : Option T11 :=
  bif decide (at1 ≥ (0 : Int)) then
    obind (wire_pipe_must.run N b wrong (decide (at1 ≤ (2147483647 : Int)))) fun ((_, _), (_, _, wrong1, _), _) =>
      obind (codec_Writer_Var.run N b (IntKind.u64.wrap at1)) fun ((b1, _), _) =>
        some ((b1, ()), ((), (), wrong1, ()), (kind, from_, to_, txn, base, epoch, since, mark, ask, attempt, node, yes, no, wiped, at_, at1, part, part1, versions, ()), ())
  else
    obind (wire_pipe_must.run N b wrong false) fun ((_, _), (_, _, wrong2, _), _) =>
      obind (codec_Writer_Var.run N b (IntKind.u64.wrap at1)) fun ((b2, _), _) =>
        some ((b2, ()), ((), (), wrong2, ()), (kind, from_, to_, txn, base, epoch, since, mark, ask, attempt, node, yes, no, wiped, at_, at1, part, part1, versions, ()), ())
namespace wire_pipe_place_f
def fn (N : Nat) : Sh.den ins → Option (Sh.den outs) := fun (((a, _), _, b, _), (c, d, e, f, g, h, i, j, k, l, m, o, p, q, r, s, t, u, v, _), _) => wire_pipe_place_f.run N a b c d e f g h i j k l m o p q r s t u v
def S (N : Nat) : Fs := ⟨ins, outs, fn N⟩
def lam (N : Nat) : Pcs := pcs []
theorem pok (N : Nat) : (lam N).Ok Try.prog (C N) code := pcsOk_nil
theorem ok (N : Nat) : (S N).con.Ok Try.prog 68 := okF (F := S N) [] Try.func68 (by kernel_rfl) (by rfl) mix (cok N) (pok N) fun _ => by kernel_rfl
end wire_pipe_place_f
namespace wire_pipe_segment_c
def ins : Sh := s38
def C (N : Nat) : Ctx := ⟨U, 14, fun _ => true, gam [(68, (((wire_pipe_place_e.S N).con).or (wire_pipe_place_f.S N).con))], gamY []⟩
theorem cok (N : Nat) : (C N).Ok Try.prog := ⟨U_ok, GamOk.cons (Con.or_ok (wire_pipe_place_e.ok N) (wire_pipe_place_f.ok N)) (GamOk.nil), GamYOk.nil⟩
def code : Code := Try.f48.body.getD .skip
def outs : Sh := s9
end wire_pipe_segment_c
def wire_pipe_segment_c.run (N : Nat) (b : (List UInt8)) (wrong : Bool) (kind : Int) (from_ : Int) (to_ : Int) (txn : Int) (base : Int) (epoch : Int) (since : Int) (mark : Int) (ask : Int) (attempt : Int) (node : Int) (yes : Bool) (no : Bool) (wiped : Bool) (at_ : Int) (at1 : Int) (part : (List T7)) (part1 : (List T8)) (versions : (List T6)) : Option T11 :=
  obind (wire_pipe_place_e.run N b wrong kind from_ to_ txn base epoch since mark ask attempt node yes no wiped at_ at1 part part1 versions) fun ((b1, _), (_, _, wrong1, _), (kind1, from1, to1, txn1, base1, epoch1, since1, mark1, ask1, attempt1, node1, yes1, no1, wiped1, at2, at3, part2, part3, versions1, _), _) =>
    obind (wire_pipe_place_f.run N b1 wrong1 kind1 from1 to1 txn1 base1 epoch1 since1 mark1 ask1 attempt1 node1 yes1 no1 wiped1 at2 at3 part2 part3 versions1) fun ((b2, _), (_, _, wrong2, _), (kind2, from2, to2, txn2, base2, epoch2, since2, mark2, ask2, attempt2, node2, yes2, no2, wiped2, at4, at5, part4, part5, versions2, _), _) =>
      some ((b2, ()), ((), (), wrong2, ()), (kind2, from2, to2, txn2, base2, epoch2, since2, mark2, ask2, attempt2, node2, yes2, no2, wiped2, at4, at5, part4, part5, versions2, ()), ())
namespace wire_pipe_segment_c
def fn (N : Nat) : Sh.den ins → Option (Sh.den outs) := fun (((a, _), _, b, _), (c, d, e, f, g, h, i, j, k, l, m, o, p, q, r, s, t, u, v, _), _) => wire_pipe_segment_c.run N a b c d e f g h i j k l m o p q r s t u v
def S (N : Nat) : Fs := ⟨ins, outs, fn N⟩
def lam (N : Nat) : Pcs := pcs []
theorem pok (N : Nat) : (lam N).Ok Try.prog (C N) code := pcsOk_nil
theorem ok (N : Nat) : (S N).con.Ok Try.prog 48 := okF (F := S N) [] Try.func48 (by kernel_rfl) (by rfl) mix (cok N) (pok N) fun _ => by kernel_rfl
end wire_pipe_segment_c
namespace wire_pipe_fields_f5
def ins : Sh := s34
def C (N : Nat) : Ctx := ⟨U, 16, fun _ => true, gam [(40, (wire_pipe_longs_d.S N).con), (48, (wire_pipe_segment_c.S N).con)], gamY []⟩
theorem cok (N : Nat) : (C N).Ok Try.prog := ⟨U_ok, GamOk.cons (wire_pipe_longs_d.ok N) (GamOk.cons (wire_pipe_segment_c.ok N) (GamOk.nil)), GamYOk.nil⟩
def code : Code := Try.f47.body.getD .skip
def outs : Sh := s35
end wire_pipe_fields_f5
def wire_pipe_fields_f5.run (N : Nat) (b : (List UInt8)) (wrong : Bool) (kind : Int) (from_ : Int) (to_ : Int) (txn : Int) (base : Int) (epoch : Int) (since : Int) (mark : Int) (ask : Int) (attempt : Int) (node : Int) (yes : Bool) (no : Bool) (wiped : Bool) (at_ : Int) (at1 : Int) (part : (List T7)) (part1 : (List T8)) (versions : (List T6)) : Option T11 :=
  obind (wire_pipe_longs_d.run N b wrong kind from_ to_ txn base epoch since mark ask attempt node yes no wiped at_ at1 part part1 versions) fun ((b1, _), (kind1, from1, to1, txn1, base1, epoch1, since1, mark1, ask1, attempt1, node1, yes1, no1, wiped1, at2, at3, part2, part3, versions1, _), _) =>
    obind (wire_pipe_segment_c.run N b1 wrong kind1 from1 to1 txn1 base1 epoch1 since1 mark1 ask1 attempt1 node1 yes1 no1 wiped1 at2 at3 part2 part3 versions1) fun ((b2, _), (_, _, wrong1, _), (kind2, from2, to2, txn2, base2, epoch2, since2, mark2, ask2, attempt2, node2, yes2, no2, wiped2, at4, at5, part4, part5, versions2, _), _) =>
      some ((b2, ()), ((), (), wrong1, ()), (kind2, from2, to2, txn2, base2, epoch2, since2, mark2, ask2, attempt2, node2, yes2, no2, wiped2, at4, at5, part4, part5, versions2, ()), ())
namespace wire_pipe_fields_f5
def fn (N : Nat) : Sh.den ins → Option (Sh.den outs) := fun ((((a, _), _, b, _), _), ((c, d, e, f, g, h, i, j, k, l, m, o, p, q, r, s, t, u, v, _), _), _) => wire_pipe_fields_f5.run N a b c d e f g h i j k l m o p q r s t u v
def S (N : Nat) : Fs := ⟨ins, outs, fn N⟩
def lam (N : Nat) : Pcs := pcs []
theorem pok (N : Nat) : (lam N).Ok Try.prog (C N) code := pcsOk_nil
theorem ok (N : Nat) : (S N).con.Ok Try.prog 47 := okF (F := S N) [] Try.func47 (by kernel_rfl) (by rfl) mix (cok N) (pok N) fun _ => by kernel_rfl
end wire_pipe_fields_f5
namespace wire_pipe_truth_b
def ins : Sh := (.cons (.box 47 s5) (.cons (.bxo 12 31 s7) .nil))
def C (N : Nat) : Ctx := ⟨U, 14, fun _ => true, gam [(21, (wire_pipe_byte_d.S N).con)], gamY []⟩
theorem cok (N : Nat) : (C N).Ok Try.prog := ⟨U_ok, GamOk.cons (wire_pipe_byte_d.ok N) (GamOk.nil), GamYOk.nil⟩
def code : Code := Try.f44.body.getD .skip
def outs : Sh := s9
end wire_pipe_truth_b
def wire_pipe_truth_b.run (N : Nat) (b : (List UInt8)) (wrong : Bool) (kind : Int) (from_ : Int) (to_ : Int) (txn : Int) (base : Int) (epoch : Int) (since : Int) (mark : Int) (ask : Int) (attempt : Int) (node : Int) (yes : Bool) (no : Bool) (wiped : Bool) (at_ : Int) (at1 : Int) (part : (List T7)) (part1 : (List T8)) (versions : (List T6)) : Option T11 :=
  bif no then
    obind (wire_pipe_byte_d.run N b wrong (1 : Int) (1 : Int)) fun ((b1, _), (_, _, wrong1, _), _) =>
      some ((b1, ()), ((), (), wrong1, ()), (kind, from_, to_, txn, base, epoch, since, mark, ask, attempt, node, yes, true, wiped, at_, at1, part, part1, versions, ()), ())
  else
    obind (wire_pipe_byte_d.run N b wrong (0 : Int) (1 : Int)) fun ((b2, _), (_, _, wrong2, _), _) =>
      some ((b2, ()), ((), (), wrong2, ()), (kind, from_, to_, txn, base, epoch, since, mark, ask, attempt, node, yes, false, wiped, at_, at1, part, part1, versions, ()), ())
namespace wire_pipe_truth_b
def fn (N : Nat) : Sh.den ins → Option (Sh.den outs) := fun (((a, _), _, b, _), (c, d, e, f, g, h, i, j, k, l, m, o, p, q, r, s, t, u, v, _), _) => wire_pipe_truth_b.run N a b c d e f g h i j k l m o p q r s t u v
def S (N : Nat) : Fs := ⟨ins, outs, fn N⟩
def lam (N : Nat) : Pcs := pcs []
theorem pok (N : Nat) : (lam N).Ok Try.prog (C N) code := pcsOk_nil
theorem ok (N : Nat) : (S N).con.Ok Try.prog 44 := okF (F := S N) [] Try.func44 (by kernel_rfl) (by rfl) mix (cok N) (pok N) fun _ => by kernel_rfl
end wire_pipe_truth_b
namespace wire_pipe_long_g
def ins : Sh := (.cons (.rbox 47 s5) (.cons (.rbox 78 s14) .nil))
def C (N : Nat) : Ctx := ⟨U, 24, fun _ => true, gam [(66, (codec_Writer_Long.S N).con)], gamY []⟩
theorem cok (N : Nat) : (C N).Ok Try.prog := ⟨U_ok, GamOk.cons (codec_Writer_Long.ok N) (GamOk.nil), GamYOk.nil⟩
def code : Code := Try.f43.body.getD .skip
def outs : Sh := (.cons (.upd 1 60 (.cons (.own 5 .byte) .nil)) .nil)
end wire_pipe_long_g
def wire_pipe_long_g.run (N : Nat) (b : (List UInt8)) (wrong : Bool) (id_ : Int) (id1 : Int) (row : (List T4)) (deleted : Int) : Option (T0 × Unit) :=
  obind (codec_Writer_Long.run N b id_) fun ((b1, _), _) =>
    some ((b1, ()), ())
namespace wire_pipe_long_g
def fn (N : Nat) : Sh.den ins → Option (Sh.den outs) := fun (((a, _), _, b, _), (c, d, e, f, _), _) => wire_pipe_long_g.run N a b c d e f
def S (N : Nat) : Fs := ⟨ins, outs, fn N⟩
def lam (N : Nat) : Pcs := pcs []
theorem pok (N : Nat) : (lam N).Ok Try.prog (C N) code := pcsOk_nil
theorem ok (N : Nat) : (S N).con.Ok Try.prog 43 := okF (F := S N) [] Try.func43 (by kernel_rfl) (by rfl) mix (cok N) (pok N) fun _ => by kernel_rfl
end wire_pipe_long_g
namespace wire_pipe_word_c
def ins : Sh := (.cons (.rbox 47 s5) (.cons (.bxo 1 78 s14) .nil))
def C (N : Nat) : Ctx := ⟨U, 24, fun _ => true, gam [(26, (codec_Writer_Word.S N).con)], gamY []⟩
theorem cok (N : Nat) : (C N).Ok Try.prog := ⟨U_ok, GamOk.cons (codec_Writer_Word.ok N) (GamOk.nil), GamYOk.nil⟩
def code : Code := Try.f74.body.getD .skip
def outs : Sh := s39
end wire_pipe_word_c
def wire_pipe_word_c.run (N : Nat) (b : (List UInt8)) (wrong : Bool) (id_ : Int) (id1 : Int) (row : (List T4)) (deleted : Int) : Option T22 :=
  obind (codec_Writer_Word.run N b id1) fun ((b1, _), _) =>
    some ((b1, ()), (id_, id1, row, deleted, ()), ())
namespace wire_pipe_word_c
def fn (N : Nat) : Sh.den ins → Option (Sh.den outs) := fun (((a, _), _, b, _), (c, d, e, f, _), _) => wire_pipe_word_c.run N a b c d e f
def S (N : Nat) : Fs := ⟨ins, outs, fn N⟩
def lam (N : Nat) : Pcs := pcs []
theorem pok (N : Nat) : (lam N).Ok Try.prog (C N) code := pcsOk_nil
theorem ok (N : Nat) : (S N).con.Ok Try.prog 74 := okF (F := S N) [] Try.func74 (by kernel_rfl) (by rfl) mix (cok N) (pok N) fun _ => by kernel_rfl
end wire_pipe_word_c
namespace wire_pipe_name_b
def ins : Sh := (.cons (.rbox 47 s5) (.cons (.box 78 s14) .nil))
def C (N : Nat) : Ctx := ⟨U, 14, fun _ => true, gam [(43, (wire_pipe_long_g.S N).con), (74, (wire_pipe_word_c.S N).con)], gamY []⟩
theorem cok (N : Nat) : (C N).Ok Try.prog := ⟨U_ok, GamOk.cons (wire_pipe_long_g.ok N) (GamOk.cons (wire_pipe_word_c.ok N) (GamOk.nil)), GamYOk.nil⟩
def code : Code := Try.f76.body.getD .skip
def outs : Sh := s39
end wire_pipe_name_b
def wire_pipe_name_b.run (N : Nat) (b : (List UInt8)) (wrong : Bool) (id_ : Int) (id1 : Int) (row : (List T4)) (deleted : Int) : Option T22 :=
  obind (wire_pipe_long_g.run N b wrong id_ id1 row deleted) fun ((b1, _), _) =>
    obind (wire_pipe_word_c.run N b1 wrong id_ id1 row deleted) fun ((b2, _), (id2, id3, row1, deleted1, _), _) =>
      some ((b2, ()), (id2, id3, row1, deleted1, ()), ())
namespace wire_pipe_name_b
def fn (N : Nat) : Sh.den ins → Option (Sh.den outs) := fun (((a, _), _, b, _), (c, d, e, f, _), _) => wire_pipe_name_b.run N a b c d e f
def S (N : Nat) : Fs := ⟨ins, outs, fn N⟩
def lam (N : Nat) : Pcs := pcs []
theorem pok (N : Nat) : (lam N).Ok Try.prog (C N) code := pcsOk_nil
theorem ok (N : Nat) : (S N).con.Ok Try.prog 76 := okF (F := S N) [] Try.func76 (by kernel_rfl) (by rfl) mix (cok N) (pok N) fun _ => by kernel_rfl
end wire_pipe_name_b
namespace wire_pipe_row_b
def ins : Sh := (.cons (.box 47 s5) (.cons (.bxo 2 78 s14) .nil))
def C (N : Nat) : Ctx := ⟨U, 39, fun _ => true, gam [(78, (rows_Encode.S N).con), (79, (codec_Writer_Text.S N).con), (23, (wire_pipe_must.S N).con)], gamY []⟩
theorem cok (N : Nat) : (C N).Ok Try.prog := ⟨U_ok, GamOk.cons (rows_Encode.ok N) (GamOk.cons (codec_Writer_Text.ok N) (GamOk.cons (wire_pipe_must.ok N) (GamOk.nil))), GamYOk.nil⟩
def code : Code := Try.f75.body.getD .skip
def outs : Sh := s40
end wire_pipe_row_b
def wire_pipe_row_b.run (N : Nat) (b : (List UInt8)) (wrong : Bool) (id_ : Int) (id1 : Int) (row : (List T4)) (deleted : Int) : Option T23 :=
  obind (rows_Encode.run N row) fun (l, n_, _) =>
    obind (codec_Writer_Text.run N b l) fun ((b1, _), _) =>
      obind (wire_pipe_must.run N b1 wrong (decide (n_ = (0 : Int)))) fun ((_, _), (_, _, wrong1, _), _) =>
        some ((b1, ()), ((), (), wrong1, ()), (id_, id1, row, deleted, ()), ())
namespace wire_pipe_row_b
def fn (N : Nat) : Sh.den ins → Option (Sh.den outs) := fun (((a, _), _, b, _), (c, d, e, f, _), _) => wire_pipe_row_b.run N a b c d e f
def S (N : Nat) : Fs := ⟨ins, outs, fn N⟩
def lam (N : Nat) : Pcs := pcs []
theorem pok (N : Nat) : (lam N).Ok Try.prog (C N) code := pcsOk_nil
theorem ok (N : Nat) : (S N).con.Ok Try.prog 75 := okF (F := S N) [] Try.func75 (by kernel_rfl) (by rfl) mix (cok N) (pok N) fun _ => by kernel_rfl
end wire_pipe_row_b
namespace wire_pipe_long_h
def ins : Sh := (.cons (.rbox 47 s5) (.cons (.bxo 3 78 s14) .nil))
def C (N : Nat) : Ctx := ⟨U, 24, fun _ => true, gam [(66, (codec_Writer_Long.S N).con)], gamY []⟩
theorem cok (N : Nat) : (C N).Ok Try.prog := ⟨U_ok, GamOk.cons (codec_Writer_Long.ok N) (GamOk.nil), GamYOk.nil⟩
def code : Code := Try.f43.body.getD .skip
def outs : Sh := s39
end wire_pipe_long_h
def wire_pipe_long_h.run (N : Nat) (b : (List UInt8)) (wrong : Bool) (id_ : Int) (id1 : Int) (row : (List T4)) (deleted : Int) : Option T22 :=
  obind (codec_Writer_Long.run N b deleted) fun ((b1, _), _) =>
    some ((b1, ()), (id_, id1, row, deleted, ()), ())
namespace wire_pipe_long_h
def fn (N : Nat) : Sh.den ins → Option (Sh.den outs) := fun (((a, _), _, b, _), (c, d, e, f, _), _) => wire_pipe_long_h.run N a b c d e f
def S (N : Nat) : Fs := ⟨ins, outs, fn N⟩
def lam (N : Nat) : Pcs := pcs []
theorem pok (N : Nat) : (lam N).Ok Try.prog (C N) code := pcsOk_nil
theorem ok (N : Nat) : (S N).con.Ok Try.prog 43 := okF (F := S N) [] Try.func43 (by kernel_rfl) (by rfl) mix (cok N) (pok N) fun _ => by kernel_rfl
end wire_pipe_long_h
namespace wire_pipe_version
def ins : Sh := (.cons (.box 47 s5) (.cons (.box 78 s14) .nil))
def C (N : Nat) : Ctx := ⟨U, 19, fun _ => true, gam [(76, (wire_pipe_name_b.S N).con), (75, (wire_pipe_row_b.S N).con), (43, (wire_pipe_long_h.S N).con)], gamY []⟩
theorem cok (N : Nat) : (C N).Ok Try.prog := ⟨U_ok, GamOk.cons (wire_pipe_name_b.ok N) (GamOk.cons (wire_pipe_row_b.ok N) (GamOk.cons (wire_pipe_long_h.ok N) (GamOk.nil))), GamYOk.nil⟩
def code : Code := Try.f70.body.getD .skip
def outs : Sh := s40
end wire_pipe_version
def wire_pipe_version.run (N : Nat) (b : (List UInt8)) (wrong : Bool) (id_ : Int) (id1 : Int) (row : (List T4)) (deleted : Int) : Option T23 :=
  obind (wire_pipe_name_b.run N b wrong id_ id1 row deleted) fun ((b1, _), (id2, id3, row1, deleted1, _), _) =>
    obind (wire_pipe_row_b.run N b1 wrong id2 id3 row1 deleted1) fun ((b2, _), (_, _, wrong1, _), (id4, id5, row2, deleted2, _), _) =>
      obind (wire_pipe_long_h.run N b2 wrong1 id4 id5 row2 deleted2) fun ((b3, _), (id6, id7, row3, deleted3, _), _) =>
        some ((b3, ()), ((), (), wrong1, ()), (id6, id7, row3, deleted3, ()), ())
namespace wire_pipe_version
def fn (N : Nat) : Sh.den ins → Option (Sh.den outs) := fun (((a, _), _, b, _), (c, d, e, f, _), _) => wire_pipe_version.run N a b c d e f
def S (N : Nat) : Fs := ⟨ins, outs, fn N⟩
def lam (N : Nat) : Pcs := pcs []
theorem pok (N : Nat) : (lam N).Ok Try.prog (C N) code := pcsOk_nil
theorem ok (N : Nat) : (S N).con.Ok Try.prog 70 := okF (F := S N) [] Try.func70 (by kernel_rfl) (by rfl) mix (cok N) (pok N) fun _ => by kernel_rfl
end wire_pipe_version
namespace wire_list_api_Version
def ins : Sh := (.cons (.box 47 s5) (.cons (.bxo 18 31 s7) s41))
def C (N : Nat) : Ctx := ⟨U, 62, fun _ => true, gam [(71, (codec_Writer_Var.S N).con), (70, (wire_pipe_version.S N).con)], gamY []⟩
theorem cok (N : Nat) : (C N).Ok Try.prog := ⟨U_ok, GamOk.cons (codec_Writer_Var.ok N) (GamOk.cons (wire_pipe_version.ok N) (GamOk.nil)), GamYOk.nil⟩
def code : Code := Try.f69.body.getD .skip
def outs : Sh := s9
end wire_list_api_Version
namespace wire_list_api_Version_0
def ins : Sh := (.cons (.fnb 1 70 (.cons (.box 47 s5) .nil)) s42)
def ts : List Tmp := [2, 27, 28, 29]
def asg : List Tmp := [7, 29, 30, 31, 32, 33, 34, 35]
def C (N : Nat) : Ctx := { wire_list_api_Version.C N with may := fun t => asg.any (Nat.beq t) }
def code : Code := loopBody (sub wire_list_api_Version.code [false, true, false, true, false, true, false])
theorem cok (N : Nat) : (C N).Ok Try.prog := okC (wire_list_api_Version.cok N) _
def alts : List Alt := [⟨(.exit 0), [], s8⟩]
end wire_list_api_Version_0
def wire_list_api_Version_0.go (N : Nat) : Nat → (List UInt8) → Bool → (List T6) → Int → Int → Option (T9)
  | 0, _, _, _, _, _ => none
  | fuel + 1, b, wrong, t27, t28, t29 =>
    bif decide (t29 < t28) then
      bif inB t29 t27.length then
        obind (wire_pipe_version.run N b wrong (t27.getD t29.toNat (((0 : Int), (0 : Int)), ([] : List T4), (0 : Int))).1.1 (t27.getD t29.toNat (((0 : Int), (0 : Int)), ([] : List T4), (0 : Int))).1.2 (t27.getD t29.toNat (((0 : Int), (0 : Int)), ([] : List T4), (0 : Int))).2.1 (t27.getD t29.toNat (((0 : Int), (0 : Int)), ([] : List T4), (0 : Int))).2.2) fun ((b1, _), (_, _, wrong1, _), (id_, id1, row, deleted, _), _) =>
          wire_list_api_Version_0.go N fuel b1 wrong1 t27 t28 (IntKind.i64.wrap (t29 + (1 : Int)))
      else none
    else some ((b, ()), ((), (), wrong, ()), ())
namespace wire_list_api_Version_0
def g (N n : Nat) : Sh.den ins → Option (altsDen alts) := fun ((((a, _), _, b, _), _), c, d, e, _) => wire_list_api_Version_0.go N n a b c d e
def P (N : Nat) : Ps := ⟨ts, ins, asg, alts, g N N⟩
def lam (N : Nat) : Pcs := pcs []
theorem pok (N : Nat) : (lam N).Ok Try.prog (C N) code := pcsOk_nil
theorem ok (N : Nat) : ((P N).pc (wire_list_api_Version.C N)).Ok Try.prog (wire_list_api_Version.C N) (.loop code) := okL (F := P N) (g N) (wire_list_api_Version.cok N) mix (pok N) (fun _ => rfl) rfl fun _ _ => by kernel_rfl
end wire_list_api_Version_0
def wire_list_api_Version.run (N : Nat) (b : (List UInt8)) (wrong : Bool) (kind : Int) (from_ : Int) (to_ : Int) (txn : Int) (base : Int) (epoch : Int) (since : Int) (mark : Int) (ask : Int) (attempt : Int) (node : Int) (yes : Bool) (no : Bool) (wiped : Bool) (at_ : Int) (at1 : Int) (part : (List T7)) (part1 : (List T8)) (versions : (List T6)) : Option T11 :=
  obind (codec_Writer_Var.run N b (IntKind.u64.wrap (versions.length : Int))) fun ((b1, _), _) =>
    obind (wire_list_api_Version_0.go N N b1 wrong versions (versions.length : Int) (0 : Int)) fun ((b2, _), (_, _, wrong1, _), _) =>
      some ((b2, ()), ((), (), wrong1, ()), (kind, from_, to_, txn, base, epoch, since, mark, ask, attempt, node, yes, no, wiped, at_, at1, part, part1, versions, ()), ())
namespace wire_list_api_Version
def fn (N : Nat) : Sh.den ins → Option (Sh.den outs) := fun (((a, _), _, b, _), (c, d, e, f, g, h, i, j, k, l, m, o, p, q, r, s, t, u, v, _), (_, _), _) => wire_list_api_Version.run N a b c d e f g h i j k l m o p q r s t u v
def S (N : Nat) : Fs := ⟨ins, outs, fn N⟩
def lam (N : Nat) : Pcs := pcs [([false, true, false, true, false, true, false], (wire_list_api_Version_0.P N).pc (C N))]
theorem pok (N : Nat) : (lam N).Ok Try.prog (C N) code := pcsOk_cons (c1 := .loop wire_list_api_Version_0.code) (by kernel_rfl) (wire_list_api_Version_0.ok N) (pcsOk_nil)
theorem ok (N : Nat) : (S N).con.Ok Try.prog 69 := okF (F := S N) [] Try.func69 (by kernel_rfl) (by rfl) mix (cok N) (pok N) fun _ => by kernel_rfl
end wire_list_api_Version
namespace wire_pipe_versions
def ins : Sh := (.cons (.box 47 s5) (.cons (.bxo 18 31 s7) .nil))
def C (N : Nat) : Ctx := ⟨U, 9, fun _ => true, gam [(69, (wire_list_api_Version.S N).con)], gamY []⟩
theorem cok (N : Nat) : (C N).Ok Try.prog := ⟨U_ok, GamOk.cons (wire_list_api_Version.ok N) (GamOk.nil), GamYOk.nil⟩
def code : Code := Try.f50.body.getD .skip
def outs : Sh := s9
end wire_pipe_versions
def wire_pipe_versions.run (N : Nat) (b : (List UInt8)) (wrong : Bool) (kind : Int) (from_ : Int) (to_ : Int) (txn : Int) (base : Int) (epoch : Int) (since : Int) (mark : Int) (ask : Int) (attempt : Int) (node : Int) (yes : Bool) (no : Bool) (wiped : Bool) (at_ : Int) (at1 : Int) (part : (List T7)) (part1 : (List T8)) (versions : (List T6)) : Option T11 :=
  obind (wire_list_api_Version.run N b wrong kind from_ to_ txn base epoch since mark ask attempt node yes no wiped at_ at1 part part1 versions) fun ((b1, _), (_, _, wrong1, _), (kind1, from1, to1, txn1, base1, epoch1, since1, mark1, ask1, attempt1, node1, yes1, no1, wiped1, at2, at3, part2, part3, versions1, _), _) =>
    some ((b1, ()), ((), (), wrong1, ()), (kind1, from1, to1, txn1, base1, epoch1, since1, mark1, ask1, attempt1, node1, yes1, no1, wiped1, at2, at3, part2, part3, versions1, ()), ())
namespace wire_pipe_versions
def fn (N : Nat) : Sh.den ins → Option (Sh.den outs) := fun (((a, _), _, b, _), (c, d, e, f, g, h, i, j, k, l, m, o, p, q, r, s, t, u, v, _), _) => wire_pipe_versions.run N a b c d e f g h i j k l m o p q r s t u v
def S (N : Nat) : Fs := ⟨ins, outs, fn N⟩
def lam (N : Nat) : Pcs := pcs []
theorem pok (N : Nat) : (lam N).Ok Try.prog (C N) code := pcsOk_nil
theorem ok (N : Nat) : (S N).con.Ok Try.prog 50 := okF (F := S N) [] Try.func50 (by kernel_rfl) (by rfl) mix (cok N) (pok N) fun _ => by kernel_rfl
end wire_pipe_versions
namespace wire_pipe_fields_f6
def ins : Sh := s34
def C (N : Nat) : Ctx := ⟨U, 22, fun _ => true, gam [(43, (wire_pipe_long_f.S N).con), (48, (wire_pipe_segment_c.S N).con), (44, (wire_pipe_truth_b.S N).con), (50, (wire_pipe_versions.S N).con)], gamY []⟩
theorem cok (N : Nat) : (C N).Ok Try.prog := ⟨U_ok, GamOk.cons (wire_pipe_long_f.ok N) (GamOk.cons (wire_pipe_segment_c.ok N) (GamOk.cons (wire_pipe_truth_b.ok N) (GamOk.cons (wire_pipe_versions.ok N) (GamOk.nil)))), GamYOk.nil⟩
def code : Code := Try.f49.body.getD .skip
def outs : Sh := s35
end wire_pipe_fields_f6
def wire_pipe_fields_f6.run (N : Nat) (b : (List UInt8)) (wrong : Bool) (kind : Int) (from_ : Int) (to_ : Int) (txn : Int) (base : Int) (epoch : Int) (since : Int) (mark : Int) (ask : Int) (attempt : Int) (node : Int) (yes : Bool) (no : Bool) (wiped : Bool) (at_ : Int) (at1 : Int) (part : (List T7)) (part1 : (List T8)) (versions : (List T6)) : Option T11 :=
  obind (wire_pipe_long_f.run N b wrong kind from_ to_ txn base epoch since mark ask attempt node yes no wiped at_ at1 part part1 versions) fun ((b1, _), (kind1, from1, to1, txn1, base1, epoch1, since1, mark1, ask1, attempt1, node1, yes1, no1, wiped1, at2, at3, part2, part3, versions1, _), _) =>
    obind (wire_pipe_segment_c.run N b1 wrong kind1 from1 to1 txn1 base1 epoch1 since1 mark1 ask1 attempt1 node1 yes1 no1 wiped1 at2 at3 part2 part3 versions1) fun ((b2, _), (_, _, wrong1, _), (kind2, from2, to2, txn2, base2, epoch2, since2, mark2, ask2, attempt2, node2, yes2, no2, wiped2, at4, at5, part4, part5, versions2, _), _) =>
      obind (wire_pipe_truth_b.run N b2 wrong1 kind2 from2 to2 txn2 base2 epoch2 since2 mark2 ask2 attempt2 node2 yes2 no2 wiped2 at4 at5 part4 part5 versions2) fun ((b3, _), (_, _, wrong2, _), (kind3, from3, to3, txn3, base3, epoch3, since3, mark3, ask3, attempt3, node3, yes3, no3, wiped3, at6, at7, part6, part7, versions3, _), _) =>
        obind (wire_pipe_versions.run N b3 wrong2 kind3 from3 to3 txn3 base3 epoch3 since3 mark3 ask3 attempt3 node3 yes3 no3 wiped3 at6 at7 part6 part7 versions3) fun ((b4, _), (_, _, wrong3, _), (kind4, from4, to4, txn4, base4, epoch4, since4, mark4, ask4, attempt4, node4, yes4, no4, wiped4, at8, at9, part8, part9, versions4, _), _) =>
          some ((b4, ()), ((), (), wrong3, ()), (kind4, from4, to4, txn4, base4, epoch4, since4, mark4, ask4, attempt4, node4, yes4, no4, wiped4, at8, at9, part8, part9, versions4, ()), ())
namespace wire_pipe_fields_f6
def fn (N : Nat) : Sh.den ins → Option (Sh.den outs) := fun ((((a, _), _, b, _), _), ((c, d, e, f, g, h, i, j, k, l, m, o, p, q, r, s, t, u, v, _), _), _) => wire_pipe_fields_f6.run N a b c d e f g h i j k l m o p q r s t u v
def S (N : Nat) : Fs := ⟨ins, outs, fn N⟩
def lam (N : Nat) : Pcs := pcs []
theorem pok (N : Nat) : (lam N).Ok Try.prog (C N) code := pcsOk_nil
theorem ok (N : Nat) : (S N).con.Ok Try.prog 49 := okF (F := S N) [] Try.func49 (by kernel_rfl) (by rfl) mix (cok N) (pok N) fun _ => by kernel_rfl
end wire_pipe_fields_f6
namespace wire_pipe_truth_c
def ins : Sh := (.cons (.box 47 s5) (.cons (.bxo 13 31 s7) .nil))
def C (N : Nat) : Ctx := ⟨U, 14, fun _ => true, gam [(21, (wire_pipe_byte_d.S N).con)], gamY []⟩
theorem cok (N : Nat) : (C N).Ok Try.prog := ⟨U_ok, GamOk.cons (wire_pipe_byte_d.ok N) (GamOk.nil), GamYOk.nil⟩
def code : Code := Try.f44.body.getD .skip
def outs : Sh := s9
end wire_pipe_truth_c
def wire_pipe_truth_c.run (N : Nat) (b : (List UInt8)) (wrong : Bool) (kind : Int) (from_ : Int) (to_ : Int) (txn : Int) (base : Int) (epoch : Int) (since : Int) (mark : Int) (ask : Int) (attempt : Int) (node : Int) (yes : Bool) (no : Bool) (wiped : Bool) (at_ : Int) (at1 : Int) (part : (List T7)) (part1 : (List T8)) (versions : (List T6)) : Option T11 :=
  bif wiped then
    obind (wire_pipe_byte_d.run N b wrong (1 : Int) (1 : Int)) fun ((b1, _), (_, _, wrong1, _), _) =>
      some ((b1, ()), ((), (), wrong1, ()), (kind, from_, to_, txn, base, epoch, since, mark, ask, attempt, node, yes, no, true, at_, at1, part, part1, versions, ()), ())
  else
    obind (wire_pipe_byte_d.run N b wrong (0 : Int) (1 : Int)) fun ((b2, _), (_, _, wrong2, _), _) =>
      some ((b2, ()), ((), (), wrong2, ()), (kind, from_, to_, txn, base, epoch, since, mark, ask, attempt, node, yes, no, false, at_, at1, part, part1, versions, ()), ())
namespace wire_pipe_truth_c
def fn (N : Nat) : Sh.den ins → Option (Sh.den outs) := fun (((a, _), _, b, _), (c, d, e, f, g, h, i, j, k, l, m, o, p, q, r, s, t, u, v, _), _) => wire_pipe_truth_c.run N a b c d e f g h i j k l m o p q r s t u v
def S (N : Nat) : Fs := ⟨ins, outs, fn N⟩
def lam (N : Nat) : Pcs := pcs []
theorem pok (N : Nat) : (lam N).Ok Try.prog (C N) code := pcsOk_nil
theorem ok (N : Nat) : (S N).con.Ok Try.prog 44 := okF (F := S N) [] Try.func44 (by kernel_rfl) (by rfl) mix (cok N) (pok N) fun _ => by kernel_rfl
end wire_pipe_truth_c
namespace wire_pipe_fields_f7
def ins : Sh := s34
def C (N : Nat) : Ctx := ⟨U, 16, fun _ => true, gam [(40, (wire_pipe_longs_d.S N).con), (44, (wire_pipe_truth_c.S N).con)], gamY []⟩
theorem cok (N : Nat) : (C N).Ok Try.prog := ⟨U_ok, GamOk.cons (wire_pipe_longs_d.ok N) (GamOk.cons (wire_pipe_truth_c.ok N) (GamOk.nil)), GamYOk.nil⟩
def code : Code := Try.f51.body.getD .skip
def outs : Sh := s35
end wire_pipe_fields_f7
def wire_pipe_fields_f7.run (N : Nat) (b : (List UInt8)) (wrong : Bool) (kind : Int) (from_ : Int) (to_ : Int) (txn : Int) (base : Int) (epoch : Int) (since : Int) (mark : Int) (ask : Int) (attempt : Int) (node : Int) (yes : Bool) (no : Bool) (wiped : Bool) (at_ : Int) (at1 : Int) (part : (List T7)) (part1 : (List T8)) (versions : (List T6)) : Option T11 :=
  obind (wire_pipe_longs_d.run N b wrong kind from_ to_ txn base epoch since mark ask attempt node yes no wiped at_ at1 part part1 versions) fun ((b1, _), (kind1, from1, to1, txn1, base1, epoch1, since1, mark1, ask1, attempt1, node1, yes1, no1, wiped1, at2, at3, part2, part3, versions1, _), _) =>
    obind (wire_pipe_truth_c.run N b1 wrong kind1 from1 to1 txn1 base1 epoch1 since1 mark1 ask1 attempt1 node1 yes1 no1 wiped1 at2 at3 part2 part3 versions1) fun ((b2, _), (_, _, wrong1, _), (kind2, from2, to2, txn2, base2, epoch2, since2, mark2, ask2, attempt2, node2, yes2, no2, wiped2, at4, at5, part4, part5, versions2, _), _) =>
      some ((b2, ()), ((), (), wrong1, ()), (kind2, from2, to2, txn2, base2, epoch2, since2, mark2, ask2, attempt2, node2, yes2, no2, wiped2, at4, at5, part4, part5, versions2, ()), ())
namespace wire_pipe_fields_f7
def fn (N : Nat) : Sh.den ins → Option (Sh.den outs) := fun ((((a, _), _, b, _), _), ((c, d, e, f, g, h, i, j, k, l, m, o, p, q, r, s, t, u, v, _), _), _) => wire_pipe_fields_f7.run N a b c d e f g h i j k l m o p q r s t u v
def S (N : Nat) : Fs := ⟨ins, outs, fn N⟩
def lam (N : Nat) : Pcs := pcs []
theorem pok (N : Nat) : (lam N).Ok Try.prog (C N) code := pcsOk_nil
theorem ok (N : Nat) : (S N).con.Ok Try.prog 51 := okF (F := S N) [] Try.func51 (by kernel_rfl) (by rfl) mix (cok N) (pok N) fun _ => by kernel_rfl
end wire_pipe_fields_f7
namespace wire_pipe_byte_e
def ins : Sh := (.cons (.box 47 s5) (.cons (.bxo 10 31 s7) (.cons (.val (.int .i64)) .nil)))
def C (N : Nat) : Ctx := ⟨U, 41, fun _ => true, gam [(37, (codec_Writer_Byte.S N).con), (23, (wire_pipe_must.S N).con)], gamY []⟩
theorem cok (N : Nat) : (C N).Ok Try.prog := ⟨U_ok, GamOk.cons (codec_Writer_Byte.ok N) (GamOk.cons (wire_pipe_must.ok N) (GamOk.nil)), GamYOk.nil⟩
def code : Code := Try.f21.body.getD .skip
def outs : Sh := s9
end wire_pipe_byte_e
def wire_pipe_byte_e.run (N : Nat) (b : (List UInt8)) (wrong : Bool) (kind : Int) (from_ : Int) (to_ : Int) (txn : Int) (base : Int) (epoch : Int) (since : Int) (mark : Int) (ask : Int) (attempt : Int) (node : Int) (yes : Bool) (no : Bool) (wiped : Bool) (at_ : Int) (at1 : Int) (part : (List T7)) (part1 : (List T8)) (versions : (List T6)) (most : Int) : Option T11 :=
  obind (codec_Writer_Byte.run N b (Hay.u8 (IntKind.u8.wrap node))) fun ((b1, _), _) =>
    bif decide (node ≥ (0 : Int)) then
      obind (wire_pipe_must.run N b1 wrong (decide (node ≤ most))) fun ((_, _), (_, _, wrong1, _), _) =>
        some ((b1, ()), ((), (), wrong1, ()), (kind, from_, to_, txn, base, epoch, since, mark, ask, attempt, node, yes, no, wiped, at_, at1, part, part1, versions, ()), ())
    else
      obind (wire_pipe_must.run N b1 wrong false) fun ((_, _), (_, _, wrong2, _), _) =>
        some ((b1, ()), ((), (), wrong2, ()), (kind, from_, to_, txn, base, epoch, since, mark, ask, attempt, node, yes, no, wiped, at_, at1, part, part1, versions, ()), ())
namespace wire_pipe_byte_e
def fn (N : Nat) : Sh.den ins → Option (Sh.den outs) := fun (((a, _), _, b, _), (c, d, e, f, g, h, i, j, k, l, m, o, p, q, r, s, t, u, v, _), w, _) => wire_pipe_byte_e.run N a b c d e f g h i j k l m o p q r s t u v w
def S (N : Nat) : Fs := ⟨ins, outs, fn N⟩
def lam (N : Nat) : Pcs := pcs []
theorem pok (N : Nat) : (lam N).Ok Try.prog (C N) code := pcsOk_nil
theorem ok (N : Nat) : (S N).con.Ok Try.prog 21 := okF (F := S N) [] Try.func21 (by kernel_rfl) (by rfl) mix (cok N) (pok N) fun _ => by kernel_rfl
end wire_pipe_byte_e
namespace wire_pipe_node_c
def ins : Sh := (.cons (.box 47 s5) (.cons (.bxo 10 31 s7) .nil))
def C (N : Nat) : Ctx := ⟨U, 7, fun _ => true, gam [(21, (wire_pipe_byte_e.S N).con)], gamY []⟩
theorem cok (N : Nat) : (C N).Ok Try.prog := ⟨U_ok, GamOk.cons (wire_pipe_byte_e.ok N) (GamOk.nil), GamYOk.nil⟩
def code : Code := Try.f22.body.getD .skip
def outs : Sh := s9
end wire_pipe_node_c
def wire_pipe_node_c.run (N : Nat) (b : (List UInt8)) (wrong : Bool) (kind : Int) (from_ : Int) (to_ : Int) (txn : Int) (base : Int) (epoch : Int) (since : Int) (mark : Int) (ask : Int) (attempt : Int) (node : Int) (yes : Bool) (no : Bool) (wiped : Bool) (at_ : Int) (at1 : Int) (part : (List T7)) (part1 : (List T8)) (versions : (List T6)) : Option T11 :=
  obind (wire_pipe_byte_e.run N b wrong kind from_ to_ txn base epoch since mark ask attempt node yes no wiped at_ at1 part part1 versions (8 : Int)) fun ((b1, _), (_, _, wrong1, _), (kind1, from1, to1, txn1, base1, epoch1, since1, mark1, ask1, attempt1, node1, yes1, no1, wiped1, at2, at3, part2, part3, versions1, _), _) =>
    some ((b1, ()), ((), (), wrong1, ()), (kind1, from1, to1, txn1, base1, epoch1, since1, mark1, ask1, attempt1, node1, yes1, no1, wiped1, at2, at3, part2, part3, versions1, ()), ())
namespace wire_pipe_node_c
def fn (N : Nat) : Sh.den ins → Option (Sh.den outs) := fun (((a, _), _, b, _), (c, d, e, f, g, h, i, j, k, l, m, o, p, q, r, s, t, u, v, _), _) => wire_pipe_node_c.run N a b c d e f g h i j k l m o p q r s t u v
def S (N : Nat) : Fs := ⟨ins, outs, fn N⟩
def lam (N : Nat) : Pcs := pcs []
theorem pok (N : Nat) : (lam N).Ok Try.prog (C N) code := pcsOk_nil
theorem ok (N : Nat) : (S N).con.Ok Try.prog 22 := okF (F := S N) [] Try.func22 (by kernel_rfl) (by rfl) mix (cok N) (pok N) fun _ => by kernel_rfl
end wire_pipe_node_c
namespace wire_pipe_long_i
def ins : Sh := (.cons (.rbox 47 s5) (.cons (.bxo 9 31 s7) .nil))
def C (N : Nat) : Ctx := ⟨U, 24, fun _ => true, gam [(66, (codec_Writer_Long.S N).con)], gamY []⟩
theorem cok (N : Nat) : (C N).Ok Try.prog := ⟨U_ok, GamOk.cons (codec_Writer_Long.ok N) (GamOk.nil), GamYOk.nil⟩
def code : Code := Try.f43.body.getD .skip
def outs : Sh := s13
end wire_pipe_long_i
def wire_pipe_long_i.run (N : Nat) (b : (List UInt8)) (wrong : Bool) (kind : Int) (from_ : Int) (to_ : Int) (txn : Int) (base : Int) (epoch : Int) (since : Int) (mark : Int) (ask : Int) (attempt : Int) (node : Int) (yes : Bool) (no : Bool) (wiped : Bool) (at_ : Int) (at1 : Int) (part : (List T7)) (part1 : (List T8)) (versions : (List T6)) : Option T12 :=
  obind (codec_Writer_Long.run N b attempt) fun ((b1, _), _) =>
    some ((b1, ()), (kind, from_, to_, txn, base, epoch, since, mark, ask, attempt, node, yes, no, wiped, at_, at1, part, part1, versions, ()), ())
namespace wire_pipe_long_i
def fn (N : Nat) : Sh.den ins → Option (Sh.den outs) := fun (((a, _), _, b, _), (c, d, e, f, g, h, i, j, k, l, m, o, p, q, r, s, t, u, v, _), _) => wire_pipe_long_i.run N a b c d e f g h i j k l m o p q r s t u v
def S (N : Nat) : Fs := ⟨ins, outs, fn N⟩
def lam (N : Nat) : Pcs := pcs []
theorem pok (N : Nat) : (lam N).Ok Try.prog (C N) code := pcsOk_nil
theorem ok (N : Nat) : (S N).con.Ok Try.prog 43 := okF (F := S N) [] Try.func43 (by kernel_rfl) (by rfl) mix (cok N) (pok N) fun _ => by kernel_rfl
end wire_pipe_long_i
namespace wire_pipe_long_j
def ins : Sh := (.cons (.rbox 47 s5) (.cons (.bxo 6 31 s7) .nil))
def C (N : Nat) : Ctx := ⟨U, 24, fun _ => true, gam [(66, (codec_Writer_Long.S N).con)], gamY []⟩
theorem cok (N : Nat) : (C N).Ok Try.prog := ⟨U_ok, GamOk.cons (codec_Writer_Long.ok N) (GamOk.nil), GamYOk.nil⟩
def code : Code := Try.f43.body.getD .skip
def outs : Sh := s13
end wire_pipe_long_j
def wire_pipe_long_j.run (N : Nat) (b : (List UInt8)) (wrong : Bool) (kind : Int) (from_ : Int) (to_ : Int) (txn : Int) (base : Int) (epoch : Int) (since : Int) (mark : Int) (ask : Int) (attempt : Int) (node : Int) (yes : Bool) (no : Bool) (wiped : Bool) (at_ : Int) (at1 : Int) (part : (List T7)) (part1 : (List T8)) (versions : (List T6)) : Option T12 :=
  obind (codec_Writer_Long.run N b since) fun ((b1, _), _) =>
    some ((b1, ()), (kind, from_, to_, txn, base, epoch, since, mark, ask, attempt, node, yes, no, wiped, at_, at1, part, part1, versions, ()), ())
namespace wire_pipe_long_j
def fn (N : Nat) : Sh.den ins → Option (Sh.den outs) := fun (((a, _), _, b, _), (c, d, e, f, g, h, i, j, k, l, m, o, p, q, r, s, t, u, v, _), _) => wire_pipe_long_j.run N a b c d e f g h i j k l m o p q r s t u v
def S (N : Nat) : Fs := ⟨ins, outs, fn N⟩
def lam (N : Nat) : Pcs := pcs []
theorem pok (N : Nat) : (lam N).Ok Try.prog (C N) code := pcsOk_nil
theorem ok (N : Nat) : (S N).con.Ok Try.prog 43 := okF (F := S N) [] Try.func43 (by kernel_rfl) (by rfl) mix (cok N) (pok N) fun _ => by kernel_rfl
end wire_pipe_long_j
namespace wire_pipe_longs_e
def ins : Sh := (.cons (.rbox 47 s5) (.cons (.els 1 2 (.cons (.bxo 6 31 s7) (.cons (.refo 3 5) .nil))) .nil))
def C (N : Nat) : Ctx := ⟨U, 16, fun _ => true, gam [(43, (((wire_pipe_long_d.S N).con).or (wire_pipe_long_j.S N).con))], gamY []⟩
theorem cok (N : Nat) : (C N).Ok Try.prog := ⟨U_ok, GamOk.cons (Con.or_ok (wire_pipe_long_d.ok N) (wire_pipe_long_j.ok N)) (GamOk.nil), GamYOk.nil⟩
def code : Code := Try.f40.body.getD .skip
def outs : Sh := s13
end wire_pipe_longs_e
def wire_pipe_longs_e.run (N : Nat) (b : (List UInt8)) (wrong : Bool) (kind : Int) (from_ : Int) (to_ : Int) (txn : Int) (base : Int) (epoch : Int) (since : Int) (mark : Int) (ask : Int) (attempt : Int) (node : Int) (yes : Bool) (no : Bool) (wiped : Bool) (at_ : Int) (at1 : Int) (part : (List T7)) (part1 : (List T8)) (versions : (List T6)) : Option T12 :=
  obind (wire_pipe_long_j.run N b wrong kind from_ to_ txn base epoch since mark ask attempt node yes no wiped at_ at1 part part1 versions) fun ((b1, _), (kind1, from1, to1, txn1, base1, epoch1, since1, mark1, ask1, attempt1, node1, yes1, no1, wiped1, at2, at3, part2, part3, versions1, _), _) =>
    obind (wire_pipe_long_d.run N b1 wrong kind1 from1 to1 txn1 base1 epoch1 since1 mark1 ask1 attempt1 node1 yes1 no1 wiped1 at2 at3 part2 part3 versions1) fun ((b2, _), (kind2, from2, to2, txn2, base2, epoch2, since2, mark2, ask2, attempt2, node2, yes2, no2, wiped2, at4, at5, part4, part5, versions2, _), _) =>
      some ((b2, ()), (kind2, from2, to2, txn2, base2, epoch2, since2, mark2, ask2, attempt2, node2, yes2, no2, wiped2, at4, at5, part4, part5, versions2, ()), ())
namespace wire_pipe_longs_e
def fn (N : Nat) : Sh.den ins → Option (Sh.den outs) := fun (((a, _), _, b, _), ((c, d, e, f, g, h, i, j, k, l, m, o, p, q, r, s, t, u, v, _), _, _), _) => wire_pipe_longs_e.run N a b c d e f g h i j k l m o p q r s t u v
def S (N : Nat) : Fs := ⟨ins, outs, fn N⟩
def lam (N : Nat) : Pcs := pcs [([true, false], (Pc.unroll (C N) (loopBody (sub code [true, false])) (pcs []) 3))]
theorem pok (N : Nat) : (lam N).Ok Try.prog (C N) code := pcsOk_cons (c1 := .loop (loopBody (sub code [true, false]))) (by kernel_rfl) (unroll_ok (cok N) mix pcsOk_nil 3) (pcsOk_nil)
theorem ok (N : Nat) : (S N).con.Ok Try.prog 40 := okF (F := S N) [] Try.func40 (by kernel_rfl) (by rfl) mix (cok N) (pok N) fun _ => by kernel_rfl
end wire_pipe_longs_e
namespace wire_pipe_fields_f8
def ins : Sh := s34
def C (N : Nat) : Ctx := ⟨U, 26, fun _ => true, gam [(22, (wire_pipe_node_c.S N).con), (43, (wire_pipe_long_i.S N).con), (48, (wire_pipe_segment_c.S N).con), (40, (wire_pipe_longs_e.S N).con)], gamY []⟩
theorem cok (N : Nat) : (C N).Ok Try.prog := ⟨U_ok, GamOk.cons (wire_pipe_node_c.ok N) (GamOk.cons (wire_pipe_long_i.ok N) (GamOk.cons (wire_pipe_segment_c.ok N) (GamOk.cons (wire_pipe_longs_e.ok N) (GamOk.nil)))), GamYOk.nil⟩
def code : Code := Try.f52.body.getD .skip
def outs : Sh := s35
end wire_pipe_fields_f8
def wire_pipe_fields_f8.run (N : Nat) (b : (List UInt8)) (wrong : Bool) (kind : Int) (from_ : Int) (to_ : Int) (txn : Int) (base : Int) (epoch : Int) (since : Int) (mark : Int) (ask : Int) (attempt : Int) (node : Int) (yes : Bool) (no : Bool) (wiped : Bool) (at_ : Int) (at1 : Int) (part : (List T7)) (part1 : (List T8)) (versions : (List T6)) : Option T11 :=
  obind (wire_pipe_node_c.run N b wrong kind from_ to_ txn base epoch since mark ask attempt node yes no wiped at_ at1 part part1 versions) fun ((b1, _), (_, _, wrong1, _), (kind1, from1, to1, txn1, base1, epoch1, since1, mark1, ask1, attempt1, node1, yes1, no1, wiped1, at2, at3, part2, part3, versions1, _), _) =>
    obind (wire_pipe_long_i.run N b1 wrong1 kind1 from1 to1 txn1 base1 epoch1 since1 mark1 ask1 attempt1 node1 yes1 no1 wiped1 at2 at3 part2 part3 versions1) fun ((b2, _), (kind2, from2, to2, txn2, base2, epoch2, since2, mark2, ask2, attempt2, node2, yes2, no2, wiped2, at4, at5, part4, part5, versions2, _), _) =>
      obind (wire_pipe_segment_c.run N b2 wrong1 kind2 from2 to2 txn2 base2 epoch2 since2 mark2 ask2 attempt2 node2 yes2 no2 wiped2 at4 at5 part4 part5 versions2) fun ((b3, _), (_, _, wrong2, _), (kind3, from3, to3, txn3, base3, epoch3, since3, mark3, ask3, attempt3, node3, yes3, no3, wiped3, at6, at7, part6, part7, versions3, _), _) =>
        obind (wire_pipe_longs_e.run N b3 wrong2 kind3 from3 to3 txn3 base3 epoch3 since3 mark3 ask3 attempt3 node3 yes3 no3 wiped3 at6 at7 part6 part7 versions3) fun ((b4, _), (kind4, from4, to4, txn4, base4, epoch4, since4, mark4, ask4, attempt4, node4, yes4, no4, wiped4, at8, at9, part8, part9, versions4, _), _) =>
          some ((b4, ()), ((), (), wrong2, ()), (kind4, from4, to4, txn4, base4, epoch4, since4, mark4, ask4, attempt4, node4, yes4, no4, wiped4, at8, at9, part8, part9, versions4, ()), ())
namespace wire_pipe_fields_f8
def fn (N : Nat) : Sh.den ins → Option (Sh.den outs) := fun ((((a, _), _, b, _), _), ((c, d, e, f, g, h, i, j, k, l, m, o, p, q, r, s, t, u, v, _), _), _) => wire_pipe_fields_f8.run N a b c d e f g h i j k l m o p q r s t u v
def S (N : Nat) : Fs := ⟨ins, outs, fn N⟩
def lam (N : Nat) : Pcs := pcs []
theorem pok (N : Nat) : (lam N).Ok Try.prog (C N) code := pcsOk_nil
theorem ok (N : Nat) : (S N).con.Ok Try.prog 52 := okF (F := S N) [] Try.func52 (by kernel_rfl) (by rfl) mix (cok N) (pok N) fun _ => by kernel_rfl
end wire_pipe_fields_f8
namespace wire_pipe_longs_f
def ins : Sh := (.cons (.rbox 47 s5) (.cons (.els 1 3 (.cons (.bxo 6 31 s7) (.cons (.refo 3 5) (.cons (.refo 3 7) .nil)))) .nil))
def C (N : Nat) : Ctx := ⟨U, 16, fun _ => true, gam [(43, (((((wire_pipe_long_d.S N).con).or (wire_pipe_long_e.S N).con)).or (wire_pipe_long_j.S N).con))], gamY []⟩
theorem cok (N : Nat) : (C N).Ok Try.prog := ⟨U_ok, GamOk.cons (Con.or_ok (Con.or_ok (wire_pipe_long_d.ok N) (wire_pipe_long_e.ok N)) (wire_pipe_long_j.ok N)) (GamOk.nil), GamYOk.nil⟩
def code : Code := Try.f40.body.getD .skip
def outs : Sh := s13
end wire_pipe_longs_f
def wire_pipe_longs_f.run (N : Nat) (b : (List UInt8)) (wrong : Bool) (kind : Int) (from_ : Int) (to_ : Int) (txn : Int) (base : Int) (epoch : Int) (since : Int) (mark : Int) (ask : Int) (attempt : Int) (node : Int) (yes : Bool) (no : Bool) (wiped : Bool) (at_ : Int) (at1 : Int) (part : (List T7)) (part1 : (List T8)) (versions : (List T6)) : Option T12 :=
  obind (wire_pipe_long_j.run N b wrong kind from_ to_ txn base epoch since mark ask attempt node yes no wiped at_ at1 part part1 versions) fun ((b1, _), (kind1, from1, to1, txn1, base1, epoch1, since1, mark1, ask1, attempt1, node1, yes1, no1, wiped1, at2, at3, part2, part3, versions1, _), _) =>
    obind (wire_pipe_long_d.run N b1 wrong kind1 from1 to1 txn1 base1 epoch1 since1 mark1 ask1 attempt1 node1 yes1 no1 wiped1 at2 at3 part2 part3 versions1) fun ((b2, _), (kind2, from2, to2, txn2, base2, epoch2, since2, mark2, ask2, attempt2, node2, yes2, no2, wiped2, at4, at5, part4, part5, versions2, _), _) =>
      obind (wire_pipe_long_e.run N b2 wrong kind2 from2 to2 txn2 base2 epoch2 since2 mark2 ask2 attempt2 node2 yes2 no2 wiped2 at4 at5 part4 part5 versions2) fun ((b3, _), (kind3, from3, to3, txn3, base3, epoch3, since3, mark3, ask3, attempt3, node3, yes3, no3, wiped3, at6, at7, part6, part7, versions3, _), _) =>
        some ((b3, ()), (kind3, from3, to3, txn3, base3, epoch3, since3, mark3, ask3, attempt3, node3, yes3, no3, wiped3, at6, at7, part6, part7, versions3, ()), ())
namespace wire_pipe_longs_f
def fn (N : Nat) : Sh.den ins → Option (Sh.den outs) := fun (((a, _), _, b, _), ((c, d, e, f, g, h, i, j, k, l, m, o, p, q, r, s, t, u, v, _), _, _, _), _) => wire_pipe_longs_f.run N a b c d e f g h i j k l m o p q r s t u v
def S (N : Nat) : Fs := ⟨ins, outs, fn N⟩
def lam (N : Nat) : Pcs := pcs [([true, false], (Pc.unroll (C N) (loopBody (sub code [true, false])) (pcs []) 4))]
theorem pok (N : Nat) : (lam N).Ok Try.prog (C N) code := pcsOk_cons (c1 := .loop (loopBody (sub code [true, false]))) (by kernel_rfl) (unroll_ok (cok N) mix pcsOk_nil 4) (pcsOk_nil)
theorem ok (N : Nat) : (S N).con.Ok Try.prog 40 := okF (F := S N) [] Try.func40 (by kernel_rfl) (by rfl) mix (cok N) (pok N) fun _ => by kernel_rfl
end wire_pipe_longs_f
namespace wire_pipe_fields_f9
def ins : Sh := s34
def C (N : Nat) : Ctx := ⟨U, 29, fun _ => true, gam [(43, (wire_pipe_long_i.S N).con), (48, (wire_pipe_segment_c.S N).con), (40, (wire_pipe_longs_f.S N).con), (50, (wire_pipe_versions.S N).con)], gamY []⟩
theorem cok (N : Nat) : (C N).Ok Try.prog := ⟨U_ok, GamOk.cons (wire_pipe_long_i.ok N) (GamOk.cons (wire_pipe_segment_c.ok N) (GamOk.cons (wire_pipe_longs_f.ok N) (GamOk.cons (wire_pipe_versions.ok N) (GamOk.nil)))), GamYOk.nil⟩
def code : Code := Try.f53.body.getD .skip
def outs : Sh := s35
end wire_pipe_fields_f9
def wire_pipe_fields_f9.run (N : Nat) (b : (List UInt8)) (wrong : Bool) (kind : Int) (from_ : Int) (to_ : Int) (txn : Int) (base : Int) (epoch : Int) (since : Int) (mark : Int) (ask : Int) (attempt : Int) (node : Int) (yes : Bool) (no : Bool) (wiped : Bool) (at_ : Int) (at1 : Int) (part : (List T7)) (part1 : (List T8)) (versions : (List T6)) : Option T11 :=
  obind (wire_pipe_long_i.run N b wrong kind from_ to_ txn base epoch since mark ask attempt node yes no wiped at_ at1 part part1 versions) fun ((b1, _), (kind1, from1, to1, txn1, base1, epoch1, since1, mark1, ask1, attempt1, node1, yes1, no1, wiped1, at2, at3, part2, part3, versions1, _), _) =>
    obind (wire_pipe_segment_c.run N b1 wrong kind1 from1 to1 txn1 base1 epoch1 since1 mark1 ask1 attempt1 node1 yes1 no1 wiped1 at2 at3 part2 part3 versions1) fun ((b2, _), (_, _, wrong1, _), (kind2, from2, to2, txn2, base2, epoch2, since2, mark2, ask2, attempt2, node2, yes2, no2, wiped2, at4, at5, part4, part5, versions2, _), _) =>
      obind (wire_pipe_longs_f.run N b2 wrong1 kind2 from2 to2 txn2 base2 epoch2 since2 mark2 ask2 attempt2 node2 yes2 no2 wiped2 at4 at5 part4 part5 versions2) fun ((b3, _), (kind3, from3, to3, txn3, base3, epoch3, since3, mark3, ask3, attempt3, node3, yes3, no3, wiped3, at6, at7, part6, part7, versions3, _), _) =>
        obind (wire_pipe_versions.run N b3 wrong1 kind3 from3 to3 txn3 base3 epoch3 since3 mark3 ask3 attempt3 node3 yes3 no3 wiped3 at6 at7 part6 part7 versions3) fun ((b4, _), (_, _, wrong2, _), (kind4, from4, to4, txn4, base4, epoch4, since4, mark4, ask4, attempt4, node4, yes4, no4, wiped4, at8, at9, part8, part9, versions4, _), _) =>
          some ((b4, ()), ((), (), wrong2, ()), (kind4, from4, to4, txn4, base4, epoch4, since4, mark4, ask4, attempt4, node4, yes4, no4, wiped4, at8, at9, part8, part9, versions4, ()), ())
namespace wire_pipe_fields_f9
def fn (N : Nat) : Sh.den ins → Option (Sh.den outs) := fun ((((a, _), _, b, _), _), ((c, d, e, f, g, h, i, j, k, l, m, o, p, q, r, s, t, u, v, _), _), _) => wire_pipe_fields_f9.run N a b c d e f g h i j k l m o p q r s t u v
def S (N : Nat) : Fs := ⟨ins, outs, fn N⟩
def lam (N : Nat) : Pcs := pcs []
theorem pok (N : Nat) : (lam N).Ok Try.prog (C N) code := pcsOk_nil
theorem ok (N : Nat) : (S N).con.Ok Try.prog 53 := okF (F := S N) [] Try.func53 (by kernel_rfl) (by rfl) mix (cok N) (pok N) fun _ => by kernel_rfl
end wire_pipe_fields_f9
namespace wire_pipe_longs_g
def ins : Sh := (.cons (.rbox 47 s5) (.cons (.els 1 2 (.cons (.bxo 9 31 s7) (.cons (.refo 3 5) .nil))) .nil))
def C (N : Nat) : Ctx := ⟨U, 16, fun _ => true, gam [(43, (((wire_pipe_long_d.S N).con).or (wire_pipe_long_i.S N).con))], gamY []⟩
theorem cok (N : Nat) : (C N).Ok Try.prog := ⟨U_ok, GamOk.cons (Con.or_ok (wire_pipe_long_d.ok N) (wire_pipe_long_i.ok N)) (GamOk.nil), GamYOk.nil⟩
def code : Code := Try.f40.body.getD .skip
def outs : Sh := s13
end wire_pipe_longs_g
def wire_pipe_longs_g.run (N : Nat) (b : (List UInt8)) (wrong : Bool) (kind : Int) (from_ : Int) (to_ : Int) (txn : Int) (base : Int) (epoch : Int) (since : Int) (mark : Int) (ask : Int) (attempt : Int) (node : Int) (yes : Bool) (no : Bool) (wiped : Bool) (at_ : Int) (at1 : Int) (part : (List T7)) (part1 : (List T8)) (versions : (List T6)) : Option T12 :=
  obind (wire_pipe_long_i.run N b wrong kind from_ to_ txn base epoch since mark ask attempt node yes no wiped at_ at1 part part1 versions) fun ((b1, _), (kind1, from1, to1, txn1, base1, epoch1, since1, mark1, ask1, attempt1, node1, yes1, no1, wiped1, at2, at3, part2, part3, versions1, _), _) =>
    obind (wire_pipe_long_d.run N b1 wrong kind1 from1 to1 txn1 base1 epoch1 since1 mark1 ask1 attempt1 node1 yes1 no1 wiped1 at2 at3 part2 part3 versions1) fun ((b2, _), (kind2, from2, to2, txn2, base2, epoch2, since2, mark2, ask2, attempt2, node2, yes2, no2, wiped2, at4, at5, part4, part5, versions2, _), _) =>
      some ((b2, ()), (kind2, from2, to2, txn2, base2, epoch2, since2, mark2, ask2, attempt2, node2, yes2, no2, wiped2, at4, at5, part4, part5, versions2, ()), ())
namespace wire_pipe_longs_g
def fn (N : Nat) : Sh.den ins → Option (Sh.den outs) := fun (((a, _), _, b, _), ((c, d, e, f, g, h, i, j, k, l, m, o, p, q, r, s, t, u, v, _), _, _), _) => wire_pipe_longs_g.run N a b c d e f g h i j k l m o p q r s t u v
def S (N : Nat) : Fs := ⟨ins, outs, fn N⟩
def lam (N : Nat) : Pcs := pcs [([true, false], (Pc.unroll (C N) (loopBody (sub code [true, false])) (pcs []) 3))]
theorem pok (N : Nat) : (lam N).Ok Try.prog (C N) code := pcsOk_cons (c1 := .loop (loopBody (sub code [true, false]))) (by kernel_rfl) (unroll_ok (cok N) mix pcsOk_nil 3) (pcsOk_nil)
theorem ok (N : Nat) : (S N).con.Ok Try.prog 40 := okF (F := S N) [] Try.func40 (by kernel_rfl) (by rfl) mix (cok N) (pok N) fun _ => by kernel_rfl
end wire_pipe_longs_g
namespace wire_pipe_fields_f10
def ins : Sh := s36
def C (N : Nat) : Ctx := ⟨U, 11, fun _ => true, gam [(40, (wire_pipe_longs_g.S N).con)], gamY []⟩
theorem cok (N : Nat) : (C N).Ok Try.prog := ⟨U_ok, GamOk.cons (wire_pipe_longs_g.ok N) (GamOk.nil), GamYOk.nil⟩
def code : Code := Try.f54.body.getD .skip
def outs : Sh := s37
end wire_pipe_fields_f10
def wire_pipe_fields_f10.run (N : Nat) (b : (List UInt8)) (wrong : Bool) (kind : Int) (from_ : Int) (to_ : Int) (txn : Int) (base : Int) (epoch : Int) (since : Int) (mark : Int) (ask : Int) (attempt : Int) (node : Int) (yes : Bool) (no : Bool) (wiped : Bool) (at_ : Int) (at1 : Int) (part : (List T7)) (part1 : (List T8)) (versions : (List T6)) : Option T12 :=
  obind (wire_pipe_longs_g.run N b wrong kind from_ to_ txn base epoch since mark ask attempt node yes no wiped at_ at1 part part1 versions) fun ((b1, _), (kind1, from1, to1, txn1, base1, epoch1, since1, mark1, ask1, attempt1, node1, yes1, no1, wiped1, at2, at3, part2, part3, versions1, _), _) =>
    some ((b1, ()), (kind1, from1, to1, txn1, base1, epoch1, since1, mark1, ask1, attempt1, node1, yes1, no1, wiped1, at2, at3, part2, part3, versions1, ()), ())
namespace wire_pipe_fields_f10
def fn (N : Nat) : Sh.den ins → Option (Sh.den outs) := fun ((((a, _), _, b, _), _), ((c, d, e, f, g, h, i, j, k, l, m, o, p, q, r, s, t, u, v, _), _), _) => wire_pipe_fields_f10.run N a b c d e f g h i j k l m o p q r s t u v
def S (N : Nat) : Fs := ⟨ins, outs, fn N⟩
def lam (N : Nat) : Pcs := pcs []
theorem pok (N : Nat) : (lam N).Ok Try.prog (C N) code := pcsOk_nil
theorem ok (N : Nat) : (S N).con.Ok Try.prog 54 := okF (F := S N) [] Try.func54 (by kernel_rfl) (by rfl) mix (cok N) (pok N) fun _ => by kernel_rfl
end wire_pipe_fields_f10
namespace wire_pipe_fields_f11
def ins : Sh := s36
def C (N : Nat) : Ctx := ⟨U, 7, fun _ => true, gam [(43, (wire_pipe_long_e.S N).con)], gamY []⟩
theorem cok (N : Nat) : (C N).Ok Try.prog := ⟨U_ok, GamOk.cons (wire_pipe_long_e.ok N) (GamOk.nil), GamYOk.nil⟩
def code : Code := Try.f55.body.getD .skip
def outs : Sh := s37
end wire_pipe_fields_f11
def wire_pipe_fields_f11.run (N : Nat) (b : (List UInt8)) (wrong : Bool) (kind : Int) (from_ : Int) (to_ : Int) (txn : Int) (base : Int) (epoch : Int) (since : Int) (mark : Int) (ask : Int) (attempt : Int) (node : Int) (yes : Bool) (no : Bool) (wiped : Bool) (at_ : Int) (at1 : Int) (part : (List T7)) (part1 : (List T8)) (versions : (List T6)) : Option T12 :=
  obind (wire_pipe_long_e.run N b wrong kind from_ to_ txn base epoch since mark ask attempt node yes no wiped at_ at1 part part1 versions) fun ((b1, _), (kind1, from1, to1, txn1, base1, epoch1, since1, mark1, ask1, attempt1, node1, yes1, no1, wiped1, at2, at3, part2, part3, versions1, _), _) =>
    some ((b1, ()), (kind1, from1, to1, txn1, base1, epoch1, since1, mark1, ask1, attempt1, node1, yes1, no1, wiped1, at2, at3, part2, part3, versions1, ()), ())
namespace wire_pipe_fields_f11
def fn (N : Nat) : Sh.den ins → Option (Sh.den outs) := fun ((((a, _), _, b, _), _), ((c, d, e, f, g, h, i, j, k, l, m, o, p, q, r, s, t, u, v, _), _), _) => wire_pipe_fields_f11.run N a b c d e f g h i j k l m o p q r s t u v
def S (N : Nat) : Fs := ⟨ins, outs, fn N⟩
def lam (N : Nat) : Pcs := pcs []
theorem pok (N : Nat) : (lam N).Ok Try.prog (C N) code := pcsOk_nil
theorem ok (N : Nat) : (S N).con.Ok Try.prog 55 := okF (F := S N) [] Try.func55 (by kernel_rfl) (by rfl) mix (cok N) (pok N) fun _ => by kernel_rfl
end wire_pipe_fields_f11
namespace wire_pipe_fields_f12
def ins : Sh := s36
def C (N : Nat) : Ctx := ⟨U, 7, fun _ => true, gam [(43, (wire_pipe_long_f.S N).con)], gamY []⟩
theorem cok (N : Nat) : (C N).Ok Try.prog := ⟨U_ok, GamOk.cons (wire_pipe_long_f.ok N) (GamOk.nil), GamYOk.nil⟩
def code : Code := Try.f56.body.getD .skip
def outs : Sh := s37
end wire_pipe_fields_f12
def wire_pipe_fields_f12.run (N : Nat) (b : (List UInt8)) (wrong : Bool) (kind : Int) (from_ : Int) (to_ : Int) (txn : Int) (base : Int) (epoch : Int) (since : Int) (mark : Int) (ask : Int) (attempt : Int) (node : Int) (yes : Bool) (no : Bool) (wiped : Bool) (at_ : Int) (at1 : Int) (part : (List T7)) (part1 : (List T8)) (versions : (List T6)) : Option T12 :=
  obind (wire_pipe_long_f.run N b wrong kind from_ to_ txn base epoch since mark ask attempt node yes no wiped at_ at1 part part1 versions) fun ((b1, _), (kind1, from1, to1, txn1, base1, epoch1, since1, mark1, ask1, attempt1, node1, yes1, no1, wiped1, at2, at3, part2, part3, versions1, _), _) =>
    some ((b1, ()), (kind1, from1, to1, txn1, base1, epoch1, since1, mark1, ask1, attempt1, node1, yes1, no1, wiped1, at2, at3, part2, part3, versions1, ()), ())
namespace wire_pipe_fields_f12
def fn (N : Nat) : Sh.den ins → Option (Sh.den outs) := fun ((((a, _), _, b, _), _), ((c, d, e, f, g, h, i, j, k, l, m, o, p, q, r, s, t, u, v, _), _), _) => wire_pipe_fields_f12.run N a b c d e f g h i j k l m o p q r s t u v
def S (N : Nat) : Fs := ⟨ins, outs, fn N⟩
def lam (N : Nat) : Pcs := pcs []
theorem pok (N : Nat) : (lam N).Ok Try.prog (C N) code := pcsOk_nil
theorem ok (N : Nat) : (S N).con.Ok Try.prog 56 := okF (F := S N) [] Try.func56 (by kernel_rfl) (by rfl) mix (cok N) (pok N) fun _ => by kernel_rfl
end wire_pipe_fields_f12
namespace wire_pipe_fields
def ins : Sh := s43
def C (N : Nat) : Ctx := ⟨U, 50, fun _ => true, gam [(39, (wire_pipe_fields_f1.S N).con), (42, (wire_pipe_fields_f2.S N).con), (45, (wire_pipe_fields_f3.S N).con), (46, (wire_pipe_fields_f4.S N).con), (47, (wire_pipe_fields_f5.S N).con), (49, (wire_pipe_fields_f6.S N).con), (51, (wire_pipe_fields_f7.S N).con), (52, (wire_pipe_fields_f8.S N).con), (53, (wire_pipe_fields_f9.S N).con), (54, (wire_pipe_fields_f10.S N).con), (55, (wire_pipe_fields_f11.S N).con), (56, (wire_pipe_fields_f12.S N).con)], gamY []⟩
theorem cok (N : Nat) : (C N).Ok Try.prog := ⟨U_ok, GamOk.cons (wire_pipe_fields_f1.ok N) (GamOk.cons (wire_pipe_fields_f2.ok N) (GamOk.cons (wire_pipe_fields_f3.ok N) (GamOk.cons (wire_pipe_fields_f4.ok N) (GamOk.cons (wire_pipe_fields_f5.ok N) (GamOk.cons (wire_pipe_fields_f6.ok N) (GamOk.cons (wire_pipe_fields_f7.ok N) (GamOk.cons (wire_pipe_fields_f8.ok N) (GamOk.cons (wire_pipe_fields_f9.ok N) (GamOk.cons (wire_pipe_fields_f10.ok N) (GamOk.cons (wire_pipe_fields_f11.ok N) (GamOk.cons (wire_pipe_fields_f12.ok N) (GamOk.nil)))))))))))), GamYOk.nil⟩
def code : Code := Try.f24.body.getD .skip
def outs : Sh := (.cons (.upd 1 60 (.cons (.own 5 .byte) .nil)) (.cons (.upd 0 47 (.cons (.ref 0) s1)) (.cons (.upd 3 31 s7) (.cons (.val .bool) .nil))))
end wire_pipe_fields
def wire_pipe_fields.run (N : Nat) (b : (List UInt8)) (wrong : Bool) (kind : Int) (from_ : Int) (to_ : Int) (txn : Int) (base : Int) (epoch : Int) (since : Int) (mark : Int) (ask : Int) (attempt : Int) (node : Int) (yes : Bool) (no : Bool) (wiped : Bool) (at_ : Int) (at1 : Int) (part : (List T7)) (part1 : (List T8)) (versions : (List T6)) : Option T24 :=
  bif decide ((1 : Int) = kind) then
    obind (wire_pipe_fields_f1.run N b wrong kind from_ to_ txn base epoch since mark ask attempt node yes no wiped at_ at1 part part1 versions) fun ((b1, _), (_, _, wrong1, _), (kind1, from1, to1, txn1, base1, epoch1, since1, mark1, ask1, attempt1, node1, yes1, no1, wiped1, at2, at3, part2, part3, versions1, _), _) =>
      some ((b1, ()), ((), (), wrong1, ()), (kind1, from1, to1, txn1, base1, epoch1, since1, mark1, ask1, attempt1, node1, yes1, no1, wiped1, at2, at3, part2, part3, versions1, ()), true, ())
  else
    bif decide ((2 : Int) = kind) then
      obind (wire_pipe_fields_f2.run N b wrong kind from_ to_ txn base epoch since mark ask attempt node yes no wiped at_ at1 part part1 versions) fun ((b2, _), (_, _, wrong2, _), (kind2, from2, to2, txn2, base2, epoch2, since2, mark2, ask2, attempt2, node2, yes2, no2, wiped2, at4, at5, part4, part5, versions2, _), _) =>
        some ((b2, ()), ((), (), wrong2, ()), (kind2, from2, to2, txn2, base2, epoch2, since2, mark2, ask2, attempt2, node2, yes2, no2, wiped2, at4, at5, part4, part5, versions2, ()), true, ())
    else
      bif decide ((3 : Int) = kind) then
        obind (wire_pipe_fields_f3.run N b wrong kind from_ to_ txn base epoch since mark ask attempt node yes no wiped at_ at1 part part1 versions) fun ((b3, _), (kind3, from3, to3, txn3, base3, epoch3, since3, mark3, ask3, attempt3, node3, yes3, no3, wiped3, at6, at7, part6, part7, versions3, _), _) =>
          some ((b3, ()), ((), (), wrong, ()), (kind3, from3, to3, txn3, base3, epoch3, since3, mark3, ask3, attempt3, node3, yes3, no3, wiped3, at6, at7, part6, part7, versions3, ()), true, ())
      else
        bif decide ((4 : Int) = kind) then
          obind (wire_pipe_fields_f4.run N b wrong kind from_ to_ txn base epoch since mark ask attempt node yes no wiped at_ at1 part part1 versions) fun ((b4, _), (kind4, from4, to4, txn4, base4, epoch4, since4, mark4, ask4, attempt4, node4, yes4, no4, wiped4, at8, at9, part8, part9, versions4, _), _) =>
            some ((b4, ()), ((), (), wrong, ()), (kind4, from4, to4, txn4, base4, epoch4, since4, mark4, ask4, attempt4, node4, yes4, no4, wiped4, at8, at9, part8, part9, versions4, ()), true, ())
        else
          bif decide ((5 : Int) = kind) then
            obind (wire_pipe_fields_f5.run N b wrong kind from_ to_ txn base epoch since mark ask attempt node yes no wiped at_ at1 part part1 versions) fun ((b5, _), (_, _, wrong3, _), (kind5, from5, to5, txn5, base5, epoch5, since5, mark5, ask5, attempt5, node5, yes5, no5, wiped5, at10, at11, part10, part11, versions5, _), _) =>
              some ((b5, ()), ((), (), wrong3, ()), (kind5, from5, to5, txn5, base5, epoch5, since5, mark5, ask5, attempt5, node5, yes5, no5, wiped5, at10, at11, part10, part11, versions5, ()), true, ())
          else
            bif decide ((6 : Int) = kind) then
              obind (wire_pipe_fields_f6.run N b wrong kind from_ to_ txn base epoch since mark ask attempt node yes no wiped at_ at1 part part1 versions) fun ((b6, _), (_, _, wrong4, _), (kind6, from6, to6, txn6, base6, epoch6, since6, mark6, ask6, attempt6, node6, yes6, no6, wiped6, at12, at13, part12, part13, versions6, _), _) =>
                some ((b6, ()), ((), (), wrong4, ()), (kind6, from6, to6, txn6, base6, epoch6, since6, mark6, ask6, attempt6, node6, yes6, no6, wiped6, at12, at13, part12, part13, versions6, ()), true, ())
            else
              bif decide ((7 : Int) = kind) then
                obind (wire_pipe_fields_f7.run N b wrong kind from_ to_ txn base epoch since mark ask attempt node yes no wiped at_ at1 part part1 versions) fun ((b7, _), (_, _, wrong5, _), (kind7, from7, to7, txn7, base7, epoch7, since7, mark7, ask7, attempt7, node7, yes7, no7, wiped7, at14, at15, part14, part15, versions7, _), _) =>
                  some ((b7, ()), ((), (), wrong5, ()), (kind7, from7, to7, txn7, base7, epoch7, since7, mark7, ask7, attempt7, node7, yes7, no7, wiped7, at14, at15, part14, part15, versions7, ()), true, ())
              else
                bif decide ((8 : Int) = kind) then
                  obind (wire_pipe_fields_f8.run N b wrong kind from_ to_ txn base epoch since mark ask attempt node yes no wiped at_ at1 part part1 versions) fun ((b8, _), (_, _, wrong6, _), (kind8, from8, to8, txn8, base8, epoch8, since8, mark8, ask8, attempt8, node8, yes8, no8, wiped8, at16, at17, part16, part17, versions8, _), _) =>
                    some ((b8, ()), ((), (), wrong6, ()), (kind8, from8, to8, txn8, base8, epoch8, since8, mark8, ask8, attempt8, node8, yes8, no8, wiped8, at16, at17, part16, part17, versions8, ()), true, ())
                else
                  bif decide ((9 : Int) = kind) then
                    obind (wire_pipe_fields_f9.run N b wrong kind from_ to_ txn base epoch since mark ask attempt node yes no wiped at_ at1 part part1 versions) fun ((b9, _), (_, _, wrong7, _), (kind9, from9, to9, txn9, base9, epoch9, since9, mark9, ask9, attempt9, node9, yes9, no9, wiped9, at18, at19, part18, part19, versions9, _), _) =>
                      some ((b9, ()), ((), (), wrong7, ()), (kind9, from9, to9, txn9, base9, epoch9, since9, mark9, ask9, attempt9, node9, yes9, no9, wiped9, at18, at19, part18, part19, versions9, ()), true, ())
                  else
                    bif decide ((10 : Int) = kind) then
                      obind (wire_pipe_fields_f10.run N b wrong kind from_ to_ txn base epoch since mark ask attempt node yes no wiped at_ at1 part part1 versions) fun ((b10, _), (kind10, from10, to10, txn10, base10, epoch10, since10, mark10, ask10, attempt10, node10, yes10, no10, wiped10, at20, at21, part20, part21, versions10, _), _) =>
                        some ((b10, ()), ((), (), wrong, ()), (kind10, from10, to10, txn10, base10, epoch10, since10, mark10, ask10, attempt10, node10, yes10, no10, wiped10, at20, at21, part20, part21, versions10, ()), true, ())
                    else
                      bif decide ((11 : Int) = kind) then
                        obind (wire_pipe_fields_f11.run N b wrong kind from_ to_ txn base epoch since mark ask attempt node yes no wiped at_ at1 part part1 versions) fun ((b11, _), (kind11, from11, to11, txn11, base11, epoch11, since11, mark11, ask11, attempt11, node11, yes11, no11, wiped11, at22, at23, part22, part23, versions11, _), _) =>
                          some ((b11, ()), ((), (), wrong, ()), (kind11, from11, to11, txn11, base11, epoch11, since11, mark11, ask11, attempt11, node11, yes11, no11, wiped11, at22, at23, part22, part23, versions11, ()), true, ())
                      else
                        bif decide ((12 : Int) = kind) then
                          obind (wire_pipe_fields_f12.run N b wrong kind from_ to_ txn base epoch since mark ask attempt node yes no wiped at_ at1 part part1 versions) fun ((b12, _), (kind12, from12, to12, txn12, base12, epoch12, since12, mark12, ask12, attempt12, node12, yes12, no12, wiped12, at24, at25, part24, part25, versions12, _), _) =>
                            some ((b12, ()), ((), (), wrong, ()), (kind12, from12, to12, txn12, base12, epoch12, since12, mark12, ask12, attempt12, node12, yes12, no12, wiped12, at24, at25, part24, part25, versions12, ()), true, ())
                        else some ((b, ()), ((), (), wrong, ()), (kind, from_, to_, txn, base, epoch, since, mark, ask, attempt, node, yes, no, wiped, at_, at1, part, part1, versions, ()), false, ())
namespace wire_pipe_fields
def fn (N : Nat) : Sh.den ins → Option (Sh.den outs) := fun (((a, _), _, b, _), (c, d, e, f, g, h, i, j, k, l, m, o, p, q, r, s, t, u, v, _), _) => wire_pipe_fields.run N a b c d e f g h i j k l m o p q r s t u v
def S (N : Nat) : Fs := ⟨ins, outs, fn N⟩
def lam (N : Nat) : Pcs := pcs [([true, true, false, true, false], (Pc.unroll (C N) (loopBody (sub code [true, true, false, true, false])) (pcs []) 13))]
theorem pok (N : Nat) : (lam N).Ok Try.prog (C N) code := pcsOk_cons (c1 := .loop (loopBody (sub code [true, true, false, true, false]))) (by kernel_rfl) (unroll_ok (cok N) mix pcsOk_nil 13) (pcsOk_nil)
theorem ok (N : Nat) : (S N).con.Ok Try.prog 24 := okF (F := S N) [] Try.func24 (by kernel_rfl) (by rfl) mix (cok N) (pok N) fun _ => by kernel_rfl
end wire_pipe_fields
namespace wire_pipe_all
def ins : Sh := s43
def C (N : Nat) : Ctx := ⟨U, 24, fun _ => true, gam [(21, (wire_pipe_byte.S N).con), (22, (((wire_pipe_node.S N).con).or (wire_pipe_node_b.S N).con)), (24, (wire_pipe_fields.S N).con), (23, (wire_pipe_must.S N).con)], gamY []⟩
theorem cok (N : Nat) : (C N).Ok Try.prog := ⟨U_ok, GamOk.cons (wire_pipe_byte.ok N) (GamOk.cons (Con.or_ok (wire_pipe_node.ok N) (wire_pipe_node_b.ok N)) (GamOk.cons (wire_pipe_fields.ok N) (GamOk.cons (wire_pipe_must.ok N) (GamOk.nil)))), GamYOk.nil⟩
def code : Code := Try.f11.body.getD .skip
def outs : Sh := s9
end wire_pipe_all
def wire_pipe_all.run (N : Nat) (b : (List UInt8)) (wrong : Bool) (kind : Int) (from_ : Int) (to_ : Int) (txn : Int) (base : Int) (epoch : Int) (since : Int) (mark : Int) (ask : Int) (attempt : Int) (node : Int) (yes : Bool) (no : Bool) (wiped : Bool) (at_ : Int) (at1 : Int) (part : (List T7)) (part1 : (List T8)) (versions : (List T6)) : Option T11 :=
  obind (wire_pipe_byte.run N b wrong kind from_ to_ txn base epoch since mark ask attempt node yes no wiped at_ at1 part part1 versions (255 : Int)) fun ((b1, _), (_, _, wrong1, _), _) =>
    obind (wire_pipe_node.run N b1 wrong1 kind from_ to_ txn base epoch since mark ask attempt node yes no wiped at_ at1 part part1 versions) fun ((b2, _), (_, _, wrong2, _), (kind1, from1, to1, txn1, base1, epoch1, since1, mark1, ask1, attempt1, node1, yes1, no1, wiped1, at2, at3, part2, part3, versions1, _), _) =>
      obind (wire_pipe_node_b.run N b2 wrong2 kind1 from1 to1 txn1 base1 epoch1 since1 mark1 ask1 attempt1 node1 yes1 no1 wiped1 at2 at3 part2 part3 versions1) fun ((b3, _), (_, _, wrong3, _), (kind2, from2, to2, txn2, base2, epoch2, since2, mark2, ask2, attempt2, node2, yes2, no2, wiped2, at4, at5, part4, part5, versions2, _), _) =>
        obind (wire_pipe_fields.run N b3 wrong3 kind2 from2 to2 txn2 base2 epoch2 since2 mark2 ask2 attempt2 node2 yes2 no2 wiped2 at4 at5 part4 part5 versions2) fun ((b4, _), (_, _, wrong4, _), (kind3, from3, to3, txn3, base3, epoch3, since3, mark3, ask3, attempt3, node3, yes3, no3, wiped3, at6, at7, part6, part7, versions3, _), b5, _) =>
          obind (wire_pipe_must.run N b4 wrong4 b5) fun ((_, _), (_, _, wrong5, _), _) =>
            some ((b4, ()), ((), (), wrong5, ()), (kind3, from3, to3, txn3, base3, epoch3, since3, mark3, ask3, attempt3, node3, yes3, no3, wiped3, at6, at7, part6, part7, versions3, ()), ())
namespace wire_pipe_all
def fn (N : Nat) : Sh.den ins → Option (Sh.den outs) := fun (((a, _), _, b, _), (c, d, e, f, g, h, i, j, k, l, m, o, p, q, r, s, t, u, v, _), _) => wire_pipe_all.run N a b c d e f g h i j k l m o p q r s t u v
def S (N : Nat) : Fs := ⟨ins, outs, fn N⟩
def lam (N : Nat) : Pcs := pcs []
theorem pok (N : Nat) : (lam N).Ok Try.prog (C N) code := pcsOk_nil
theorem ok (N : Nat) : (S N).con.Ok Try.prog 11 := okF (F := S N) [] Try.func11 (by kernel_rfl) (by rfl) mix (cok N) (pok N) fun _ => by kernel_rfl
end wire_pipe_all
namespace slices_Clone_byte_byte
def ins : Sh := (.cons (.rown 5 .byte) .nil)
def C (N : Nat) : Ctx := ⟨U, 8, fun _ => true, gam [], gamY []⟩
theorem cok (N : Nat) : (C N).Ok Try.prog := ⟨U_ok, GamOk.nil, GamYOk.nil⟩
def code : Code := Try.f25.body.getD .skip
def outs : Sh := (.cons (.own 5 .byte) .nil)
end slices_Clone_byte_byte
def slices_Clone_byte_byte.run (N : Nat) (s : (List UInt8)) : Option T0 :=
  pick2 (Nat.beq s.length 0)
    (
      some (([] : List UInt8), ()))
    (
      bif room (0 + s.length) 1 then
        some (s, ())
      else none)
namespace slices_Clone_byte_byte
def fn (N : Nat) : Sh.den ins → Option (Sh.den outs) := fun (a, _) => slices_Clone_byte_byte.run N a
def S (N : Nat) : Fs := ⟨ins, outs, fn N⟩
def lam (N : Nat) : Pcs := pcs []
theorem pok (N : Nat) : (lam N).Ok Try.prog (C N) code := pcsOk_nil
theorem ok (N : Nat) : (S N).con.Ok Try.prog 25 := okF (F := S N) [] Try.func25 (by kernel_rfl) (by rfl) mix (cok N) (pok N) fun _ => by kernel_rfl
end slices_Clone_byte_byte
namespace codec_Writer_Bytes
def ins : Sh := (.cons (.rbox 60 (.cons (.rown 5 .byte) .nil)) .nil)
def C (N : Nat) : Ctx := ⟨U, 8, fun _ => true, gam [(25, (slices_Clone_byte_byte.S N).con)], gamY []⟩
theorem cok (N : Nat) : (C N).Ok Try.prog := ⟨U_ok, GamOk.cons (slices_Clone_byte_byte.ok N) (GamOk.nil), GamYOk.nil⟩
def code : Code := Try.f12.body.getD .skip
def outs : Sh := (.cons (.own 5 .byte) .nil)
end codec_Writer_Bytes
def codec_Writer_Bytes.run (N : Nat) (b : (List UInt8)) : Option T0 :=
  obind (slices_Clone_byte_byte.run N b) fun (l, _) =>
    some (l, ())
namespace codec_Writer_Bytes
def fn (N : Nat) : Sh.den ins → Option (Sh.den outs) := fun ((a, _), _) => codec_Writer_Bytes.run N a
def S (N : Nat) : Fs := ⟨ins, outs, fn N⟩
def lam (N : Nat) : Pcs := pcs []
theorem pok (N : Nat) : (lam N).Ok Try.prog (C N) code := pcsOk_nil
theorem ok (N : Nat) : (S N).con.Ok Try.prog 12 := okF (F := S N) [] Try.func12 (by kernel_rfl) (by rfl) mix (cok N) (pok N) fun _ => by kernel_rfl
end codec_Writer_Bytes
namespace codec_Read
def ins : Sh := (.cons (.rown 5 .byte) .nil)
def C (N : Nat) : Ctx := ⟨U, 7, fun _ => true, gam [(25, (slices_Clone_byte_byte.S N).con)], gamY []⟩
theorem cok (N : Nat) : (C N).Ok Try.prog := ⟨U_ok, GamOk.cons (slices_Clone_byte_byte.ok N) (GamOk.nil), GamYOk.nil⟩
def code : Code := Try.f13.body.getD .skip
def outs : Sh := (.cons (.box 68 s44) .nil)
end codec_Read
def codec_Read.run (N : Nat) (b : (List UInt8)) : Option (T17 × Unit) :=
  obind (slices_Clone_byte_byte.run N b) fun (l, _) =>
    some ((l, (0 : Int), ()), ())
namespace codec_Read
def fn (N : Nat) : Sh.den ins → Option (Sh.den outs) := fun (a, _) => codec_Read.run N a
def S (N : Nat) : Fs := ⟨ins, outs, fn N⟩
def lam (N : Nat) : Pcs := pcs []
theorem pok (N : Nat) : (lam N).Ok Try.prog (C N) code := pcsOk_nil
theorem ok (N : Nat) : (S N).con.Ok Try.prog 13 := okF (F := S N) [] Try.func13 (by kernel_rfl) (by rfl) mix (cok N) (pok N) fun _ => by kernel_rfl
end codec_Read
namespace codec_Reader_take
def ins : Sh := s45
def C (N : Nat) : Ctx := ⟨U, 45, fun _ => true, gam [], gamY []⟩
theorem cok (N : Nat) : (C N).Ok Try.prog := ⟨U_ok, GamOk.nil, GamYOk.nil⟩
def code : Code := Try.f61.body.getD .skip
def outs : Sh := (.cons (.upd 0 68 s44) s46)
end codec_Reader_take
namespace codec_Reader_take_0
def ins : Sh := s45
def ts : List Tmp := [0, 1]
def asg : List Tmp := [7, 8, 9, 10, 11, 12, 13, 14, 15, 16, 17, 18, 19, 20, 21, 22, 23]
def C (N : Nat) : Ctx := { codec_Reader_take.C N with may := fun t => asg.any (Nat.beq t) }
def code : Code := (sub codec_Reader_take.code [true, false]).getD .skip
theorem cok (N : Nat) : (C N).Ok Try.prog := okC (codec_Reader_take.cok N) _
def alts : List Alt := [⟨.normal, [], (.cons (.upd 0 68 s44) .nil)⟩]
end codec_Reader_take_0
def codec_Reader_take_0.run (N : Nat) (b : (List UInt8)) (e : Int) (n_ : Int) : Option ((T17 × Unit)) :=
  bif decide (e = (0 : Int)) then
    bif decide (n_ > (b.length : Int)) then
      some ((b, (10 : Int), ()), ())
    else some ((b, e, ()), ())
  else some ((b, e, ()), ())
namespace codec_Reader_take_0
def fn (N : Nat) : Sh.den ins → Option (altsDen alts) := fun ((a, b, _), c, _) => codec_Reader_take_0.run N a b c
def P (N : Nat) : Ps := ⟨ts, ins, asg, alts, fn N⟩
def lam (N : Nat) : Pcs := pcs []
theorem pok (N : Nat) : (lam N).Ok Try.prog (C N) code := pcsOk_nil
theorem ok (N : Nat) : ((P N).pc (codec_Reader_take.C N)).Ok Try.prog (codec_Reader_take.C N) code := okP (F := P N) (codec_Reader_take.cok N) mix (pok N) fun _ => by kernel_rfl
end codec_Reader_take_0
def codec_Reader_take.run (N : Nat) (b : (List UInt8)) (e : Int) (n_ : Int) : Option T25 :=
  obind (codec_Reader_take_0.run N b e n_) fun ((b1, e1, _), _) =>
    bif !(decide (e1 = (0 : Int))) then
      some ((b1, e1, ()), ([] : List UInt8), false, ())
    else
      bif okB (0 : Int) n_ b1.length then
        bif okB n_ (b1.length : Int) b1.length then
          some ((b1.drop n_.toNat, e1, ()), b1.take n_.toNat, true, ())
        else none
      else none
namespace codec_Reader_take
def fn (N : Nat) : Sh.den ins → Option (Sh.den outs) := fun ((a, b, _), c, _) => codec_Reader_take.run N a b c
def S (N : Nat) : Fs := ⟨ins, outs, fn N⟩
def lam (N : Nat) : Pcs := pcs [([true, false], (codec_Reader_take_0.P N).pc (C N))]
theorem pok (N : Nat) : (lam N).Ok Try.prog (C N) code := pcsOk_cons (c1 := codec_Reader_take_0.code) (by kernel_rfl) (codec_Reader_take_0.ok N) (pcsOk_nil)
theorem ok (N : Nat) : (S N).con.Ok Try.prog 61 := okF (F := S N) [] Try.func61 (by kernel_rfl) (by rfl) mix (cok N) (pok N) fun _ => by kernel_rfl
end codec_Reader_take
namespace codec_Reader_high
def ins : Sh := s45
def C (N : Nat) : Ctx := ⟨U, 29, fun _ => true, gam [(61, (codec_Reader_take.S N).con)], gamY []⟩
theorem cok (N : Nat) : (C N).Ok Try.prog := ⟨U_ok, GamOk.cons (codec_Reader_take.ok N) (GamOk.nil), GamYOk.nil⟩
def code : Code := Try.f59.body.getD .skip
def outs : Sh := s47
end codec_Reader_high
namespace codec_Reader_high_0
def ins : Sh := (.cons (.val (.int .u64)) (.cons (.val (.slice .byte)) s20))
def ts : List Tmp := [7, 16, 17, 18]
def asg : List Tmp := [7, 9, 18, 19, 20, 21, 22, 23, 24, 25, 26, 27]
def C (N : Nat) : Ctx := { codec_Reader_high.C N with may := fun t => asg.any (Nat.beq t) }
def code : Code := loopBody (sub codec_Reader_high.code [true, true, true, false, true, false])
theorem cok (N : Nat) : (C N).Ok Try.prog := okC (codec_Reader_high.cok N) _
def alts : List Alt := [⟨(.exit 0), [7], (.cons (.val (.int .u64)) .nil)⟩]
end codec_Reader_high_0
def codec_Reader_high_0.go (N : Nat) : Nat → Int → (List UInt8) → Int → Int → Option ((Int × Unit))
  | 0, _, _, _, _ => none
  | fuel + 1, n_, t16, t17, t18 =>
    bif decide (t18 < t17) then
      bif inB t18 t16.length then
        codec_Reader_high_0.go N fuel (IntKind.u64.wrap ((BitVec.ofInt 64 (IntKind.u64.wrap (n_ * (256 : Int))) ||| BitVec.ofInt 64 (IntKind.u64.wrap ((t16.getD t18.toNat (0 : UInt8)).toNat : Int))).toNat : Int)) t16 t17 (IntKind.i64.wrap (t18 + (1 : Int)))
      else none
    else some (n_, ())
namespace codec_Reader_high_0
def g (N n : Nat) : Sh.den ins → Option (altsDen alts) := fun (a, b, c, d, _) => codec_Reader_high_0.go N n a b c d
def P (N : Nat) : Ps := ⟨ts, ins, asg, alts, g N N⟩
def lam (N : Nat) : Pcs := pcs []
theorem pok (N : Nat) : (lam N).Ok Try.prog (C N) code := pcsOk_nil
theorem ok (N : Nat) : ((P N).pc (codec_Reader_high.C N)).Ok Try.prog (codec_Reader_high.C N) (.loop code) := okL (F := P N) (g N) (codec_Reader_high.cok N) mix (pok N) (fun _ => rfl) rfl fun _ _ => by kernel_rfl
end codec_Reader_high_0
def codec_Reader_high.run (N : Nat) (b : (List UInt8)) (e : Int) (many : Int) : Option T26 :=
  obind (codec_Reader_take.run N b e many) fun ((b1, e1, _), l, b2, _) =>
    obind (codec_Reader_high_0.go N N (0 : Int) l (l.length : Int) (0 : Int)) fun (n_, _) =>
      some ((b1, e1, ()), n_, ())
namespace codec_Reader_high
def fn (N : Nat) : Sh.den ins → Option (Sh.den outs) := fun ((a, b, _), c, _) => codec_Reader_high.run N a b c
def S (N : Nat) : Fs := ⟨ins, outs, fn N⟩
def lam (N : Nat) : Pcs := pcs [([true, true, true, false, true, false], (codec_Reader_high_0.P N).pc (C N))]
theorem pok (N : Nat) : (lam N).Ok Try.prog (C N) code := pcsOk_cons (c1 := .loop codec_Reader_high_0.code) (by kernel_rfl) (codec_Reader_high_0.ok N) (pcsOk_nil)
theorem ok (N : Nat) : (S N).con.Ok Try.prog 59 := okF (F := S N) [] Try.func59 (by kernel_rfl) (by rfl) mix (cok N) (pok N) fun _ => by kernel_rfl
end codec_Reader_high
namespace codec_Reader_Byte
def ins : Sh := (.cons (.box 68 s44) .nil)
def C (N : Nat) : Ctx := ⟨U, 6, fun _ => true, gam [(59, (codec_Reader_high.S N).con)], gamY []⟩
theorem cok (N : Nat) : (C N).Ok Try.prog := ⟨U_ok, GamOk.cons (codec_Reader_high.ok N) (GamOk.nil), GamYOk.nil⟩
def code : Code := Try.f38.body.getD .skip
def outs : Sh := (.cons (.upd 0 68 s44) (.cons (.val .byte) .nil))
end codec_Reader_Byte
def codec_Reader_Byte.run (N : Nat) (b : (List UInt8)) (e : Int) : Option T27 :=
  obind (codec_Reader_high.run N b e (1 : Int)) fun ((b1, e1, _), n_, _) =>
    some ((b1, e1, ()), Hay.u8 (IntKind.u8.wrap n_), ())
namespace codec_Reader_Byte
def fn (N : Nat) : Sh.den ins → Option (Sh.den outs) := fun ((a, b, _), _) => codec_Reader_Byte.run N a b
def S (N : Nat) : Fs := ⟨ins, outs, fn N⟩
def lam (N : Nat) : Pcs := pcs []
theorem pok (N : Nat) : (lam N).Ok Try.prog (C N) code := pcsOk_nil
theorem ok (N : Nat) : (S N).con.Ok Try.prog 38 := okF (F := S N) [] Try.func38 (by kernel_rfl) (by rfl) mix (cok N) (pok N) fun _ => by kernel_rfl
end codec_Reader_Byte
namespace wire_pipe_must_b
def ins : Sh := (.cons (.box 47 s48) (.cons (.val .bool) .nil))
def C (N : Nat) : Ctx := ⟨U, 15, fun _ => true, gam [], gamY []⟩
theorem cok (N : Nat) : (C N).Ok Try.prog := ⟨U_ok, GamOk.nil, GamYOk.nil⟩
def code : Code := Try.f23.body.getD .skip
def outs : Sh := s50
end wire_pipe_must_b
def wire_pipe_must_b.run (N : Nat) (b : (List UInt8)) (e : Int) (wrong : Bool) (ok_ : Bool) : Option T28 :=
  bif wrong then
    some ((b, e, ()), ((), (), true, ()), ())
  else some ((b, e, ()), ((), (), !ok_, ()), ())
namespace wire_pipe_must_b
def fn (N : Nat) : Sh.den ins → Option (Sh.den outs) := fun ((_, (a, b, _), c, _), d, _) => wire_pipe_must_b.run N a b c d
def S (N : Nat) : Fs := ⟨ins, outs, fn N⟩
def lam (N : Nat) : Pcs := pcs []
theorem pok (N : Nat) : (lam N).Ok Try.prog (C N) code := pcsOk_nil
theorem ok (N : Nat) : (S N).con.Ok Try.prog 23 := okF (F := S N) [] Try.func23 (by kernel_rfl) (by rfl) mix (cok N) (pok N) fun _ => by kernel_rfl
end wire_pipe_must_b
namespace wire_pipe_byte_f
def ins : Sh := (.cons (.box 47 s48) (.cons (.box 31 s51) (.cons (.val (.int .i64)) .nil)))
def C (N : Nat) : Ctx := ⟨U, 41, fun _ => true, gam [(38, (codec_Reader_Byte.S N).con), (23, (wire_pipe_must_b.S N).con)], gamY []⟩
theorem cok (N : Nat) : (C N).Ok Try.prog := ⟨U_ok, GamOk.cons (codec_Reader_Byte.ok N) (GamOk.cons (wire_pipe_must_b.ok N) (GamOk.nil)), GamYOk.nil⟩
def code : Code := Try.f21.body.getD .skip
def outs : Sh := s52
end wire_pipe_byte_f
def wire_pipe_byte_f.run (N : Nat) (b : (List UInt8)) (e : Int) (wrong : Bool) (kind : Int) (from_ : Int) (to_ : Int) (txn : Int) (base : Int) (epoch : Int) (since : Int) (mark : Int) (ask : Int) (attempt : Int) (node : Int) (yes : Bool) (no : Bool) (wiped : Bool) (at_ : Int) (at1 : Int) (part : (List T7)) (part1 : (List T8)) (versions : (List T6)) (most : Int) : Option T29 :=
  obind (codec_Reader_Byte.run N b e) fun ((b1, e1, _), n_, _) =>
    bif decide ((IntKind.i64.wrap (n_.toNat : Int)) ≥ (0 : Int)) then
      obind (wire_pipe_must_b.run N b1 e1 wrong (decide ((IntKind.i64.wrap (n_.toNat : Int)) ≤ most))) fun ((b2, e2, _), (_, _, wrong1, _), _) =>
        some ((b2, e2, ()), ((), (), wrong1, ()), (IntKind.i64.wrap (n_.toNat : Int), from_, to_, txn, base, epoch, since, mark, ask, attempt, node, yes, no, wiped, at_, at1, part, part1, versions, ()), ())
    else
      obind (wire_pipe_must_b.run N b1 e1 wrong false) fun ((b3, e3, _), (_, _, wrong2, _), _) =>
        some ((b3, e3, ()), ((), (), wrong2, ()), (IntKind.i64.wrap (n_.toNat : Int), from_, to_, txn, base, epoch, since, mark, ask, attempt, node, yes, no, wiped, at_, at1, part, part1, versions, ()), ())
namespace wire_pipe_byte_f
def fn (N : Nat) : Sh.den ins → Option (Sh.den outs) := fun ((_, (a, b, _), c, _), (d, e, f, g, h, i, j, k, l, m, o, p, q, r, s, t, u, v, w, _), x, _) => wire_pipe_byte_f.run N a b c d e f g h i j k l m o p q r s t u v w x
def S (N : Nat) : Fs := ⟨ins, outs, fn N⟩
def lam (N : Nat) : Pcs := pcs []
theorem pok (N : Nat) : (lam N).Ok Try.prog (C N) code := pcsOk_nil
theorem ok (N : Nat) : (S N).con.Ok Try.prog 21 := okF (F := S N) [] Try.func21 (by kernel_rfl) (by rfl) mix (cok N) (pok N) fun _ => by kernel_rfl
end wire_pipe_byte_f
namespace wire_pipe_byte_g
def ins : Sh := (.cons (.box 47 s48) (.cons (.bxo 1 31 s51) (.cons (.val (.int .i64)) .nil)))
def C (N : Nat) : Ctx := ⟨U, 41, fun _ => true, gam [(38, (codec_Reader_Byte.S N).con), (23, (wire_pipe_must_b.S N).con)], gamY []⟩
theorem cok (N : Nat) : (C N).Ok Try.prog := ⟨U_ok, GamOk.cons (codec_Reader_Byte.ok N) (GamOk.cons (wire_pipe_must_b.ok N) (GamOk.nil)), GamYOk.nil⟩
def code : Code := Try.f21.body.getD .skip
def outs : Sh := s52
end wire_pipe_byte_g
def wire_pipe_byte_g.run (N : Nat) (b : (List UInt8)) (e : Int) (wrong : Bool) (kind : Int) (from_ : Int) (to_ : Int) (txn : Int) (base : Int) (epoch : Int) (since : Int) (mark : Int) (ask : Int) (attempt : Int) (node : Int) (yes : Bool) (no : Bool) (wiped : Bool) (at_ : Int) (at1 : Int) (part : (List T7)) (part1 : (List T8)) (versions : (List T6)) (most : Int) : Option T29 :=
  obind (codec_Reader_Byte.run N b e) fun ((b1, e1, _), n_, _) =>
    bif decide ((IntKind.i64.wrap (n_.toNat : Int)) ≥ (0 : Int)) then
      obind (wire_pipe_must_b.run N b1 e1 wrong (decide ((IntKind.i64.wrap (n_.toNat : Int)) ≤ most))) fun ((b2, e2, _), (_, _, wrong1, _), _) =>
        some ((b2, e2, ()), ((), (), wrong1, ()), (kind, IntKind.i64.wrap (n_.toNat : Int), to_, txn, base, epoch, since, mark, ask, attempt, node, yes, no, wiped, at_, at1, part, part1, versions, ()), ())
    else
      obind (wire_pipe_must_b.run N b1 e1 wrong false) fun ((b3, e3, _), (_, _, wrong2, _), _) =>
        some ((b3, e3, ()), ((), (), wrong2, ()), (kind, IntKind.i64.wrap (n_.toNat : Int), to_, txn, base, epoch, since, mark, ask, attempt, node, yes, no, wiped, at_, at1, part, part1, versions, ()), ())
namespace wire_pipe_byte_g
def fn (N : Nat) : Sh.den ins → Option (Sh.den outs) := fun ((_, (a, b, _), c, _), (d, e, f, g, h, i, j, k, l, m, o, p, q, r, s, t, u, v, w, _), x, _) => wire_pipe_byte_g.run N a b c d e f g h i j k l m o p q r s t u v w x
def S (N : Nat) : Fs := ⟨ins, outs, fn N⟩
def lam (N : Nat) : Pcs := pcs []
theorem pok (N : Nat) : (lam N).Ok Try.prog (C N) code := pcsOk_nil
theorem ok (N : Nat) : (S N).con.Ok Try.prog 21 := okF (F := S N) [] Try.func21 (by kernel_rfl) (by rfl) mix (cok N) (pok N) fun _ => by kernel_rfl
end wire_pipe_byte_g
namespace wire_pipe_node_d
def ins : Sh := (.cons (.box 47 s48) (.cons (.bxo 1 31 s51) .nil))
def C (N : Nat) : Ctx := ⟨U, 7, fun _ => true, gam [(21, (wire_pipe_byte_g.S N).con)], gamY []⟩
theorem cok (N : Nat) : (C N).Ok Try.prog := ⟨U_ok, GamOk.cons (wire_pipe_byte_g.ok N) (GamOk.nil), GamYOk.nil⟩
def code : Code := Try.f22.body.getD .skip
def outs : Sh := s52
end wire_pipe_node_d
def wire_pipe_node_d.run (N : Nat) (b : (List UInt8)) (e : Int) (wrong : Bool) (kind : Int) (from_ : Int) (to_ : Int) (txn : Int) (base : Int) (epoch : Int) (since : Int) (mark : Int) (ask : Int) (attempt : Int) (node : Int) (yes : Bool) (no : Bool) (wiped : Bool) (at_ : Int) (at1 : Int) (part : (List T7)) (part1 : (List T8)) (versions : (List T6)) : Option T29 :=
  obind (wire_pipe_byte_g.run N b e wrong kind from_ to_ txn base epoch since mark ask attempt node yes no wiped at_ at1 part part1 versions (8 : Int)) fun ((b1, e1, _), (_, _, wrong1, _), (kind1, from1, to1, txn1, base1, epoch1, since1, mark1, ask1, attempt1, node1, yes1, no1, wiped1, at2, at3, part2, part3, versions1, _), _) =>
    some ((b1, e1, ()), ((), (), wrong1, ()), (kind1, from1, to1, txn1, base1, epoch1, since1, mark1, ask1, attempt1, node1, yes1, no1, wiped1, at2, at3, part2, part3, versions1, ()), ())
namespace wire_pipe_node_d
def fn (N : Nat) : Sh.den ins → Option (Sh.den outs) := fun ((_, (a, b, _), c, _), (d, e, f, g, h, i, j, k, l, m, o, p, q, r, s, t, u, v, w, _), _) => wire_pipe_node_d.run N a b c d e f g h i j k l m o p q r s t u v w
def S (N : Nat) : Fs := ⟨ins, outs, fn N⟩
def lam (N : Nat) : Pcs := pcs []
theorem pok (N : Nat) : (lam N).Ok Try.prog (C N) code := pcsOk_nil
theorem ok (N : Nat) : (S N).con.Ok Try.prog 22 := okF (F := S N) [] Try.func22 (by kernel_rfl) (by rfl) mix (cok N) (pok N) fun _ => by kernel_rfl
end wire_pipe_node_d
namespace wire_pipe_byte_h
def ins : Sh := (.cons (.box 47 s48) (.cons (.bxo 2 31 s51) (.cons (.val (.int .i64)) .nil)))
def C (N : Nat) : Ctx := ⟨U, 41, fun _ => true, gam [(38, (codec_Reader_Byte.S N).con), (23, (wire_pipe_must_b.S N).con)], gamY []⟩
theorem cok (N : Nat) : (C N).Ok Try.prog := ⟨U_ok, GamOk.cons (codec_Reader_Byte.ok N) (GamOk.cons (wire_pipe_must_b.ok N) (GamOk.nil)), GamYOk.nil⟩
def code : Code := Try.f21.body.getD .skip
def outs : Sh := s52
end wire_pipe_byte_h
def wire_pipe_byte_h.run (N : Nat) (b : (List UInt8)) (e : Int) (wrong : Bool) (kind : Int) (from_ : Int) (to_ : Int) (txn : Int) (base : Int) (epoch : Int) (since : Int) (mark : Int) (ask : Int) (attempt : Int) (node : Int) (yes : Bool) (no : Bool) (wiped : Bool) (at_ : Int) (at1 : Int) (part : (List T7)) (part1 : (List T8)) (versions : (List T6)) (most : Int) : Option T29 :=
  obind (codec_Reader_Byte.run N b e) fun ((b1, e1, _), n_, _) =>
    bif decide ((IntKind.i64.wrap (n_.toNat : Int)) ≥ (0 : Int)) then
      obind (wire_pipe_must_b.run N b1 e1 wrong (decide ((IntKind.i64.wrap (n_.toNat : Int)) ≤ most))) fun ((b2, e2, _), (_, _, wrong1, _), _) =>
        some ((b2, e2, ()), ((), (), wrong1, ()), (kind, from_, IntKind.i64.wrap (n_.toNat : Int), txn, base, epoch, since, mark, ask, attempt, node, yes, no, wiped, at_, at1, part, part1, versions, ()), ())
    else
      obind (wire_pipe_must_b.run N b1 e1 wrong false) fun ((b3, e3, _), (_, _, wrong2, _), _) =>
        some ((b3, e3, ()), ((), (), wrong2, ()), (kind, from_, IntKind.i64.wrap (n_.toNat : Int), txn, base, epoch, since, mark, ask, attempt, node, yes, no, wiped, at_, at1, part, part1, versions, ()), ())
namespace wire_pipe_byte_h
def fn (N : Nat) : Sh.den ins → Option (Sh.den outs) := fun ((_, (a, b, _), c, _), (d, e, f, g, h, i, j, k, l, m, o, p, q, r, s, t, u, v, w, _), x, _) => wire_pipe_byte_h.run N a b c d e f g h i j k l m o p q r s t u v w x
def S (N : Nat) : Fs := ⟨ins, outs, fn N⟩
def lam (N : Nat) : Pcs := pcs []
theorem pok (N : Nat) : (lam N).Ok Try.prog (C N) code := pcsOk_nil
theorem ok (N : Nat) : (S N).con.Ok Try.prog 21 := okF (F := S N) [] Try.func21 (by kernel_rfl) (by rfl) mix (cok N) (pok N) fun _ => by kernel_rfl
end wire_pipe_byte_h
namespace wire_pipe_node_e
def ins : Sh := (.cons (.box 47 s48) (.cons (.bxo 2 31 s51) .nil))
def C (N : Nat) : Ctx := ⟨U, 7, fun _ => true, gam [(21, (wire_pipe_byte_h.S N).con)], gamY []⟩
theorem cok (N : Nat) : (C N).Ok Try.prog := ⟨U_ok, GamOk.cons (wire_pipe_byte_h.ok N) (GamOk.nil), GamYOk.nil⟩
def code : Code := Try.f22.body.getD .skip
def outs : Sh := s52
end wire_pipe_node_e
def wire_pipe_node_e.run (N : Nat) (b : (List UInt8)) (e : Int) (wrong : Bool) (kind : Int) (from_ : Int) (to_ : Int) (txn : Int) (base : Int) (epoch : Int) (since : Int) (mark : Int) (ask : Int) (attempt : Int) (node : Int) (yes : Bool) (no : Bool) (wiped : Bool) (at_ : Int) (at1 : Int) (part : (List T7)) (part1 : (List T8)) (versions : (List T6)) : Option T29 :=
  obind (wire_pipe_byte_h.run N b e wrong kind from_ to_ txn base epoch since mark ask attempt node yes no wiped at_ at1 part part1 versions (8 : Int)) fun ((b1, e1, _), (_, _, wrong1, _), (kind1, from1, to1, txn1, base1, epoch1, since1, mark1, ask1, attempt1, node1, yes1, no1, wiped1, at2, at3, part2, part3, versions1, _), _) =>
    some ((b1, e1, ()), ((), (), wrong1, ()), (kind1, from1, to1, txn1, base1, epoch1, since1, mark1, ask1, attempt1, node1, yes1, no1, wiped1, at2, at3, part2, part3, versions1, ()), ())
namespace wire_pipe_node_e
def fn (N : Nat) : Sh.den ins → Option (Sh.den outs) := fun ((_, (a, b, _), c, _), (d, e, f, g, h, i, j, k, l, m, o, p, q, r, s, t, u, v, w, _), _) => wire_pipe_node_e.run N a b c d e f g h i j k l m o p q r s t u v w
def S (N : Nat) : Fs := ⟨ins, outs, fn N⟩
def lam (N : Nat) : Pcs := pcs []
theorem pok (N : Nat) : (lam N).Ok Try.prog (C N) code := pcsOk_nil
theorem ok (N : Nat) : (S N).con.Ok Try.prog 22 := okF (F := S N) [] Try.func22 (by kernel_rfl) (by rfl) mix (cok N) (pok N) fun _ => by kernel_rfl
end wire_pipe_node_e
namespace codec_Reader_Long
def ins : Sh := (.cons (.box 68 s44) .nil)
def C (N : Nat) : Ctx := ⟨U, 5, fun _ => true, gam [(59, (codec_Reader_high.S N).con)], gamY []⟩
theorem cok (N : Nat) : (C N).Ok Try.prog := ⟨U_ok, GamOk.cons (codec_Reader_high.ok N) (GamOk.nil), GamYOk.nil⟩
def code : Code := Try.f67.body.getD .skip
def outs : Sh := s47
end codec_Reader_Long
def codec_Reader_Long.run (N : Nat) (b : (List UInt8)) (e : Int) : Option T26 :=
  obind (codec_Reader_high.run N b e (8 : Int)) fun ((b1, e1, _), n_, _) =>
    some ((b1, e1, ()), n_, ())
namespace codec_Reader_Long
def fn (N : Nat) : Sh.den ins → Option (Sh.den outs) := fun ((a, b, _), _) => codec_Reader_Long.run N a b
def S (N : Nat) : Fs := ⟨ins, outs, fn N⟩
def lam (N : Nat) : Pcs := pcs []
theorem pok (N : Nat) : (lam N).Ok Try.prog (C N) code := pcsOk_nil
theorem ok (N : Nat) : (S N).con.Ok Try.prog 67 := okF (F := S N) [] Try.func67 (by kernel_rfl) (by rfl) mix (cok N) (pok N) fun _ => by kernel_rfl
end codec_Reader_Long
namespace wire_pipe_long_k
def ins : Sh := (.cons (.rbox 47 s48) (.cons (.bxo 3 31 s51) .nil))
def C (N : Nat) : Ctx := ⟨U, 24, fun _ => true, gam [(67, (codec_Reader_Long.S N).con)], gamY []⟩
theorem cok (N : Nat) : (C N).Ok Try.prog := ⟨U_ok, GamOk.cons (codec_Reader_Long.ok N) (GamOk.nil), GamYOk.nil⟩
def code : Code := Try.f43.body.getD .skip
def outs : Sh := s53
end wire_pipe_long_k
def wire_pipe_long_k.run (N : Nat) (b : (List UInt8)) (e : Int) (wrong : Bool) (kind : Int) (from_ : Int) (to_ : Int) (txn : Int) (base : Int) (epoch : Int) (since : Int) (mark : Int) (ask : Int) (attempt : Int) (node : Int) (yes : Bool) (no : Bool) (wiped : Bool) (at_ : Int) (at1 : Int) (part : (List T7)) (part1 : (List T8)) (versions : (List T6)) : Option T30 :=
  obind (codec_Reader_Long.run N b e) fun ((b1, e1, _), n_, _) =>
    some ((b1, e1, ()), (kind, from_, to_, n_, base, epoch, since, mark, ask, attempt, node, yes, no, wiped, at_, at1, part, part1, versions, ()), ())
namespace wire_pipe_long_k
def fn (N : Nat) : Sh.den ins → Option (Sh.den outs) := fun ((_, (a, b, _), c, _), (d, e, f, g, h, i, j, k, l, m, o, p, q, r, s, t, u, v, w, _), _) => wire_pipe_long_k.run N a b c d e f g h i j k l m o p q r s t u v w
def S (N : Nat) : Fs := ⟨ins, outs, fn N⟩
def lam (N : Nat) : Pcs := pcs []
theorem pok (N : Nat) : (lam N).Ok Try.prog (C N) code := pcsOk_nil
theorem ok (N : Nat) : (S N).con.Ok Try.prog 43 := okF (F := S N) [] Try.func43 (by kernel_rfl) (by rfl) mix (cok N) (pok N) fun _ => by kernel_rfl
end wire_pipe_long_k
namespace wire_pipe_long_l
def ins : Sh := (.cons (.rbox 47 s48) (.cons (.bxo 4 31 s51) .nil))
def C (N : Nat) : Ctx := ⟨U, 24, fun _ => true, gam [(67, (codec_Reader_Long.S N).con)], gamY []⟩
theorem cok (N : Nat) : (C N).Ok Try.prog := ⟨U_ok, GamOk.cons (codec_Reader_Long.ok N) (GamOk.nil), GamYOk.nil⟩
def code : Code := Try.f43.body.getD .skip
def outs : Sh := s53
end wire_pipe_long_l
def wire_pipe_long_l.run (N : Nat) (b : (List UInt8)) (e : Int) (wrong : Bool) (kind : Int) (from_ : Int) (to_ : Int) (txn : Int) (base : Int) (epoch : Int) (since : Int) (mark : Int) (ask : Int) (attempt : Int) (node : Int) (yes : Bool) (no : Bool) (wiped : Bool) (at_ : Int) (at1 : Int) (part : (List T7)) (part1 : (List T8)) (versions : (List T6)) : Option T30 :=
  obind (codec_Reader_Long.run N b e) fun ((b1, e1, _), n_, _) =>
    some ((b1, e1, ()), (kind, from_, to_, txn, n_, epoch, since, mark, ask, attempt, node, yes, no, wiped, at_, at1, part, part1, versions, ()), ())
namespace wire_pipe_long_l
def fn (N : Nat) : Sh.den ins → Option (Sh.den outs) := fun ((_, (a, b, _), c, _), (d, e, f, g, h, i, j, k, l, m, o, p, q, r, s, t, u, v, w, _), _) => wire_pipe_long_l.run N a b c d e f g h i j k l m o p q r s t u v w
def S (N : Nat) : Fs := ⟨ins, outs, fn N⟩
def lam (N : Nat) : Pcs := pcs []
theorem pok (N : Nat) : (lam N).Ok Try.prog (C N) code := pcsOk_nil
theorem ok (N : Nat) : (S N).con.Ok Try.prog 43 := okF (F := S N) [] Try.func43 (by kernel_rfl) (by rfl) mix (cok N) (pok N) fun _ => by kernel_rfl
end wire_pipe_long_l
namespace wire_pipe_longs_h
def ins : Sh := (.cons (.rbox 47 s48) (.cons (.els 1 2 (.cons (.bxo 3 31 s51) (.cons (.refo 2 4) .nil))) .nil))
def C (N : Nat) : Ctx := ⟨U, 16, fun _ => true, gam [(43, (((wire_pipe_long_k.S N).con).or (wire_pipe_long_l.S N).con))], gamY []⟩
theorem cok (N : Nat) : (C N).Ok Try.prog := ⟨U_ok, GamOk.cons (Con.or_ok (wire_pipe_long_k.ok N) (wire_pipe_long_l.ok N)) (GamOk.nil), GamYOk.nil⟩
def code : Code := Try.f40.body.getD .skip
def outs : Sh := s53
end wire_pipe_longs_h
def wire_pipe_longs_h.run (N : Nat) (b : (List UInt8)) (e : Int) (wrong : Bool) (kind : Int) (from_ : Int) (to_ : Int) (txn : Int) (base : Int) (epoch : Int) (since : Int) (mark : Int) (ask : Int) (attempt : Int) (node : Int) (yes : Bool) (no : Bool) (wiped : Bool) (at_ : Int) (at1 : Int) (part : (List T7)) (part1 : (List T8)) (versions : (List T6)) : Option T30 :=
  obind (wire_pipe_long_k.run N b e wrong kind from_ to_ txn base epoch since mark ask attempt node yes no wiped at_ at1 part part1 versions) fun ((b1, e1, _), (kind1, from1, to1, txn1, base1, epoch1, since1, mark1, ask1, attempt1, node1, yes1, no1, wiped1, at2, at3, part2, part3, versions1, _), _) =>
    obind (wire_pipe_long_l.run N b1 e1 wrong kind1 from1 to1 txn1 base1 epoch1 since1 mark1 ask1 attempt1 node1 yes1 no1 wiped1 at2 at3 part2 part3 versions1) fun ((b2, e2, _), (kind2, from2, to2, txn2, base2, epoch2, since2, mark2, ask2, attempt2, node2, yes2, no2, wiped2, at4, at5, part4, part5, versions2, _), _) =>
      some ((b2, e2, ()), (kind2, from2, to2, txn2, base2, epoch2, since2, mark2, ask2, attempt2, node2, yes2, no2, wiped2, at4, at5, part4, part5, versions2, ()), ())
namespace wire_pipe_longs_h
def fn (N : Nat) : Sh.den ins → Option (Sh.den outs) := fun ((_, (a, b, _), c, _), ((d, e, f, g, h, i, j, k, l, m, o, p, q, r, s, t, u, v, w, _), _, _), _) => wire_pipe_longs_h.run N a b c d e f g h i j k l m o p q r s t u v w
def S (N : Nat) : Fs := ⟨ins, outs, fn N⟩
def lam (N : Nat) : Pcs := pcs [([true, false], (Pc.unroll (C N) (loopBody (sub code [true, false])) (pcs []) 3))]
theorem pok (N : Nat) : (lam N).Ok Try.prog (C N) code := pcsOk_cons (c1 := .loop (loopBody (sub code [true, false]))) (by kernel_rfl) (unroll_ok (cok N) mix pcsOk_nil 3) (pcsOk_nil)
theorem ok (N : Nat) : (S N).con.Ok Try.prog 40 := okF (F := S N) [] Try.func40 (by kernel_rfl) (by rfl) mix (cok N) (pok N) fun _ => by kernel_rfl
end wire_pipe_longs_h
namespace codec_Reader_Var
def ins : Sh := (.cons (.box 68 s44) (.cons (.val (.int .u64)) .nil))
def C (N : Nat) : Ctx := ⟨U, 52, fun _ => true, gam [(59, (codec_Reader_high.S N).con)], gamY []⟩
theorem cok (N : Nat) : (C N).Ok Try.prog := ⟨U_ok, GamOk.cons (codec_Reader_high.ok N) (GamOk.nil), GamYOk.nil⟩
def code : Code := Try.f72.body.getD .skip
def outs : Sh := s47
end codec_Reader_Var
namespace codec_Reader_Var_0
def ins : Sh := (.cons (.box 68 s44) s54)
def ts : List Tmp := [0, 6, 7]
def asg : List Tmp := [6, 7, 14, 15, 16, 17, 18, 19, 20, 21, 22, 23, 24, 25, 26]
def C (N : Nat) : Ctx := { codec_Reader_Var.C N with may := fun t => asg.any (Nat.beq t) }
def code : Code := (sub codec_Reader_Var.code [true, true, true, false]).getD .skip
theorem cok (N : Nat) : (C N).Ok Try.prog := okC (codec_Reader_Var.cok N) _
def alts : List Alt := [⟨.normal, [6, 7], (.cons (.upd 0 68 s44) s54)⟩]
end codec_Reader_Var_0
def codec_Reader_Var_0.run (N : Nat) (b : (List UInt8)) (e : Int) (n_ : Int) (least : Int) : Option (T31) :=
  bif decide (n_ = (253 : Int)) then
    obind (codec_Reader_high.run N b e (2 : Int)) fun ((b1, e1, _), n1, _) =>
      some ((b1, e1, ()), n1, (253 : Int), ())
  else
    bif decide (n_ = (254 : Int)) then
      obind (codec_Reader_high.run N b e (4 : Int)) fun ((b2, e2, _), n2, _) =>
        some ((b2, e2, ()), n2, (65536 : Int), ())
    else
      bif decide (n_ = (255 : Int)) then
        obind (codec_Reader_high.run N b e (8 : Int)) fun ((b3, e3, _), n3, _) =>
          some ((b3, e3, ()), n3, (4294967296 : Int), ())
      else some ((b, e, ()), n_, least, ())
namespace codec_Reader_Var_0
def fn (N : Nat) : Sh.den ins → Option (altsDen alts) := fun ((a, b, _), c, d, _) => codec_Reader_Var_0.run N a b c d
def P (N : Nat) : Ps := ⟨ts, ins, asg, alts, fn N⟩
def lam (N : Nat) : Pcs := pcs []
theorem pok (N : Nat) : (lam N).Ok Try.prog (C N) code := pcsOk_nil
theorem ok (N : Nat) : ((P N).pc (codec_Reader_Var.C N)).Ok Try.prog (codec_Reader_Var.C N) code := okP (F := P N) (codec_Reader_Var.cok N) mix (pok N) fun _ => by kernel_rfl
end codec_Reader_Var_0
def codec_Reader_Var.run (N : Nat) (b : (List UInt8)) (e : Int) (most : Int) : Option T26 :=
  obind (codec_Reader_high.run N b e (1 : Int)) fun ((b1, e1, _), n_, _) =>
    obind (codec_Reader_Var_0.run N b1 e1 n_ (0 : Int)) fun ((b5, e5, _), n4, least, _) =>
      bif !(decide (e5 = (0 : Int))) then
        some ((b, e5, ()), (0 : Int), ())
      else
        bif decide (n4 < least) then
          some ((b, (11 : Int), ()), (0 : Int), ())
        else
          bif decide (n4 > most) then
            some ((b, (12 : Int), ()), (0 : Int), ())
          else some ((b5, e5, ()), n4, ())
namespace codec_Reader_Var
def fn (N : Nat) : Sh.den ins → Option (Sh.den outs) := fun ((a, b, _), c, _) => codec_Reader_Var.run N a b c
def S (N : Nat) : Fs := ⟨ins, outs, fn N⟩
def lam (N : Nat) : Pcs := pcs [([true, true, true, false], (codec_Reader_Var_0.P N).pc (C N))]
theorem pok (N : Nat) : (lam N).Ok Try.prog (C N) code := pcsOk_cons (c1 := codec_Reader_Var_0.code) (by kernel_rfl) (codec_Reader_Var_0.ok N) (pcsOk_nil)
theorem ok (N : Nat) : (S N).con.Ok Try.prog 72 := okF (F := S N) [] Try.func72 (by kernel_rfl) (by rfl) mix (cok N) (pok N) fun _ => by kernel_rfl
end codec_Reader_Var
namespace codec_Reader_Err
def ins : Sh := (.cons (.rbox 68 s44) .nil)
def C (N : Nat) : Ctx := ⟨U, 7, fun _ => true, gam [], gamY []⟩
theorem cok (N : Nat) : (C N).Ok Try.prog := ⟨U_ok, GamOk.nil, GamYOk.nil⟩
def code : Code := Try.f77.body.getD .skip
def outs : Sh := (.cons (.val (.int .i64)) .nil)
end codec_Reader_Err
def codec_Reader_Err.run (N : Nat) (b : (List UInt8)) (e : Int) : Option (Int × Unit) :=
  some (e, ())
namespace codec_Reader_Err
def fn (N : Nat) : Sh.den ins → Option (Sh.den outs) := fun ((a, b, _), _) => codec_Reader_Err.run N a b
def S (N : Nat) : Fs := ⟨ins, outs, fn N⟩
def lam (N : Nat) : Pcs := pcs []
theorem pok (N : Nat) : (lam N).Ok Try.prog (C N) code := pcsOk_nil
theorem ok (N : Nat) : (S N).con.Ok Try.prog 77 := okF (F := S N) [] Try.func77 (by kernel_rfl) (by rfl) mix (cok N) (pok N) fun _ => by kernel_rfl
end codec_Reader_Err
namespace wire_pipe_failed
def ins : Sh := (.cons (.rbox 47 (.cons (.nilp) (.cons (.rbox 68 s44) (.cons (.val .bool) .nil)))) .nil)
def C (N : Nat) : Ctx := ⟨U, 22, fun _ => true, gam [(77, (codec_Reader_Err.S N).con)], gamY []⟩
theorem cok (N : Nat) : (C N).Ok Try.prog := ⟨U_ok, GamOk.cons (codec_Reader_Err.ok N) (GamOk.nil), GamYOk.nil⟩
def code : Code := Try.f73.body.getD .skip
def outs : Sh := (.cons (.val .bool) .nil)
end wire_pipe_failed
def wire_pipe_failed.run (N : Nat) (b : (List UInt8)) (e : Int) (wrong : Bool) : Option (Bool × Unit) :=
  bif wrong then
    some (true, ())
  else
    obind (codec_Reader_Err.run N b e) fun (n_, _) =>
      some (!(decide (n_ = (0 : Int))), ())
namespace wire_pipe_failed
def fn (N : Nat) : Sh.den ins → Option (Sh.den outs) := fun ((_, (a, b, _), c, _), _) => wire_pipe_failed.run N a b c
def S (N : Nat) : Fs := ⟨ins, outs, fn N⟩
def lam (N : Nat) : Pcs := pcs []
theorem pok (N : Nat) : (lam N).Ok Try.prog (C N) code := pcsOk_nil
theorem ok (N : Nat) : (S N).con.Ok Try.prog 73 := okF (F := S N) [] Try.func73 (by kernel_rfl) (by rfl) mix (cok N) (pok N) fun _ => by kernel_rfl
end wire_pipe_failed
namespace wire_pipe_place_g
def ins : Sh := s57
def C (N : Nat) : Ctx := ⟨U, 38, fun _ => true, gam [(72, (codec_Reader_Var.S N).con)], gamY []⟩
theorem cok (N : Nat) : (C N).Ok Try.prog := ⟨U_ok, GamOk.cons (codec_Reader_Var.ok N) (GamOk.nil), GamYOk.nil⟩
def code : Code := Try.f68.body.getD .skip
def outs : Sh := s58
end wire_pipe_place_g
def wire_pipe_place_g.run (N : Nat) (b : (List UInt8)) (e : Int) (wrong : Bool) (at_ : Int) (at1 : Int) (ver : Int) (ver1 : Int) (ver2 : (List T4)) (ver3 : Int) : Option T32 :=
  obind (codec_Reader_Var.run N b e (2147483647 : Int)) fun ((b1, e1, _), n_, _) =>
    some ((b1, e1, ()), (IntKind.i64.wrap n_, at1, ver, ver1, ver2, ver3, ()), ())
namespace wire_pipe_place_g
def fn (N : Nat) : Sh.den ins → Option (Sh.den outs) := fun ((_, (a, b, _), c, _), (d, e, f, g, h, i, _), _) => wire_pipe_place_g.run N a b c d e f g h i
def S (N : Nat) : Fs := ⟨ins, outs, fn N⟩
def lam (N : Nat) : Pcs := pcs []
theorem pok (N : Nat) : (lam N).Ok Try.prog (C N) code := pcsOk_nil
theorem ok (N : Nat) : (S N).con.Ok Try.prog 68 := okF (F := S N) [] Try.func68 (by kernel_rfl) (by rfl) mix (cok N) (pok N) fun _ => by kernel_rfl
end wire_pipe_place_g
namespace wire_pipe_place_h
def ins : Sh := (.cons (.rbox 47 s48) (.cons (.bxo 1 80 s56) .nil))
def C (N : Nat) : Ctx := ⟨U, 38, fun _ => true, gam [(72, (codec_Reader_Var.S N).con)], gamY []⟩
theorem cok (N : Nat) : (C N).Ok Try.prog := ⟨U_ok, GamOk.cons (codec_Reader_Var.ok N) (GamOk.nil), GamYOk.nil⟩
def code : Code := Try.f68.body.getD .skip
def outs : Sh := s58
end wire_pipe_place_h
def wire_pipe_place_h.run (N : Nat) (b : (List UInt8)) (e : Int) (wrong : Bool) (at_ : Int) (at1 : Int) (ver : Int) (ver1 : Int) (ver2 : (List T4)) (ver3 : Int) : Option T32 :=
  obind (codec_Reader_Var.run N b e (2147483647 : Int)) fun ((b1, e1, _), n_, _) =>
    some ((b1, e1, ()), (at_, IntKind.i64.wrap n_, ver, ver1, ver2, ver3, ()), ())
namespace wire_pipe_place_h
def fn (N : Nat) : Sh.den ins → Option (Sh.den outs) := fun ((_, (a, b, _), c, _), (d, e, f, g, h, i, _), _) => wire_pipe_place_h.run N a b c d e f g h i
def S (N : Nat) : Fs := ⟨ins, outs, fn N⟩
def lam (N : Nat) : Pcs := pcs []
theorem pok (N : Nat) : (lam N).Ok Try.prog (C N) code := pcsOk_nil
theorem ok (N : Nat) : (S N).con.Ok Try.prog 68 := okF (F := S N) [] Try.func68 (by kernel_rfl) (by rfl) mix (cok N) (pok N) fun _ => by kernel_rfl
end wire_pipe_place_h
namespace wire_pipe_segment_d
def ins : Sh := s57
def C (N : Nat) : Ctx := ⟨U, 14, fun _ => true, gam [(68, (((wire_pipe_place_g.S N).con).or (wire_pipe_place_h.S N).con))], gamY []⟩
theorem cok (N : Nat) : (C N).Ok Try.prog := ⟨U_ok, GamOk.cons (Con.or_ok (wire_pipe_place_g.ok N) (wire_pipe_place_h.ok N)) (GamOk.nil), GamYOk.nil⟩
def code : Code := Try.f48.body.getD .skip
def outs : Sh := s58
end wire_pipe_segment_d
def wire_pipe_segment_d.run (N : Nat) (b : (List UInt8)) (e : Int) (wrong : Bool) (at_ : Int) (at1 : Int) (ver : Int) (ver1 : Int) (ver2 : (List T4)) (ver3 : Int) : Option T32 :=
  obind (wire_pipe_place_g.run N b e wrong at_ at1 ver ver1 ver2 ver3) fun ((b1, e1, _), (at2, at3, ver4, ver5, ver6, ver7, _), _) =>
    obind (wire_pipe_place_h.run N b1 e1 wrong at2 at3 ver4 ver5 ver6 ver7) fun ((b2, e2, _), (at4, at5, ver8, ver9, ver10, ver11, _), _) =>
      some ((b2, e2, ()), (at4, at5, ver8, ver9, ver10, ver11, ()), ())
namespace wire_pipe_segment_d
def fn (N : Nat) : Sh.den ins → Option (Sh.den outs) := fun ((_, (a, b, _), c, _), (d, e, f, g, h, i, _), _) => wire_pipe_segment_d.run N a b c d e f g h i
def S (N : Nat) : Fs := ⟨ins, outs, fn N⟩
def lam (N : Nat) : Pcs := pcs []
theorem pok (N : Nat) : (lam N).Ok Try.prog (C N) code := pcsOk_nil
theorem ok (N : Nat) : (S N).con.Ok Try.prog 48 := okF (F := S N) [] Try.func48 (by kernel_rfl) (by rfl) mix (cok N) (pok N) fun _ => by kernel_rfl
end wire_pipe_segment_d
namespace codec_Reader_Word
def ins : Sh := (.cons (.box 68 s44) .nil)
def C (N : Nat) : Ctx := ⟨U, 6, fun _ => true, gam [(59, (codec_Reader_high.S N).con)], gamY []⟩
theorem cok (N : Nat) : (C N).Ok Try.prog := ⟨U_ok, GamOk.cons (codec_Reader_high.ok N) (GamOk.nil), GamYOk.nil⟩
def code : Code := Try.f34.body.getD .skip
def outs : Sh := (.cons (.upd 0 68 s44) (.cons (.val (.int .u32)) .nil))
end codec_Reader_Word
def codec_Reader_Word.run (N : Nat) (b : (List UInt8)) (e : Int) : Option T26 :=
  obind (codec_Reader_high.run N b e (4 : Int)) fun ((b1, e1, _), n_, _) =>
    some ((b1, e1, ()), IntKind.u32.wrap n_, ())
namespace codec_Reader_Word
def fn (N : Nat) : Sh.den ins → Option (Sh.den outs) := fun ((a, b, _), _) => codec_Reader_Word.run N a b
def S (N : Nat) : Fs := ⟨ins, outs, fn N⟩
def lam (N : Nat) : Pcs := pcs []
theorem pok (N : Nat) : (lam N).Ok Try.prog (C N) code := pcsOk_nil
theorem ok (N : Nat) : (S N).con.Ok Try.prog 34 := okF (F := S N) [] Try.func34 (by kernel_rfl) (by rfl) mix (cok N) (pok N) fun _ => by kernel_rfl
end codec_Reader_Word
namespace wire_pipe_word_d
def ins : Sh := (.cons (.rbox 47 s48) (.cons (.bxo 3 80 s56) .nil))
def C (N : Nat) : Ctx := ⟨U, 24, fun _ => true, gam [(34, (codec_Reader_Word.S N).con)], gamY []⟩
theorem cok (N : Nat) : (C N).Ok Try.prog := ⟨U_ok, GamOk.cons (codec_Reader_Word.ok N) (GamOk.nil), GamYOk.nil⟩
def code : Code := Try.f74.body.getD .skip
def outs : Sh := s58
end wire_pipe_word_d
def wire_pipe_word_d.run (N : Nat) (b : (List UInt8)) (e : Int) (wrong : Bool) (at_ : Int) (at1 : Int) (ver : Int) (ver1 : Int) (ver2 : (List T4)) (ver3 : Int) : Option T32 :=
  obind (codec_Reader_Word.run N b e) fun ((b1, e1, _), n_, _) =>
    some ((b1, e1, ()), (at_, at1, ver, n_, ver2, ver3, ()), ())
namespace wire_pipe_word_d
def fn (N : Nat) : Sh.den ins → Option (Sh.den outs) := fun ((_, (a, b, _), c, _), (d, e, f, g, h, i, _), _) => wire_pipe_word_d.run N a b c d e f g h i
def S (N : Nat) : Fs := ⟨ins, outs, fn N⟩
def lam (N : Nat) : Pcs := pcs []
theorem pok (N : Nat) : (lam N).Ok Try.prog (C N) code := pcsOk_nil
theorem ok (N : Nat) : (S N).con.Ok Try.prog 74 := okF (F := S N) [] Try.func74 (by kernel_rfl) (by rfl) mix (cok N) (pok N) fun _ => by kernel_rfl
end wire_pipe_word_d
namespace codec_Reader_room
def ins : Sh := s45
def C (N : Nat) : Ctx := ⟨U, 33, fun _ => true, gam [(72, (codec_Reader_Var.S N).con)], gamY []⟩
theorem cok (N : Nat) : (C N).Ok Try.prog := ⟨U_ok, GamOk.cons (codec_Reader_Var.ok N) (GamOk.nil), GamYOk.nil⟩
def code : Code := Try.f85.body.getD .skip
def outs : Sh := s47
end codec_Reader_room
def codec_Reader_room.run (N : Nat) (b : (List UInt8)) (e : Int) (most : Int) : Option T26 :=
  obind (codec_Reader_Var.run N b e (IntKind.u64.wrap (max most (0 : Int)))) fun ((b1, e1, _), n_, _) =>
    bif decide (most < (0 : Int)) then
      bif decide (e1 = (0 : Int)) then
        some ((b, (12 : Int), ()), (0 : Int), ())
      else some ((b1, e1, ()), n_, ())
    else some ((b1, e1, ()), n_, ())
namespace codec_Reader_room
def fn (N : Nat) : Sh.den ins → Option (Sh.den outs) := fun ((a, b, _), c, _) => codec_Reader_room.run N a b c
def S (N : Nat) : Fs := ⟨ins, outs, fn N⟩
def lam (N : Nat) : Pcs := pcs []
theorem pok (N : Nat) : (lam N).Ok Try.prog (C N) code := pcsOk_nil
theorem ok (N : Nat) : (S N).con.Ok Try.prog 85 := okF (F := S N) [] Try.func85 (by kernel_rfl) (by rfl) mix (cok N) (pok N) fun _ => by kernel_rfl
end codec_Reader_room
namespace codec_Reader_Fail
def ins : Sh := s45
def C (N : Nat) : Ctx := ⟨U, 13, fun _ => true, gam [], gamY []⟩
theorem cok (N : Nat) : (C N).Ok Try.prog := ⟨U_ok, GamOk.nil, GamYOk.nil⟩
def code : Code := Try.f60.body.getD .skip
def outs : Sh := (.cons (.upd 0 68 s44) .nil)
end codec_Reader_Fail
def codec_Reader_Fail.run (N : Nat) (b : (List UInt8)) (e : Int) (e1 : Int) : Option (T17 × Unit) :=
  bif decide (e = (0 : Int)) then
    some ((b, e1, ()), ())
  else some ((b, e, ()), ())
namespace codec_Reader_Fail
def fn (N : Nat) : Sh.den ins → Option (Sh.den outs) := fun ((a, b, _), c, _) => codec_Reader_Fail.run N a b c
def S (N : Nat) : Fs := ⟨ins, outs, fn N⟩
def lam (N : Nat) : Pcs := pcs []
theorem pok (N : Nat) : (lam N).Ok Try.prog (C N) code := pcsOk_nil
theorem ok (N : Nat) : (S N).con.Ok Try.prog 60 := okF (F := S N) [] Try.func60 (by kernel_rfl) (by rfl) mix (cok N) (pok N) fun _ => by kernel_rfl
end codec_Reader_Fail
namespace slices_Clone_byte_byte_b
def ins : Sh := (.cons (.val (.slice .byte)) .nil)
def C (N : Nat) : Ctx := ⟨U, 8, fun _ => true, gam [], gamY []⟩
theorem cok (N : Nat) : (C N).Ok Try.prog := ⟨U_ok, GamOk.nil, GamYOk.nil⟩
def code : Code := Try.f25.body.getD .skip
def outs : Sh := (.cons (.own 5 .byte) .nil)
end slices_Clone_byte_byte_b
def slices_Clone_byte_byte_b.run (N : Nat) (s : (List UInt8)) : Option T0 :=
  pick2 (Nat.beq s.length 0)
    (
      some (([] : List UInt8), ()))
    (
      bif room (0 + s.length) 1 then
        some (s, ())
      else none)
namespace slices_Clone_byte_byte_b
def fn (N : Nat) : Sh.den ins → Option (Sh.den outs) := fun (a, _) => slices_Clone_byte_byte_b.run N a
def S (N : Nat) : Fs := ⟨ins, outs, fn N⟩
def lam (N : Nat) : Pcs := pcs []
theorem pok (N : Nat) : (lam N).Ok Try.prog (C N) code := pcsOk_nil
theorem ok (N : Nat) : (S N).con.Ok Try.prog 25 := okF (F := S N) [] Try.func25 (by kernel_rfl) (by rfl) mix (cok N) (pok N) fun _ => by kernel_rfl
end slices_Clone_byte_byte_b
namespace codec_Reader_Raw
def ins : Sh := s45
def C (N : Nat) : Ctx := ⟨U, 19, fun _ => true, gam [(60, (codec_Reader_Fail.S N).con), (61, (codec_Reader_take.S N).con), (25, (slices_Clone_byte_byte_b.S N).con)], gamY []⟩
theorem cok (N : Nat) : (C N).Ok Try.prog := ⟨U_ok, GamOk.cons (codec_Reader_Fail.ok N) (GamOk.cons (codec_Reader_take.ok N) (GamOk.cons (slices_Clone_byte_byte_b.ok N) (GamOk.nil))), GamYOk.nil⟩
def code : Code := Try.f35.body.getD .skip
def outs : Sh := s59
end codec_Reader_Raw
def codec_Reader_Raw.run (N : Nat) (b : (List UInt8)) (e : Int) (n_ : Int) : Option T33 :=
  bif decide (n_ < (0 : Int)) then
    obind (codec_Reader_Fail.run N b e (12 : Int)) fun ((b1, e1, _), _) =>
      some ((b1, e1, ()), ([] : List UInt8), ())
  else
    obind (codec_Reader_take.run N b e n_) fun ((b2, e2, _), l, b3, _) =>
      obind (slices_Clone_byte_byte_b.run N l) fun (l1, _) =>
        some ((b2, e2, ()), l1, ())
namespace codec_Reader_Raw
def fn (N : Nat) : Sh.den ins → Option (Sh.den outs) := fun ((a, b, _), c, _) => codec_Reader_Raw.run N a b c
def S (N : Nat) : Fs := ⟨ins, outs, fn N⟩
def lam (N : Nat) : Pcs := pcs []
theorem pok (N : Nat) : (lam N).Ok Try.prog (C N) code := pcsOk_nil
theorem ok (N : Nat) : (S N).con.Ok Try.prog 35 := okF (F := S N) [] Try.func35 (by kernel_rfl) (by rfl) mix (cok N) (pok N) fun _ => by kernel_rfl
end codec_Reader_Raw
namespace codec_Reader_Text
def ins : Sh := s45
def C (N : Nat) : Ctx := ⟨U, 40, fun _ => true, gam [(85, (codec_Reader_room.S N).con), (35, (codec_Reader_Raw.S N).con)], gamY []⟩
theorem cok (N : Nat) : (C N).Ok Try.prog := ⟨U_ok, GamOk.cons (codec_Reader_room.ok N) (GamOk.cons (codec_Reader_Raw.ok N) (GamOk.nil)), GamYOk.nil⟩
def code : Code := Try.f81.body.getD .skip
def outs : Sh := s59
end codec_Reader_Text
def codec_Reader_Text.run (N : Nat) (b : (List UInt8)) (e : Int) (most : Int) : Option T33 :=
  obind (codec_Reader_room.run N b e most) fun ((b1, e1, _), n_, _) =>
    bif decide (e1 = (0 : Int)) then
      bif decide (n_ > (IntKind.u64.wrap (b1.length : Int))) then
        obind (codec_Reader_Raw.run N b (10 : Int) (IntKind.i64.wrap n_)) fun ((b2, e2, _), l, _) =>
          some ((b2, e2, ()), l, ())
      else
        obind (codec_Reader_Raw.run N b1 e1 (IntKind.i64.wrap n_)) fun ((b3, e3, _), l1, _) =>
          some ((b3, e3, ()), l1, ())
    else
      obind (codec_Reader_Raw.run N b1 e1 (IntKind.i64.wrap n_)) fun ((b4, e4, _), l2, _) =>
        some ((b4, e4, ()), l2, ())
namespace codec_Reader_Text
def fn (N : Nat) : Sh.den ins → Option (Sh.den outs) := fun ((a, b, _), c, _) => codec_Reader_Text.run N a b c
def S (N : Nat) : Fs := ⟨ins, outs, fn N⟩
def lam (N : Nat) : Pcs := pcs []
theorem pok (N : Nat) : (lam N).Ok Try.prog (C N) code := pcsOk_nil
theorem ok (N : Nat) : (S N).con.Ok Try.prog 81 := okF (F := S N) [] Try.func81 (by kernel_rfl) (by rfl) mix (cok N) (pok N) fun _ => by kernel_rfl
end codec_Reader_Text
namespace rows_number
def ins : Sh := (.cons (.val (.slice .byte)) .nil)
def C (N : Nat) : Ctx := ⟨U, 18, fun _ => true, gam [], gamY []⟩
theorem cok (N : Nat) : (C N).Ok Try.prog := ⟨U_ok, GamOk.nil, GamYOk.nil⟩
def code : Code := Try.f91.body.getD .skip
def outs : Sh := (.cons (.val (.int .u64)) .nil)
end rows_number
namespace rows_number_0
def ins : Sh := (.cons (.val (.slice .byte)) s10)
def ts : List Tmp := [0, 3, 5]
def asg : List Tmp := [3, 4, 5, 6, 7, 8, 9, 10, 11, 12, 13, 14, 15, 16]
def C (N : Nat) : Ctx := { rows_number.C N with may := fun t => asg.any (Nat.beq t) }
def code : Code := loopBody (sub rows_number.code [true, true, false, true, false])
theorem cok (N : Nat) : (C N).Ok Try.prog := okC (rows_number.cok N) _
def alts : List Alt := [⟨(.exit 0), [3], (.cons (.val (.int .u64)) .nil)⟩]
end rows_number_0
def rows_number_0.go (N : Nat) : Nat → (List UInt8) → Int → Int → Option ((Int × Unit))
  | 0, _, _, _ => none
  | fuel + 1, b, n_, t5 =>
    bif decide (t5 < (8 : Int)) then
      bif inB t5 b.length then
        rows_number_0.go N fuel b (IntKind.u64.wrap ((BitVec.ofInt 64 (IntKind.u64.wrap (n_ * (256 : Int))) ||| BitVec.ofInt 64 (IntKind.u64.wrap ((b.getD t5.toNat (0 : UInt8)).toNat : Int))).toNat : Int)) (IntKind.i64.wrap (t5 + (1 : Int)))
      else none
    else some (n_, ())
namespace rows_number_0
def g (N n : Nat) : Sh.den ins → Option (altsDen alts) := fun (a, b, c, _) => rows_number_0.go N n a b c
def P (N : Nat) : Ps := ⟨ts, ins, asg, alts, g N N⟩
def lam (N : Nat) : Pcs := pcs []
theorem pok (N : Nat) : (lam N).Ok Try.prog (C N) code := pcsOk_nil
theorem ok (N : Nat) : ((P N).pc (rows_number.C N)).Ok Try.prog (rows_number.C N) (.loop code) := okL (F := P N) (g N) (rows_number.cok N) mix (pok N) (fun _ => rfl) rfl fun _ _ => by kernel_rfl
end rows_number_0
def rows_number.run (N : Nat) (b : (List UInt8)) : Option (Int × Unit) :=
  obind (rows_number_0.go N N b (0 : Int) (0 : Int)) fun (n_, _) =>
    some (n_, ())
namespace rows_number
def fn (N : Nat) : Sh.den ins → Option (Sh.den outs) := fun (a, _) => rows_number.run N a
def S (N : Nat) : Fs := ⟨ins, outs, fn N⟩
def lam (N : Nat) : Pcs := pcs [([true, true, false, true, false], (rows_number_0.P N).pc (C N))]
theorem pok (N : Nat) : (lam N).Ok Try.prog (C N) code := pcsOk_cons (c1 := .loop rows_number_0.code) (by kernel_rfl) (rows_number_0.ok N) (pcsOk_nil)
theorem ok (N : Nat) : (S N).con.Ok Try.prog 91 := okF (F := S N) [] Try.func91 (by kernel_rfl) (by rfl) mix (cok N) (pok N) fun _ => by kernel_rfl
end rows_number
namespace rows_read
def ins : Sh := (.cons (.val (.slice .byte)) .nil)
def C (N : Nat) : Ctx := ⟨U, 94, fun _ => true, gam [(88, (value_Null.S N).con), (89, (value_Bool.S N).con), (91, (rows_number.S N).con), (90, (value_Int.S N).con), (92, (value_Text.S N).con)], gamY []⟩
theorem cok (N : Nat) : (C N).Ok Try.prog := ⟨U_ok, GamOk.cons (value_Null.ok N) (GamOk.cons (value_Bool.ok N) (GamOk.cons (rows_number.ok N) (GamOk.cons (value_Int.ok N) (GamOk.cons (value_Text.ok N) (GamOk.nil))))), GamYOk.nil⟩
def code : Code := Try.f84.body.getD .skip
def outs : Sh := (.cons (.val (.pair (.int .i64) (.pair .bool (.pair (.int .i64) .str)))) s46)
end rows_read
namespace rows_read_0
def ins : Sh := s44
def ts : List Tmp := [0, 5]
def asg : List Tmp := [21, 22, 23, 24, 25, 26, 27, 28, 29, 30, 31, 32, 33, 34]
def C (N : Nat) : Ctx := { rows_read.C N with may := fun t => asg.any (Nat.beq t) }
def code : Code := (sub rows_read.code [true, true, true, false, false, true, true, false]).getD .skip
theorem cok (N : Nat) : (C N).Ok Try.prog := okC (rows_read.cok N) _
def alts : List Alt := [⟨.normal, [21], (.cons (.val .bool) .nil)⟩]
end rows_read_0
def rows_read_0.run (N : Nat) (b : (List UInt8)) (kind : Int) : Option ((Bool × Unit)) :=
  bif decide (kind = (1 : Int)) then
    bif decide ((b.length : Int) ≥ (1 : Int)) then
      bif inB (0 : Int) b.length then
        some (decide (((b.getD 0 (0 : UInt8)).toNat : Int) ≤ (1 : Int)), ())
      else none
    else some (false, ())
  else some (false, ())
namespace rows_read_0
def fn (N : Nat) : Sh.den ins → Option (altsDen alts) := fun (a, b, _) => rows_read_0.run N a b
def P (N : Nat) : Ps := ⟨ts, ins, asg, alts, fn N⟩
def lam (N : Nat) : Pcs := pcs []
theorem pok (N : Nat) : (lam N).Ok Try.prog (C N) code := pcsOk_nil
theorem ok (N : Nat) : ((P N).pc (rows_read.C N)).Ok Try.prog (rows_read.C N) code := okP (F := P N) (rows_read.cok N) mix (pok N) fun _ => by kernel_rfl
end rows_read_0
namespace rows_read_1
def ins : Sh := s44
def ts : List Tmp := [0, 5]
def asg : List Tmp := [42, 43, 44, 45, 46, 47, 48, 49]
def C (N : Nat) : Ctx := { rows_read.C N with may := fun t => asg.any (Nat.beq t) }
def code : Code := (sub rows_read.code [true, true, true, false, false, true, true, true, true, false]).getD .skip
theorem cok (N : Nat) : (C N).Ok Try.prog := okC (rows_read.cok N) _
def alts : List Alt := [⟨.normal, [42], (.cons (.val .bool) .nil)⟩]
end rows_read_1
def rows_read_1.run (N : Nat) (b : (List UInt8)) (kind : Int) : Option ((Bool × Unit)) :=
  bif decide (kind = (2 : Int)) then
    some (decide ((b.length : Int) ≥ (8 : Int)), ())
  else some (false, ())
namespace rows_read_1
def fn (N : Nat) : Sh.den ins → Option (altsDen alts) := fun (a, b, _) => rows_read_1.run N a b
def P (N : Nat) : Ps := ⟨ts, ins, asg, alts, fn N⟩
def lam (N : Nat) : Pcs := pcs []
theorem pok (N : Nat) : (lam N).Ok Try.prog (C N) code := pcsOk_nil
theorem ok (N : Nat) : ((P N).pc (rows_read.C N)).Ok Try.prog (rows_read.C N) code := okP (F := P N) (rows_read.cok N) mix (pok N) fun _ => by kernel_rfl
end rows_read_1
namespace rows_read_2
def ins : Sh := s44
def ts : List Tmp := [0, 5]
def asg : List Tmp := [56, 57, 58, 59, 60, 61, 62, 63, 64, 65, 66, 67, 68, 69, 70, 71, 72, 73, 74, 75, 76, 77, 78]
def C (N : Nat) : Ctx := { rows_read.C N with may := fun t => asg.any (Nat.beq t) }
def code : Code := (sub rows_read.code [true, true, true, false, false, true, true, true, true, true, true, false]).getD .skip
theorem cok (N : Nat) : (C N).Ok Try.prog := okC (rows_read.cok N) _
def alts : List Alt := [⟨.normal, [56], (.cons (.val .bool) .nil)⟩]
end rows_read_2
def rows_read_2.run (N : Nat) (b : (List UInt8)) (kind : Int) : Option ((Bool × Unit)) :=
  bif decide (kind = (3 : Int)) then
    bif decide ((b.length : Int) ≥ (1 : Int)) then
      bif inB (0 : Int) b.length then
        bif decide (((b.getD 0 (0 : UInt8)).toNat : Int) ≤ (64 : Int)) then
          bif inB (0 : Int) b.length then
            some (decide ((b.length : Int) > (IntKind.i64.wrap ((b.getD 0 (0 : UInt8)).toNat : Int))), ())
          else none
        else some (false, ())
      else none
    else some (false, ())
  else some (false, ())
namespace rows_read_2
def fn (N : Nat) : Sh.den ins → Option (altsDen alts) := fun (a, b, _) => rows_read_2.run N a b
def P (N : Nat) : Ps := ⟨ts, ins, asg, alts, fn N⟩
def lam (N : Nat) : Pcs := pcs []
theorem pok (N : Nat) : (lam N).Ok Try.prog (C N) code := pcsOk_nil
theorem ok (N : Nat) : ((P N).pc (rows_read.C N)).Ok Try.prog (rows_read.C N) code := okP (F := P N) (rows_read.cok N) mix (pok N) fun _ => by kernel_rfl
end rows_read_2
def rows_read.run (N : Nat) (b : (List UInt8)) : Option T34 :=
  bif decide ((b.length : Int) = (0 : Int)) then
    some (((0 : Int), false, (0 : Int), ([] : List UInt8)), ([] : List UInt8), false, ())
  else
    bif inB (0 : Int) b.length then
      bif okB (1 : Int) (b.length : Int) b.length then
        bif decide ((IntKind.i64.wrap ((b.getD 0 (0 : UInt8)).toNat : Int)) = (0 : Int)) then
          obind (value_Null.run N) fun (v, _) =>
            some (v, b.drop 1, true, ())
        else
          obind (rows_read_0.run N (b.drop 1) (IntKind.i64.wrap ((b.getD 0 (0 : UInt8)).toNat : Int))) fun (t21, _) =>
            bif t21 then
              bif inB (0 : Int) (b.drop 1).length then
                obind (value_Bool.run N (decide ((((b.drop 1).getD 0 (0 : UInt8)).toNat : Int) = (1 : Int)))) fun (v1, _) =>
                  bif okB (1 : Int) ((b.drop 1).length : Int) (b.drop 1).length then
                    some (v1, (b.drop 1).drop 1, true, ())
                  else none
              else none
            else
              obind (rows_read_1.run N (b.drop 1) (IntKind.i64.wrap ((b.getD 0 (0 : UInt8)).toNat : Int))) fun (t42, _) =>
                bif t42 then
                  obind (rows_number.run N (b.drop 1)) fun (n_, _) =>
                    obind (value_Int.run N (IntKind.i64.wrap n_)) fun (v2, _) =>
                      bif okB (8 : Int) ((b.drop 1).length : Int) (b.drop 1).length then
                        some (v2, (b.drop 1).drop 8, true, ())
                      else none
                else
                  obind (rows_read_2.run N (b.drop 1) (IntKind.i64.wrap ((b.getD 0 (0 : UInt8)).toNat : Int))) fun (t56, _) =>
                    bif t56 then
                      bif inB (0 : Int) (b.drop 1).length then
                        bif okB (1 : Int) (IntKind.u8.wrap ((1 : Int) + (((b.drop 1).getD 0 (0 : UInt8)).toNat : Int))) (b.drop 1).length then
                          obind (value_Text.run N (((b.drop 1).take (IntKind.u8.wrap ((1 : Int) + (((b.drop 1).getD 0 (0 : UInt8)).toNat : Int))).toNat).drop 1)) fun (v3, _) =>
                            bif inB (0 : Int) (b.drop 1).length then
                              bif okB (IntKind.u8.wrap ((1 : Int) + (((b.drop 1).getD 0 (0 : UInt8)).toNat : Int))) ((b.drop 1).length : Int) (b.drop 1).length then
                                some (v3, (b.drop 1).drop (IntKind.u8.wrap ((1 : Int) + (((b.drop 1).getD 0 (0 : UInt8)).toNat : Int))).toNat, true, ())
                              else none
                            else none
                        else none
                      else none
                    else some (((0 : Int), false, (0 : Int), ([] : List UInt8)), ([] : List UInt8), false, ())
      else none
    else none
namespace rows_read
def fn (N : Nat) : Sh.den ins → Option (Sh.den outs) := fun (a, _) => rows_read.run N a
def S (N : Nat) : Fs := ⟨ins, outs, fn N⟩
def lam (N : Nat) : Pcs := pcs [([true, true, true, false, false, true, true, false], (rows_read_0.P N).pc (C N)), ([true, true, true, false, false, true, true, true, true, false], (rows_read_1.P N).pc (C N)), ([true, true, true, false, false, true, true, true, true, true, true, false], (rows_read_2.P N).pc (C N))]
theorem pok (N : Nat) : (lam N).Ok Try.prog (C N) code := pcsOk_cons (c1 := rows_read_0.code) (by kernel_rfl) (rows_read_0.ok N) (pcsOk_cons (c1 := rows_read_1.code) (by kernel_rfl) (rows_read_1.ok N) (pcsOk_cons (c1 := rows_read_2.code) (by kernel_rfl) (rows_read_2.ok N) (pcsOk_nil)))
theorem ok (N : Nat) : (S N).con.Ok Try.prog 84 := okF (F := S N) [] Try.func84 (by kernel_rfl) (by rfl) mix (cok N) (pok N) fun _ => by kernel_rfl
end rows_read
namespace rows_Decode
def ins : Sh := (.cons (.val (.slice .byte)) .nil)
def C (N : Nat) : Ctx := ⟨U, 45, fun _ => true, gam [(84, (rows_read.S N).con)], gamY []⟩
theorem cok (N : Nat) : (C N).Ok Try.prog := ⟨U_ok, GamOk.cons (rows_read.ok N) (GamOk.nil), GamYOk.nil⟩
def code : Code := Try.f80.body.getD .skip
def outs : Sh := s60
end rows_Decode
namespace rows_Decode_0
def ins : Sh := (.cons (.val (.slice .byte)) (.cons (.own 109 (.pair (.int .i64) (.pair .bool (.pair (.int .i64) .str)))) s20))
def ts : List Tmp := [0, 4, 24, 25]
def asg : List Tmp := [0, 2, 3, 4, 6, 7, 8, 25, 26, 27, 28, 29, 30, 31, 32, 33, 34, 35, 36, 37, 38, 39, 40]
def C (N : Nat) : Ctx := { rows_Decode.C N with may := fun t => asg.any (Nat.beq t) }
def code : Code := loopBody (sub rows_Decode.code [true, true, true, true, false, true, false])
theorem cok (N : Nat) : (C N).Ok Try.prog := okC (rows_Decode.cok N) _
def alts : List Alt := [⟨.ret, [2, 3], s60⟩, ⟨(.exit 0), [0, 4], (.cons (.val (.slice .byte)) (.cons (.own 109 (.pair (.int .i64) (.pair .bool (.pair (.int .i64) .str)))) .nil))⟩]
end rows_Decode_0
def rows_Decode_0.go (N : Nat) : Nat → (List UInt8) → (List T4) → Int → Int → Option (T35 ⊕ T36)
  | 0, _, _, _, _ => none
  | fuel + 1, b, row, t24, t25 =>
    bif decide (t25 < t24) then
      obind (rows_read.run N b) fun (v, l, b1, _) =>
        bif !b1 then
          some (.inl (([] : List T4), (30 : Int), ()))
        else
          bif room (row.length + 1) 40 then
            rows_Decode_0.go N fuel l (row ++ ([v] : List T4)) t24 (IntKind.i64.wrap (t25 + (1 : Int)))
          else none
    else some (.inr (b, row, ()))
namespace rows_Decode_0
def g (N n : Nat) : Sh.den ins → Option (altsDen alts) := fun (a, b, c, d, _) => rows_Decode_0.go N n a b c d
def P (N : Nat) : Ps := ⟨ts, ins, asg, alts, g N N⟩
def lam (N : Nat) : Pcs := pcs []
theorem pok (N : Nat) : (lam N).Ok Try.prog (C N) code := pcsOk_nil
theorem ok (N : Nat) : ((P N).pc (rows_Decode.C N)).Ok Try.prog (rows_Decode.C N) (.loop code) := okL (F := P N) (g N) (rows_Decode.cok N) mix (pok N) (fun _ => rfl) rfl fun _ _ => by kernel_rfl
end rows_Decode_0
def rows_Decode.run (N : Nat) (b : (List UInt8)) : Option T35 :=
  bif decide ((b.length : Int) = (0 : Int)) then
    some (([] : List T4), (30 : Int), ())
  else
    bif inB (0 : Int) b.length then
      bif decide (((b.getD 0 (0 : UInt8)).toNat : Int) > (16 : Int)) then
        some (([] : List T4), (30 : Int), ())
      else
        bif inB (0 : Int) b.length then
          bif okB (1 : Int) (b.length : Int) b.length then
            obind (rows_Decode_0.go N N (b.drop 1) ([] : List T4) (IntKind.i64.wrap ((b.getD 0 (0 : UInt8)).toNat : Int)) (0 : Int)) fun y => match y with
            | .inl (t2, t3, _) =>
                some (t2, t3, ())
            | .inr (b1, row, _) =>
                bif decide ((b1.length : Int) > (0 : Int)) then
                  some (([] : List T4), (30 : Int), ())
                else some (row, (0 : Int), ())
          else none
        else none
    else none
namespace rows_Decode
def fn (N : Nat) : Sh.den ins → Option (Sh.den outs) := fun (a, _) => rows_Decode.run N a
def S (N : Nat) : Fs := ⟨ins, outs, fn N⟩
def lam (N : Nat) : Pcs := pcs [([true, true, true, true, false, true, false], (rows_Decode_0.P N).pc (C N))]
theorem pok (N : Nat) : (lam N).Ok Try.prog (C N) code := pcsOk_cons (c1 := .loop rows_Decode_0.code) (by kernel_rfl) (rows_Decode_0.ok N) (pcsOk_nil)
theorem ok (N : Nat) : (S N).con.Ok Try.prog 80 := okF (F := S N) [] Try.func80 (by kernel_rfl) (by rfl) mix (cok N) (pok N) fun _ => by kernel_rfl
end rows_Decode
namespace wire_pipe_row_c
def ins : Sh := (.cons (.box 47 s48) (.cons (.bxo 4 80 s56) .nil))
def C (N : Nat) : Ctx := ⟨U, 39, fun _ => true, gam [(81, (codec_Reader_Text.S N).con), (80, (rows_Decode.S N).con), (23, (wire_pipe_must_b.S N).con)], gamY []⟩
theorem cok (N : Nat) : (C N).Ok Try.prog := ⟨U_ok, GamOk.cons (codec_Reader_Text.ok N) (GamOk.cons (rows_Decode.ok N) (GamOk.cons (wire_pipe_must_b.ok N) (GamOk.nil))), GamYOk.nil⟩
def code : Code := Try.f75.body.getD .skip
def outs : Sh := s61
end wire_pipe_row_c
def wire_pipe_row_c.run (N : Nat) (b : (List UInt8)) (e : Int) (wrong : Bool) (at_ : Int) (at1 : Int) (ver : Int) (ver1 : Int) (ver2 : (List T4)) (ver3 : Int) : Option T37 :=
  obind (codec_Reader_Text.run N b e (16777216 : Int)) fun ((b1, e1, _), l, _) =>
    obind (rows_Decode.run N l) fun (l1, n_, _) =>
      obind (wire_pipe_must_b.run N b1 e1 wrong (decide (n_ = (0 : Int)))) fun ((b2, e2, _), (_, _, wrong1, _), _) =>
        some ((b2, e2, ()), ((), (), wrong1, ()), (at_, at1, ver, ver1, l1, ver3, ()), ())
namespace wire_pipe_row_c
def fn (N : Nat) : Sh.den ins → Option (Sh.den outs) := fun ((_, (a, b, _), c, _), (d, e, f, g, h, i, _), _) => wire_pipe_row_c.run N a b c d e f g h i
def S (N : Nat) : Fs := ⟨ins, outs, fn N⟩
def lam (N : Nat) : Pcs := pcs []
theorem pok (N : Nat) : (lam N).Ok Try.prog (C N) code := pcsOk_nil
theorem ok (N : Nat) : (S N).con.Ok Try.prog 75 := okF (F := S N) [] Try.func75 (by kernel_rfl) (by rfl) mix (cok N) (pok N) fun _ => by kernel_rfl
end wire_pipe_row_c
namespace wire_pipe_insert_b
def ins : Sh := (.cons (.box 47 s48) (.cons (.box 80 s56) .nil))
def C (N : Nat) : Ctx := ⟨U, 39, fun _ => true, gam [(23, (wire_pipe_must_b.S N).con), (48, (wire_pipe_segment_d.S N).con), (74, (wire_pipe_word_d.S N).con), (75, (wire_pipe_row_c.S N).con)], gamY []⟩
theorem cok (N : Nat) : (C N).Ok Try.prog := ⟨U_ok, GamOk.cons (wire_pipe_must_b.ok N) (GamOk.cons (wire_pipe_segment_d.ok N) (GamOk.cons (wire_pipe_word_d.ok N) (GamOk.cons (wire_pipe_row_c.ok N) (GamOk.nil)))), GamYOk.nil⟩
def code : Code := Try.f63.body.getD .skip
def outs : Sh := s61
end wire_pipe_insert_b
end
end Go.Hay.Ytpgamibdlinhjaa
