/- Functions of the program as functions of Lean, and that they are what the program computes. Conditions: none. -/
import Derived.Test.YtebejjfgibkhbaaU
set_option linter.unusedVariables false
namespace Go.Hay.Ytebejjfgibkhbaa
open Go Go.Hay Go.Proofs
noncomputable section
set_option maxRecDepth 100000
def site0 : Site := siteOf [5, 6, 7, 8, 10] 80 (sub (Try.f8.body.getD .skip) [true, true, true, true, true, false, true, false])
def site1 : Site := siteOf [7] 26 (sub (Try.f39.body.getD .skip) [true, true, false, true, false])
def sites : List Site := [site0, site1]
instance : Sites := ⟨fun k us => loopObj (sites.getD k ⟨#[], .skip, .skip, [], 0⟩) us, fun _ _ _ => loopObj_ne _ _ _⟩
/-- slices.Clone[[]byte,byte] -/
def slices_Clone_byte_byte.ins : Sh := (.cons (.val (.slice .byte)) .nil)
def slices_Clone_byte_byte.C (N : Nat) : Ctx := ⟨U, 8, fun _ => true, gam [], gamY []⟩
theorem slices_Clone_byte_byte.cok (N : Nat) : (slices_Clone_byte_byte.C N).Ok Try.prog := ⟨U_ok, GamOk.nil, GamYOk.nil⟩
def slices_Clone_byte_byte.code : Code := Try.f44.body.getD .skip
def slices_Clone_byte_byte.outs : Sh := (.cons (.own 5 .byte) .nil)
def slices_Clone_byte_byte.run (N : Nat) (s : (List UInt8)) : Option ((List UInt8) × Unit) :=
  pick2 (Nat.beq s.length 0)
    (
      some (([] : List UInt8), ()))
    (
      bif room (0 + s.length) 1 then
        some (s, ())
      else none)
def slices_Clone_byte_byte.fn (N : Nat) (x : Sh.den slices_Clone_byte_byte.ins) : Option (Sh.den slices_Clone_byte_byte.outs) := slices_Clone_byte_byte.run N x.1
def slices_Clone_byte_byte.S (N : Nat) : Fs := ⟨slices_Clone_byte_byte.ins, slices_Clone_byte_byte.outs, slices_Clone_byte_byte.fn N⟩
def slices_Clone_byte_byte.lam (N : Nat) : Pcs := pcs []
theorem slices_Clone_byte_byte.pok (N : Nat) : (slices_Clone_byte_byte.lam N).Ok Try.prog (slices_Clone_byte_byte.C N) slices_Clone_byte_byte.code := pcsOk_nil
theorem slices_Clone_byte_byte.ev (N : Nat) (x : Sh.den slices_Clone_byte_byte.ins) : evC (slices_Clone_byte_byte.C N) slices_Clone_byte_byte.code (slices_Clone_byte_byte.lam N) ⟨envOf 0 (bld (fun k => k) slices_Clone_byte_byte.ins x 0).1, (bld (fun k => k) slices_Clone_byte_byte.ins x 0).2.1, 1000⟩ (endF U slices_Clone_byte_byte.outs Try.f44.results.toList []) = slices_Clone_byte_byte.fn N x := by kernel_rfl
theorem slices_Clone_byte_byte.ok (N : Nat) : (slices_Clone_byte_byte.S N).con.Ok Try.prog 44 := fn_ok (F := slices_Clone_byte_byte.S N) (n0 := 1000) Try.func44 (by kernel_rfl) (show Try.f44.body = some slices_Clone_byte_byte.code by rfl) mix (slices_Clone_byte_byte.cok N) (fun _ => rfl) (fun _ => rfl) (slices_Clone_byte_byte.pok N) (fun x y h => (slices_Clone_byte_byte.ev N x).trans h)
/-- hayloft/codec.Read -/
def codec_Read.ins : Sh := (.cons (.val (.slice .byte)) .nil)
def codec_Read.C (N : Nat) : Ctx := ⟨U, 7, fun _ => true, gam [(44, (slices_Clone_byte_byte.S N).con)], gamY []⟩
theorem codec_Read.cok (N : Nat) : (codec_Read.C N).Ok Try.prog := ⟨U_ok, GamOk.cons (slices_Clone_byte_byte.ok N) (GamOk.nil), GamYOk.nil⟩
def codec_Read.code : Code := Try.f14.body.getD .skip
def codec_Read.outs : Sh := (.cons (.box 75 (.cons (.val (.slice .byte)) (.cons (.val (.int .i64)) .nil))) .nil)
def codec_Read.run (N : Nat) (b : (List UInt8)) : Option (((List UInt8) × Int × Unit) × Unit) :=
  obind (slices_Clone_byte_byte.run N b) fun (l, _) =>
    some ((l, (0 : Int), ()), ())
def codec_Read.fn (N : Nat) (x : Sh.den codec_Read.ins) : Option (Sh.den codec_Read.outs) := codec_Read.run N x.1
def codec_Read.S (N : Nat) : Fs := ⟨codec_Read.ins, codec_Read.outs, codec_Read.fn N⟩
def codec_Read.lam (N : Nat) : Pcs := pcs []
theorem codec_Read.pok (N : Nat) : (codec_Read.lam N).Ok Try.prog (codec_Read.C N) codec_Read.code := pcsOk_nil
theorem codec_Read.ev (N : Nat) (x : Sh.den codec_Read.ins) : evC (codec_Read.C N) codec_Read.code (codec_Read.lam N) ⟨envOf 0 (bld (fun k => k) codec_Read.ins x 0).1, (bld (fun k => k) codec_Read.ins x 0).2.1, 1000⟩ (endF U codec_Read.outs Try.f14.results.toList []) = codec_Read.fn N x := by kernel_rfl
theorem codec_Read.ok (N : Nat) : (codec_Read.S N).con.Ok Try.prog 14 := fn_ok (F := codec_Read.S N) (n0 := 1000) Try.func14 (by kernel_rfl) (show Try.f14.body = some codec_Read.code by rfl) mix (codec_Read.cok N) (fun _ => rfl) (fun _ => rfl) (codec_Read.pok N) (fun x y h => (codec_Read.ev N x).trans h)
/-- hayloft/codec.New -/
def codec_New.ins : Sh := .nil
def codec_New.C (N : Nat) : Ctx := ⟨U, 3, fun _ => true, gam [], gamY []⟩
theorem codec_New.cok (N : Nat) : (codec_New.C N).Ok Try.prog := ⟨U_ok, GamOk.nil, GamYOk.nil⟩
def codec_New.code : Code := Try.f15.body.getD .skip
def codec_New.outs : Sh := (.cons (.box 77 (.cons (.own 5 .byte) .nil)) .nil)
def codec_New.run (N : Nat)  : Option (((List UInt8) × Unit) × Unit) :=
  some ((([] : List UInt8), ()), ())
def codec_New.fn (N : Nat) (x : Sh.den codec_New.ins) : Option (Sh.den codec_New.outs) := codec_New.run N 
def codec_New.S (N : Nat) : Fs := ⟨codec_New.ins, codec_New.outs, codec_New.fn N⟩
def codec_New.lam (N : Nat) : Pcs := pcs []
theorem codec_New.pok (N : Nat) : (codec_New.lam N).Ok Try.prog (codec_New.C N) codec_New.code := pcsOk_nil
theorem codec_New.ev (N : Nat) (x : Sh.den codec_New.ins) : evC (codec_New.C N) codec_New.code (codec_New.lam N) ⟨envOf 0 (bld (fun k => k) codec_New.ins x 0).1, (bld (fun k => k) codec_New.ins x 0).2.1, 1000⟩ (endF U codec_New.outs Try.f15.results.toList []) = codec_New.fn N x := by kernel_rfl
theorem codec_New.ok (N : Nat) : (codec_New.S N).con.Ok Try.prog 15 := fn_ok (F := codec_New.S N) (n0 := 1000) Try.func15 (by kernel_rfl) (show Try.f15.body = some codec_New.code by rfl) mix (codec_New.cok N) (fun _ => rfl) (fun _ => rfl) (codec_New.pok N) (fun x y h => (codec_New.ev N x).trans h)
/-- (*hayloft/codec.Writer).Byte -/
def codec_Writer_Byte.ins : Sh := (.cons (.box 77 (.cons (.own 5 .byte) .nil)) (.cons (.val .byte) .nil))
def codec_Writer_Byte.C (N : Nat) : Ctx := ⟨U, 14, fun _ => true, gam [], gamY []⟩
theorem codec_Writer_Byte.cok (N : Nat) : (codec_Writer_Byte.C N).Ok Try.prog := ⟨U_ok, GamOk.nil, GamYOk.nil⟩
def codec_Writer_Byte.code : Code := Try.f49.body.getD .skip
def codec_Writer_Byte.outs : Sh := (.cons (.upd 0 77 (.cons (.own 5 .byte) .nil)) .nil)
def codec_Writer_Byte.run (N : Nat) (b : (List UInt8)) (b1 : UInt8) : Option (((List UInt8) × Unit) × Unit) :=
  bif room (b.length + 1) 1 then
    some ((b ++ ([Hay.u8 (b1.toNat : Int)] : List UInt8), ()), ())
  else none
def codec_Writer_Byte.fn (N : Nat) (x : Sh.den codec_Writer_Byte.ins) : Option (Sh.den codec_Writer_Byte.outs) := codec_Writer_Byte.run N x.1.1 x.2.1
def codec_Writer_Byte.S (N : Nat) : Fs := ⟨codec_Writer_Byte.ins, codec_Writer_Byte.outs, codec_Writer_Byte.fn N⟩
def codec_Writer_Byte.lam (N : Nat) : Pcs := pcs []
theorem codec_Writer_Byte.pok (N : Nat) : (codec_Writer_Byte.lam N).Ok Try.prog (codec_Writer_Byte.C N) codec_Writer_Byte.code := pcsOk_nil
theorem codec_Writer_Byte.ev (N : Nat) (x : Sh.den codec_Writer_Byte.ins) : evC (codec_Writer_Byte.C N) codec_Writer_Byte.code (codec_Writer_Byte.lam N) ⟨envOf 0 (bld (fun k => k) codec_Writer_Byte.ins x 0).1, (bld (fun k => k) codec_Writer_Byte.ins x 0).2.1, 1000⟩ (endF U codec_Writer_Byte.outs Try.f49.results.toList []) = codec_Writer_Byte.fn N x := by kernel_rfl
theorem codec_Writer_Byte.ok (N : Nat) : (codec_Writer_Byte.S N).con.Ok Try.prog 49 := fn_ok (F := codec_Writer_Byte.S N) (n0 := 1000) Try.func49 (by kernel_rfl) (show Try.f49.body = some codec_Writer_Byte.code by rfl) mix (codec_Writer_Byte.cok N) (fun _ => rfl) (fun _ => rfl) (codec_Writer_Byte.pok N) (fun x y h => (codec_Writer_Byte.ev N x).trans h)
/-- (*hayloft/codec.Writer).high -/
def codec_Writer_high.ins : Sh := (.cons (.box 77 (.cons (.own 5 .byte) .nil)) (.cons (.val (.int .u64)) (.cons (.val (.int .i64)) .nil)))
def codec_Writer_high.C (N : Nat) : Ctx := ⟨U, 24, fun _ => true, gam [], gamY []⟩
theorem codec_Writer_high.cok (N : Nat) : (codec_Writer_high.C N).Ok Try.prog := ⟨U_ok, GamOk.nil, GamYOk.nil⟩
def codec_Writer_high.code : Code := Try.f50.body.getD .skip
def codec_Writer_high_0.ins : Sh := (.cons (.box 77 (.cons (.own 5 .byte) .nil)) (.cons (.val (.int .u64)) (.cons (.val (.int .i64)) .nil)))
def codec_Writer_high_0.ts : List Tmp := [0, 1, 2]
def codec_Writer_high_0.asg : List Tmp := [2, 6, 7, 8, 9, 10, 11, 12, 13, 14, 15, 16, 17, 18, 19, 20, 21, 22, 23]
def codec_Writer_high_0.C (N : Nat) : Ctx := { codec_Writer_high.C N with may := fun t => codec_Writer_high_0.asg.any (Nat.beq t) }
def codec_Writer_high_0.code : Code := loopBody (sub codec_Writer_high.code [false])
theorem codec_Writer_high_0.cok (N : Nat) : (codec_Writer_high_0.C N).Ok Try.prog := ⟨(codec_Writer_high.cok N).U, (codec_Writer_high.cok N).Γ, (codec_Writer_high.cok N).Y⟩
def codec_Writer_high_0.alts : List Alt := [⟨(.exit 0), [], (.cons (.upd 0 77 (.cons (.own 5 .byte) .nil)) .nil)⟩]
def codec_Writer_high_0.go (N : Nat) : Nat → (List UInt8) → Int → Int → Option ((((List UInt8) × Unit) × Unit))
  | 0, _, _, _ => none
  | fuel + 1, b, n_, many =>
    bif decide (many > (0 : Int)) then
      bif decide ((0 : Int) ≤ (IntKind.i64.wrap ((8 : Int) * (IntKind.i64.wrap (many - (1 : Int)))))) then
        bif room (b.length + 1) 1 then
          codec_Writer_high_0.go N fuel (b ++ ([Hay.u8 (IntKind.u8.wrap (n_.fdiv (2 ^ (min (IntKind.i64.wrap ((8 : Int) * (IntKind.i64.wrap (many - (1 : Int))))).toNat 64))))] : List UInt8)) n_ (IntKind.i64.wrap (many - (1 : Int)))
        else none
      else none
    else some ((b, ()), ())
def codec_Writer_high_0.g (N n : Nat) (x : Sh.den codec_Writer_high_0.ins) : Option (altsDen codec_Writer_high_0.alts) := codec_Writer_high_0.go N n x.1.1 x.2.1 x.2.2.1
def codec_Writer_high_0.P (N : Nat) : Ps := ⟨codec_Writer_high_0.ts, codec_Writer_high_0.ins, codec_Writer_high_0.asg, codec_Writer_high_0.alts, codec_Writer_high_0.g N N⟩
def codec_Writer_high_0.lam (N : Nat) : Pcs := pcs []
theorem codec_Writer_high_0.pok (N : Nat) : (codec_Writer_high_0.lam N).Ok Try.prog (codec_Writer_high_0.C N) codec_Writer_high_0.code := pcsOk_nil
theorem codec_Writer_high_0.ev (N n : Nat) (x : Sh.den codec_Writer_high_0.ins) : evC (codec_Writer_high_0.C N) codec_Writer_high_0.code (codec_Writer_high_0.lam N) ((codec_Writer_high_0.P N).canon 1000 x) (loopK (codec_Writer_high_0.P N) (codec_Writer_high_0.g N n)) = codec_Writer_high_0.g N (n + 1) x := by kernel_rfl
theorem codec_Writer_high_0.ok (N : Nat) : ((codec_Writer_high_0.P N).pc (codec_Writer_high.C N)).Ok Try.prog (codec_Writer_high.C N) (.loop codec_Writer_high_0.code) := loop_ok (F := codec_Writer_high_0.P N) (n0 := 1000) (N := N) (codec_Writer_high.cok N) mix (codec_Writer_high_0.pok N) (codec_Writer_high_0.g N) (fun x => by rfl) rfl (fun n x y h => (codec_Writer_high_0.ev N n x).trans h)
def codec_Writer_high.outs : Sh := (.cons (.upd 0 77 (.cons (.own 5 .byte) .nil)) .nil)
def codec_Writer_high.run (N : Nat) (b : (List UInt8)) (n_ : Int) (many : Int) : Option (((List UInt8) × Unit) × Unit) :=
  obind (codec_Writer_high_0.go N N b n_ many) fun ((b1, _), _) =>
    some ((b1, ()), ())
def codec_Writer_high.fn (N : Nat) (x : Sh.den codec_Writer_high.ins) : Option (Sh.den codec_Writer_high.outs) := codec_Writer_high.run N x.1.1 x.2.1 x.2.2.1
def codec_Writer_high.S (N : Nat) : Fs := ⟨codec_Writer_high.ins, codec_Writer_high.outs, codec_Writer_high.fn N⟩
def codec_Writer_high.lam (N : Nat) : Pcs := pcs [([false], (codec_Writer_high_0.P N).pc (codec_Writer_high.C N))]
theorem codec_Writer_high.pok (N : Nat) : (codec_Writer_high.lam N).Ok Try.prog (codec_Writer_high.C N) codec_Writer_high.code := pcsOk_cons (c1 := .loop codec_Writer_high_0.code) (by kernel_rfl) (codec_Writer_high_0.ok N) (pcsOk_nil)
theorem codec_Writer_high.ev (N : Nat) (x : Sh.den codec_Writer_high.ins) : evC (codec_Writer_high.C N) codec_Writer_high.code (codec_Writer_high.lam N) ⟨envOf 0 (bld (fun k => k) codec_Writer_high.ins x 0).1, (bld (fun k => k) codec_Writer_high.ins x 0).2.1, 1000⟩ (endF U codec_Writer_high.outs Try.f50.results.toList []) = codec_Writer_high.fn N x := by kernel_rfl
theorem codec_Writer_high.ok (N : Nat) : (codec_Writer_high.S N).con.Ok Try.prog 50 := fn_ok (F := codec_Writer_high.S N) (n0 := 1000) Try.func50 (by kernel_rfl) (show Try.f50.body = some codec_Writer_high.code by rfl) mix (codec_Writer_high.cok N) (fun _ => rfl) (fun _ => rfl) (codec_Writer_high.pok N) (fun x y h => (codec_Writer_high.ev N x).trans h)
/-- (*hayloft/codec.Writer).Var -/
def codec_Writer_Var.ins : Sh := (.cons (.box 77 (.cons (.own 5 .byte) .nil)) (.cons (.val (.int .u64)) .nil))
def codec_Writer_Var.C (N : Nat) : Ctx := ⟨U, 32, fun _ => true, gam [(49, (codec_Writer_Byte.S N).con), (50, (codec_Writer_high.S N).con)], gamY []⟩
theorem codec_Writer_Var.cok (N : Nat) : (codec_Writer_Var.C N).Ok Try.prog := ⟨U_ok, GamOk.cons (codec_Writer_Byte.ok N) (GamOk.cons (codec_Writer_high.ok N) (GamOk.nil)), GamYOk.nil⟩
def codec_Writer_Var.code : Code := Try.f20.body.getD .skip
def codec_Writer_Var.outs : Sh := (.cons (.upd 0 77 (.cons (.own 5 .byte) .nil)) .nil)
def codec_Writer_Var.run (N : Nat) (b : (List UInt8)) (n_ : Int) : Option (((List UInt8) × Unit) × Unit) :=
  bif decide (n_ < (253 : Int)) then
    obind (codec_Writer_Byte.run N b (Hay.u8 (IntKind.u8.wrap n_))) fun ((b1, _), _) =>
      some ((b1, ()), ())
  else
    bif decide (n_ ≤ (65535 : Int)) then
      obind (codec_Writer_Byte.run N b (253 : UInt8)) fun ((b2, _), _) =>
        obind (codec_Writer_high.run N b2 n_ (2 : Int)) fun ((b3, _), _) =>
          some ((b3, ()), ())
    else
      bif decide (n_ ≤ (4294967295 : Int)) then
        obind (codec_Writer_Byte.run N b (254 : UInt8)) fun ((b4, _), _) =>
          obind (codec_Writer_high.run N b4 n_ (4 : Int)) fun ((b5, _), _) =>
            some ((b5, ()), ())
      else
        obind (codec_Writer_Byte.run N b (255 : UInt8)) fun ((b6, _), _) =>
          obind (codec_Writer_high.run N b6 n_ (8 : Int)) fun ((b7, _), _) =>
            some ((b7, ()), ())
def codec_Writer_Var.fn (N : Nat) (x : Sh.den codec_Writer_Var.ins) : Option (Sh.den codec_Writer_Var.outs) := codec_Writer_Var.run N x.1.1 x.2.1
def codec_Writer_Var.S (N : Nat) : Fs := ⟨codec_Writer_Var.ins, codec_Writer_Var.outs, codec_Writer_Var.fn N⟩
def codec_Writer_Var.lam (N : Nat) : Pcs := pcs []
theorem codec_Writer_Var.pok (N : Nat) : (codec_Writer_Var.lam N).Ok Try.prog (codec_Writer_Var.C N) codec_Writer_Var.code := pcsOk_nil
theorem codec_Writer_Var.ev (N : Nat) (x : Sh.den codec_Writer_Var.ins) : evC (codec_Writer_Var.C N) codec_Writer_Var.code (codec_Writer_Var.lam N) ⟨envOf 0 (bld (fun k => k) codec_Writer_Var.ins x 0).1, (bld (fun k => k) codec_Writer_Var.ins x 0).2.1, 1000⟩ (endF U codec_Writer_Var.outs Try.f20.results.toList []) = codec_Writer_Var.fn N x := by kernel_rfl
theorem codec_Writer_Var.ok (N : Nat) : (codec_Writer_Var.S N).con.Ok Try.prog 20 := fn_ok (F := codec_Writer_Var.S N) (n0 := 1000) Try.func20 (by kernel_rfl) (show Try.f20.body = some codec_Writer_Var.code by rfl) mix (codec_Writer_Var.cok N) (fun _ => rfl) (fun _ => rfl) (codec_Writer_Var.pok N) (fun x y h => (codec_Writer_Var.ev N x).trans h)
/-- (*hayloft/codec.Writer).Raw -/
def codec_Writer_Raw.ins : Sh := (.cons (.box 77 (.cons (.own 5 .byte) .nil)) (.cons (.val (.slice .byte)) .nil))
def codec_Writer_Raw.C (N : Nat) : Ctx := ⟨U, 13, fun _ => true, gam [], gamY []⟩
theorem codec_Writer_Raw.cok (N : Nat) : (codec_Writer_Raw.C N).Ok Try.prog := ⟨U_ok, GamOk.nil, GamYOk.nil⟩
def codec_Writer_Raw.code : Code := Try.f53.body.getD .skip
def codec_Writer_Raw.outs : Sh := (.cons (.upd 0 77 (.cons (.own 5 .byte) .nil)) .nil)
def codec_Writer_Raw.run (N : Nat) (b : (List UInt8)) (b1 : (List UInt8)) : Option (((List UInt8) × Unit) × Unit) :=
  bif room (b.length + b1.length) 1 then
    some ((b ++ b1, ()), ())
  else none
def codec_Writer_Raw.fn (N : Nat) (x : Sh.den codec_Writer_Raw.ins) : Option (Sh.den codec_Writer_Raw.outs) := codec_Writer_Raw.run N x.1.1 x.2.1
def codec_Writer_Raw.S (N : Nat) : Fs := ⟨codec_Writer_Raw.ins, codec_Writer_Raw.outs, codec_Writer_Raw.fn N⟩
def codec_Writer_Raw.lam (N : Nat) : Pcs := pcs []
theorem codec_Writer_Raw.pok (N : Nat) : (codec_Writer_Raw.lam N).Ok Try.prog (codec_Writer_Raw.C N) codec_Writer_Raw.code := pcsOk_nil
theorem codec_Writer_Raw.ev (N : Nat) (x : Sh.den codec_Writer_Raw.ins) : evC (codec_Writer_Raw.C N) codec_Writer_Raw.code (codec_Writer_Raw.lam N) ⟨envOf 0 (bld (fun k => k) codec_Writer_Raw.ins x 0).1, (bld (fun k => k) codec_Writer_Raw.ins x 0).2.1, 1000⟩ (endF U codec_Writer_Raw.outs Try.f53.results.toList []) = codec_Writer_Raw.fn N x := by kernel_rfl
theorem codec_Writer_Raw.ok (N : Nat) : (codec_Writer_Raw.S N).con.Ok Try.prog 53 := fn_ok (F := codec_Writer_Raw.S N) (n0 := 1000) Try.func53 (by kernel_rfl) (show Try.f53.body = some codec_Writer_Raw.code by rfl) mix (codec_Writer_Raw.cok N) (fun _ => rfl) (fun _ => rfl) (codec_Writer_Raw.pok N) (fun x y h => (codec_Writer_Raw.ev N x).trans h)
/-- (*hayloft/codec.Writer).Text -/
def codec_Writer_Text.ins : Sh := (.cons (.box 77 (.cons (.own 5 .byte) .nil)) (.cons (.val (.slice .byte)) .nil))
def codec_Writer_Text.C (N : Nat) : Ctx := ⟨U, 12, fun _ => true, gam [(20, (codec_Writer_Var.S N).con), (53, (codec_Writer_Raw.S N).con)], gamY []⟩
theorem codec_Writer_Text.cok (N : Nat) : (codec_Writer_Text.C N).Ok Try.prog := ⟨U_ok, GamOk.cons (codec_Writer_Var.ok N) (GamOk.cons (codec_Writer_Raw.ok N) (GamOk.nil)), GamYOk.nil⟩
def codec_Writer_Text.code : Code := Try.f45.body.getD .skip
def codec_Writer_Text.outs : Sh := (.cons (.upd 0 77 (.cons (.own 5 .byte) .nil)) .nil)
def codec_Writer_Text.run (N : Nat) (b : (List UInt8)) (b1 : (List UInt8)) : Option (((List UInt8) × Unit) × Unit) :=
  obind (codec_Writer_Var.run N b (IntKind.u64.wrap (b1.length : Int))) fun ((b2, _), _) =>
    obind (codec_Writer_Raw.run N b2 b1) fun ((b3, _), _) =>
      some ((b3, ()), ())
def codec_Writer_Text.fn (N : Nat) (x : Sh.den codec_Writer_Text.ins) : Option (Sh.den codec_Writer_Text.outs) := codec_Writer_Text.run N x.1.1 x.2.1
def codec_Writer_Text.S (N : Nat) : Fs := ⟨codec_Writer_Text.ins, codec_Writer_Text.outs, codec_Writer_Text.fn N⟩
def codec_Writer_Text.lam (N : Nat) : Pcs := pcs []
theorem codec_Writer_Text.pok (N : Nat) : (codec_Writer_Text.lam N).Ok Try.prog (codec_Writer_Text.C N) codec_Writer_Text.code := pcsOk_nil
theorem codec_Writer_Text.ev (N : Nat) (x : Sh.den codec_Writer_Text.ins) : evC (codec_Writer_Text.C N) codec_Writer_Text.code (codec_Writer_Text.lam N) ⟨envOf 0 (bld (fun k => k) codec_Writer_Text.ins x 0).1, (bld (fun k => k) codec_Writer_Text.ins x 0).2.1, 1000⟩ (endF U codec_Writer_Text.outs Try.f45.results.toList []) = codec_Writer_Text.fn N x := by kernel_rfl
theorem codec_Writer_Text.ok (N : Nat) : (codec_Writer_Text.S N).con.Ok Try.prog 45 := fn_ok (F := codec_Writer_Text.S N) (n0 := 1000) Try.func45 (by kernel_rfl) (show Try.f45.body = some codec_Writer_Text.code by rfl) mix (codec_Writer_Text.cok N) (fun _ => rfl) (fun _ => rfl) (codec_Writer_Text.pok N) (fun x y h => (codec_Writer_Text.ev N x).trans h)
/-- slices.Clone[[]byte,byte] -/
def slices_Clone_byte_byte_b.ins : Sh := (.cons (.rown 5 .byte) .nil)
def slices_Clone_byte_byte_b.C (N : Nat) : Ctx := ⟨U, 8, fun _ => true, gam [], gamY []⟩
theorem slices_Clone_byte_byte_b.cok (N : Nat) : (slices_Clone_byte_byte_b.C N).Ok Try.prog := ⟨U_ok, GamOk.nil, GamYOk.nil⟩
def slices_Clone_byte_byte_b.code : Code := Try.f44.body.getD .skip
def slices_Clone_byte_byte_b.outs : Sh := (.cons (.own 5 .byte) .nil)
def slices_Clone_byte_byte_b.run (N : Nat) (s : (List UInt8)) : Option ((List UInt8) × Unit) :=
  pick2 (Nat.beq s.length 0)
    (
      some (([] : List UInt8), ()))
    (
      bif room (0 + s.length) 1 then
        some (s, ())
      else none)
def slices_Clone_byte_byte_b.fn (N : Nat) (x : Sh.den slices_Clone_byte_byte_b.ins) : Option (Sh.den slices_Clone_byte_byte_b.outs) := slices_Clone_byte_byte_b.run N x.1
def slices_Clone_byte_byte_b.S (N : Nat) : Fs := ⟨slices_Clone_byte_byte_b.ins, slices_Clone_byte_byte_b.outs, slices_Clone_byte_byte_b.fn N⟩
def slices_Clone_byte_byte_b.lam (N : Nat) : Pcs := pcs []
theorem slices_Clone_byte_byte_b.pok (N : Nat) : (slices_Clone_byte_byte_b.lam N).Ok Try.prog (slices_Clone_byte_byte_b.C N) slices_Clone_byte_byte_b.code := pcsOk_nil
theorem slices_Clone_byte_byte_b.ev (N : Nat) (x : Sh.den slices_Clone_byte_byte_b.ins) : evC (slices_Clone_byte_byte_b.C N) slices_Clone_byte_byte_b.code (slices_Clone_byte_byte_b.lam N) ⟨envOf 0 (bld (fun k => k) slices_Clone_byte_byte_b.ins x 0).1, (bld (fun k => k) slices_Clone_byte_byte_b.ins x 0).2.1, 1000⟩ (endF U slices_Clone_byte_byte_b.outs Try.f44.results.toList []) = slices_Clone_byte_byte_b.fn N x := by kernel_rfl
theorem slices_Clone_byte_byte_b.ok (N : Nat) : (slices_Clone_byte_byte_b.S N).con.Ok Try.prog 44 := fn_ok (F := slices_Clone_byte_byte_b.S N) (n0 := 1000) Try.func44 (by kernel_rfl) (show Try.f44.body = some slices_Clone_byte_byte_b.code by rfl) mix (slices_Clone_byte_byte_b.cok N) (fun _ => rfl) (fun _ => rfl) (slices_Clone_byte_byte_b.pok N) (fun x y h => (slices_Clone_byte_byte_b.ev N x).trans h)
/-- hayloft/codec.Read -/
def codec_Read_b.ins : Sh := (.cons (.rown 5 .byte) .nil)
def codec_Read_b.C (N : Nat) : Ctx := ⟨U, 7, fun _ => true, gam [(44, (slices_Clone_byte_byte_b.S N).con)], gamY []⟩
theorem codec_Read_b.cok (N : Nat) : (codec_Read_b.C N).Ok Try.prog := ⟨U_ok, GamOk.cons (slices_Clone_byte_byte_b.ok N) (GamOk.nil), GamYOk.nil⟩
def codec_Read_b.code : Code := Try.f14.body.getD .skip
def codec_Read_b.outs : Sh := (.cons (.box 75 (.cons (.val (.slice .byte)) (.cons (.val (.int .i64)) .nil))) .nil)
def codec_Read_b.run (N : Nat) (b : (List UInt8)) : Option (((List UInt8) × Int × Unit) × Unit) :=
  obind (slices_Clone_byte_byte_b.run N b) fun (l, _) =>
    some ((l, (0 : Int), ()), ())
def codec_Read_b.fn (N : Nat) (x : Sh.den codec_Read_b.ins) : Option (Sh.den codec_Read_b.outs) := codec_Read_b.run N x.1
def codec_Read_b.S (N : Nat) : Fs := ⟨codec_Read_b.ins, codec_Read_b.outs, codec_Read_b.fn N⟩
def codec_Read_b.lam (N : Nat) : Pcs := pcs []
theorem codec_Read_b.pok (N : Nat) : (codec_Read_b.lam N).Ok Try.prog (codec_Read_b.C N) codec_Read_b.code := pcsOk_nil
theorem codec_Read_b.ev (N : Nat) (x : Sh.den codec_Read_b.ins) : evC (codec_Read_b.C N) codec_Read_b.code (codec_Read_b.lam N) ⟨envOf 0 (bld (fun k => k) codec_Read_b.ins x 0).1, (bld (fun k => k) codec_Read_b.ins x 0).2.1, 1000⟩ (endF U codec_Read_b.outs Try.f14.results.toList []) = codec_Read_b.fn N x := by kernel_rfl
theorem codec_Read_b.ok (N : Nat) : (codec_Read_b.S N).con.Ok Try.prog 14 := fn_ok (F := codec_Read_b.S N) (n0 := 1000) Try.func14 (by kernel_rfl) (show Try.f14.body = some codec_Read_b.code by rfl) mix (codec_Read_b.cok N) (fun _ => rfl) (fun _ => rfl) (codec_Read_b.pok N) (fun x y h => (codec_Read_b.ev N x).trans h)
/-- (*hayloft/codec.Writer).Bytes -/
def codec_Writer_Bytes.ins : Sh := (.cons (.rbox 77 (.cons (.rown 5 .byte) .nil)) .nil)
def codec_Writer_Bytes.C (N : Nat) : Ctx := ⟨U, 8, fun _ => true, gam [(44, (slices_Clone_byte_byte_b.S N).con)], gamY []⟩
theorem codec_Writer_Bytes.cok (N : Nat) : (codec_Writer_Bytes.C N).Ok Try.prog := ⟨U_ok, GamOk.cons (slices_Clone_byte_byte_b.ok N) (GamOk.nil), GamYOk.nil⟩
def codec_Writer_Bytes.code : Code := Try.f22.body.getD .skip
def codec_Writer_Bytes.outs : Sh := (.cons (.own 5 .byte) .nil)
def codec_Writer_Bytes.run (N : Nat) (b : (List UInt8)) : Option ((List UInt8) × Unit) :=
  obind (slices_Clone_byte_byte_b.run N b) fun (l, _) =>
    some (l, ())
def codec_Writer_Bytes.fn (N : Nat) (x : Sh.den codec_Writer_Bytes.ins) : Option (Sh.den codec_Writer_Bytes.outs) := codec_Writer_Bytes.run N x.1.1
def codec_Writer_Bytes.S (N : Nat) : Fs := ⟨codec_Writer_Bytes.ins, codec_Writer_Bytes.outs, codec_Writer_Bytes.fn N⟩
def codec_Writer_Bytes.lam (N : Nat) : Pcs := pcs []
theorem codec_Writer_Bytes.pok (N : Nat) : (codec_Writer_Bytes.lam N).Ok Try.prog (codec_Writer_Bytes.C N) codec_Writer_Bytes.code := pcsOk_nil
theorem codec_Writer_Bytes.ev (N : Nat) (x : Sh.den codec_Writer_Bytes.ins) : evC (codec_Writer_Bytes.C N) codec_Writer_Bytes.code (codec_Writer_Bytes.lam N) ⟨envOf 0 (bld (fun k => k) codec_Writer_Bytes.ins x 0).1, (bld (fun k => k) codec_Writer_Bytes.ins x 0).2.1, 1000⟩ (endF U codec_Writer_Bytes.outs Try.f22.results.toList []) = codec_Writer_Bytes.fn N x := by kernel_rfl
theorem codec_Writer_Bytes.ok (N : Nat) : (codec_Writer_Bytes.S N).con.Ok Try.prog 22 := fn_ok (F := codec_Writer_Bytes.S N) (n0 := 1000) Try.func22 (by kernel_rfl) (show Try.f22.body = some codec_Writer_Bytes.code by rfl) mix (codec_Writer_Bytes.cok N) (fun _ => rfl) (fun _ => rfl) (codec_Writer_Bytes.pok N) (fun x y h => (codec_Writer_Bytes.ev N x).trans h)
/-- hayloft/hayloftlaw01.same -/
def law_same.ins : Sh := (.cons (.rown 5 .byte) (.cons (.rown 5 .byte) .nil))
def law_same.C (N : Nat) : Ctx := ⟨U, 10, fun _ => true, gam [], gamY []⟩
theorem law_same.cok (N : Nat) : (law_same.C N).Ok Try.prog := ⟨U_ok, GamOk.nil, GamYOk.nil⟩
def law_same.code : Code := Try.f21.body.getD .skip
def law_same.outs : Sh := (.cons (.val .bool) .nil)
def law_same.run (N : Nat) (a : (List UInt8)) (b : (List UInt8)) : Option (Bool × Unit) :=
  some (decide (a = b), ())
def law_same.fn (N : Nat) (x : Sh.den law_same.ins) : Option (Sh.den law_same.outs) := law_same.run N x.1 x.2.1
def law_same.S (N : Nat) : Fs := ⟨law_same.ins, law_same.outs, law_same.fn N⟩
def law_same.lam (N : Nat) : Pcs := pcs []
theorem law_same.pok (N : Nat) : (law_same.lam N).Ok Try.prog (law_same.C N) law_same.code := pcsOk_nil
theorem law_same.ev (N : Nat) (x : Sh.den law_same.ins) : evC (law_same.C N) law_same.code (law_same.lam N) ⟨envOf 0 (bld (fun k => k) law_same.ins x 0).1, (bld (fun k => k) law_same.ins x 0).2.1, 1000⟩ (endF U law_same.outs Try.f21.results.toList []) = law_same.fn N x := by kernel_rfl
theorem law_same.ok (N : Nat) : (law_same.S N).con.Ok Try.prog 21 := fn_ok (F := law_same.S N) (n0 := 1000) Try.func21 (by kernel_rfl) (show Try.f21.body = some law_same.code by rfl) mix (law_same.cok N) (fun _ => rfl) (fun _ => rfl) (law_same.pok N) (fun x y h => (law_same.ev N x).trans h)
/-- (*hayloft/codec.Writer).Len -/
def codec_Writer_Len.ins : Sh := (.cons (.rbox 77 (.cons (.rown 5 .byte) .nil)) .nil)
def codec_Writer_Len.C (N : Nat) : Ctx := ⟨U, 8, fun _ => true, gam [], gamY []⟩
theorem codec_Writer_Len.cok (N : Nat) : (codec_Writer_Len.C N).Ok Try.prog := ⟨U_ok, GamOk.nil, GamYOk.nil⟩
def codec_Writer_Len.code : Code := Try.f25.body.getD .skip
def codec_Writer_Len.outs : Sh := (.cons (.val (.int .i64)) .nil)
def codec_Writer_Len.run (N : Nat) (b : (List UInt8)) : Option (Int × Unit) :=
  some ((b.length : Int), ())
def codec_Writer_Len.fn (N : Nat) (x : Sh.den codec_Writer_Len.ins) : Option (Sh.den codec_Writer_Len.outs) := codec_Writer_Len.run N x.1.1
def codec_Writer_Len.S (N : Nat) : Fs := ⟨codec_Writer_Len.ins, codec_Writer_Len.outs, codec_Writer_Len.fn N⟩
def codec_Writer_Len.lam (N : Nat) : Pcs := pcs []
theorem codec_Writer_Len.pok (N : Nat) : (codec_Writer_Len.lam N).Ok Try.prog (codec_Writer_Len.C N) codec_Writer_Len.code := pcsOk_nil
theorem codec_Writer_Len.ev (N : Nat) (x : Sh.den codec_Writer_Len.ins) : evC (codec_Writer_Len.C N) codec_Writer_Len.code (codec_Writer_Len.lam N) ⟨envOf 0 (bld (fun k => k) codec_Writer_Len.ins x 0).1, (bld (fun k => k) codec_Writer_Len.ins x 0).2.1, 1000⟩ (endF U codec_Writer_Len.outs Try.f25.results.toList []) = codec_Writer_Len.fn N x := by kernel_rfl
theorem codec_Writer_Len.ok (N : Nat) : (codec_Writer_Len.S N).con.Ok Try.prog 25 := fn_ok (F := codec_Writer_Len.S N) (n0 := 1000) Try.func25 (by kernel_rfl) (show Try.f25.body = some codec_Writer_Len.code by rfl) mix (codec_Writer_Len.cok N) (fun _ => rfl) (fun _ => rfl) (codec_Writer_Len.pok N) (fun x y h => (codec_Writer_Len.ev N x).trans h)
/-- (*hayloft/codec.Reader).take -/
def codec_Reader_take.ins : Sh := (.cons (.box 75 (.cons (.val (.slice .byte)) (.cons (.val (.int .i64)) .nil))) (.cons (.val (.int .i64)) .nil))
def codec_Reader_take.C (N : Nat) : Ctx := ⟨U, 45, fun _ => true, gam [], gamY []⟩
theorem codec_Reader_take.cok (N : Nat) : (codec_Reader_take.C N).Ok Try.prog := ⟨U_ok, GamOk.nil, GamYOk.nil⟩
def codec_Reader_take.code : Code := Try.f66.body.getD .skip
def codec_Reader_take_0.ins : Sh := (.cons (.box 75 (.cons (.val (.slice .byte)) (.cons (.val (.int .i64)) .nil))) (.cons (.val (.int .i64)) .nil))
def codec_Reader_take_0.ts : List Tmp := [0, 1]
def codec_Reader_take_0.asg : List Tmp := [7, 8, 9, 10, 11, 12, 13, 14, 15, 16, 17, 18, 19, 20, 21, 22, 23]
def codec_Reader_take_0.C (N : Nat) : Ctx := { codec_Reader_take.C N with may := fun t => codec_Reader_take_0.asg.any (Nat.beq t) }
def codec_Reader_take_0.code : Code := (sub codec_Reader_take.code [true, false]).getD .skip
theorem codec_Reader_take_0.cok (N : Nat) : (codec_Reader_take_0.C N).Ok Try.prog := ⟨(codec_Reader_take.cok N).U, (codec_Reader_take.cok N).Γ, (codec_Reader_take.cok N).Y⟩
def codec_Reader_take_0.alts : List Alt := [⟨.normal, [], (.cons (.upd 0 75 (.cons (.val (.slice .byte)) (.cons (.val (.int .i64)) .nil))) .nil)⟩]
def codec_Reader_take_0.run (N : Nat) (b : (List UInt8)) (e : Int) (n_ : Int) : Option ((((List UInt8) × Int × Unit) × Unit)) :=
  bif decide (e = (0 : Int)) then
    bif decide (n_ > (b.length : Int)) then
      some ((b, (10 : Int), ()), ())
    else some ((b, e, ()), ())
  else some ((b, e, ()), ())
def codec_Reader_take_0.fn (N : Nat) (x : Sh.den codec_Reader_take_0.ins) : Option (altsDen codec_Reader_take_0.alts) := codec_Reader_take_0.run N x.1.1 x.1.2.1 x.2.1
def codec_Reader_take_0.P (N : Nat) : Ps := ⟨codec_Reader_take_0.ts, codec_Reader_take_0.ins, codec_Reader_take_0.asg, codec_Reader_take_0.alts, codec_Reader_take_0.fn N⟩
def codec_Reader_take_0.lam (N : Nat) : Pcs := pcs []
theorem codec_Reader_take_0.pok (N : Nat) : (codec_Reader_take_0.lam N).Ok Try.prog (codec_Reader_take_0.C N) codec_Reader_take_0.code := pcsOk_nil
theorem codec_Reader_take_0.ev (N : Nat) (x : Sh.den codec_Reader_take_0.ins) : evC (codec_Reader_take_0.C N) codec_Reader_take_0.code (codec_Reader_take_0.lam N) ((codec_Reader_take_0.P N).canon 1000 x) (altK (codec_Reader_take_0.P N).alts) = codec_Reader_take_0.fn N x := by kernel_rfl
theorem codec_Reader_take_0.ok (N : Nat) : ((codec_Reader_take_0.P N).pc (codec_Reader_take.C N)).Ok Try.prog (codec_Reader_take.C N) codec_Reader_take_0.code := ps_ok (F := codec_Reader_take_0.P N) (n0 := 1000) (codec_Reader_take.cok N) mix (codec_Reader_take_0.pok N) (fun x y h => (codec_Reader_take_0.ev N x).trans h)
def codec_Reader_take.outs : Sh := (.cons (.upd 0 75 (.cons (.val (.slice .byte)) (.cons (.val (.int .i64)) .nil))) (.cons (.val (.slice .byte)) (.cons (.val .bool) .nil)))
def codec_Reader_take.run (N : Nat) (b : (List UInt8)) (e : Int) (n_ : Int) : Option (((List UInt8) × Int × Unit) × (List UInt8) × Bool × Unit) :=
  obind (codec_Reader_take_0.run N b e n_) fun ((b1, e1, _), _) =>
    bif !(decide (e1 = (0 : Int))) then
      some ((b1, e1, ()), ([] : List UInt8), false, ())
    else
      bif okB (0 : Int) n_ b1.length then
        bif okB n_ (b1.length : Int) b1.length then
          some ((b1.drop n_.toNat, e1, ()), b1.take n_.toNat, true, ())
        else none
      else none
def codec_Reader_take.fn (N : Nat) (x : Sh.den codec_Reader_take.ins) : Option (Sh.den codec_Reader_take.outs) := codec_Reader_take.run N x.1.1 x.1.2.1 x.2.1
def codec_Reader_take.S (N : Nat) : Fs := ⟨codec_Reader_take.ins, codec_Reader_take.outs, codec_Reader_take.fn N⟩
def codec_Reader_take.lam (N : Nat) : Pcs := pcs [([true, false], (codec_Reader_take_0.P N).pc (codec_Reader_take.C N))]
theorem codec_Reader_take.pok (N : Nat) : (codec_Reader_take.lam N).Ok Try.prog (codec_Reader_take.C N) codec_Reader_take.code := pcsOk_cons (c1 := codec_Reader_take_0.code) (by kernel_rfl) (codec_Reader_take_0.ok N) (pcsOk_nil)
theorem codec_Reader_take.ev (N : Nat) (x : Sh.den codec_Reader_take.ins) : evC (codec_Reader_take.C N) codec_Reader_take.code (codec_Reader_take.lam N) ⟨envOf 0 (bld (fun k => k) codec_Reader_take.ins x 0).1, (bld (fun k => k) codec_Reader_take.ins x 0).2.1, 1000⟩ (endF U codec_Reader_take.outs Try.f66.results.toList []) = codec_Reader_take.fn N x := by kernel_rfl
theorem codec_Reader_take.ok (N : Nat) : (codec_Reader_take.S N).con.Ok Try.prog 66 := fn_ok (F := codec_Reader_take.S N) (n0 := 1000) Try.func66 (by kernel_rfl) (show Try.f66.body = some codec_Reader_take.code by rfl) mix (codec_Reader_take.cok N) (fun _ => rfl) (fun _ => rfl) (codec_Reader_take.pok N) (fun x y h => (codec_Reader_take.ev N x).trans h)
/-- (*hayloft/codec.Reader).high -/
def codec_Reader_high.ins : Sh := (.cons (.box 75 (.cons (.val (.slice .byte)) (.cons (.val (.int .i64)) .nil))) (.cons (.val (.int .i64)) .nil))
def codec_Reader_high.C (N : Nat) : Ctx := ⟨U, 29, fun _ => true, gam [(66, (codec_Reader_take.S N).con)], gamY []⟩
theorem codec_Reader_high.cok (N : Nat) : (codec_Reader_high.C N).Ok Try.prog := ⟨U_ok, GamOk.cons (codec_Reader_take.ok N) (GamOk.nil), GamYOk.nil⟩
def codec_Reader_high.code : Code := Try.f48.body.getD .skip
def codec_Reader_high_0.ins : Sh := (.cons (.val (.int .u64)) (.cons (.val (.slice .byte)) (.cons (.val (.int .i64)) (.cons (.val (.int .i64)) .nil))))
def codec_Reader_high_0.ts : List Tmp := [7, 16, 17, 18]
def codec_Reader_high_0.asg : List Tmp := [7, 9, 18, 19, 20, 21, 22, 23, 24, 25, 26, 27]
def codec_Reader_high_0.C (N : Nat) : Ctx := { codec_Reader_high.C N with may := fun t => codec_Reader_high_0.asg.any (Nat.beq t) }
def codec_Reader_high_0.code : Code := loopBody (sub codec_Reader_high.code [true, true, true, false, true, false])
theorem codec_Reader_high_0.cok (N : Nat) : (codec_Reader_high_0.C N).Ok Try.prog := ⟨(codec_Reader_high.cok N).U, (codec_Reader_high.cok N).Γ, (codec_Reader_high.cok N).Y⟩
def codec_Reader_high_0.alts : List Alt := [⟨(.exit 0), [7], (.cons (.val (.int .u64)) .nil)⟩]
def codec_Reader_high_0.go (N : Nat) : Nat → Int → (List UInt8) → Int → Int → Option ((Int × Unit))
  | 0, _, _, _, _ => none
  | fuel + 1, n_, t16, t17, t18 =>
    bif decide (t18 < t17) then
      bif inB t18 t16.length then
        codec_Reader_high_0.go N fuel (IntKind.u64.wrap ((BitVec.ofInt 64 (IntKind.u64.wrap (n_ * (256 : Int))) ||| BitVec.ofInt 64 (IntKind.u64.wrap ((t16.getD t18.toNat (0 : UInt8)).toNat : Int))).toNat : Int)) t16 t17 (IntKind.i64.wrap (t18 + (1 : Int)))
      else none
    else some (n_, ())
def codec_Reader_high_0.g (N n : Nat) (x : Sh.den codec_Reader_high_0.ins) : Option (altsDen codec_Reader_high_0.alts) := codec_Reader_high_0.go N n x.1 x.2.1 x.2.2.1 x.2.2.2.1
def codec_Reader_high_0.P (N : Nat) : Ps := ⟨codec_Reader_high_0.ts, codec_Reader_high_0.ins, codec_Reader_high_0.asg, codec_Reader_high_0.alts, codec_Reader_high_0.g N N⟩
def codec_Reader_high_0.lam (N : Nat) : Pcs := pcs []
theorem codec_Reader_high_0.pok (N : Nat) : (codec_Reader_high_0.lam N).Ok Try.prog (codec_Reader_high_0.C N) codec_Reader_high_0.code := pcsOk_nil
theorem codec_Reader_high_0.ev (N n : Nat) (x : Sh.den codec_Reader_high_0.ins) : evC (codec_Reader_high_0.C N) codec_Reader_high_0.code (codec_Reader_high_0.lam N) ((codec_Reader_high_0.P N).canon 1000 x) (loopK (codec_Reader_high_0.P N) (codec_Reader_high_0.g N n)) = codec_Reader_high_0.g N (n + 1) x := by kernel_rfl
theorem codec_Reader_high_0.ok (N : Nat) : ((codec_Reader_high_0.P N).pc (codec_Reader_high.C N)).Ok Try.prog (codec_Reader_high.C N) (.loop codec_Reader_high_0.code) := loop_ok (F := codec_Reader_high_0.P N) (n0 := 1000) (N := N) (codec_Reader_high.cok N) mix (codec_Reader_high_0.pok N) (codec_Reader_high_0.g N) (fun x => by rfl) rfl (fun n x y h => (codec_Reader_high_0.ev N n x).trans h)
def codec_Reader_high.outs : Sh := (.cons (.upd 0 75 (.cons (.val (.slice .byte)) (.cons (.val (.int .i64)) .nil))) (.cons (.val (.int .u64)) .nil))
def codec_Reader_high.run (N : Nat) (b : (List UInt8)) (e : Int) (many : Int) : Option (((List UInt8) × Int × Unit) × Int × Unit) :=
  obind (codec_Reader_take.run N b e many) fun ((b1, e1, _), l, b2, _) =>
    obind (codec_Reader_high_0.go N N (0 : Int) l (l.length : Int) (0 : Int)) fun (n_, _) =>
      some ((b1, e1, ()), n_, ())
def codec_Reader_high.fn (N : Nat) (x : Sh.den codec_Reader_high.ins) : Option (Sh.den codec_Reader_high.outs) := codec_Reader_high.run N x.1.1 x.1.2.1 x.2.1
def codec_Reader_high.S (N : Nat) : Fs := ⟨codec_Reader_high.ins, codec_Reader_high.outs, codec_Reader_high.fn N⟩
def codec_Reader_high.lam (N : Nat) : Pcs := pcs [([true, true, true, false, true, false], (codec_Reader_high_0.P N).pc (codec_Reader_high.C N))]
theorem codec_Reader_high.pok (N : Nat) : (codec_Reader_high.lam N).Ok Try.prog (codec_Reader_high.C N) codec_Reader_high.code := pcsOk_cons (c1 := .loop codec_Reader_high_0.code) (by kernel_rfl) (codec_Reader_high_0.ok N) (pcsOk_nil)
theorem codec_Reader_high.ev (N : Nat) (x : Sh.den codec_Reader_high.ins) : evC (codec_Reader_high.C N) codec_Reader_high.code (codec_Reader_high.lam N) ⟨envOf 0 (bld (fun k => k) codec_Reader_high.ins x 0).1, (bld (fun k => k) codec_Reader_high.ins x 0).2.1, 1000⟩ (endF U codec_Reader_high.outs Try.f48.results.toList []) = codec_Reader_high.fn N x := by kernel_rfl
theorem codec_Reader_high.ok (N : Nat) : (codec_Reader_high.S N).con.Ok Try.prog 48 := fn_ok (F := codec_Reader_high.S N) (n0 := 1000) Try.func48 (by kernel_rfl) (show Try.f48.body = some codec_Reader_high.code by rfl) mix (codec_Reader_high.cok N) (fun _ => rfl) (fun _ => rfl) (codec_Reader_high.pok N) (fun x y h => (codec_Reader_high.ev N x).trans h)
/-- (*hayloft/codec.Reader).Var -/
def codec_Reader_Var.ins : Sh := (.cons (.box 75 (.cons (.val (.slice .byte)) (.cons (.val (.int .i64)) .nil))) (.cons (.val (.int .u64)) .nil))
def codec_Reader_Var.C (N : Nat) : Ctx := ⟨U, 52, fun _ => true, gam [(48, (codec_Reader_high.S N).con)], gamY []⟩
theorem codec_Reader_Var.cok (N : Nat) : (codec_Reader_Var.C N).Ok Try.prog := ⟨U_ok, GamOk.cons (codec_Reader_high.ok N) (GamOk.nil), GamYOk.nil⟩
def codec_Reader_Var.code : Code := Try.f17.body.getD .skip
def codec_Reader_Var_0.ins : Sh := (.cons (.box 75 (.cons (.val (.slice .byte)) (.cons (.val (.int .i64)) .nil))) (.cons (.val (.int .u64)) (.cons (.val (.int .u64)) .nil)))
def codec_Reader_Var_0.ts : List Tmp := [0, 6, 7]
def codec_Reader_Var_0.asg : List Tmp := [6, 7, 14, 15, 16, 17, 18, 19, 20, 21, 22, 23, 24, 25, 26]
def codec_Reader_Var_0.C (N : Nat) : Ctx := { codec_Reader_Var.C N with may := fun t => codec_Reader_Var_0.asg.any (Nat.beq t) }
def codec_Reader_Var_0.code : Code := (sub codec_Reader_Var.code [true, true, true, false]).getD .skip
theorem codec_Reader_Var_0.cok (N : Nat) : (codec_Reader_Var_0.C N).Ok Try.prog := ⟨(codec_Reader_Var.cok N).U, (codec_Reader_Var.cok N).Γ, (codec_Reader_Var.cok N).Y⟩
def codec_Reader_Var_0.alts : List Alt := [⟨.normal, [6, 7], (.cons (.upd 0 75 (.cons (.val (.slice .byte)) (.cons (.val (.int .i64)) .nil))) (.cons (.val (.int .u64)) (.cons (.val (.int .u64)) .nil)))⟩]
def codec_Reader_Var_0.run (N : Nat) (b : (List UInt8)) (e : Int) (n_ : Int) (least : Int) : Option ((((List UInt8) × Int × Unit) × Int × Int × Unit)) :=
  bif decide (n_ = (253 : Int)) then
    obind (codec_Reader_high.run N b e (2 : Int)) fun ((b1, e1, _), n1, _) =>
      some ((b1, e1, ()), n1, (253 : Int), ())
  else
    bif decide (n_ = (254 : Int)) then
      obind (codec_Reader_high.run N b e (4 : Int)) fun ((b2, e2, _), n2, _) =>
        some ((b2, e2, ()), n2, (65536 : Int), ())
    else
      bif decide (n_ = (255 : Int)) then
        obind (codec_Reader_high.run N b e (8 : Int)) fun ((b3, e3, _), n3, _) =>
          some ((b3, e3, ()), n3, (4294967296 : Int), ())
      else some ((b, e, ()), n_, least, ())
def codec_Reader_Var_0.fn (N : Nat) (x : Sh.den codec_Reader_Var_0.ins) : Option (altsDen codec_Reader_Var_0.alts) := codec_Reader_Var_0.run N x.1.1 x.1.2.1 x.2.1 x.2.2.1
def codec_Reader_Var_0.P (N : Nat) : Ps := ⟨codec_Reader_Var_0.ts, codec_Reader_Var_0.ins, codec_Reader_Var_0.asg, codec_Reader_Var_0.alts, codec_Reader_Var_0.fn N⟩
def codec_Reader_Var_0.lam (N : Nat) : Pcs := pcs []
theorem codec_Reader_Var_0.pok (N : Nat) : (codec_Reader_Var_0.lam N).Ok Try.prog (codec_Reader_Var_0.C N) codec_Reader_Var_0.code := pcsOk_nil
theorem codec_Reader_Var_0.ev (N : Nat) (x : Sh.den codec_Reader_Var_0.ins) : evC (codec_Reader_Var_0.C N) codec_Reader_Var_0.code (codec_Reader_Var_0.lam N) ((codec_Reader_Var_0.P N).canon 1000 x) (altK (codec_Reader_Var_0.P N).alts) = codec_Reader_Var_0.fn N x := by kernel_rfl
theorem codec_Reader_Var_0.ok (N : Nat) : ((codec_Reader_Var_0.P N).pc (codec_Reader_Var.C N)).Ok Try.prog (codec_Reader_Var.C N) codec_Reader_Var_0.code := ps_ok (F := codec_Reader_Var_0.P N) (n0 := 1000) (codec_Reader_Var.cok N) mix (codec_Reader_Var_0.pok N) (fun x y h => (codec_Reader_Var_0.ev N x).trans h)
def codec_Reader_Var.outs : Sh := (.cons (.upd 0 75 (.cons (.val (.slice .byte)) (.cons (.val (.int .i64)) .nil))) (.cons (.val (.int .u64)) .nil))
def codec_Reader_Var.run (N : Nat) (b : (List UInt8)) (e : Int) (most : Int) : Option (((List UInt8) × Int × Unit) × Int × Unit) :=
  obind (codec_Reader_high.run N b e (1 : Int)) fun ((b1, e1, _), n_, _) =>
    obind (codec_Reader_Var_0.run N b1 e1 n_ (0 : Int)) fun ((b5, e5, _), n4, least, _) =>
      bif !(decide (e5 = (0 : Int))) then
        some ((b, e5, ()), (0 : Int), ())
      else
        bif decide (n4 < least) then
          some ((b, (11 : Int), ()), (0 : Int), ())
        else
          bif decide (n4 > most) then
            some ((b, (12 : Int), ()), (0 : Int), ())
          else some ((b5, e5, ()), n4, ())
def codec_Reader_Var.fn (N : Nat) (x : Sh.den codec_Reader_Var.ins) : Option (Sh.den codec_Reader_Var.outs) := codec_Reader_Var.run N x.1.1 x.1.2.1 x.2.1
def codec_Reader_Var.S (N : Nat) : Fs := ⟨codec_Reader_Var.ins, codec_Reader_Var.outs, codec_Reader_Var.fn N⟩
def codec_Reader_Var.lam (N : Nat) : Pcs := pcs [([true, true, true, false], (codec_Reader_Var_0.P N).pc (codec_Reader_Var.C N))]
theorem codec_Reader_Var.pok (N : Nat) : (codec_Reader_Var.lam N).Ok Try.prog (codec_Reader_Var.C N) codec_Reader_Var.code := pcsOk_cons (c1 := codec_Reader_Var_0.code) (by kernel_rfl) (codec_Reader_Var_0.ok N) (pcsOk_nil)
theorem codec_Reader_Var.ev (N : Nat) (x : Sh.den codec_Reader_Var.ins) : evC (codec_Reader_Var.C N) codec_Reader_Var.code (codec_Reader_Var.lam N) ⟨envOf 0 (bld (fun k => k) codec_Reader_Var.ins x 0).1, (bld (fun k => k) codec_Reader_Var.ins x 0).2.1, 1000⟩ (endF U codec_Reader_Var.outs Try.f17.results.toList []) = codec_Reader_Var.fn N x := by kernel_rfl
theorem codec_Reader_Var.ok (N : Nat) : (codec_Reader_Var.S N).con.Ok Try.prog 17 := fn_ok (F := codec_Reader_Var.S N) (n0 := 1000) Try.func17 (by kernel_rfl) (show Try.f17.body = some codec_Reader_Var.code by rfl) mix (codec_Reader_Var.cok N) (fun _ => rfl) (fun _ => rfl) (codec_Reader_Var.pok N) (fun x y h => (codec_Reader_Var.ev N x).trans h)
/-- (*hayloft/codec.Reader).room -/
def codec_Reader_room.ins : Sh := (.cons (.box 75 (.cons (.val (.slice .byte)) (.cons (.val (.int .i64)) .nil))) (.cons (.val (.int .i64)) .nil))
def codec_Reader_room.C (N : Nat) : Ctx := ⟨U, 33, fun _ => true, gam [(17, (codec_Reader_Var.S N).con)], gamY []⟩
theorem codec_Reader_room.cok (N : Nat) : (codec_Reader_room.C N).Ok Try.prog := ⟨U_ok, GamOk.cons (codec_Reader_Var.ok N) (GamOk.nil), GamYOk.nil⟩
def codec_Reader_room.code : Code := Try.f64.body.getD .skip
def codec_Reader_room.outs : Sh := (.cons (.upd 0 75 (.cons (.val (.slice .byte)) (.cons (.val (.int .i64)) .nil))) (.cons (.val (.int .u64)) .nil))
def codec_Reader_room.run (N : Nat) (b : (List UInt8)) (e : Int) (most : Int) : Option (((List UInt8) × Int × Unit) × Int × Unit) :=
  obind (codec_Reader_Var.run N b e (IntKind.u64.wrap (max most (0 : Int)))) fun ((b1, e1, _), n_, _) =>
    bif decide (most < (0 : Int)) then
      bif decide (e1 = (0 : Int)) then
        some ((b, (12 : Int), ()), (0 : Int), ())
      else some ((b1, e1, ()), n_, ())
    else some ((b1, e1, ()), n_, ())
def codec_Reader_room.fn (N : Nat) (x : Sh.den codec_Reader_room.ins) : Option (Sh.den codec_Reader_room.outs) := codec_Reader_room.run N x.1.1 x.1.2.1 x.2.1
def codec_Reader_room.S (N : Nat) : Fs := ⟨codec_Reader_room.ins, codec_Reader_room.outs, codec_Reader_room.fn N⟩
def codec_Reader_room.lam (N : Nat) : Pcs := pcs []
theorem codec_Reader_room.pok (N : Nat) : (codec_Reader_room.lam N).Ok Try.prog (codec_Reader_room.C N) codec_Reader_room.code := pcsOk_nil
theorem codec_Reader_room.ev (N : Nat) (x : Sh.den codec_Reader_room.ins) : evC (codec_Reader_room.C N) codec_Reader_room.code (codec_Reader_room.lam N) ⟨envOf 0 (bld (fun k => k) codec_Reader_room.ins x 0).1, (bld (fun k => k) codec_Reader_room.ins x 0).2.1, 1000⟩ (endF U codec_Reader_room.outs Try.f64.results.toList []) = codec_Reader_room.fn N x := by kernel_rfl
theorem codec_Reader_room.ok (N : Nat) : (codec_Reader_room.S N).con.Ok Try.prog 64 := fn_ok (F := codec_Reader_room.S N) (n0 := 1000) Try.func64 (by kernel_rfl) (show Try.f64.body = some codec_Reader_room.code by rfl) mix (codec_Reader_room.cok N) (fun _ => rfl) (fun _ => rfl) (codec_Reader_room.pok N) (fun x y h => (codec_Reader_room.ev N x).trans h)
/-- (*hayloft/codec.Reader).Fail -/
def codec_Reader_Fail.ins : Sh := (.cons (.box 75 (.cons (.val (.slice .byte)) (.cons (.val (.int .i64)) .nil))) (.cons (.val (.int .i64)) .nil))
def codec_Reader_Fail.C (N : Nat) : Ctx := ⟨U, 13, fun _ => true, gam [], gamY []⟩
theorem codec_Reader_Fail.cok (N : Nat) : (codec_Reader_Fail.C N).Ok Try.prog := ⟨U_ok, GamOk.nil, GamYOk.nil⟩
def codec_Reader_Fail.code : Code := Try.f62.body.getD .skip
def codec_Reader_Fail.outs : Sh := (.cons (.upd 0 75 (.cons (.val (.slice .byte)) (.cons (.val (.int .i64)) .nil))) .nil)
def codec_Reader_Fail.run (N : Nat) (b : (List UInt8)) (e : Int) (e1 : Int) : Option (((List UInt8) × Int × Unit) × Unit) :=
  bif decide (e = (0 : Int)) then
    some ((b, e1, ()), ())
  else some ((b, e, ()), ())
def codec_Reader_Fail.fn (N : Nat) (x : Sh.den codec_Reader_Fail.ins) : Option (Sh.den codec_Reader_Fail.outs) := codec_Reader_Fail.run N x.1.1 x.1.2.1 x.2.1
def codec_Reader_Fail.S (N : Nat) : Fs := ⟨codec_Reader_Fail.ins, codec_Reader_Fail.outs, codec_Reader_Fail.fn N⟩
def codec_Reader_Fail.lam (N : Nat) : Pcs := pcs []
theorem codec_Reader_Fail.pok (N : Nat) : (codec_Reader_Fail.lam N).Ok Try.prog (codec_Reader_Fail.C N) codec_Reader_Fail.code := pcsOk_nil
theorem codec_Reader_Fail.ev (N : Nat) (x : Sh.den codec_Reader_Fail.ins) : evC (codec_Reader_Fail.C N) codec_Reader_Fail.code (codec_Reader_Fail.lam N) ⟨envOf 0 (bld (fun k => k) codec_Reader_Fail.ins x 0).1, (bld (fun k => k) codec_Reader_Fail.ins x 0).2.1, 1000⟩ (endF U codec_Reader_Fail.outs Try.f62.results.toList []) = codec_Reader_Fail.fn N x := by kernel_rfl
theorem codec_Reader_Fail.ok (N : Nat) : (codec_Reader_Fail.S N).con.Ok Try.prog 62 := fn_ok (F := codec_Reader_Fail.S N) (n0 := 1000) Try.func62 (by kernel_rfl) (show Try.f62.body = some codec_Reader_Fail.code by rfl) mix (codec_Reader_Fail.cok N) (fun _ => rfl) (fun _ => rfl) (codec_Reader_Fail.pok N) (fun x y h => (codec_Reader_Fail.ev N x).trans h)
/-- (*hayloft/codec.Reader).Raw -/
def codec_Reader_Raw.ins : Sh := (.cons (.box 75 (.cons (.val (.slice .byte)) (.cons (.val (.int .i64)) .nil))) (.cons (.val (.int .i64)) .nil))
def codec_Reader_Raw.C (N : Nat) : Ctx := ⟨U, 19, fun _ => true, gam [(62, (codec_Reader_Fail.S N).con), (66, (codec_Reader_take.S N).con), (44, (slices_Clone_byte_byte.S N).con)], gamY []⟩
theorem codec_Reader_Raw.cok (N : Nat) : (codec_Reader_Raw.C N).Ok Try.prog := ⟨U_ok, GamOk.cons (codec_Reader_Fail.ok N) (GamOk.cons (codec_Reader_take.ok N) (GamOk.cons (slices_Clone_byte_byte.ok N) (GamOk.nil))), GamYOk.nil⟩
def codec_Reader_Raw.code : Code := Try.f60.body.getD .skip
def codec_Reader_Raw.outs : Sh := (.cons (.upd 0 75 (.cons (.val (.slice .byte)) (.cons (.val (.int .i64)) .nil))) (.cons (.own 5 .byte) .nil))
def codec_Reader_Raw.run (N : Nat) (b : (List UInt8)) (e : Int) (n_ : Int) : Option (((List UInt8) × Int × Unit) × (List UInt8) × Unit) :=
  bif decide (n_ < (0 : Int)) then
    obind (codec_Reader_Fail.run N b e (12 : Int)) fun ((b1, e1, _), _) =>
      some ((b1, e1, ()), ([] : List UInt8), ())
  else
    obind (codec_Reader_take.run N b e n_) fun ((b2, e2, _), l, b3, _) =>
      obind (slices_Clone_byte_byte.run N l) fun (l1, _) =>
        some ((b2, e2, ()), l1, ())
def codec_Reader_Raw.fn (N : Nat) (x : Sh.den codec_Reader_Raw.ins) : Option (Sh.den codec_Reader_Raw.outs) := codec_Reader_Raw.run N x.1.1 x.1.2.1 x.2.1
def codec_Reader_Raw.S (N : Nat) : Fs := ⟨codec_Reader_Raw.ins, codec_Reader_Raw.outs, codec_Reader_Raw.fn N⟩
def codec_Reader_Raw.lam (N : Nat) : Pcs := pcs []
theorem codec_Reader_Raw.pok (N : Nat) : (codec_Reader_Raw.lam N).Ok Try.prog (codec_Reader_Raw.C N) codec_Reader_Raw.code := pcsOk_nil
theorem codec_Reader_Raw.ev (N : Nat) (x : Sh.den codec_Reader_Raw.ins) : evC (codec_Reader_Raw.C N) codec_Reader_Raw.code (codec_Reader_Raw.lam N) ⟨envOf 0 (bld (fun k => k) codec_Reader_Raw.ins x 0).1, (bld (fun k => k) codec_Reader_Raw.ins x 0).2.1, 1000⟩ (endF U codec_Reader_Raw.outs Try.f60.results.toList []) = codec_Reader_Raw.fn N x := by kernel_rfl
theorem codec_Reader_Raw.ok (N : Nat) : (codec_Reader_Raw.S N).con.Ok Try.prog 60 := fn_ok (F := codec_Reader_Raw.S N) (n0 := 1000) Try.func60 (by kernel_rfl) (show Try.f60.body = some codec_Reader_Raw.code by rfl) mix (codec_Reader_Raw.cok N) (fun _ => rfl) (fun _ => rfl) (codec_Reader_Raw.pok N) (fun x y h => (codec_Reader_Raw.ev N x).trans h)
/-- (*hayloft/codec.Reader).Text -/
def codec_Reader_Text.ins : Sh := (.cons (.box 75 (.cons (.val (.slice .byte)) (.cons (.val (.int .i64)) .nil))) (.cons (.val (.int .i64)) .nil))
def codec_Reader_Text.C (N : Nat) : Ctx := ⟨U, 40, fun _ => true, gam [(64, (codec_Reader_room.S N).con), (60, (codec_Reader_Raw.S N).con)], gamY []⟩
theorem codec_Reader_Text.cok (N : Nat) : (codec_Reader_Text.C N).Ok Try.prog := ⟨U_ok, GamOk.cons (codec_Reader_room.ok N) (GamOk.cons (codec_Reader_Raw.ok N) (GamOk.nil)), GamYOk.nil⟩
def codec_Reader_Text.code : Code := Try.f46.body.getD .skip
def codec_Reader_Text.outs : Sh := (.cons (.upd 0 75 (.cons (.val (.slice .byte)) (.cons (.val (.int .i64)) .nil))) (.cons (.own 5 .byte) .nil))
def codec_Reader_Text.run (N : Nat) (b : (List UInt8)) (e : Int) (most : Int) : Option (((List UInt8) × Int × Unit) × (List UInt8) × Unit) :=
  obind (codec_Reader_room.run N b e most) fun ((b1, e1, _), n_, _) =>
    bif decide (e1 = (0 : Int)) then
      bif decide (n_ > (IntKind.u64.wrap (b1.length : Int))) then
        obind (codec_Reader_Raw.run N b (10 : Int) (IntKind.i64.wrap n_)) fun ((b2, e2, _), l, _) =>
          some ((b2, e2, ()), l, ())
      else
        obind (codec_Reader_Raw.run N b1 e1 (IntKind.i64.wrap n_)) fun ((b3, e3, _), l1, _) =>
          some ((b3, e3, ()), l1, ())
    else
      obind (codec_Reader_Raw.run N b1 e1 (IntKind.i64.wrap n_)) fun ((b4, e4, _), l2, _) =>
        some ((b4, e4, ()), l2, ())
def codec_Reader_Text.fn (N : Nat) (x : Sh.den codec_Reader_Text.ins) : Option (Sh.den codec_Reader_Text.outs) := codec_Reader_Text.run N x.1.1 x.1.2.1 x.2.1
def codec_Reader_Text.S (N : Nat) : Fs := ⟨codec_Reader_Text.ins, codec_Reader_Text.outs, codec_Reader_Text.fn N⟩
def codec_Reader_Text.lam (N : Nat) : Pcs := pcs []
theorem codec_Reader_Text.pok (N : Nat) : (codec_Reader_Text.lam N).Ok Try.prog (codec_Reader_Text.C N) codec_Reader_Text.code := pcsOk_nil
theorem codec_Reader_Text.ev (N : Nat) (x : Sh.den codec_Reader_Text.ins) : evC (codec_Reader_Text.C N) codec_Reader_Text.code (codec_Reader_Text.lam N) ⟨envOf 0 (bld (fun k => k) codec_Reader_Text.ins x 0).1, (bld (fun k => k) codec_Reader_Text.ins x 0).2.1, 1000⟩ (endF U codec_Reader_Text.outs Try.f46.results.toList []) = codec_Reader_Text.fn N x := by kernel_rfl
theorem codec_Reader_Text.ok (N : Nat) : (codec_Reader_Text.S N).con.Ok Try.prog 46 := fn_ok (F := codec_Reader_Text.S N) (n0 := 1000) Try.func46 (by kernel_rfl) (show Try.f46.body = some codec_Reader_Text.code by rfl) mix (codec_Reader_Text.cok N) (fun _ => rfl) (fun _ => rfl) (codec_Reader_Text.pok N) (fun x y h => (codec_Reader_Text.ev N x).trans h)
/-- hayloft/hayloftlaw01.same -/
def law_same_b.ins : Sh := (.cons (.rown 5 .byte) (.cons (.val (.slice .byte)) .nil))
def law_same_b.C (N : Nat) : Ctx := ⟨U, 10, fun _ => true, gam [], gamY []⟩
theorem law_same_b.cok (N : Nat) : (law_same_b.C N).Ok Try.prog := ⟨U_ok, GamOk.nil, GamYOk.nil⟩
def law_same_b.code : Code := Try.f21.body.getD .skip
def law_same_b.outs : Sh := (.cons (.val .bool) .nil)
def law_same_b.run (N : Nat) (a : (List UInt8)) (b : (List UInt8)) : Option (Bool × Unit) :=
  some (decide (a = b), ())
def law_same_b.fn (N : Nat) (x : Sh.den law_same_b.ins) : Option (Sh.den law_same_b.outs) := law_same_b.run N x.1 x.2.1
def law_same_b.S (N : Nat) : Fs := ⟨law_same_b.ins, law_same_b.outs, law_same_b.fn N⟩
def law_same_b.lam (N : Nat) : Pcs := pcs []
theorem law_same_b.pok (N : Nat) : (law_same_b.lam N).Ok Try.prog (law_same_b.C N) law_same_b.code := pcsOk_nil
theorem law_same_b.ev (N : Nat) (x : Sh.den law_same_b.ins) : evC (law_same_b.C N) law_same_b.code (law_same_b.lam N) ⟨envOf 0 (bld (fun k => k) law_same_b.ins x 0).1, (bld (fun k => k) law_same_b.ins x 0).2.1, 1000⟩ (endF U law_same_b.outs Try.f21.results.toList []) = law_same_b.fn N x := by kernel_rfl
theorem law_same_b.ok (N : Nat) : (law_same_b.S N).con.Ok Try.prog 21 := fn_ok (F := law_same_b.S N) (n0 := 1000) Try.func21 (by kernel_rfl) (show Try.f21.body = some law_same_b.code by rfl) mix (law_same_b.cok N) (fun _ => rfl) (fun _ => rfl) (law_same_b.pok N) (fun x y h => (law_same_b.ev N x).trans h)
/-- (*hayloft/codec.Reader).Left -/
def codec_Reader_Left.ins : Sh := (.cons (.rbox 75 (.cons (.val (.slice .byte)) (.cons (.val (.int .i64)) .nil))) .nil)
def codec_Reader_Left.C (N : Nat) : Ctx := ⟨U, 8, fun _ => true, gam [], gamY []⟩
theorem codec_Reader_Left.cok (N : Nat) : (codec_Reader_Left.C N).Ok Try.prog := ⟨U_ok, GamOk.nil, GamYOk.nil⟩
def codec_Reader_Left.code : Code := Try.f19.body.getD .skip
def codec_Reader_Left.outs : Sh := (.cons (.val (.int .i64)) .nil)
def codec_Reader_Left.run (N : Nat) (b : (List UInt8)) (e : Int) : Option (Int × Unit) :=
  some ((b.length : Int), ())
def codec_Reader_Left.fn (N : Nat) (x : Sh.den codec_Reader_Left.ins) : Option (Sh.den codec_Reader_Left.outs) := codec_Reader_Left.run N x.1.1 x.1.2.1
def codec_Reader_Left.S (N : Nat) : Fs := ⟨codec_Reader_Left.ins, codec_Reader_Left.outs, codec_Reader_Left.fn N⟩
def codec_Reader_Left.lam (N : Nat) : Pcs := pcs []
theorem codec_Reader_Left.pok (N : Nat) : (codec_Reader_Left.lam N).Ok Try.prog (codec_Reader_Left.C N) codec_Reader_Left.code := pcsOk_nil
theorem codec_Reader_Left.ev (N : Nat) (x : Sh.den codec_Reader_Left.ins) : evC (codec_Reader_Left.C N) codec_Reader_Left.code (codec_Reader_Left.lam N) ⟨envOf 0 (bld (fun k => k) codec_Reader_Left.ins x 0).1, (bld (fun k => k) codec_Reader_Left.ins x 0).2.1, 1000⟩ (endF U codec_Reader_Left.outs Try.f19.results.toList []) = codec_Reader_Left.fn N x := by kernel_rfl
theorem codec_Reader_Left.ok (N : Nat) : (codec_Reader_Left.S N).con.Ok Try.prog 19 := fn_ok (F := codec_Reader_Left.S N) (n0 := 1000) Try.func19 (by kernel_rfl) (show Try.f19.body = some codec_Reader_Left.code by rfl) mix (codec_Reader_Left.cok N) (fun _ => rfl) (fun _ => rfl) (codec_Reader_Left.pok N) (fun x y h => (codec_Reader_Left.ev N x).trans h)
/-- (*hayloft/codec.Reader).End -/
def codec_Reader_End.ins : Sh := (.cons (.rbox 75 (.cons (.val (.slice .byte)) (.cons (.val (.int .i64)) .nil))) .nil)
def codec_Reader_End.C (N : Nat) : Ctx := ⟨U, 20, fun _ => true, gam [], gamY []⟩
theorem codec_Reader_End.cok (N : Nat) : (codec_Reader_End.C N).Ok Try.prog := ⟨U_ok, GamOk.nil, GamYOk.nil⟩
def codec_Reader_End.code : Code := Try.f27.body.getD .skip
def codec_Reader_End.outs : Sh := (.cons (.val (.int .i64)) .nil)
def codec_Reader_End.run (N : Nat) (b : (List UInt8)) (e : Int) : Option (Int × Unit) :=
  bif decide (e = (0 : Int)) then
    bif decide ((b.length : Int) > (0 : Int)) then
      some ((13 : Int), ())
    else some (e, ())
  else some (e, ())
def codec_Reader_End.fn (N : Nat) (x : Sh.den codec_Reader_End.ins) : Option (Sh.den codec_Reader_End.outs) := codec_Reader_End.run N x.1.1 x.1.2.1
def codec_Reader_End.S (N : Nat) : Fs := ⟨codec_Reader_End.ins, codec_Reader_End.outs, codec_Reader_End.fn N⟩
def codec_Reader_End.lam (N : Nat) : Pcs := pcs []
theorem codec_Reader_End.pok (N : Nat) : (codec_Reader_End.lam N).Ok Try.prog (codec_Reader_End.C N) codec_Reader_End.code := pcsOk_nil
theorem codec_Reader_End.ev (N : Nat) (x : Sh.den codec_Reader_End.ins) : evC (codec_Reader_End.C N) codec_Reader_End.code (codec_Reader_End.lam N) ⟨envOf 0 (bld (fun k => k) codec_Reader_End.ins x 0).1, (bld (fun k => k) codec_Reader_End.ins x 0).2.1, 1000⟩ (endF U codec_Reader_End.outs Try.f27.results.toList []) = codec_Reader_End.fn N x := by kernel_rfl
theorem codec_Reader_End.ok (N : Nat) : (codec_Reader_End.S N).con.Ok Try.prog 27 := fn_ok (F := codec_Reader_End.S N) (n0 := 1000) Try.func27 (by kernel_rfl) (show Try.f27.body = some codec_Reader_End.code by rfl) mix (codec_Reader_End.cok N) (fun _ => rfl) (fun _ => rfl) (codec_Reader_End.pok N) (fun x y h => (codec_Reader_End.ev N x).trans h)
/-- (*hayloft/codec.Reader).Byte -/
def codec_Reader_Byte.ins : Sh := (.cons (.box 75 (.cons (.val (.slice .byte)) (.cons (.val (.int .i64)) .nil))) .nil)
def codec_Reader_Byte.C (N : Nat) : Ctx := ⟨U, 6, fun _ => true, gam [(48, (codec_Reader_high.S N).con)], gamY []⟩
theorem codec_Reader_Byte.cok (N : Nat) : (codec_Reader_Byte.C N).Ok Try.prog := ⟨U_ok, GamOk.cons (codec_Reader_high.ok N) (GamOk.nil), GamYOk.nil⟩
def codec_Reader_Byte.code : Code := Try.f47.body.getD .skip
def codec_Reader_Byte.outs : Sh := (.cons (.upd 0 75 (.cons (.val (.slice .byte)) (.cons (.val (.int .i64)) .nil))) (.cons (.val .byte) .nil))
def codec_Reader_Byte.run (N : Nat) (b : (List UInt8)) (e : Int) : Option (((List UInt8) × Int × Unit) × UInt8 × Unit) :=
  obind (codec_Reader_high.run N b e (1 : Int)) fun ((b1, e1, _), n_, _) =>
    some ((b1, e1, ()), Hay.u8 (IntKind.u8.wrap n_), ())
def codec_Reader_Byte.fn (N : Nat) (x : Sh.den codec_Reader_Byte.ins) : Option (Sh.den codec_Reader_Byte.outs) := codec_Reader_Byte.run N x.1.1 x.1.2.1
def codec_Reader_Byte.S (N : Nat) : Fs := ⟨codec_Reader_Byte.ins, codec_Reader_Byte.outs, codec_Reader_Byte.fn N⟩
def codec_Reader_Byte.lam (N : Nat) : Pcs := pcs []
theorem codec_Reader_Byte.pok (N : Nat) : (codec_Reader_Byte.lam N).Ok Try.prog (codec_Reader_Byte.C N) codec_Reader_Byte.code := pcsOk_nil
theorem codec_Reader_Byte.ev (N : Nat) (x : Sh.den codec_Reader_Byte.ins) : evC (codec_Reader_Byte.C N) codec_Reader_Byte.code (codec_Reader_Byte.lam N) ⟨envOf 0 (bld (fun k => k) codec_Reader_Byte.ins x 0).1, (bld (fun k => k) codec_Reader_Byte.ins x 0).2.1, 1000⟩ (endF U codec_Reader_Byte.outs Try.f47.results.toList []) = codec_Reader_Byte.fn N x := by kernel_rfl
theorem codec_Reader_Byte.ok (N : Nat) : (codec_Reader_Byte.S N).con.Ok Try.prog 47 := fn_ok (F := codec_Reader_Byte.S N) (n0 := 1000) Try.func47 (by kernel_rfl) (show Try.f47.body = some codec_Reader_Byte.code by rfl) mix (codec_Reader_Byte.cok N) (fun _ => rfl) (fun _ => rfl) (codec_Reader_Byte.pok N) (fun x y h => (codec_Reader_Byte.ev N x).trans h)
/-- hayloft/hayloftlaw01.alive -/
def law_alive.ins : Sh := .nil
def law_alive.C (N : Nat) : Ctx := ⟨U, 62, fun _ => true, gam [(15, (codec_New.S N).con), (20, (codec_Writer_Var.S N).con), (45, (codec_Writer_Text.S N).con), (14, (codec_Read_b.S N).con), (22, (codec_Writer_Bytes.S N).con), (21, (((law_same.S N).con).or (law_same_b.S N).con)), (25, (codec_Writer_Len.S N).con), (17, (codec_Reader_Var.S N).con), (46, (codec_Reader_Text.S N).con), (19, (codec_Reader_Left.S N).con), (27, (codec_Reader_End.S N).con), (47, (codec_Reader_Byte.S N).con)], gamY []⟩
theorem law_alive.cok (N : Nat) : (law_alive.C N).Ok Try.prog := ⟨U_ok, GamOk.cons (codec_New.ok N) (GamOk.cons (codec_Writer_Var.ok N) (GamOk.cons (codec_Writer_Text.ok N) (GamOk.cons (codec_Read_b.ok N) (GamOk.cons (codec_Writer_Bytes.ok N) (GamOk.cons (Con.or_ok (law_same.ok N) (law_same_b.ok N)) (GamOk.cons (codec_Writer_Len.ok N) (GamOk.cons (codec_Reader_Var.ok N) (GamOk.cons (codec_Reader_Text.ok N) (GamOk.cons (codec_Reader_Left.ok N) (GamOk.cons (codec_Reader_End.ok N) (GamOk.cons (codec_Reader_Byte.ok N) (GamOk.nil)))))))))))), GamYOk.nil⟩
def law_alive.code : Code := Try.f16.body.getD .skip
def law_alive.outs : Sh := (.cons (.val .bool) .nil)
def law_alive.run (N : Nat)  : Option (Bool × Unit) :=
  obind (codec_New.run N) fun ((b, _), _) =>
    obind (codec_Writer_Var.run N b (253 : Int)) fun ((b1, _), _) =>
      obind (codec_Writer_Text.run N b1 ([(97 : UInt8), (98 : UInt8)] : List UInt8)) fun ((b2, _), _) =>
        obind (codec_Read_b.run N ([(253 : UInt8), (0 : UInt8), (253 : UInt8), (2 : UInt8), (97 : UInt8), (98 : UInt8), (9 : UInt8)] : List UInt8)) fun ((b3, e, _), _) =>
          obind (codec_Writer_Bytes.run N b2) fun (l, _) =>
            obind (law_same.run N l ([(253 : UInt8), (0 : UInt8), (253 : UInt8), (2 : UInt8), (97 : UInt8), (98 : UInt8)] : List UInt8)) fun (b4, _) =>
              bif !b4 then
                some (false, ())
              else
                obind (codec_Writer_Len.run N b2) fun (n_, _) =>
                  bif !(decide (n_ = (6 : Int))) then
                    some (false, ())
                  else
                    obind (codec_Reader_Var.run N b3 e (1000 : Int)) fun ((b5, e1, _), n1, _) =>
                      obind (codec_Reader_Text.run N b5 e1 (2 : Int)) fun ((b6, e2, _), l1, _) =>
                        bif decide (n1 = (253 : Int)) then
                          obind (law_same_b.run N l1 ([(97 : UInt8), (98 : UInt8)] : List UInt8)) fun (b7, _) =>
                            bif b7 then
                              obind (codec_Reader_Left.run N b6 e2) fun (n2, _) =>
                                bif decide (n2 = (1 : Int)) then
                                  obind (codec_Reader_End.run N b6 e2) fun (n3, _) =>
                                    bif decide (n3 = (13 : Int)) then
                                      obind (codec_Reader_Byte.run N b6 e2) fun ((b8, e3, _), n4, _) =>
                                        bif decide ((n4.toNat : Int) = (9 : Int)) then
                                          obind (codec_Reader_End.run N b8 e3) fun (n5, _) =>
                                            some (decide (n5 = (0 : Int)), ())
                                        else some (false, ())
                                    else some (false, ())
                                else some (false, ())
                            else some (false, ())
                        else some (false, ())
def law_alive.fn (N : Nat) (x : Sh.den law_alive.ins) : Option (Sh.den law_alive.outs) := law_alive.run N 
def law_alive.S (N : Nat) : Fs := ⟨law_alive.ins, law_alive.outs, law_alive.fn N⟩
def law_alive.lam (N : Nat) : Pcs := pcs []
theorem law_alive.pok (N : Nat) : (law_alive.lam N).Ok Try.prog (law_alive.C N) law_alive.code := pcsOk_nil
theorem law_alive.ev (N : Nat) (x : Sh.den law_alive.ins) : evC (law_alive.C N) law_alive.code (law_alive.lam N) ⟨envOf 0 (bld (fun k => k) law_alive.ins x 0).1, (bld (fun k => k) law_alive.ins x 0).2.1, 1000⟩ (endF U law_alive.outs Try.f16.results.toList []) = law_alive.fn N x := by kernel_rfl
theorem law_alive.ok (N : Nat) : (law_alive.S N).con.Ok Try.prog 16 := fn_ok (F := law_alive.S N) (n0 := 1000) Try.func16 (by kernel_rfl) (show Try.f16.body = some law_alive.code by rfl) mix (law_alive.cok N) (fun _ => rfl) (fun _ => rfl) (law_alive.pok N) (fun x y h => (law_alive.ev N x).trans h)
/-- (*hayloft/codec.Reader).Err -/
def codec_Reader_Err.ins : Sh := (.cons (.rbox 75 (.cons (.val (.slice .byte)) (.cons (.val (.int .i64)) .nil))) .nil)
def codec_Reader_Err.C (N : Nat) : Ctx := ⟨U, 7, fun _ => true, gam [], gamY []⟩
theorem codec_Reader_Err.cok (N : Nat) : (codec_Reader_Err.C N).Ok Try.prog := ⟨U_ok, GamOk.nil, GamYOk.nil⟩
def codec_Reader_Err.code : Code := Try.f18.body.getD .skip
def codec_Reader_Err.outs : Sh := (.cons (.val (.int .i64)) .nil)
def codec_Reader_Err.run (N : Nat) (b : (List UInt8)) (e : Int) : Option (Int × Unit) :=
  some (e, ())
def codec_Reader_Err.fn (N : Nat) (x : Sh.den codec_Reader_Err.ins) : Option (Sh.den codec_Reader_Err.outs) := codec_Reader_Err.run N x.1.1 x.1.2.1
def codec_Reader_Err.S (N : Nat) : Fs := ⟨codec_Reader_Err.ins, codec_Reader_Err.outs, codec_Reader_Err.fn N⟩
def codec_Reader_Err.lam (N : Nat) : Pcs := pcs []
theorem codec_Reader_Err.pok (N : Nat) : (codec_Reader_Err.lam N).Ok Try.prog (codec_Reader_Err.C N) codec_Reader_Err.code := pcsOk_nil
theorem codec_Reader_Err.ev (N : Nat) (x : Sh.den codec_Reader_Err.ins) : evC (codec_Reader_Err.C N) codec_Reader_Err.code (codec_Reader_Err.lam N) ⟨envOf 0 (bld (fun k => k) codec_Reader_Err.ins x 0).1, (bld (fun k => k) codec_Reader_Err.ins x 0).2.1, 1000⟩ (endF U codec_Reader_Err.outs Try.f18.results.toList []) = codec_Reader_Err.fn N x := by kernel_rfl
theorem codec_Reader_Err.ok (N : Nat) : (codec_Reader_Err.S N).con.Ok Try.prog 18 := fn_ok (F := codec_Reader_Err.S N) (n0 := 1000) Try.func18 (by kernel_rfl) (show Try.f18.body = some codec_Reader_Err.code by rfl) mix (codec_Reader_Err.cok N) (fun _ => rfl) (fun _ => rfl) (codec_Reader_Err.pok N) (fun x y h => (codec_Reader_Err.ev N x).trans h)
/-- hayloft/hayloftlaw01.CodecVars -/
def law_CodecVars.ins : Sh := (.cons (.val (.slice .byte)) (.cons (.val (.int .u64)) .nil))
def law_CodecVars.C (N : Nat) : Ctx := ⟨U, 54, fun _ => true, gam [(14, (codec_Read.S N).con), (15, (codec_New.S N).con), (16, (law_alive.S N).con), (17, (codec_Reader_Var.S N).con), (18, (codec_Reader_Err.S N).con), (19, (codec_Reader_Left.S N).con), (20, (codec_Writer_Var.S N).con), (22, (codec_Writer_Bytes.S N).con), (21, (law_same_b.S N).con)], gamY []⟩
theorem law_CodecVars.cok (N : Nat) : (law_CodecVars.C N).Ok Try.prog := ⟨U_ok, GamOk.cons (codec_Read.ok N) (GamOk.cons (codec_New.ok N) (GamOk.cons (law_alive.ok N) (GamOk.cons (codec_Reader_Var.ok N) (GamOk.cons (codec_Reader_Err.ok N) (GamOk.cons (codec_Reader_Left.ok N) (GamOk.cons (codec_Writer_Var.ok N) (GamOk.cons (codec_Writer_Bytes.ok N) (GamOk.cons (law_same_b.ok N) (GamOk.nil))))))))), GamYOk.nil⟩
def law_CodecVars.code : Code := Try.f3.body.getD .skip
def law_CodecVars.outs : Sh := (.cons (.val .bool) .nil)
def law_CodecVars.run (N : Nat) (b : (List UInt8)) (most : Int) : Option (Bool × Unit) :=
  obind (codec_Read.run N b) fun ((b1, e, _), _) =>
    obind (codec_New.run N) fun ((b2, _), _) =>
      obind (law_alive.run N) fun (b3, _) =>
        bif !b3 then
          some (false, ())
        else
          obind (codec_Reader_Var.run N b1 e most) fun ((b4, e1, _), n_, _) =>
            obind (codec_Reader_Err.run N b4 e1) fun (n1, _) =>
              bif !(decide (n1 = (0 : Int))) then
                bif decide (n_ = (0 : Int)) then
                  obind (codec_Reader_Left.run N b4 e1) fun (n2, _) =>
                    some (decide (n2 = (b.length : Int)), ())
                else some (false, ())
              else
                obind (codec_Writer_Var.run N b2 n_) fun ((b5, _), _) =>
                  bif decide (n_ ≤ most) then
                    obind (codec_Writer_Bytes.run N b5) fun (l, _) =>
                      obind (codec_Reader_Left.run N b4 e1) fun (n3, _) =>
                        bif okB (0 : Int) (IntKind.i64.wrap ((b.length : Int) - n3)) b.length then
                          obind (law_same_b.run N l (b.take (IntKind.i64.wrap ((b.length : Int) - n3)).toNat)) fun (b6, _) =>
                            some (b6, ())
                        else none
                  else some (false, ())
def law_CodecVars.fn (N : Nat) (x : Sh.den law_CodecVars.ins) : Option (Sh.den law_CodecVars.outs) := law_CodecVars.run N x.1 x.2.1
def law_CodecVars.S (N : Nat) : Fs := ⟨law_CodecVars.ins, law_CodecVars.outs, law_CodecVars.fn N⟩
def law_CodecVars.lam (N : Nat) : Pcs := pcs []
theorem law_CodecVars.pok (N : Nat) : (law_CodecVars.lam N).Ok Try.prog (law_CodecVars.C N) law_CodecVars.code := pcsOk_nil
theorem law_CodecVars.ev (N : Nat) (x : Sh.den law_CodecVars.ins) : evC (law_CodecVars.C N) law_CodecVars.code (law_CodecVars.lam N) ⟨envOf 0 (bld (fun k => k) law_CodecVars.ins x 0).1, (bld (fun k => k) law_CodecVars.ins x 0).2.1, 1000⟩ (endF U law_CodecVars.outs Try.f3.results.toList []) = law_CodecVars.fn N x := by kernel_rfl
theorem law_CodecVars.ok (N : Nat) : (law_CodecVars.S N).con.Ok Try.prog 3 := fn_ok (F := law_CodecVars.S N) (n0 := 1000) Try.func3 (by kernel_rfl) (show Try.f3.body = some law_CodecVars.code by rfl) mix (law_CodecVars.cok N) (fun _ => rfl) (fun _ => rfl) (law_CodecVars.pok N) (fun x y h => (law_CodecVars.ev N x).trans h)
/-- hayloft/hayloftref01.Raw -/
def ref_Raw.ins : Sh := (.cons (.val (.pair (.slice .byte) (.pair (.int .i64) (.int .i64)))) (.cons (.val (.int .i64)) .nil))
def ref_Raw.C (N : Nat) : Ctx := ⟨U, 46, fun _ => true, gam [], gamY []⟩
theorem ref_Raw.cok (N : Nat) : (ref_Raw.C N).Ok Try.prog := ⟨U_ok, GamOk.nil, GamYOk.nil⟩
def ref_Raw.code : Code := Try.f59.body.getD .skip
def ref_Raw.outs : Sh := (.cons (.val (.pair (.slice .byte) (.pair (.int .i64) (.int .i64)))) (.cons (.own 5 .byte) .nil))
def ref_Raw.run (N : Nat) (r : ((List UInt8) × (Int × Int))) (n_ : Int) : Option (((List UInt8) × (Int × Int)) × (List UInt8) × Unit) :=
  bif !(decide (r.2.2 = (0 : Int))) then
    some (r, ([] : List UInt8), ())
  else
    bif decide (n_ < (0 : Int)) then
      some ((r.1, r.2.1, (12 : Int)), ([] : List UInt8), ())
    else
      bif decide (n_ > (IntKind.i64.wrap ((r.1.length : Int) - r.2.1))) then
        some ((r.1, r.2.1, (10 : Int)), ([] : List UInt8), ())
      else
        bif okB r.2.1 (IntKind.i64.wrap (r.2.1 + n_)) r.1.length then
          bif room ((r.1.take (IntKind.i64.wrap (r.2.1 + n_)).toNat).drop r.2.1.toNat).length 1 then
            some ((r.1, IntKind.i64.wrap (r.2.1 + n_), r.2.2), (r.1.take (IntKind.i64.wrap (r.2.1 + n_)).toNat).drop r.2.1.toNat, ())
          else none
        else none
def ref_Raw.fn (N : Nat) (x : Sh.den ref_Raw.ins) : Option (Sh.den ref_Raw.outs) := ref_Raw.run N x.1 x.2.1
def ref_Raw.S (N : Nat) : Fs := ⟨ref_Raw.ins, ref_Raw.outs, ref_Raw.fn N⟩
def ref_Raw.lam (N : Nat) : Pcs := pcs []
theorem ref_Raw.pok (N : Nat) : (ref_Raw.lam N).Ok Try.prog (ref_Raw.C N) ref_Raw.code := pcsOk_nil
theorem ref_Raw.ev (N : Nat) (x : Sh.den ref_Raw.ins) : evC (ref_Raw.C N) ref_Raw.code (ref_Raw.lam N) ⟨envOf 0 (bld (fun k => k) ref_Raw.ins x 0).1, (bld (fun k => k) ref_Raw.ins x 0).2.1, 1000⟩ (endF U ref_Raw.outs Try.f59.results.toList []) = ref_Raw.fn N x := by kernel_rfl
theorem ref_Raw.ok (N : Nat) : (ref_Raw.S N).con.Ok Try.prog 59 := fn_ok (F := ref_Raw.S N) (n0 := 1000) Try.func59 (by kernel_rfl) (show Try.f59.body = some ref_Raw.code by rfl) mix (ref_Raw.cok N) (fun _ => rfl) (fun _ => rfl) (ref_Raw.pok N) (fun x y h => (ref_Raw.ev N x).trans h)
/-- hayloft/hayloftref01.Said -/
def ref_Said.ins : Sh := (.cons (.rown 5 .byte) .nil)
def ref_Said.C (N : Nat) : Ctx := ⟨U, 20, fun _ => true, gam [], gamY []⟩
theorem ref_Said.cok (N : Nat) : (ref_Said.C N).Ok Try.prog := ⟨U_ok, GamOk.nil, GamYOk.nil⟩
def ref_Said.code : Code := Try.f65.body.getD .skip
def ref_Said_0.ins : Sh := (.cons (.rown 5 .byte) (.cons (.val (.int .u64)) (.cons (.val (.int .i64)) .nil)))
def ref_Said_0.ts : List Tmp := [0, 3, 4]
def ref_Said_0.asg : List Tmp := [3, 4, 5, 6, 7, 8, 9, 10, 11, 12, 13, 14, 15, 16, 17, 18]
def ref_Said_0.C (N : Nat) : Ctx := { ref_Said.C N with may := fun t => ref_Said_0.asg.any (Nat.beq t) }
def ref_Said_0.code : Code := loopBody (sub ref_Said.code [true, true, false, true, false])
theorem ref_Said_0.cok (N : Nat) : (ref_Said_0.C N).Ok Try.prog := ⟨(ref_Said.cok N).U, (ref_Said.cok N).Γ, (ref_Said.cok N).Y⟩
def ref_Said_0.alts : List Alt := [⟨(.exit 0), [3], (.cons (.val (.int .u64)) .nil)⟩]
def ref_Said_0.go (N : Nat) : Nat → (List UInt8) → Int → Int → Option ((Int × Unit))
  | 0, _, _, _ => none
  | fuel + 1, b, n_, i =>
    bif decide (i < (b.length : Int)) then
      bif inB i b.length then
        bif decide (i.toNat < b.length) then
          ref_Said_0.go N fuel b (IntKind.u64.wrap ((IntKind.u64.wrap ((256 : Int) * n_)) + (IntKind.u64.wrap ((b.getD i.toNat (0 : UInt8)).toNat : Int)))) (IntKind.i64.wrap (i + (1 : Int)))
        else none
      else none
    else some (n_, ())
def ref_Said_0.g (N n : Nat) (x : Sh.den ref_Said_0.ins) : Option (altsDen ref_Said_0.alts) := ref_Said_0.go N n x.1 x.2.1 x.2.2.1
def ref_Said_0.P (N : Nat) : Ps := ⟨ref_Said_0.ts, ref_Said_0.ins, ref_Said_0.asg, ref_Said_0.alts, ref_Said_0.g N N⟩
def ref_Said_0.lam (N : Nat) : Pcs := pcs []
theorem ref_Said_0.pok (N : Nat) : (ref_Said_0.lam N).Ok Try.prog (ref_Said_0.C N) ref_Said_0.code := pcsOk_nil
theorem ref_Said_0.ev (N n : Nat) (x : Sh.den ref_Said_0.ins) : evC (ref_Said_0.C N) ref_Said_0.code (ref_Said_0.lam N) ((ref_Said_0.P N).canon 1000 x) (loopK (ref_Said_0.P N) (ref_Said_0.g N n)) = ref_Said_0.g N (n + 1) x := by kernel_rfl
theorem ref_Said_0.ok (N : Nat) : ((ref_Said_0.P N).pc (ref_Said.C N)).Ok Try.prog (ref_Said.C N) (.loop ref_Said_0.code) := loop_ok (F := ref_Said_0.P N) (n0 := 1000) (N := N) (ref_Said.cok N) mix (ref_Said_0.pok N) (ref_Said_0.g N) (fun x => by rfl) rfl (fun n x y h => (ref_Said_0.ev N n x).trans h)
def ref_Said.outs : Sh := (.cons (.val (.int .u64)) .nil)
def ref_Said.run (N : Nat) (b : (List UInt8)) : Option (Int × Unit) :=
  obind (ref_Said_0.go N N b (0 : Int) (0 : Int)) fun (n_, _) =>
    some (n_, ())
def ref_Said.fn (N : Nat) (x : Sh.den ref_Said.ins) : Option (Sh.den ref_Said.outs) := ref_Said.run N x.1
def ref_Said.S (N : Nat) : Fs := ⟨ref_Said.ins, ref_Said.outs, ref_Said.fn N⟩
def ref_Said.lam (N : Nat) : Pcs := pcs [([true, true, false, true, false], (ref_Said_0.P N).pc (ref_Said.C N))]
theorem ref_Said.pok (N : Nat) : (ref_Said.lam N).Ok Try.prog (ref_Said.C N) ref_Said.code := pcsOk_cons (c1 := .loop ref_Said_0.code) (by kernel_rfl) (ref_Said_0.ok N) (pcsOk_nil)
theorem ref_Said.ev (N : Nat) (x : Sh.den ref_Said.ins) : evC (ref_Said.C N) ref_Said.code (ref_Said.lam N) ⟨envOf 0 (bld (fun k => k) ref_Said.ins x 0).1, (bld (fun k => k) ref_Said.ins x 0).2.1, 1000⟩ (endF U ref_Said.outs Try.f65.results.toList []) = ref_Said.fn N x := by kernel_rfl
theorem ref_Said.ok (N : Nat) : (ref_Said.S N).con.Ok Try.prog 65 := fn_ok (F := ref_Said.S N) (n0 := 1000) Try.func65 (by kernel_rfl) (show Try.f65.body = some ref_Said.code by rfl) mix (ref_Said.cok N) (fun _ => rfl) (fun _ => rfl) (ref_Said.pok N) (fun x y h => (ref_Said.ev N x).trans h)
/-- hayloft/hayloftref01.Get -/
def ref_Get.ins : Sh := (.cons (.val (.pair (.slice .byte) (.pair (.int .i64) (.int .i64)))) (.cons (.val (.int .i64)) .nil))
def ref_Get.C (N : Nat) : Ctx := ⟨U, 16, fun _ => true, gam [(59, (ref_Raw.S N).con), (65, (ref_Said.S N).con)], gamY []⟩
theorem ref_Get.cok (N : Nat) : (ref_Get.C N).Ok Try.prog := ⟨U_ok, GamOk.cons (ref_Raw.ok N) (GamOk.cons (ref_Said.ok N) (GamOk.nil)), GamYOk.nil⟩
def ref_Get.code : Code := Try.f55.body.getD .skip
def ref_Get.outs : Sh := (.cons (.val (.pair (.slice .byte) (.pair (.int .i64) (.int .i64)))) (.cons (.val (.int .u64)) .nil))
def ref_Get.run (N : Nat) (r : ((List UInt8) × (Int × Int))) (many : Int) : Option (((List UInt8) × (Int × Int)) × Int × Unit) :=
  obind (ref_Raw.run N r many) fun (v, l, _) =>
    obind (ref_Said.run N l) fun (n_, _) =>
      some (v, n_, ())
def ref_Get.fn (N : Nat) (x : Sh.den ref_Get.ins) : Option (Sh.den ref_Get.outs) := ref_Get.run N x.1 x.2.1
def ref_Get.S (N : Nat) : Fs := ⟨ref_Get.ins, ref_Get.outs, ref_Get.fn N⟩
def ref_Get.lam (N : Nat) : Pcs := pcs []
theorem ref_Get.pok (N : Nat) : (ref_Get.lam N).Ok Try.prog (ref_Get.C N) ref_Get.code := pcsOk_nil
theorem ref_Get.ev (N : Nat) (x : Sh.den ref_Get.ins) : evC (ref_Get.C N) ref_Get.code (ref_Get.lam N) ⟨envOf 0 (bld (fun k => k) ref_Get.ins x 0).1, (bld (fun k => k) ref_Get.ins x 0).2.1, 1000⟩ (endF U ref_Get.outs Try.f55.results.toList []) = ref_Get.fn N x := by kernel_rfl
theorem ref_Get.ok (N : Nat) : (ref_Get.S N).con.Ok Try.prog 55 := fn_ok (F := ref_Get.S N) (n0 := 1000) Try.func55 (by kernel_rfl) (show Try.f55.body = some ref_Get.code by rfl) mix (ref_Get.cok N) (fun _ => rfl) (fun _ => rfl) (ref_Get.pok N) (fun x y h => (ref_Get.ev N x).trans h)
/-- (*hayloft/codec.Reader).Word -/
def codec_Reader_Word.ins : Sh := (.cons (.box 75 (.cons (.val (.slice .byte)) (.cons (.val (.int .i64)) .nil))) .nil)
def codec_Reader_Word.C (N : Nat) : Ctx := ⟨U, 6, fun _ => true, gam [(48, (codec_Reader_high.S N).con)], gamY []⟩
theorem codec_Reader_Word.cok (N : Nat) : (codec_Reader_Word.C N).Ok Try.prog := ⟨U_ok, GamOk.cons (codec_Reader_high.ok N) (GamOk.nil), GamYOk.nil⟩
def codec_Reader_Word.code : Code := Try.f56.body.getD .skip
def codec_Reader_Word.outs : Sh := (.cons (.upd 0 75 (.cons (.val (.slice .byte)) (.cons (.val (.int .i64)) .nil))) (.cons (.val (.int .u32)) .nil))
def codec_Reader_Word.run (N : Nat) (b : (List UInt8)) (e : Int) : Option (((List UInt8) × Int × Unit) × Int × Unit) :=
  obind (codec_Reader_high.run N b e (4 : Int)) fun ((b1, e1, _), n_, _) =>
    some ((b1, e1, ()), IntKind.u32.wrap n_, ())
def codec_Reader_Word.fn (N : Nat) (x : Sh.den codec_Reader_Word.ins) : Option (Sh.den codec_Reader_Word.outs) := codec_Reader_Word.run N x.1.1 x.1.2.1
def codec_Reader_Word.S (N : Nat) : Fs := ⟨codec_Reader_Word.ins, codec_Reader_Word.outs, codec_Reader_Word.fn N⟩
def codec_Reader_Word.lam (N : Nat) : Pcs := pcs []
theorem codec_Reader_Word.pok (N : Nat) : (codec_Reader_Word.lam N).Ok Try.prog (codec_Reader_Word.C N) codec_Reader_Word.code := pcsOk_nil
theorem codec_Reader_Word.ev (N : Nat) (x : Sh.den codec_Reader_Word.ins) : evC (codec_Reader_Word.C N) codec_Reader_Word.code (codec_Reader_Word.lam N) ⟨envOf 0 (bld (fun k => k) codec_Reader_Word.ins x 0).1, (bld (fun k => k) codec_Reader_Word.ins x 0).2.1, 1000⟩ (endF U codec_Reader_Word.outs Try.f56.results.toList []) = codec_Reader_Word.fn N x := by kernel_rfl
theorem codec_Reader_Word.ok (N : Nat) : (codec_Reader_Word.S N).con.Ok Try.prog 56 := fn_ok (F := codec_Reader_Word.S N) (n0 := 1000) Try.func56 (by kernel_rfl) (show Try.f56.body = some codec_Reader_Word.code by rfl) mix (codec_Reader_Word.cok N) (fun _ => rfl) (fun _ => rfl) (codec_Reader_Word.pok N) (fun x y h => (codec_Reader_Word.ev N x).trans h)
/-- (*hayloft/codec.Reader).Long -/
def codec_Reader_Long.ins : Sh := (.cons (.box 75 (.cons (.val (.slice .byte)) (.cons (.val (.int .i64)) .nil))) .nil)
def codec_Reader_Long.C (N : Nat) : Ctx := ⟨U, 5, fun _ => true, gam [(48, (codec_Reader_high.S N).con)], gamY []⟩
theorem codec_Reader_Long.cok (N : Nat) : (codec_Reader_Long.C N).Ok Try.prog := ⟨U_ok, GamOk.cons (codec_Reader_high.ok N) (GamOk.nil), GamYOk.nil⟩
def codec_Reader_Long.code : Code := Try.f57.body.getD .skip
def codec_Reader_Long.outs : Sh := (.cons (.upd 0 75 (.cons (.val (.slice .byte)) (.cons (.val (.int .i64)) .nil))) (.cons (.val (.int .u64)) .nil))
def codec_Reader_Long.run (N : Nat) (b : (List UInt8)) (e : Int) : Option (((List UInt8) × Int × Unit) × Int × Unit) :=
  obind (codec_Reader_high.run N b e (8 : Int)) fun ((b1, e1, _), n_, _) =>
    some ((b1, e1, ()), n_, ())
def codec_Reader_Long.fn (N : Nat) (x : Sh.den codec_Reader_Long.ins) : Option (Sh.den codec_Reader_Long.outs) := codec_Reader_Long.run N x.1.1 x.1.2.1
def codec_Reader_Long.S (N : Nat) : Fs := ⟨codec_Reader_Long.ins, codec_Reader_Long.outs, codec_Reader_Long.fn N⟩
def codec_Reader_Long.lam (N : Nat) : Pcs := pcs []
theorem codec_Reader_Long.pok (N : Nat) : (codec_Reader_Long.lam N).Ok Try.prog (codec_Reader_Long.C N) codec_Reader_Long.code := pcsOk_nil
theorem codec_Reader_Long.ev (N : Nat) (x : Sh.den codec_Reader_Long.ins) : evC (codec_Reader_Long.C N) codec_Reader_Long.code (codec_Reader_Long.lam N) ⟨envOf 0 (bld (fun k => k) codec_Reader_Long.ins x 0).1, (bld (fun k => k) codec_Reader_Long.ins x 0).2.1, 1000⟩ (endF U codec_Reader_Long.outs Try.f57.results.toList []) = codec_Reader_Long.fn N x := by kernel_rfl
theorem codec_Reader_Long.ok (N : Nat) : (codec_Reader_Long.S N).con.Ok Try.prog 57 := fn_ok (F := codec_Reader_Long.S N) (n0 := 1000) Try.func57 (by kernel_rfl) (show Try.f57.body = some codec_Reader_Long.code by rfl) mix (codec_Reader_Long.cok N) (fun _ => rfl) (fun _ => rfl) (codec_Reader_Long.pok N) (fun x y h => (codec_Reader_Long.ev N x).trans h)
/-- hayloft/hayloftref01.Number -/
def ref_Number.ins : Sh := (.cons (.val (.int .u64)) (.cons (.val (.int .i64)) .nil))
def ref_Number.C (N : Nat) : Ctx := ⟨U, 30, fun _ => true, gam [], gamY []⟩
theorem ref_Number.cok (N : Nat) : (ref_Number.C N).Ok Try.prog := ⟨U_ok, GamOk.nil, GamYOk.nil⟩
def ref_Number.code : Code := Try.f54.body.getD .skip
def ref_Number_0.ins : Sh := (.cons (.val (.int .u64)) (.cons (.own 5 .byte) (.cons (.val (.int .i64)) .nil)))
def ref_Number_0.ts : List Tmp := [0, 5, 6]
def ref_Number_0.asg : List Tmp := [5, 6, 7, 8, 11, 12, 13, 14, 15, 16, 17, 18, 19, 20, 21, 22, 23, 24, 25, 26, 27, 28]
def ref_Number_0.C (N : Nat) : Ctx := { ref_Number.C N with may := fun t => ref_Number_0.asg.any (Nat.beq t) }
def ref_Number_0.code : Code := loopBody (sub ref_Number.code [true, true, false, true, false])
theorem ref_Number_0.cok (N : Nat) : (ref_Number_0.C N).Ok Try.prog := ⟨(ref_Number.cok N).U, (ref_Number.cok N).Γ, (ref_Number.cok N).Y⟩
def ref_Number_0_0.ins : Sh := (.cons (.val (.int .i64)) (.cons (.val (.int .u64)) (.cons (.val (.int .i64)) .nil)))
def ref_Number_0_0.ts : List Tmp := [6, 7, 8]
def ref_Number_0_0.asg : List Tmp := [7, 8, 16, 17, 18, 19, 20, 21, 22]
def ref_Number_0_0.C (N : Nat) : Ctx := { ref_Number_0.C N with may := fun t => ref_Number_0_0.asg.any (Nat.beq t) }
def ref_Number_0_0.code : Code := loopBody (sub ref_Number_0.code [true, false, false, true, false, true, false])
theorem ref_Number_0_0.cok (N : Nat) : (ref_Number_0_0.C N).Ok Try.prog := ⟨(ref_Number_0.cok N).U, (ref_Number_0.cok N).Γ, (ref_Number_0.cok N).Y⟩
def ref_Number_0_0.alts : List Alt := [⟨(.exit 2), [7], (.cons (.val (.int .u64)) .nil)⟩]
def ref_Number_0_0.go (N : Nat) : Nat → Int → Int → Int → Option ((Int × Unit))
  | 0, _, _, _ => none
  | fuel + 1, i, k, j =>
    bif decide (j < i) then
      ref_Number_0_0.go N fuel i (IntKind.u64.wrap (k.tdiv (256 : Int))) (IntKind.i64.wrap (j + (1 : Int)))
    else some (k, ())
def ref_Number_0_0.g (N n : Nat) (x : Sh.den ref_Number_0_0.ins) : Option (altsDen ref_Number_0_0.alts) := ref_Number_0_0.go N n x.1 x.2.1 x.2.2.1
def ref_Number_0_0.P (N : Nat) : Ps := ⟨ref_Number_0_0.ts, ref_Number_0_0.ins, ref_Number_0_0.asg, ref_Number_0_0.alts, ref_Number_0_0.g N N⟩
def ref_Number_0_0.lam (N : Nat) : Pcs := pcs []
theorem ref_Number_0_0.pok (N : Nat) : (ref_Number_0_0.lam N).Ok Try.prog (ref_Number_0_0.C N) ref_Number_0_0.code := pcsOk_nil
theorem ref_Number_0_0.ev (N n : Nat) (x : Sh.den ref_Number_0_0.ins) : evC (ref_Number_0_0.C N) ref_Number_0_0.code (ref_Number_0_0.lam N) ((ref_Number_0_0.P N).canon 1000 x) (loopK (ref_Number_0_0.P N) (ref_Number_0_0.g N n)) = ref_Number_0_0.g N (n + 1) x := by kernel_rfl
theorem ref_Number_0_0.ok (N : Nat) : ((ref_Number_0_0.P N).pc (ref_Number_0.C N)).Ok Try.prog (ref_Number_0.C N) (.loop ref_Number_0_0.code) := loop_ok (F := ref_Number_0_0.P N) (n0 := 1000) (N := N) (ref_Number_0.cok N) mix (ref_Number_0_0.pok N) (ref_Number_0_0.g N) (fun x => by rfl) rfl (fun n x y h => (ref_Number_0_0.ev N n x).trans h)
def ref_Number_0.alts : List Alt := [⟨(.exit 0), [5], (.cons (.own 5 .byte) .nil)⟩]
def ref_Number_0.go (N : Nat) : Nat → Int → (List UInt8) → Int → Option (((List UInt8) × Unit))
  | 0, _, _, _ => none
  | fuel + 1, n_, b, i =>
    bif decide (i ≥ (0 : Int)) then
      obind (ref_Number_0_0.go N N i n_ (0 : Int)) fun (k, _) =>
        bif room (b.length + 1) 1 then
          ref_Number_0.go N fuel n_ (b ++ ([Hay.u8 (IntKind.u8.wrap (k.tmod (256 : Int)))] : List UInt8)) (IntKind.i64.wrap (i - (1 : Int)))
        else none
    else some (b, ())
def ref_Number_0.g (N n : Nat) (x : Sh.den ref_Number_0.ins) : Option (altsDen ref_Number_0.alts) := ref_Number_0.go N n x.1 x.2.1 x.2.2.1
def ref_Number_0.P (N : Nat) : Ps := ⟨ref_Number_0.ts, ref_Number_0.ins, ref_Number_0.asg, ref_Number_0.alts, ref_Number_0.g N N⟩
def ref_Number_0.lam (N : Nat) : Pcs := pcs [([true, false, false, true, false, true, false], (ref_Number_0_0.P N).pc (ref_Number_0.C N))]
theorem ref_Number_0.pok (N : Nat) : (ref_Number_0.lam N).Ok Try.prog (ref_Number_0.C N) ref_Number_0.code := pcsOk_cons (c1 := .loop ref_Number_0_0.code) (by kernel_rfl) (ref_Number_0_0.ok N) (pcsOk_nil)
theorem ref_Number_0.ev (N n : Nat) (x : Sh.den ref_Number_0.ins) : evC (ref_Number_0.C N) ref_Number_0.code (ref_Number_0.lam N) ((ref_Number_0.P N).canon 1000 x) (loopK (ref_Number_0.P N) (ref_Number_0.g N n)) = ref_Number_0.g N (n + 1) x := by kernel_rfl
theorem ref_Number_0.ok (N : Nat) : ((ref_Number_0.P N).pc (ref_Number.C N)).Ok Try.prog (ref_Number.C N) (.loop ref_Number_0.code) := loop_ok (F := ref_Number_0.P N) (n0 := 1000) (N := N) (ref_Number.cok N) mix (ref_Number_0.pok N) (ref_Number_0.g N) (fun x => by rfl) rfl (fun n x y h => (ref_Number_0.ev N n x).trans h)
def ref_Number.outs : Sh := (.cons (.own 5 .byte) .nil)
def ref_Number.run (N : Nat) (n_ : Int) (many : Int) : Option ((List UInt8) × Unit) :=
  obind (ref_Number_0.go N N n_ ([] : List UInt8) (IntKind.i64.wrap (many - (1 : Int)))) fun (b, _) =>
    some (b, ())
def ref_Number.fn (N : Nat) (x : Sh.den ref_Number.ins) : Option (Sh.den ref_Number.outs) := ref_Number.run N x.1 x.2.1
def ref_Number.S (N : Nat) : Fs := ⟨ref_Number.ins, ref_Number.outs, ref_Number.fn N⟩
def ref_Number.lam (N : Nat) : Pcs := pcs [([true, true, false, true, false], (ref_Number_0.P N).pc (ref_Number.C N))]
theorem ref_Number.pok (N : Nat) : (ref_Number.lam N).Ok Try.prog (ref_Number.C N) ref_Number.code := pcsOk_cons (c1 := .loop ref_Number_0.code) (by kernel_rfl) (ref_Number_0.ok N) (pcsOk_nil)
theorem ref_Number.ev (N : Nat) (x : Sh.den ref_Number.ins) : evC (ref_Number.C N) ref_Number.code (ref_Number.lam N) ⟨envOf 0 (bld (fun k => k) ref_Number.ins x 0).1, (bld (fun k => k) ref_Number.ins x 0).2.1, 1000⟩ (endF U ref_Number.outs Try.f54.results.toList []) = ref_Number.fn N x := by kernel_rfl
theorem ref_Number.ok (N : Nat) : (ref_Number.S N).con.Ok Try.prog 54 := fn_ok (F := ref_Number.S N) (n0 := 1000) Try.func54 (by kernel_rfl) (show Try.f54.body = some ref_Number.code by rfl) mix (ref_Number.cok N) (fun _ => rfl) (fun _ => rfl) (ref_Number.pok N) (fun x y h => (ref_Number.ev N x).trans h)
/-- hayloft/hayloftref01.Var -/
def ref_Var.ins : Sh := (.cons (.val (.int .u64)) .nil)
def ref_Var.C (N : Nat) : Ctx := ⟨U, 23, fun _ => true, gam [(54, (ref_Number.S N).con)], gamY []⟩
theorem ref_Var.cok (N : Nat) : (ref_Var.C N).Ok Try.prog := ⟨U_ok, GamOk.cons (ref_Number.ok N) (GamOk.nil), GamYOk.nil⟩
def ref_Var.code : Code := Try.f32.body.getD .skip
def ref_Var_0.ins : Sh := (.cons (.val (.int .u64)) (.cons (.val .byte) (.cons (.val (.int .i64)) .nil)))
def ref_Var_0.ts : List Tmp := [0, 3, 4]
def ref_Var_0.asg : List Tmp := [3, 4, 11, 12]
def ref_Var_0.C (N : Nat) : Ctx := { ref_Var.C N with may := fun t => ref_Var_0.asg.any (Nat.beq t) }
def ref_Var_0.code : Code := (sub ref_Var.code [true, true, true, true, false]).getD .skip
theorem ref_Var_0.cok (N : Nat) : (ref_Var_0.C N).Ok Try.prog := ⟨(ref_Var.cok N).U, (ref_Var.cok N).Γ, (ref_Var.cok N).Y⟩
def ref_Var_0.alts : List Alt := [⟨.normal, [3, 4], (.cons (.val .byte) (.cons (.val (.int .i64)) .nil))⟩]
def ref_Var_0.run (N : Nat) (n_ : Int) (first : UInt8) (many : Int) : Option ((UInt8 × Int × Unit)) :=
  bif decide (n_ ≥ (65536 : Int)) then
    some ((254 : UInt8), (4 : Int), ())
  else some (Hay.u8 (first.toNat : Int), many, ())
def ref_Var_0.fn (N : Nat) (x : Sh.den ref_Var_0.ins) : Option (altsDen ref_Var_0.alts) := ref_Var_0.run N x.1 x.2.1 x.2.2.1
def ref_Var_0.P (N : Nat) : Ps := ⟨ref_Var_0.ts, ref_Var_0.ins, ref_Var_0.asg, ref_Var_0.alts, ref_Var_0.fn N⟩
def ref_Var_0.lam (N : Nat) : Pcs := pcs []
theorem ref_Var_0.pok (N : Nat) : (ref_Var_0.lam N).Ok Try.prog (ref_Var_0.C N) ref_Var_0.code := pcsOk_nil
theorem ref_Var_0.ev (N : Nat) (x : Sh.den ref_Var_0.ins) : evC (ref_Var_0.C N) ref_Var_0.code (ref_Var_0.lam N) ((ref_Var_0.P N).canon 1000 x) (altK (ref_Var_0.P N).alts) = ref_Var_0.fn N x := by kernel_rfl
theorem ref_Var_0.ok (N : Nat) : ((ref_Var_0.P N).pc (ref_Var.C N)).Ok Try.prog (ref_Var.C N) ref_Var_0.code := ps_ok (F := ref_Var_0.P N) (n0 := 1000) (ref_Var.cok N) mix (ref_Var_0.pok N) (fun x y h => (ref_Var_0.ev N x).trans h)
def ref_Var.outs : Sh := (.cons (.own 5 .byte) .nil)
def ref_Var.run (N : Nat) (n_ : Int) : Option ((List UInt8) × Unit) :=
  bif decide (n_ < (253 : Int)) then
    some (([Hay.u8 (IntKind.u8.wrap n_)] : List UInt8), ())
  else
    obind (ref_Var_0.run N n_ (253 : UInt8) (2 : Int)) fun (first, many, _) =>
      bif decide (n_ ≥ (4294967296 : Int)) then
        obind (ref_Number.run N n_ (8 : Int)) fun (l, _) =>
          bif room (1 + l.length) 1 then
            some ((255 : UInt8) :: l, ())
          else none
      else
        obind (ref_Number.run N n_ many) fun (l1, _) =>
          bif room (1 + l1.length) 1 then
            some (Hay.u8 (first.toNat : Int) :: l1, ())
          else none
def ref_Var.fn (N : Nat) (x : Sh.den ref_Var.ins) : Option (Sh.den ref_Var.outs) := ref_Var.run N x.1
def ref_Var.S (N : Nat) : Fs := ⟨ref_Var.ins, ref_Var.outs, ref_Var.fn N⟩
def ref_Var.lam (N : Nat) : Pcs := pcs [([true, true, true, true, false], (ref_Var_0.P N).pc (ref_Var.C N))]
theorem ref_Var.pok (N : Nat) : (ref_Var.lam N).Ok Try.prog (ref_Var.C N) ref_Var.code := pcsOk_cons (c1 := ref_Var_0.code) (by kernel_rfl) (ref_Var_0.ok N) (pcsOk_nil)
theorem ref_Var.ev (N : Nat) (x : Sh.den ref_Var.ins) : evC (ref_Var.C N) ref_Var.code (ref_Var.lam N) ⟨envOf 0 (bld (fun k => k) ref_Var.ins x 0).1, (bld (fun k => k) ref_Var.ins x 0).2.1, 1000⟩ (endF U ref_Var.outs Try.f32.results.toList []) = ref_Var.fn N x := by kernel_rfl
theorem ref_Var.ok (N : Nat) : (ref_Var.S N).con.Ok Try.prog 32 := fn_ok (F := ref_Var.S N) (n0 := 1000) Try.func32 (by kernel_rfl) (show Try.f32.body = some ref_Var.code by rfl) mix (ref_Var.cok N) (fun _ => rfl) (fun _ => rfl) (ref_Var.pok N) (fun x y h => (ref_Var.ev N x).trans h)
/-- hayloft/hayloftref01.GetVar -/
def ref_GetVar.ins : Sh := (.cons (.val (.pair (.slice .byte) (.pair (.int .i64) (.int .i64)))) (.cons (.val (.int .u64)) (.cons (.val .bool) .nil)))
def ref_GetVar.C (N : Nat) : Ctx := ⟨U, 63, fun _ => true, gam [(55, (ref_Get.S N).con), (32, (ref_Var.S N).con)], gamY []⟩
theorem ref_GetVar.cok (N : Nat) : (ref_GetVar.C N).Ok Try.prog := ⟨U_ok, GamOk.cons (ref_Get.ok N) (GamOk.cons (ref_Var.ok N) (GamOk.nil)), GamYOk.nil⟩
def ref_GetVar.code : Code := Try.f58.body.getD .skip
def ref_GetVar_0.ins : Sh := (.cons (.rbox 44 (.cons (.val (.slice .byte)) (.cons (.val (.int .i64)) (.cons (.val (.int .i64)) .nil)))) (.cons (.val (.int .u64)) .nil))
def ref_GetVar_0.ts : List Tmp := [8, 9]
def ref_GetVar_0.asg : List Tmp := [18, 19, 20, 21, 22, 23, 24]
def ref_GetVar_0.C (N : Nat) : Ctx := { ref_GetVar.C N with may := fun t => ref_GetVar_0.asg.any (Nat.beq t) }
def ref_GetVar_0.code : Code := (sub ref_GetVar.code [true, true, true, false, false]).getD .skip
theorem ref_GetVar_0.cok (N : Nat) : (ref_GetVar_0.C N).Ok Try.prog := ⟨(ref_GetVar.cok N).U, (ref_GetVar.cok N).Γ, (ref_GetVar.cok N).Y⟩
def ref_GetVar_0.alts : List Alt := [⟨.normal, [24], (.cons (.val .bool) .nil)⟩]
def ref_GetVar_0.run (N : Nat) (b : (List UInt8)) (at_ : Int) (e : Int) (c : Int) : Option ((Bool × Unit)) :=
  bif decide (e = (0 : Int)) then
    some (decide (c ≥ (253 : Int)), ())
  else some (false, ())
def ref_GetVar_0.fn (N : Nat) (x : Sh.den ref_GetVar_0.ins) : Option (altsDen ref_GetVar_0.alts) := ref_GetVar_0.run N x.1.1 x.1.2.1 x.1.2.2.1 x.2.1
def ref_GetVar_0.P (N : Nat) : Ps := ⟨ref_GetVar_0.ts, ref_GetVar_0.ins, ref_GetVar_0.asg, ref_GetVar_0.alts, ref_GetVar_0.fn N⟩
def ref_GetVar_0.lam (N : Nat) : Pcs := pcs []
theorem ref_GetVar_0.pok (N : Nat) : (ref_GetVar_0.lam N).Ok Try.prog (ref_GetVar_0.C N) ref_GetVar_0.code := pcsOk_nil
theorem ref_GetVar_0.ev (N : Nat) (x : Sh.den ref_GetVar_0.ins) : evC (ref_GetVar_0.C N) ref_GetVar_0.code (ref_GetVar_0.lam N) ((ref_GetVar_0.P N).canon 1000 x) (altK (ref_GetVar_0.P N).alts) = ref_GetVar_0.fn N x := by kernel_rfl
theorem ref_GetVar_0.ok (N : Nat) : ((ref_GetVar_0.P N).pc (ref_GetVar.C N)).Ok Try.prog (ref_GetVar.C N) ref_GetVar_0.code := ps_ok (F := ref_GetVar_0.P N) (n0 := 1000) (ref_GetVar.cok N) mix (ref_GetVar_0.pok N) (fun x y h => (ref_GetVar_0.ev N x).trans h)
def ref_GetVar_1.ins : Sh := (.cons (.box 44 (.cons (.val (.slice .byte)) (.cons (.val (.int .i64)) (.cons (.val (.int .i64)) .nil)))) (.cons (.val (.int .u64)) (.cons (.val (.int .u64)) .nil)))
def ref_GetVar_1.ts : List Tmp := [8, 9, 10]
def ref_GetVar_1.asg : List Tmp := [10, 11, 18, 19, 20, 21, 22, 23, 24, 25, 26, 27, 28, 29, 30, 31, 32, 33, 34]
def ref_GetVar_1.C (N : Nat) : Ctx := { ref_GetVar.C N with may := fun t => ref_GetVar_1.asg.any (Nat.beq t) }
def ref_GetVar_1.code : Code := (sub ref_GetVar.code [true, true, true, false]).getD .skip
theorem ref_GetVar_1.cok (N : Nat) : (ref_GetVar_1.C N).Ok Try.prog := ⟨(ref_GetVar.cok N).U, (ref_GetVar.cok N).Γ, (ref_GetVar.cok N).Y⟩
def ref_GetVar_1_0.ins : Sh := (.cons (.rbox 44 (.cons (.val (.slice .byte)) (.cons (.val (.int .i64)) (.cons (.val (.int .i64)) .nil)))) (.cons (.val (.int .u64)) .nil))
def ref_GetVar_1_0.ts : List Tmp := [8, 9]
def ref_GetVar_1_0.asg : List Tmp := [18, 19, 20, 21, 22, 23, 24]
def ref_GetVar_1_0.C (N : Nat) : Ctx := { ref_GetVar_1.C N with may := fun t => ref_GetVar_1_0.asg.any (Nat.beq t) }
def ref_GetVar_1_0.code : Code := (sub ref_GetVar_1.code [false]).getD .skip
theorem ref_GetVar_1_0.cok (N : Nat) : (ref_GetVar_1_0.C N).Ok Try.prog := ⟨(ref_GetVar_1.cok N).U, (ref_GetVar_1.cok N).Γ, (ref_GetVar_1.cok N).Y⟩
def ref_GetVar_1_0.alts : List Alt := [⟨.normal, [24], (.cons (.val .bool) .nil)⟩]
def ref_GetVar_1_0.run (N : Nat) (b : (List UInt8)) (at_ : Int) (e : Int) (c : Int) : Option ((Bool × Unit)) :=
  bif decide (e = (0 : Int)) then
    some (decide (c ≥ (253 : Int)), ())
  else some (false, ())
def ref_GetVar_1_0.fn (N : Nat) (x : Sh.den ref_GetVar_1_0.ins) : Option (altsDen ref_GetVar_1_0.alts) := ref_GetVar_1_0.run N x.1.1 x.1.2.1 x.1.2.2.1 x.2.1
def ref_GetVar_1_0.P (N : Nat) : Ps := ⟨ref_GetVar_1_0.ts, ref_GetVar_1_0.ins, ref_GetVar_1_0.asg, ref_GetVar_1_0.alts, ref_GetVar_1_0.fn N⟩
def ref_GetVar_1_0.lam (N : Nat) : Pcs := pcs []
theorem ref_GetVar_1_0.pok (N : Nat) : (ref_GetVar_1_0.lam N).Ok Try.prog (ref_GetVar_1_0.C N) ref_GetVar_1_0.code := pcsOk_nil
theorem ref_GetVar_1_0.ev (N : Nat) (x : Sh.den ref_GetVar_1_0.ins) : evC (ref_GetVar_1_0.C N) ref_GetVar_1_0.code (ref_GetVar_1_0.lam N) ((ref_GetVar_1_0.P N).canon 1000 x) (altK (ref_GetVar_1_0.P N).alts) = ref_GetVar_1_0.fn N x := by kernel_rfl
theorem ref_GetVar_1_0.ok (N : Nat) : ((ref_GetVar_1_0.P N).pc (ref_GetVar_1.C N)).Ok Try.prog (ref_GetVar_1.C N) ref_GetVar_1_0.code := ps_ok (F := ref_GetVar_1_0.P N) (n0 := 1000) (ref_GetVar_1.cok N) mix (ref_GetVar_1_0.pok N) (fun x y h => (ref_GetVar_1_0.ev N x).trans h)
def ref_GetVar_1.alts : List Alt := [⟨.normal, [10], (.cons (.upd 0 44 (.cons (.val (.slice .byte)) (.cons (.val (.int .i64)) (.cons (.val (.int .i64)) .nil)))) (.cons (.val (.int .u64)) .nil))⟩]
def ref_GetVar_1.run (N : Nat) (b : (List UInt8)) (at_ : Int) (e : Int) (c : Int) (n_ : Int) : Option ((((List UInt8) × Int × Int × Unit) × Int × Unit)) :=
  obind (ref_GetVar_1_0.run N b at_ e c) fun (t24, _) =>
    bif t24 then
      bif decide (c = (254 : Int)) then
        bif decide (c = (255 : Int)) then
          obind (ref_Get.run N (b, at_, e) (8 : Int)) fun (v, n1, _) =>
            some ((v.1, v.2.1, v.2.2, ()), n1, ())
        else
          obind (ref_Get.run N (b, at_, e) (4 : Int)) fun (v1, n2, _) =>
            some ((v1.1, v1.2.1, v1.2.2, ()), n2, ())
      else
        bif decide (c = (255 : Int)) then
          obind (ref_Get.run N (b, at_, e) (8 : Int)) fun (v2, n3, _) =>
            some ((v2.1, v2.2.1, v2.2.2, ()), n3, ())
        else
          obind (ref_Get.run N (b, at_, e) (2 : Int)) fun (v3, n4, _) =>
            some ((v3.1, v3.2.1, v3.2.2, ()), n4, ())
    else some ((b, at_, e, ()), n_, ())
def ref_GetVar_1.fn (N : Nat) (x : Sh.den ref_GetVar_1.ins) : Option (altsDen ref_GetVar_1.alts) := ref_GetVar_1.run N x.1.1 x.1.2.1 x.1.2.2.1 x.2.1 x.2.2.1
def ref_GetVar_1.P (N : Nat) : Ps := ⟨ref_GetVar_1.ts, ref_GetVar_1.ins, ref_GetVar_1.asg, ref_GetVar_1.alts, ref_GetVar_1.fn N⟩
def ref_GetVar_1.lam (N : Nat) : Pcs := pcs [([false], (ref_GetVar_1_0.P N).pc (ref_GetVar_1.C N))]
theorem ref_GetVar_1.pok (N : Nat) : (ref_GetVar_1.lam N).Ok Try.prog (ref_GetVar_1.C N) ref_GetVar_1.code := pcsOk_cons (c1 := ref_GetVar_1_0.code) (by kernel_rfl) (ref_GetVar_1_0.ok N) (pcsOk_nil)
theorem ref_GetVar_1.ev (N : Nat) (x : Sh.den ref_GetVar_1.ins) : evC (ref_GetVar_1.C N) ref_GetVar_1.code (ref_GetVar_1.lam N) ((ref_GetVar_1.P N).canon 1000 x) (altK (ref_GetVar_1.P N).alts) = ref_GetVar_1.fn N x := by kernel_rfl
theorem ref_GetVar_1.ok (N : Nat) : ((ref_GetVar_1.P N).pc (ref_GetVar.C N)).Ok Try.prog (ref_GetVar.C N) ref_GetVar_1.code := ps_ok (F := ref_GetVar_1.P N) (n0 := 1000) (ref_GetVar.cok N) mix (ref_GetVar_1.pok N) (fun x y h => (ref_GetVar_1.ev N x).trans h)
def ref_GetVar.outs : Sh := (.cons (.val (.pair (.slice .byte) (.pair (.int .i64) (.int .i64)))) (.cons (.val (.int .u64)) .nil))
def ref_GetVar.run (N : Nat) (r : ((List UInt8) × (Int × Int))) (most : Int) (negative : Bool) : Option (((List UInt8) × (Int × Int)) × Int × Unit) :=
  obind (ref_Get.run N r (1 : Int)) fun (v, n_, _) =>
    obind (ref_GetVar_1.run N v.1 v.2.1 v.2.2 n_ n_) fun ((b, at_, e, _), n5, _) =>
      bif !(decide (e = (0 : Int))) then
        some ((r.1, r.2.1, e), (0 : Int), ())
      else
        obind (ref_Var.run N n5) fun (l, _) =>
          bif !(decide ((l.length : Int) = (IntKind.i64.wrap (at_ - r.2.1)))) then
            some ((r.1, r.2.1, (11 : Int)), (0 : Int), ())
          else
            bif negative then
              some ((r.1, r.2.1, (12 : Int)), (0 : Int), ())
            else
              bif decide (n5 > most) then
                some ((r.1, r.2.1, (12 : Int)), (0 : Int), ())
              else some ((b, at_, e), n5, ())
def ref_GetVar.fn (N : Nat) (x : Sh.den ref_GetVar.ins) : Option (Sh.den ref_GetVar.outs) := ref_GetVar.run N x.1 x.2.1 x.2.2.1
def ref_GetVar.S (N : Nat) : Fs := ⟨ref_GetVar.ins, ref_GetVar.outs, ref_GetVar.fn N⟩
def ref_GetVar.lam (N : Nat) : Pcs := pcs [([true, true, true, false, false], (ref_GetVar_0.P N).pc (ref_GetVar.C N)), ([true, true, true, false], (ref_GetVar_1.P N).pc (ref_GetVar.C N))]
theorem ref_GetVar.pok (N : Nat) : (ref_GetVar.lam N).Ok Try.prog (ref_GetVar.C N) ref_GetVar.code := pcsOk_cons (c1 := ref_GetVar_0.code) (by kernel_rfl) (ref_GetVar_0.ok N) (pcsOk_cons (c1 := ref_GetVar_1.code) (by kernel_rfl) (ref_GetVar_1.ok N) (pcsOk_nil))
theorem ref_GetVar.ev (N : Nat) (x : Sh.den ref_GetVar.ins) : evC (ref_GetVar.C N) ref_GetVar.code (ref_GetVar.lam N) ⟨envOf 0 (bld (fun k => k) ref_GetVar.ins x 0).1, (bld (fun k => k) ref_GetVar.ins x 0).2.1, 1000⟩ (endF U ref_GetVar.outs Try.f58.results.toList []) = ref_GetVar.fn N x := by kernel_rfl
theorem ref_GetVar.ok (N : Nat) : (ref_GetVar.S N).con.Ok Try.prog 58 := fn_ok (F := ref_GetVar.S N) (n0 := 1000) Try.func58 (by kernel_rfl) (show Try.f58.body = some ref_GetVar.code by rfl) mix (ref_GetVar.cok N) (fun _ => rfl) (fun _ => rfl) (ref_GetVar.pok N) (fun x y h => (ref_GetVar.ev N x).trans h)
/-- hayloft/hayloftref01.GetText -/
def ref_GetText.ins : Sh := (.cons (.val (.pair (.slice .byte) (.pair (.int .i64) (.int .i64)))) (.cons (.val (.int .i64)) .nil))
def ref_GetText.C (N : Nat) : Ctx := ⟨U, 38, fun _ => true, gam [(58, (ref_GetVar.S N).con), (59, (ref_Raw.S N).con)], gamY []⟩
theorem ref_GetText.cok (N : Nat) : (ref_GetText.C N).Ok Try.prog := ⟨U_ok, GamOk.cons (ref_GetVar.ok N) (GamOk.cons (ref_Raw.ok N) (GamOk.nil)), GamYOk.nil⟩
def ref_GetText.code : Code := Try.f61.body.getD .skip
def ref_GetText.outs : Sh := (.cons (.val (.pair (.slice .byte) (.pair (.int .i64) (.int .i64)))) (.cons (.own 5 .byte) .nil))
def ref_GetText.run (N : Nat) (r : ((List UInt8) × (Int × Int))) (most : Int) : Option (((List UInt8) × (Int × Int)) × (List UInt8) × Unit) :=
  obind (ref_GetVar.run N r (IntKind.u64.wrap most) (decide (most < (0 : Int)))) fun (v, n_, _) =>
    bif !(decide (v.2.2 = (0 : Int))) then
      some (v, ([] : List UInt8), ())
    else
      bif decide (n_ > (IntKind.u64.wrap (IntKind.i64.wrap ((v.1.length : Int) - v.2.1)))) then
        some ((r.1, r.2.1, (10 : Int)), ([] : List UInt8), ())
      else
        obind (ref_Raw.run N v (IntKind.i64.wrap n_)) fun (v1, l, _) =>
          some (v1, l, ())
def ref_GetText.fn (N : Nat) (x : Sh.den ref_GetText.ins) : Option (Sh.den ref_GetText.outs) := ref_GetText.run N x.1 x.2.1
def ref_GetText.S (N : Nat) : Fs := ⟨ref_GetText.ins, ref_GetText.outs, ref_GetText.fn N⟩
def ref_GetText.lam (N : Nat) : Pcs := pcs []
theorem ref_GetText.pok (N : Nat) : (ref_GetText.lam N).Ok Try.prog (ref_GetText.C N) ref_GetText.code := pcsOk_nil
theorem ref_GetText.ev (N : Nat) (x : Sh.den ref_GetText.ins) : evC (ref_GetText.C N) ref_GetText.code (ref_GetText.lam N) ⟨envOf 0 (bld (fun k => k) ref_GetText.ins x 0).1, (bld (fun k => k) ref_GetText.ins x 0).2.1, 1000⟩ (endF U ref_GetText.outs Try.f61.results.toList []) = ref_GetText.fn N x := by kernel_rfl
theorem ref_GetText.ok (N : Nat) : (ref_GetText.S N).con.Ok Try.prog 61 := fn_ok (F := ref_GetText.S N) (n0 := 1000) Try.func61 (by kernel_rfl) (show Try.f61.body = some ref_GetText.code by rfl) mix (ref_GetText.cok N) (fun _ => rfl) (fun _ => rfl) (ref_GetText.pok N) (fun x y h => (ref_GetText.ev N x).trans h)
/-- hayloft/hayloftref01.End -/
def ref_End.ins : Sh := (.cons (.val (.pair (.slice .byte) (.pair (.int .i64) (.int .i64)))) .nil)
def ref_End.C (N : Nat) : Ctx := ⟨U, 16, fun _ => true, gam [], gamY []⟩
theorem ref_End.cok (N : Nat) : (ref_End.C N).Ok Try.prog := ⟨U_ok, GamOk.nil, GamYOk.nil⟩
def ref_End.code : Code := Try.f28.body.getD .skip
def ref_End.outs : Sh := (.cons (.val (.int .i64)) .nil)
def ref_End.run (N : Nat) (r : ((List UInt8) × (Int × Int))) : Option (Int × Unit) :=
  bif decide (r.2.2 = (0 : Int)) then
    bif decide (r.2.1 < (r.1.length : Int)) then
      some ((13 : Int), ())
    else some (r.2.2, ())
  else some (r.2.2, ())
def ref_End.fn (N : Nat) (x : Sh.den ref_End.ins) : Option (Sh.den ref_End.outs) := ref_End.run N x.1
def ref_End.S (N : Nat) : Fs := ⟨ref_End.ins, ref_End.outs, ref_End.fn N⟩
def ref_End.lam (N : Nat) : Pcs := pcs []
theorem ref_End.pok (N : Nat) : (ref_End.lam N).Ok Try.prog (ref_End.C N) ref_End.code := pcsOk_nil
theorem ref_End.ev (N : Nat) (x : Sh.den ref_End.ins) : evC (ref_End.C N) ref_End.code (ref_End.lam N) ⟨envOf 0 (bld (fun k => k) ref_End.ins x 0).1, (bld (fun k => k) ref_End.ins x 0).2.1, 1000⟩ (endF U ref_End.outs Try.f28.results.toList []) = ref_End.fn N x := by kernel_rfl
theorem ref_End.ok (N : Nat) : (ref_End.S N).con.Ok Try.prog 28 := fn_ok (F := ref_End.S N) (n0 := 1000) Try.func28 (by kernel_rfl) (show Try.f28.body = some ref_End.code by rfl) mix (ref_End.cok N) (fun _ => rfl) (fun _ => rfl) (ref_End.pok N) (fun x y h => (ref_End.ev N x).trans h)
/-- hayloft/hayloftlaw01.asked -/
def law_asked.ins : Sh := (.cons (.box 75 (.cons (.val (.slice .byte)) (.cons (.val (.int .i64)) .nil))) (.cons (.val (.pair (.slice .byte) (.pair (.int .i64) (.int .i64)))) (.cons (.val (.pair (.int .i64) (.pair (.int .u64) (.pair (.int .u64) (.slice .byte))))) .nil)))
def law_asked.C (N : Nat) : Ctx := ⟨U, 140, fun _ => true, gam [(55, (ref_Get.S N).con), (47, (codec_Reader_Byte.S N).con), (56, (codec_Reader_Word.S N).con), (57, (codec_Reader_Long.S N).con), (58, (ref_GetVar.S N).con), (17, (codec_Reader_Var.S N).con), (59, (ref_Raw.S N).con), (60, (codec_Reader_Raw.S N).con), (21, (law_same.S N).con), (61, (ref_GetText.S N).con), (46, (codec_Reader_Text.S N).con), (62, (codec_Reader_Fail.S N).con), (18, (codec_Reader_Err.S N).con), (19, (codec_Reader_Left.S N).con), (27, (codec_Reader_End.S N).con), (28, (ref_End.S N).con)], gamY []⟩
theorem law_asked.cok (N : Nat) : (law_asked.C N).Ok Try.prog := ⟨U_ok, GamOk.cons (ref_Get.ok N) (GamOk.cons (codec_Reader_Byte.ok N) (GamOk.cons (codec_Reader_Word.ok N) (GamOk.cons (codec_Reader_Long.ok N) (GamOk.cons (ref_GetVar.ok N) (GamOk.cons (codec_Reader_Var.ok N) (GamOk.cons (ref_Raw.ok N) (GamOk.cons (codec_Reader_Raw.ok N) (GamOk.cons (law_same.ok N) (GamOk.cons (ref_GetText.ok N) (GamOk.cons (codec_Reader_Text.ok N) (GamOk.cons (codec_Reader_Fail.ok N) (GamOk.cons (codec_Reader_Err.ok N) (GamOk.cons (codec_Reader_Left.ok N) (GamOk.cons (codec_Reader_End.ok N) (GamOk.cons (ref_End.ok N) (GamOk.nil)))))))))))))))), GamYOk.nil⟩
def law_asked.code : Code := Try.f26.body.getD .skip
def law_asked_0.ins : Sh := (.cons (.box 75 (.cons (.val (.slice .byte)) (.cons (.val (.int .i64)) .nil))) (.cons (.box 44 (.cons (.val (.slice .byte)) (.cons (.val (.int .i64)) (.cons (.val (.int .i64)) .nil)))) (.cons (.rbox 39 (.cons (.val (.int .i64)) (.cons (.val (.int .u64)) (.cons (.val (.int .u64)) (.cons (.val (.slice .byte)) .nil))))) (.cons (.val .bool) .nil))))
def law_asked_0.ts : List Tmp := [0, 4, 5, 10]
def law_asked_0.asg : List Tmp := [8, 9, 10, 11, 12, 13, 14, 15, 16, 17, 18, 19, 20, 21, 22, 23, 24, 25, 26, 27, 28, 29, 30, 31, 32, 33, 34, 35, 36, 37, 38, 39, 40, 41, 42, 43, 44, 45, 46, 47, 48, 49, 50, 51, 52, 53, 54, 55, 56, 57, 58, 59, 60, 61, 62, 63, 64, 65, 66, 67, 68, 69, 70, 71, 72, 73, 74, 75, 76, 77, 78, 79, 80, 81, 82, 83, 84, 85, 86, 87, 88, 89, 90, 91, 92, 93, 94, 95, 96, 97, 98, 99, 100, 101, 102, 103, 104, 105, 106, 107, 108, 109, 110, 111, 112]
def law_asked_0.C (N : Nat) : Ctx := { law_asked.C N with may := fun t => law_asked_0.asg.any (Nat.beq t) }
def law_asked_0.code : Code := (sub law_asked.code [true, true, true, true, false]).getD .skip
theorem law_asked_0.cok (N : Nat) : (law_asked_0.C N).Ok Try.prog := ⟨(law_asked.cok N).U, (law_asked.cok N).Γ, (law_asked.cok N).Y⟩
def law_asked_0.alts : List Alt := [⟨.normal, [10], (.cons (.upd 0 75 (.cons (.val (.slice .byte)) (.cons (.val (.int .i64)) .nil))) (.cons (.upd 1 44 (.cons (.val (.slice .byte)) (.cons (.val (.int .i64)) (.cons (.val (.int .i64)) .nil)))) (.cons (.val .bool) .nil)))⟩]
def law_asked_0.run (N : Nat) (b : (List UInt8)) (e : Int) (b1 : (List UInt8)) (at_ : Int) (e1 : Int) (kind : Int) (n_ : Int) (m : Int) (b2 : (List UInt8)) (ok_ : Bool) : Option ((((List UInt8) × Int × Unit) × ((List UInt8) × Int × Int × Unit) × Bool × Unit)) :=
  bif decide (kind = (0 : Int)) then
    obind (ref_Get.run N (b1, at_, e1) (1 : Int)) fun (v, n1, _) =>
      obind (codec_Reader_Byte.run N b e) fun ((b3, e2, _), n2, _) =>
        some ((b3, e2, ()), (v.1, v.2.1, v.2.2, ()), decide ((IntKind.u64.wrap (n2.toNat : Int)) = n1), ())
  else
    bif decide (kind = (1 : Int)) then
      obind (ref_Get.run N (b1, at_, e1) (4 : Int)) fun (v1, n3, _) =>
        obind (codec_Reader_Word.run N b e) fun ((b4, e3, _), n4, _) =>
          some ((b4, e3, ()), (v1.1, v1.2.1, v1.2.2, ()), decide ((IntKind.u64.wrap n4) = n3), ())
    else
      bif decide (kind = (2 : Int)) then
        obind (ref_Get.run N (b1, at_, e1) (8 : Int)) fun (v2, n5, _) =>
          obind (codec_Reader_Long.run N b e) fun ((b5, e4, _), n6, _) =>
            some ((b5, e4, ()), (v2.1, v2.2.1, v2.2.2, ()), decide (n6 = n5), ())
      else
        bif decide (kind = (3 : Int)) then
          obind (ref_GetVar.run N (b1, at_, e1) m false) fun (v3, n7, _) =>
            obind (codec_Reader_Var.run N b e m) fun ((b6, e5, _), n8, _) =>
              some ((b6, e5, ()), (v3.1, v3.2.1, v3.2.2, ()), decide (n8 = n7), ())
        else
          bif decide (kind = (4 : Int)) then
            obind (ref_Raw.run N (b1, at_, e1) (IntKind.i64.wrap m)) fun (v4, l, _) =>
              obind (codec_Reader_Raw.run N b e (IntKind.i64.wrap m)) fun ((b7, e6, _), l1, _) =>
                obind (law_same.run N l1 l) fun (b8, _) =>
                  some ((b7, e6, ()), (v4.1, v4.2.1, v4.2.2, ()), b8, ())
          else
            bif decide (kind = (5 : Int)) then
              obind (ref_GetText.run N (b1, at_, e1) (IntKind.i64.wrap m)) fun (v5, l2, _) =>
                obind (codec_Reader_Text.run N b e (IntKind.i64.wrap m)) fun ((b9, e7, _), l3, _) =>
                  obind (law_same.run N l3 l2) fun (b10, _) =>
                    some ((b9, e7, ()), (v5.1, v5.2.1, v5.2.2, ()), b10, ())
            else
              bif decide (kind = (6 : Int)) then
                obind (codec_Reader_Fail.run N b e (IntKind.i64.wrap (m.tmod (200 : Int)))) fun ((b11, e8, _), _) =>
                  bif decide (e1 = (0 : Int)) then
                    some ((b11, e8, ()), (b1, at_, IntKind.i64.wrap (m.tmod (200 : Int)), ()), ok_, ())
                  else some ((b11, e8, ()), (b1, at_, e1, ()), ok_, ())
              else some ((b, e, ()), (b1, at_, e1, ()), ok_, ())
def law_asked_0.fn (N : Nat) (x : Sh.den law_asked_0.ins) : Option (altsDen law_asked_0.alts) := law_asked_0.run N x.1.1 x.1.2.1 x.2.1.1 x.2.1.2.1 x.2.1.2.2.1 x.2.2.1.1 x.2.2.1.2.1 x.2.2.1.2.2.1 x.2.2.1.2.2.2.1 x.2.2.2.1
def law_asked_0.P (N : Nat) : Ps := ⟨law_asked_0.ts, law_asked_0.ins, law_asked_0.asg, law_asked_0.alts, law_asked_0.fn N⟩
def law_asked_0.lam (N : Nat) : Pcs := pcs []
theorem law_asked_0.pok (N : Nat) : (law_asked_0.lam N).Ok Try.prog (law_asked_0.C N) law_asked_0.code := pcsOk_nil
theorem law_asked_0.ev (N : Nat) (x : Sh.den law_asked_0.ins) : evC (law_asked_0.C N) law_asked_0.code (law_asked_0.lam N) ((law_asked_0.P N).canon 1000 x) (altK (law_asked_0.P N).alts) = law_asked_0.fn N x := by kernel_rfl
theorem law_asked_0.ok (N : Nat) : ((law_asked_0.P N).pc (law_asked.C N)).Ok Try.prog (law_asked.C N) law_asked_0.code := ps_ok (F := law_asked_0.P N) (n0 := 1000) (law_asked.cok N) mix (law_asked_0.pok N) (fun x y h => (law_asked_0.ev N x).trans h)
def law_asked.outs : Sh := (.cons (.upd 0 75 (.cons (.val (.slice .byte)) (.cons (.val (.int .i64)) .nil))) (.cons (.val (.pair (.slice .byte) (.pair (.int .i64) (.int .i64)))) (.cons (.val .bool) .nil)))
def law_asked.run (N : Nat) (b : (List UInt8)) (e : Int) (s : ((List UInt8) × (Int × Int))) (t : (Int × (Int × (Int × (List UInt8))))) : Option (((List UInt8) × Int × Unit) × ((List UInt8) × (Int × Int)) × Bool × Unit) :=
  obind (law_asked_0.run N b e s.1 s.2.1 s.2.2 t.1 t.2.1 t.2.2.1 t.2.2.2 true) fun ((b10, e8, _), (b11, at_, e9, _), ok_, _) =>
    bif ok_ then
      obind (codec_Reader_Err.run N b10 e8) fun (n8, _) =>
        bif decide (n8 = e9) then
          obind (codec_Reader_Left.run N b10 e8) fun (n9, _) =>
            bif decide (n9 = (IntKind.i64.wrap ((b11.length : Int) - at_))) then
              obind (codec_Reader_End.run N b10 e8) fun (n10, _) =>
                obind (ref_End.run N (b11, at_, e9)) fun (n11, _) =>
                  some ((b10, e8, ()), (b11, at_, e9), decide (n10 = n11), ())
            else some ((b10, e8, ()), (b11, at_, e9), false, ())
        else some ((b10, e8, ()), (b11, at_, e9), false, ())
    else some ((b10, e8, ()), (b11, at_, e9), false, ())
def law_asked.fn (N : Nat) (x : Sh.den law_asked.ins) : Option (Sh.den law_asked.outs) := law_asked.run N x.1.1 x.1.2.1 x.2.1 x.2.2.1
def law_asked.S (N : Nat) : Fs := ⟨law_asked.ins, law_asked.outs, law_asked.fn N⟩
def law_asked.lam (N : Nat) : Pcs := pcs [([true, true, true, true, false], (law_asked_0.P N).pc (law_asked.C N))]
theorem law_asked.pok (N : Nat) : (law_asked.lam N).Ok Try.prog (law_asked.C N) law_asked.code := pcsOk_cons (c1 := law_asked_0.code) (by kernel_rfl) (law_asked_0.ok N) (pcsOk_nil)
theorem law_asked.ev (N : Nat) (x : Sh.den law_asked.ins) : evC (law_asked.C N) law_asked.code (law_asked.lam N) ⟨envOf 0 (bld (fun k => k) law_asked.ins x 0).1, (bld (fun k => k) law_asked.ins x 0).2.1, 1000⟩ (endF U law_asked.outs Try.f26.results.toList []) = law_asked.fn N x := by kernel_rfl
theorem law_asked.ok (N : Nat) : (law_asked.S N).con.Ok Try.prog 26 := fn_ok (F := law_asked.S N) (n0 := 1000) Try.func26 (by kernel_rfl) (show Try.f26.body = some law_asked.code by rfl) mix (law_asked.cok N) (fun _ => rfl) (fun _ => rfl) (law_asked.pok N) (fun x y h => (law_asked.ev N x).trans h)
/-- hayloft/hayloftlaw01.CodecReads -/
def law_CodecReads.ins : Sh := (.cons (.val (.slice .byte)) (.cons (.val (.slice (.pair (.int .i64) (.pair (.int .u64) (.pair (.int .u64) (.slice .byte)))))) .nil))
def law_CodecReads.C (N : Nat) : Ctx := ⟨U, 57, fun _ => true, gam [(14, (codec_Read_b.S N).con), (16, (law_alive.S N).con), (26, (law_asked.S N).con), (27, (codec_Reader_End.S N).con), (28, (ref_End.S N).con)], gamY []⟩
theorem law_CodecReads.cok (N : Nat) : (law_CodecReads.C N).Ok Try.prog := ⟨U_ok, GamOk.cons (codec_Read_b.ok N) (GamOk.cons (law_alive.ok N) (GamOk.cons (law_asked.ok N) (GamOk.cons (codec_Reader_End.ok N) (GamOk.cons (ref_End.ok N) (GamOk.nil))))), GamYOk.nil⟩
def law_CodecReads.code : Code := Try.f5.body.getD .skip
def law_CodecReads_0.ins : Sh := (.cons (.own 5 .byte) (.cons (.val (.int .i64)) (.cons (.val (.int .i64)) .nil)))
def law_CodecReads_0.ts : List Tmp := [5, 23, 24]
def law_CodecReads_0.asg : List Tmp := [7, 24, 25, 26, 27, 28, 29, 30, 31, 32, 33]
def law_CodecReads_0.C (N : Nat) : Ctx := { law_CodecReads.C N with may := fun t => law_CodecReads_0.asg.any (Nat.beq t) }
def law_CodecReads_0.code : Code := loopBody (sub law_CodecReads.code [true, true, true, true, false, true, false])
theorem law_CodecReads_0.cok (N : Nat) : (law_CodecReads_0.C N).Ok Try.prog := ⟨(law_CodecReads.cok N).U, (law_CodecReads.cok N).Γ, (law_CodecReads.cok N).Y⟩
def law_CodecReads_0.alts : List Alt := [⟨(.exit 0), [], .nil⟩]
def law_CodecReads_0.go (N : Nat) : Nat → (List UInt8) → Int → Int → Option (Unit)
  | 0, _, _, _ => none
  | fuel + 1, own, t23, t24 =>
    bif decide (t24 < t23) then
      bif inB t24 own.length then
        bif decide (t24.toNat < own.length) then
          bif inB t24 own.length then
            bif decide (t24.toNat < own.length) then
              law_CodecReads_0.go N fuel (own.set t24.toNat (Hay.u8 (IntKind.u8.wrap ((BitVec.ofInt 8 ((own.getD t24.toNat (0 : UInt8)).toNat : Int) ^^^ BitVec.ofInt 8 (255 : Int)).toNat : Int)))) t23 (IntKind.i64.wrap (t24 + (1 : Int)))
            else none
          else none
        else none
      else none
    else some ()
def law_CodecReads_0.g (N n : Nat) (x : Sh.den law_CodecReads_0.ins) : Option (altsDen law_CodecReads_0.alts) := law_CodecReads_0.go N n x.1 x.2.1 x.2.2.1
def law_CodecReads_0.P (N : Nat) : Ps := ⟨law_CodecReads_0.ts, law_CodecReads_0.ins, law_CodecReads_0.asg, law_CodecReads_0.alts, law_CodecReads_0.g N N⟩
def law_CodecReads_0.lam (N : Nat) : Pcs := pcs []
theorem law_CodecReads_0.pok (N : Nat) : (law_CodecReads_0.lam N).Ok Try.prog (law_CodecReads_0.C N) law_CodecReads_0.code := pcsOk_nil
theorem law_CodecReads_0.ev (N n : Nat) (x : Sh.den law_CodecReads_0.ins) : evC (law_CodecReads_0.C N) law_CodecReads_0.code (law_CodecReads_0.lam N) ((law_CodecReads_0.P N).canon 1000 x) (loopK (law_CodecReads_0.P N) (law_CodecReads_0.g N n)) = law_CodecReads_0.g N (n + 1) x := by kernel_rfl
theorem law_CodecReads_0.ok (N : Nat) : ((law_CodecReads_0.P N).pc (law_CodecReads.C N)).Ok Try.prog (law_CodecReads.C N) (.loop law_CodecReads_0.code) := loop_ok (F := law_CodecReads_0.P N) (n0 := 1000) (N := N) (law_CodecReads.cok N) mix (law_CodecReads_0.pok N) (law_CodecReads_0.g N) (fun x => by rfl) rfl (fun n x y h => (law_CodecReads_0.ev N n x).trans h)
def law_CodecReads_1.ins : Sh := (.cons (.box 75 (.cons (.val (.slice .byte)) (.cons (.val (.int .i64)) .nil))) (.cons (.box 44 (.cons (.val (.slice .byte)) (.cons (.val (.int .i64)) (.cons (.val (.int .i64)) .nil)))) (.cons (.val (.slice (.pair (.int .i64) (.pair (.int .u64) (.pair (.int .u64) (.slice .byte)))))) (.cons (.val (.int .i64)) (.cons (.val (.int .i64)) .nil)))))
def law_CodecReads_1.ts : List Tmp := [6, 8, 36, 37, 38]
def law_CodecReads_1.asg : List Tmp := [4, 10, 11, 38, 39, 40, 41, 42, 43, 44, 45, 46, 47, 48, 49, 50, 51]
def law_CodecReads_1.C (N : Nat) : Ctx := { law_CodecReads.C N with may := fun t => law_CodecReads_1.asg.any (Nat.beq t) }
def law_CodecReads_1.code : Code := loopBody (sub law_CodecReads.code [true, true, true, true, true, true, false, true, false])
theorem law_CodecReads_1.cok (N : Nat) : (law_CodecReads_1.C N).Ok Try.prog := ⟨(law_CodecReads.cok N).U, (law_CodecReads.cok N).Γ, (law_CodecReads.cok N).Y⟩
def law_CodecReads_1.alts : List Alt := [⟨.ret, [4], (.cons (.upd 0 75 (.cons (.val (.slice .byte)) (.cons (.val (.int .i64)) .nil))) (.cons (.upd 1 44 (.cons (.val (.slice .byte)) (.cons (.val (.int .i64)) (.cons (.val (.int .i64)) .nil)))) (.cons (.val .bool) .nil)))⟩, ⟨(.exit 2), [], (.cons (.upd 0 75 (.cons (.val (.slice .byte)) (.cons (.val (.int .i64)) .nil))) (.cons (.upd 1 44 (.cons (.val (.slice .byte)) (.cons (.val (.int .i64)) (.cons (.val (.int .i64)) .nil)))) .nil))⟩]
def law_CodecReads_1.go (N : Nat) : Nat → (List UInt8) → Int → (List UInt8) → Int → Int → (List (Int × (Int × (Int × (List UInt8))))) → Int → Int → Option ((((List UInt8) × Int × Unit) × ((List UInt8) × Int × Int × Unit) × Bool × Unit) ⊕ (((List UInt8) × Int × Unit) × ((List UInt8) × Int × Int × Unit) × Unit))
  | 0, _, _, _, _, _, _, _, _ => none
  | fuel + 1, b, e, b1, at_, e1, t36, t37, t38 =>
    bif decide (t38 < t37) then
      bif inB t38 t36.length then
        obind (law_asked.run N b e (b1, at_, e1) (t36.getD t38.toNat ((0 : Int), (0 : Int), (0 : Int), ([] : List UInt8)))) fun ((b2, e2, _), v, b3, _) =>
          bif !b3 then
            some (.inl ((b2, e2, ()), (v.1, v.2.1, v.2.2, ()), false, ()))
          else law_CodecReads_1.go N fuel b2 e2 v.1 v.2.1 v.2.2 t36 t37 (IntKind.i64.wrap (t38 + (1 : Int)))
      else none
    else some (.inr ((b, e, ()), (b1, at_, e1, ()), ()))
def law_CodecReads_1.g (N n : Nat) (x : Sh.den law_CodecReads_1.ins) : Option (altsDen law_CodecReads_1.alts) := law_CodecReads_1.go N n x.1.1 x.1.2.1 x.2.1.1 x.2.1.2.1 x.2.1.2.2.1 x.2.2.1 x.2.2.2.1 x.2.2.2.2.1
def law_CodecReads_1.P (N : Nat) : Ps := ⟨law_CodecReads_1.ts, law_CodecReads_1.ins, law_CodecReads_1.asg, law_CodecReads_1.alts, law_CodecReads_1.g N N⟩
def law_CodecReads_1.lam (N : Nat) : Pcs := pcs []
theorem law_CodecReads_1.pok (N : Nat) : (law_CodecReads_1.lam N).Ok Try.prog (law_CodecReads_1.C N) law_CodecReads_1.code := pcsOk_nil
theorem law_CodecReads_1.ev (N n : Nat) (x : Sh.den law_CodecReads_1.ins) : evC (law_CodecReads_1.C N) law_CodecReads_1.code (law_CodecReads_1.lam N) ((law_CodecReads_1.P N).canon 1000 x) (loopK (law_CodecReads_1.P N) (law_CodecReads_1.g N n)) = law_CodecReads_1.g N (n + 1) x := by kernel_rfl
theorem law_CodecReads_1.ok (N : Nat) : ((law_CodecReads_1.P N).pc (law_CodecReads.C N)).Ok Try.prog (law_CodecReads.C N) (.loop law_CodecReads_1.code) := loop_ok (F := law_CodecReads_1.P N) (n0 := 1000) (N := N) (law_CodecReads.cok N) mix (law_CodecReads_1.pok N) (law_CodecReads_1.g N) (fun x => by rfl) rfl (fun n x y h => (law_CodecReads_1.ev N n x).trans h)
def law_CodecReads.outs : Sh := (.cons (.val .bool) .nil)
def law_CodecReads.run (N : Nat) (b : (List UInt8)) (l : (List (Int × (Int × (Int × (List UInt8)))))) : Option (Bool × Unit) :=
  bif room b.length 1 then
    obind (codec_Read_b.run N b) fun ((b1, e, _), _) =>
      obind (law_alive.run N) fun (b2, _) =>
        bif !b2 then
          some (false, ())
        else
          obind (law_CodecReads_0.go N N b (b.length : Int) (0 : Int)) fun _ =>
            obind (law_CodecReads_1.go N N b1 e b (0 : Int) (0 : Int) l (l.length : Int) (0 : Int)) fun y => match y with
            | .inl ((b3, e1, _), (b4, at_, e2, _), t4, _) =>
                some (t4, ())
            | .inr ((b5, e3, _), (b6, at1, e4, _), _) =>
                obind (codec_Reader_End.run N b5 e3) fun (n_, _) =>
                  obind (ref_End.run N (b6, at1, e4)) fun (n1, _) =>
                    some (decide (n_ = n1), ())
  else none
def law_CodecReads.fn (N : Nat) (x : Sh.den law_CodecReads.ins) : Option (Sh.den law_CodecReads.outs) := law_CodecReads.run N x.1 x.2.1
def law_CodecReads.S (N : Nat) : Fs := ⟨law_CodecReads.ins, law_CodecReads.outs, law_CodecReads.fn N⟩
def law_CodecReads.lam (N : Nat) : Pcs := pcs [([true, true, true, true, false, true, false], (law_CodecReads_0.P N).pc (law_CodecReads.C N)), ([true, true, true, true, true, true, false, true, false], (law_CodecReads_1.P N).pc (law_CodecReads.C N))]
theorem law_CodecReads.pok (N : Nat) : (law_CodecReads.lam N).Ok Try.prog (law_CodecReads.C N) law_CodecReads.code := pcsOk_cons (c1 := .loop law_CodecReads_0.code) (by kernel_rfl) (law_CodecReads_0.ok N) (pcsOk_cons (c1 := .loop law_CodecReads_1.code) (by kernel_rfl) (law_CodecReads_1.ok N) (pcsOk_nil))
theorem law_CodecReads.ev (N : Nat) (x : Sh.den law_CodecReads.ins) : evC (law_CodecReads.C N) law_CodecReads.code (law_CodecReads.lam N) ⟨envOf 0 (bld (fun k => k) law_CodecReads.ins x 0).1, (bld (fun k => k) law_CodecReads.ins x 0).2.1, 1000⟩ (endF U law_CodecReads.outs Try.f5.results.toList []) = law_CodecReads.fn N x := by kernel_rfl
theorem law_CodecReads.ok (N : Nat) : (law_CodecReads.S N).con.Ok Try.prog 5 := fn_ok (F := law_CodecReads.S N) (n0 := 1000) Try.func5 (by kernel_rfl) (show Try.f5.body = some law_CodecReads.code by rfl) mix (law_CodecReads.cok N) (fun _ => rfl) (fun _ => rfl) (law_CodecReads.pok N) (fun x y h => (law_CodecReads.ev N x).trans h)
/-- (*hayloft/codec.Writer).Word -/
def codec_Writer_Word.ins : Sh := (.cons (.box 77 (.cons (.own 5 .byte) .nil)) (.cons (.val (.int .u32)) .nil))
def codec_Writer_Word.C (N : Nat) : Ctx := ⟨U, 8, fun _ => true, gam [(50, (codec_Writer_high.S N).con)], gamY []⟩
theorem codec_Writer_Word.cok (N : Nat) : (codec_Writer_Word.C N).Ok Try.prog := ⟨U_ok, GamOk.cons (codec_Writer_high.ok N) (GamOk.nil), GamYOk.nil⟩
def codec_Writer_Word.code : Code := Try.f51.body.getD .skip
def codec_Writer_Word.outs : Sh := (.cons (.upd 0 77 (.cons (.own 5 .byte) .nil)) .nil)
def codec_Writer_Word.run (N : Nat) (b : (List UInt8)) (n_ : Int) : Option (((List UInt8) × Unit) × Unit) :=
  obind (codec_Writer_high.run N b (IntKind.u64.wrap n_) (4 : Int)) fun ((b1, _), _) =>
    some ((b1, ()), ())
def codec_Writer_Word.fn (N : Nat) (x : Sh.den codec_Writer_Word.ins) : Option (Sh.den codec_Writer_Word.outs) := codec_Writer_Word.run N x.1.1 x.2.1
def codec_Writer_Word.S (N : Nat) : Fs := ⟨codec_Writer_Word.ins, codec_Writer_Word.outs, codec_Writer_Word.fn N⟩
def codec_Writer_Word.lam (N : Nat) : Pcs := pcs []
theorem codec_Writer_Word.pok (N : Nat) : (codec_Writer_Word.lam N).Ok Try.prog (codec_Writer_Word.C N) codec_Writer_Word.code := pcsOk_nil
theorem codec_Writer_Word.ev (N : Nat) (x : Sh.den codec_Writer_Word.ins) : evC (codec_Writer_Word.C N) codec_Writer_Word.code (codec_Writer_Word.lam N) ⟨envOf 0 (bld (fun k => k) codec_Writer_Word.ins x 0).1, (bld (fun k => k) codec_Writer_Word.ins x 0).2.1, 1000⟩ (endF U codec_Writer_Word.outs Try.f51.results.toList []) = codec_Writer_Word.fn N x := by kernel_rfl
theorem codec_Writer_Word.ok (N : Nat) : (codec_Writer_Word.S N).con.Ok Try.prog 51 := fn_ok (F := codec_Writer_Word.S N) (n0 := 1000) Try.func51 (by kernel_rfl) (show Try.f51.body = some codec_Writer_Word.code by rfl) mix (codec_Writer_Word.cok N) (fun _ => rfl) (fun _ => rfl) (codec_Writer_Word.pok N) (fun x y h => (codec_Writer_Word.ev N x).trans h)
/-- (*hayloft/codec.Writer).Long -/
def codec_Writer_Long.ins : Sh := (.cons (.box 77 (.cons (.own 5 .byte) .nil)) (.cons (.val (.int .u64)) .nil))
def codec_Writer_Long.C (N : Nat) : Ctx := ⟨U, 7, fun _ => true, gam [(50, (codec_Writer_high.S N).con)], gamY []⟩
theorem codec_Writer_Long.cok (N : Nat) : (codec_Writer_Long.C N).Ok Try.prog := ⟨U_ok, GamOk.cons (codec_Writer_high.ok N) (GamOk.nil), GamYOk.nil⟩
def codec_Writer_Long.code : Code := Try.f52.body.getD .skip
def codec_Writer_Long.outs : Sh := (.cons (.upd 0 77 (.cons (.own 5 .byte) .nil)) .nil)
def codec_Writer_Long.run (N : Nat) (b : (List UInt8)) (n_ : Int) : Option (((List UInt8) × Unit) × Unit) :=
  obind (codec_Writer_high.run N b n_ (8 : Int)) fun ((b1, _), _) =>
    some ((b1, ()), ())
def codec_Writer_Long.fn (N : Nat) (x : Sh.den codec_Writer_Long.ins) : Option (Sh.den codec_Writer_Long.outs) := codec_Writer_Long.run N x.1.1 x.2.1
def codec_Writer_Long.S (N : Nat) : Fs := ⟨codec_Writer_Long.ins, codec_Writer_Long.outs, codec_Writer_Long.fn N⟩
def codec_Writer_Long.lam (N : Nat) : Pcs := pcs []
theorem codec_Writer_Long.pok (N : Nat) : (codec_Writer_Long.lam N).Ok Try.prog (codec_Writer_Long.C N) codec_Writer_Long.code := pcsOk_nil
theorem codec_Writer_Long.ev (N : Nat) (x : Sh.den codec_Writer_Long.ins) : evC (codec_Writer_Long.C N) codec_Writer_Long.code (codec_Writer_Long.lam N) ⟨envOf 0 (bld (fun k => k) codec_Writer_Long.ins x 0).1, (bld (fun k => k) codec_Writer_Long.ins x 0).2.1, 1000⟩ (endF U codec_Writer_Long.outs Try.f52.results.toList []) = codec_Writer_Long.fn N x := by kernel_rfl
theorem codec_Writer_Long.ok (N : Nat) : (codec_Writer_Long.S N).con.Ok Try.prog 52 := fn_ok (F := codec_Writer_Long.S N) (n0 := 1000) Try.func52 (by kernel_rfl) (show Try.f52.body = some codec_Writer_Long.code by rfl) mix (codec_Writer_Long.cok N) (fun _ => rfl) (fun _ => rfl) (codec_Writer_Long.pok N) (fun x y h => (codec_Writer_Long.ev N x).trans h)
/-- hayloft/hayloftlaw01.write -/
def law_write.ins : Sh := (.cons (.box 77 (.cons (.own 5 .byte) .nil)) (.cons (.val (.pair (.int .i64) (.pair (.int .u64) (.pair (.int .u64) (.slice .byte))))) .nil))
def law_write.C (N : Nat) : Ctx := ⟨U, 44, fun _ => true, gam [(49, (codec_Writer_Byte.S N).con), (51, (codec_Writer_Word.S N).con), (52, (codec_Writer_Long.S N).con), (20, (codec_Writer_Var.S N).con), (53, (codec_Writer_Raw.S N).con), (45, (codec_Writer_Text.S N).con)], gamY []⟩
theorem law_write.cok (N : Nat) : (law_write.C N).Ok Try.prog := ⟨U_ok, GamOk.cons (codec_Writer_Byte.ok N) (GamOk.cons (codec_Writer_Word.ok N) (GamOk.cons (codec_Writer_Long.ok N) (GamOk.cons (codec_Writer_Var.ok N) (GamOk.cons (codec_Writer_Raw.ok N) (GamOk.cons (codec_Writer_Text.ok N) (GamOk.nil)))))), GamYOk.nil⟩
def law_write.code : Code := Try.f23.body.getD .skip
def law_write.outs : Sh := (.cons (.upd 0 77 (.cons (.own 5 .byte) .nil)) .nil)
def law_write.run (N : Nat) (b : (List UInt8)) (t : (Int × (Int × (Int × (List UInt8))))) : Option (((List UInt8) × Unit) × Unit) :=
  bif decide (t.1 = (0 : Int)) then
    obind (codec_Writer_Byte.run N b (Hay.u8 (IntKind.u8.wrap t.2.1))) fun ((b1, _), _) =>
      some ((b1, ()), ())
  else
    bif decide (t.1 = (1 : Int)) then
      obind (codec_Writer_Word.run N b (IntKind.u32.wrap t.2.1)) fun ((b2, _), _) =>
        some ((b2, ()), ())
    else
      bif decide (t.1 = (2 : Int)) then
        obind (codec_Writer_Long.run N b t.2.1) fun ((b3, _), _) =>
          some ((b3, ()), ())
      else
        bif decide (t.1 = (3 : Int)) then
          obind (codec_Writer_Var.run N b t.2.1) fun ((b4, _), _) =>
            some ((b4, ()), ())
        else
          bif decide (t.1 = (4 : Int)) then
            obind (codec_Writer_Raw.run N b t.2.2.2) fun ((b5, _), _) =>
              some ((b5, ()), ())
          else
            bif decide (t.1 = (5 : Int)) then
              obind (codec_Writer_Text.run N b t.2.2.2) fun ((b6, _), _) =>
                some ((b6, ()), ())
            else some ((b, ()), ())
def law_write.fn (N : Nat) (x : Sh.den law_write.ins) : Option (Sh.den law_write.outs) := law_write.run N x.1.1 x.2.1
def law_write.S (N : Nat) : Fs := ⟨law_write.ins, law_write.outs, law_write.fn N⟩
def law_write.lam (N : Nat) : Pcs := pcs []
theorem law_write.pok (N : Nat) : (law_write.lam N).Ok Try.prog (law_write.C N) law_write.code := pcsOk_nil
theorem law_write.ev (N : Nat) (x : Sh.den law_write.ins) : evC (law_write.C N) law_write.code (law_write.lam N) ⟨envOf 0 (bld (fun k => k) law_write.ins x 0).1, (bld (fun k => k) law_write.ins x 0).2.1, 1000⟩ (endF U law_write.outs Try.f23.results.toList []) = law_write.fn N x := by kernel_rfl
theorem law_write.ok (N : Nat) : (law_write.S N).con.Ok Try.prog 23 := fn_ok (F := law_write.S N) (n0 := 1000) Try.func23 (by kernel_rfl) (show Try.f23.body = some law_write.code by rfl) mix (law_write.cok N) (fun _ => rfl) (fun _ => rfl) (law_write.pok N) (fun x y h => (law_write.ev N x).trans h)
/-- hayloft/hayloftlaw01.back -/
def law_back.ins : Sh := (.cons (.box 75 (.cons (.val (.slice .byte)) (.cons (.val (.int .i64)) .nil))) (.cons (.val (.pair (.int .i64) (.pair (.int .u64) (.pair (.int .u64) (.slice .byte))))) .nil))
def law_back.C (N : Nat) : Ctx := ⟨U, 59, fun _ => true, gam [(47, (codec_Reader_Byte.S N).con), (56, (codec_Reader_Word.S N).con), (57, (codec_Reader_Long.S N).con), (17, (codec_Reader_Var.S N).con), (60, (codec_Reader_Raw.S N).con), (21, (law_same_b.S N).con), (46, (codec_Reader_Text.S N).con)], gamY []⟩
theorem law_back.cok (N : Nat) : (law_back.C N).Ok Try.prog := ⟨U_ok, GamOk.cons (codec_Reader_Byte.ok N) (GamOk.cons (codec_Reader_Word.ok N) (GamOk.cons (codec_Reader_Long.ok N) (GamOk.cons (codec_Reader_Var.ok N) (GamOk.cons (codec_Reader_Raw.ok N) (GamOk.cons (law_same_b.ok N) (GamOk.cons (codec_Reader_Text.ok N) (GamOk.nil))))))), GamYOk.nil⟩
def law_back.code : Code := Try.f29.body.getD .skip
def law_back.outs : Sh := (.cons (.upd 0 75 (.cons (.val (.slice .byte)) (.cons (.val (.int .i64)) .nil))) (.cons (.val .bool) .nil))
def law_back.run (N : Nat) (b : (List UInt8)) (e : Int) (t : (Int × (Int × (Int × (List UInt8))))) : Option (((List UInt8) × Int × Unit) × Bool × Unit) :=
  bif decide (t.1 = (0 : Int)) then
    obind (codec_Reader_Byte.run N b e) fun ((b1, e1, _), n_, _) =>
      some ((b1, e1, ()), decide ((n_.toNat : Int) = (IntKind.u8.wrap t.2.1)), ())
  else
    bif decide (t.1 = (1 : Int)) then
      obind (codec_Reader_Word.run N b e) fun ((b2, e2, _), n1, _) =>
        some ((b2, e2, ()), decide (n1 = (IntKind.u32.wrap t.2.1)), ())
    else
      bif decide (t.1 = (2 : Int)) then
        obind (codec_Reader_Long.run N b e) fun ((b3, e3, _), n2, _) =>
          some ((b3, e3, ()), decide (n2 = t.2.1), ())
      else
        bif decide (t.1 = (3 : Int)) then
          obind (codec_Reader_Var.run N b e t.2.1) fun ((b4, e4, _), n3, _) =>
            some ((b4, e4, ()), decide (n3 = t.2.1), ())
        else
          bif decide (t.1 = (4 : Int)) then
            obind (codec_Reader_Raw.run N b e (t.2.2.2.length : Int)) fun ((b5, e5, _), l, _) =>
              obind (law_same_b.run N l t.2.2.2) fun (b6, _) =>
                some ((b5, e5, ()), b6, ())
          else
            bif decide (t.1 = (5 : Int)) then
              obind (codec_Reader_Text.run N b e (t.2.2.2.length : Int)) fun ((b7, e6, _), l1, _) =>
                obind (law_same_b.run N l1 t.2.2.2) fun (b8, _) =>
                  some ((b7, e6, ()), b8, ())
            else some ((b, e, ()), true, ())
def law_back.fn (N : Nat) (x : Sh.den law_back.ins) : Option (Sh.den law_back.outs) := law_back.run N x.1.1 x.1.2.1 x.2.1
def law_back.S (N : Nat) : Fs := ⟨law_back.ins, law_back.outs, law_back.fn N⟩
def law_back.lam (N : Nat) : Pcs := pcs []
theorem law_back.pok (N : Nat) : (law_back.lam N).Ok Try.prog (law_back.C N) law_back.code := pcsOk_nil
theorem law_back.ev (N : Nat) (x : Sh.den law_back.ins) : evC (law_back.C N) law_back.code (law_back.lam N) ⟨envOf 0 (bld (fun k => k) law_back.ins x 0).1, (bld (fun k => k) law_back.ins x 0).2.1, 1000⟩ (endF U law_back.outs Try.f29.results.toList []) = law_back.fn N x := by kernel_rfl
theorem law_back.ok (N : Nat) : (law_back.S N).con.Ok Try.prog 29 := fn_ok (F := law_back.S N) (n0 := 1000) Try.func29 (by kernel_rfl) (show Try.f29.body = some law_back.code by rfl) mix (law_back.cok N) (fun _ => rfl) (fun _ => rfl) (law_back.pok N) (fun x y h => (law_back.ev N x).trans h)
/-- hayloft/hayloftlaw01.CodecBack -/
def law_CodecBack.ins : Sh := (.cons (.val (.slice (.pair (.int .i64) (.pair (.int .u64) (.pair (.int .u64) (.slice .byte)))))) (.cons (.val (.int .i64)) .nil))
def law_CodecBack.C (N : Nat) : Ctx := ⟨U, 92, fun _ => true, gam [(15, (codec_New.S N).con), (16, (law_alive.S N).con), (23, (law_write.S N).con), (22, (codec_Writer_Bytes.S N).con), (14, (((codec_Read_b.S N).con).or (codec_Read.S N).con)), (29, (law_back.S N).con), (18, (codec_Reader_Err.S N).con), (27, (codec_Reader_End.S N).con), (19, (codec_Reader_Left.S N).con)], gamY []⟩
theorem law_CodecBack.cok (N : Nat) : (law_CodecBack.C N).Ok Try.prog := ⟨U_ok, GamOk.cons (codec_New.ok N) (GamOk.cons (law_alive.ok N) (GamOk.cons (law_write.ok N) (GamOk.cons (codec_Writer_Bytes.ok N) (GamOk.cons (Con.or_ok (codec_Read_b.ok N) (codec_Read.ok N)) (GamOk.cons (law_back.ok N) (GamOk.cons (codec_Reader_Err.ok N) (GamOk.cons (codec_Reader_End.ok N) (GamOk.cons (codec_Reader_Left.ok N) (GamOk.nil))))))))), GamYOk.nil⟩
def law_CodecBack.code : Code := Try.f6.body.getD .skip
def law_CodecBack_0.ins : Sh := (.cons (.box 77 (.cons (.own 5 .byte) .nil)) (.cons (.val (.slice (.pair (.int .i64) (.pair (.int .u64) (.pair (.int .u64) (.slice .byte)))))) (.cons (.val (.int .i64)) (.cons (.val (.int .i64)) .nil))))
def law_CodecBack_0.ts : List Tmp := [5, 22, 23, 24]
def law_CodecBack_0.asg : List Tmp := [7, 24, 25, 26, 27, 28, 29, 30, 31]
def law_CodecBack_0.C (N : Nat) : Ctx := { law_CodecBack.C N with may := fun t => law_CodecBack_0.asg.any (Nat.beq t) }
def law_CodecBack_0.code : Code := loopBody (sub law_CodecBack.code [true, true, true, false, true, false])
theorem law_CodecBack_0.cok (N : Nat) : (law_CodecBack_0.C N).Ok Try.prog := ⟨(law_CodecBack.cok N).U, (law_CodecBack.cok N).Γ, (law_CodecBack.cok N).Y⟩
def law_CodecBack_0.alts : List Alt := [⟨(.exit 0), [], (.cons (.upd 0 77 (.cons (.own 5 .byte) .nil)) .nil)⟩]
def law_CodecBack_0.go (N : Nat) : Nat → (List UInt8) → (List (Int × (Int × (Int × (List UInt8))))) → Int → Int → Option ((((List UInt8) × Unit) × Unit))
  | 0, _, _, _, _ => none
  | fuel + 1, b, t22, t23, t24 =>
    bif decide (t24 < t23) then
      bif inB t24 t22.length then
        obind (law_write.run N b (t22.getD t24.toNat ((0 : Int), (0 : Int), (0 : Int), ([] : List UInt8)))) fun ((b1, _), _) =>
          law_CodecBack_0.go N fuel b1 t22 t23 (IntKind.i64.wrap (t24 + (1 : Int)))
      else none
    else some ((b, ()), ())
def law_CodecBack_0.g (N n : Nat) (x : Sh.den law_CodecBack_0.ins) : Option (altsDen law_CodecBack_0.alts) := law_CodecBack_0.go N n x.1.1 x.2.1 x.2.2.1 x.2.2.2.1
def law_CodecBack_0.P (N : Nat) : Ps := ⟨law_CodecBack_0.ts, law_CodecBack_0.ins, law_CodecBack_0.asg, law_CodecBack_0.alts, law_CodecBack_0.g N N⟩
def law_CodecBack_0.lam (N : Nat) : Pcs := pcs []
theorem law_CodecBack_0.pok (N : Nat) : (law_CodecBack_0.lam N).Ok Try.prog (law_CodecBack_0.C N) law_CodecBack_0.code := pcsOk_nil
theorem law_CodecBack_0.ev (N n : Nat) (x : Sh.den law_CodecBack_0.ins) : evC (law_CodecBack_0.C N) law_CodecBack_0.code (law_CodecBack_0.lam N) ((law_CodecBack_0.P N).canon 1000 x) (loopK (law_CodecBack_0.P N) (law_CodecBack_0.g N n)) = law_CodecBack_0.g N (n + 1) x := by kernel_rfl
theorem law_CodecBack_0.ok (N : Nat) : ((law_CodecBack_0.P N).pc (law_CodecBack.C N)).Ok Try.prog (law_CodecBack.C N) (.loop law_CodecBack_0.code) := loop_ok (F := law_CodecBack_0.P N) (n0 := 1000) (N := N) (law_CodecBack.cok N) mix (law_CodecBack_0.pok N) (law_CodecBack_0.g N) (fun x => by rfl) rfl (fun n x y h => (law_CodecBack_0.ev N n x).trans h)
def law_CodecBack_1.ins : Sh := (.cons (.box 75 (.cons (.val (.slice .byte)) (.cons (.val (.int .i64)) .nil))) (.cons (.val (.slice (.pair (.int .i64) (.pair (.int .u64) (.pair (.int .u64) (.slice .byte)))))) (.cons (.val (.int .i64)) (.cons (.val (.int .i64)) .nil))))
def law_CodecBack_1.ts : List Tmp := [9, 38, 39, 40]
def law_CodecBack_1.asg : List Tmp := [4, 11, 40, 41, 42, 43, 44, 45, 46, 47, 48, 49, 50, 51, 52, 53]
def law_CodecBack_1.C (N : Nat) : Ctx := { law_CodecBack.C N with may := fun t => law_CodecBack_1.asg.any (Nat.beq t) }
def law_CodecBack_1.code : Code := loopBody (sub law_CodecBack.code [true, true, true, true, true, true, true, false, true, false])
theorem law_CodecBack_1.cok (N : Nat) : (law_CodecBack_1.C N).Ok Try.prog := ⟨(law_CodecBack.cok N).U, (law_CodecBack.cok N).Γ, (law_CodecBack.cok N).Y⟩
def law_CodecBack_1.alts : List Alt := [⟨.ret, [4], (.cons (.upd 0 75 (.cons (.val (.slice .byte)) (.cons (.val (.int .i64)) .nil))) (.cons (.val .bool) .nil))⟩, ⟨(.exit 2), [], (.cons (.upd 0 75 (.cons (.val (.slice .byte)) (.cons (.val (.int .i64)) .nil))) .nil)⟩]
def law_CodecBack_1.go (N : Nat) : Nat → (List UInt8) → Int → (List (Int × (Int × (Int × (List UInt8))))) → Int → Int → Option ((((List UInt8) × Int × Unit) × Bool × Unit) ⊕ (((List UInt8) × Int × Unit) × Unit))
  | 0, _, _, _, _, _ => none
  | fuel + 1, b, e, t38, t39, t40 =>
    bif decide (t40 < t39) then
      bif inB t40 t38.length then
        obind (law_back.run N b e (t38.getD t40.toNat ((0 : Int), (0 : Int), (0 : Int), ([] : List UInt8)))) fun ((b1, e1, _), b2, _) =>
          bif !b2 then
            some (.inl ((b1, e1, ()), false, ()))
          else
            obind (codec_Reader_Err.run N b1 e1) fun (n_, _) =>
              bif !(decide (n_ = (0 : Int))) then
                some (.inl ((b1, e1, ()), false, ()))
              else law_CodecBack_1.go N fuel b1 e1 t38 t39 (IntKind.i64.wrap (t40 + (1 : Int)))
      else none
    else some (.inr ((b, e, ()), ()))
def law_CodecBack_1.g (N n : Nat) (x : Sh.den law_CodecBack_1.ins) : Option (altsDen law_CodecBack_1.alts) := law_CodecBack_1.go N n x.1.1 x.1.2.1 x.2.1 x.2.2.1 x.2.2.2.1
def law_CodecBack_1.P (N : Nat) : Ps := ⟨law_CodecBack_1.ts, law_CodecBack_1.ins, law_CodecBack_1.asg, law_CodecBack_1.alts, law_CodecBack_1.g N N⟩
def law_CodecBack_1.lam (N : Nat) : Pcs := pcs []
theorem law_CodecBack_1.pok (N : Nat) : (law_CodecBack_1.lam N).Ok Try.prog (law_CodecBack_1.C N) law_CodecBack_1.code := pcsOk_nil
theorem law_CodecBack_1.ev (N n : Nat) (x : Sh.den law_CodecBack_1.ins) : evC (law_CodecBack_1.C N) law_CodecBack_1.code (law_CodecBack_1.lam N) ((law_CodecBack_1.P N).canon 1000 x) (loopK (law_CodecBack_1.P N) (law_CodecBack_1.g N n)) = law_CodecBack_1.g N (n + 1) x := by kernel_rfl
theorem law_CodecBack_1.ok (N : Nat) : ((law_CodecBack_1.P N).pc (law_CodecBack.C N)).Ok Try.prog (law_CodecBack.C N) (.loop law_CodecBack_1.code) := loop_ok (F := law_CodecBack_1.P N) (n0 := 1000) (N := N) (law_CodecBack.cok N) mix (law_CodecBack_1.pok N) (law_CodecBack_1.g N) (fun x => by rfl) rfl (fun n x y h => (law_CodecBack_1.ev N n x).trans h)
def law_CodecBack_2.ins : Sh := (.cons (.box 75 (.cons (.val (.slice .byte)) (.cons (.val (.int .i64)) .nil))) (.cons (.val (.slice (.pair (.int .i64) (.pair (.int .u64) (.pair (.int .u64) (.slice .byte)))))) (.cons (.val (.int .i64)) (.cons (.val (.int .i64)) .nil))))
def law_CodecBack_2.ts : List Tmp := [12, 74, 75, 76]
def law_CodecBack_2.asg : List Tmp := [14, 76, 77, 78, 79, 80, 81, 82, 83]
def law_CodecBack_2.C (N : Nat) : Ctx := { law_CodecBack.C N with may := fun t => law_CodecBack_2.asg.any (Nat.beq t) }
def law_CodecBack_2.code : Code := loopBody (sub law_CodecBack.code [true, true, true, true, true, true, true, true, true, true, true, false, true, false])
theorem law_CodecBack_2.cok (N : Nat) : (law_CodecBack_2.C N).Ok Try.prog := ⟨(law_CodecBack.cok N).U, (law_CodecBack.cok N).Γ, (law_CodecBack.cok N).Y⟩
def law_CodecBack_2.alts : List Alt := [⟨(.exit 4), [], (.cons (.upd 0 75 (.cons (.val (.slice .byte)) (.cons (.val (.int .i64)) .nil))) .nil)⟩]
def law_CodecBack_2.go (N : Nat) : Nat → (List UInt8) → Int → (List (Int × (Int × (Int × (List UInt8))))) → Int → Int → Option ((((List UInt8) × Int × Unit) × Unit))
  | 0, _, _, _, _, _ => none
  | fuel + 1, b, e, t74, t75, t76 =>
    bif decide (t76 < t75) then
      bif inB t76 t74.length then
        obind (law_back.run N b e (t74.getD t76.toNat ((0 : Int), (0 : Int), (0 : Int), ([] : List UInt8)))) fun ((b1, e1, _), b2, _) =>
          law_CodecBack_2.go N fuel b1 e1 t74 t75 (IntKind.i64.wrap (t76 + (1 : Int)))
      else none
    else some ((b, e, ()), ())
def law_CodecBack_2.g (N n : Nat) (x : Sh.den law_CodecBack_2.ins) : Option (altsDen law_CodecBack_2.alts) := law_CodecBack_2.go N n x.1.1 x.1.2.1 x.2.1 x.2.2.1 x.2.2.2.1
def law_CodecBack_2.P (N : Nat) : Ps := ⟨law_CodecBack_2.ts, law_CodecBack_2.ins, law_CodecBack_2.asg, law_CodecBack_2.alts, law_CodecBack_2.g N N⟩
def law_CodecBack_2.lam (N : Nat) : Pcs := pcs []
theorem law_CodecBack_2.pok (N : Nat) : (law_CodecBack_2.lam N).Ok Try.prog (law_CodecBack_2.C N) law_CodecBack_2.code := pcsOk_nil
theorem law_CodecBack_2.ev (N n : Nat) (x : Sh.den law_CodecBack_2.ins) : evC (law_CodecBack_2.C N) law_CodecBack_2.code (law_CodecBack_2.lam N) ((law_CodecBack_2.P N).canon 1000 x) (loopK (law_CodecBack_2.P N) (law_CodecBack_2.g N n)) = law_CodecBack_2.g N (n + 1) x := by kernel_rfl
theorem law_CodecBack_2.ok (N : Nat) : ((law_CodecBack_2.P N).pc (law_CodecBack.C N)).Ok Try.prog (law_CodecBack.C N) (.loop law_CodecBack_2.code) := loop_ok (F := law_CodecBack_2.P N) (n0 := 1000) (N := N) (law_CodecBack.cok N) mix (law_CodecBack_2.pok N) (law_CodecBack_2.g N) (fun x => by rfl) rfl (fun n x y h => (law_CodecBack_2.ev N n x).trans h)
def law_CodecBack.outs : Sh := (.cons (.val .bool) .nil)
def law_CodecBack.run (N : Nat) (l : (List (Int × (Int × (Int × (List UInt8)))))) (cut : Int) : Option (Bool × Unit) :=
  obind (codec_New.run N) fun ((b, _), _) =>
    obind (law_alive.run N) fun (b1, _) =>
      bif !b1 then
        some (false, ())
      else
        obind (law_CodecBack_0.go N N b l (l.length : Int) (0 : Int)) fun ((b2, _), _) =>
          obind (codec_Writer_Bytes.run N b2) fun (l1, _) =>
            obind (codec_Read_b.run N l1) fun ((b3, e, _), _) =>
              obind (law_CodecBack_1.go N N b3 e l (l.length : Int) (0 : Int)) fun y => match y with
              | .inl ((b4, e1, _), t4, _) =>
                  some (t4, ())
              | .inr ((b5, e2, _), _) =>
                  obind (codec_Reader_End.run N b5 e2) fun (n_, _) =>
                    bif !(decide (n_ = (0 : Int))) then
                      some (false, ())
                    else
                      obind (codec_Reader_Left.run N b5 e2) fun (n1, _) =>
                        bif !(decide (n1 = (0 : Int))) then
                          some (false, ())
                        else
                          bif decide (cut < (0 : Int)) then
                            some (true, ())
                          else
                            bif decide (cut ≥ (l1.length : Int)) then
                              some (true, ())
                            else
                              bif okB (0 : Int) cut l1.length then
                                obind (codec_Read.run N ((l1.drop 0).take (cut - (0 : Int)).toNat)) fun ((b6, e3, _), _) =>
                                  obind (law_CodecBack_2.go N N b6 e3 l (l.length : Int) (0 : Int)) fun ((b7, e4, _), _) =>
                                    obind (codec_Reader_Err.run N b7 e4) fun (n2, _) =>
                                      bif decide (n2 = (10 : Int)) then
                                        obind (codec_Reader_End.run N b7 e4) fun (n3, _) =>
                                          some (decide (n3 = (10 : Int)), ())
                                      else some (false, ())
                              else none
def law_CodecBack.fn (N : Nat) (x : Sh.den law_CodecBack.ins) : Option (Sh.den law_CodecBack.outs) := law_CodecBack.run N x.1 x.2.1
def law_CodecBack.S (N : Nat) : Fs := ⟨law_CodecBack.ins, law_CodecBack.outs, law_CodecBack.fn N⟩
def law_CodecBack.lam (N : Nat) : Pcs := pcs [([true, true, true, false, true, false], (law_CodecBack_0.P N).pc (law_CodecBack.C N)), ([true, true, true, true, true, true, true, false, true, false], (law_CodecBack_1.P N).pc (law_CodecBack.C N)), ([true, true, true, true, true, true, true, true, true, true, true, false, true, false], (law_CodecBack_2.P N).pc (law_CodecBack.C N))]
theorem law_CodecBack.pok (N : Nat) : (law_CodecBack.lam N).Ok Try.prog (law_CodecBack.C N) law_CodecBack.code := pcsOk_cons (c1 := .loop law_CodecBack_0.code) (by kernel_rfl) (law_CodecBack_0.ok N) (pcsOk_cons (c1 := .loop law_CodecBack_1.code) (by kernel_rfl) (law_CodecBack_1.ok N) (pcsOk_cons (c1 := .loop law_CodecBack_2.code) (by kernel_rfl) (law_CodecBack_2.ok N) (pcsOk_nil)))
theorem law_CodecBack.ev (N : Nat) (x : Sh.den law_CodecBack.ins) : evC (law_CodecBack.C N) law_CodecBack.code (law_CodecBack.lam N) ⟨envOf 0 (bld (fun k => k) law_CodecBack.ins x 0).1, (bld (fun k => k) law_CodecBack.ins x 0).2.1, 1000⟩ (endF U law_CodecBack.outs Try.f6.results.toList []) = law_CodecBack.fn N x := by kernel_rfl
theorem law_CodecBack.ok (N : Nat) : (law_CodecBack.S N).con.Ok Try.prog 6 := fn_ok (F := law_CodecBack.S N) (n0 := 1000) Try.func6 (by kernel_rfl) (show Try.f6.body = some law_CodecBack.code by rfl) mix (law_CodecBack.cok N) (fun _ => rfl) (fun _ => rfl) (law_CodecBack.pok N) (fun x y h => (law_CodecBack.ev N x).trans h)
/-- hayloft/hayloftlaw01.text -/
def law_text.ins : Sh := (.cons (.box 77 (.cons (.own 5 .byte) .nil)) (.cons (.val (.slice .byte)) .nil))
def law_text.C (N : Nat) : Ctx := ⟨U, 7, fun _ => true, gam [(45, (codec_Writer_Text.S N).con)], gamY []⟩
theorem law_text.cok (N : Nat) : (law_text.C N).Ok Try.prog := ⟨U_ok, GamOk.cons (codec_Writer_Text.ok N) (GamOk.nil), GamYOk.nil⟩
def law_text.code : Code := Try.f31.body.getD .skip
def law_text.outs : Sh := (.cons (.upd 0 77 (.cons (.own 5 .byte) .nil)) .nil)
def law_text.run (N : Nat) (b : (List UInt8)) (b1 : (List UInt8)) : Option (((List UInt8) × Unit) × Unit) :=
  obind (codec_Writer_Text.run N b b1) fun ((b2, _), _) =>
    some ((b2, ()), ())
def law_text.fn (N : Nat) (x : Sh.den law_text.ins) : Option (Sh.den law_text.outs) := law_text.run N x.1.1 x.2.1
def law_text.S (N : Nat) : Fs := ⟨law_text.ins, law_text.outs, law_text.fn N⟩
def law_text.lam (N : Nat) : Pcs := pcs []
theorem law_text.pok (N : Nat) : (law_text.lam N).Ok Try.prog (law_text.C N) law_text.code := pcsOk_nil
theorem law_text.ev (N : Nat) (x : Sh.den law_text.ins) : evC (law_text.C N) law_text.code (law_text.lam N) ⟨envOf 0 (bld (fun k => k) law_text.ins x 0).1, (bld (fun k => k) law_text.ins x 0).2.1, 1000⟩ (endF U law_text.outs Try.f31.results.toList []) = law_text.fn N x := by kernel_rfl
theorem law_text.ok (N : Nat) : (law_text.S N).con.Ok Try.prog 31 := fn_ok (F := law_text.S N) (n0 := 1000) Try.func31 (by kernel_rfl) (show Try.f31.body = some law_text.code by rfl) mix (law_text.cok N) (fun _ => rfl) (fun _ => rfl) (law_text.pok N) (fun x y h => (law_text.ev N x).trans h)
/-- hayloft/codec.Put[[]byte] -/
def codec_Put_byte.ins : Sh := (.cons (.box 77 (.cons (.own 5 .byte) .nil)) (.cons (.val (.slice (.slice .byte))) (.cons (.fn 31 .nil) .nil)))
def codec_Put_byte.C (N : Nat) : Ctx := ⟨U, 24, fun _ => true, gam [(20, (codec_Writer_Var.S N).con), (31, (law_text.S N).con)], gamY []⟩
theorem codec_Put_byte.cok (N : Nat) : (codec_Put_byte.C N).Ok Try.prog := ⟨U_ok, GamOk.cons (codec_Writer_Var.ok N) (GamOk.cons (law_text.ok N) (GamOk.nil)), GamYOk.nil⟩
def codec_Put_byte.code : Code := Try.f30.body.getD .skip
def codec_Put_byte_0.ins : Sh := (.cons (.box 77 (.cons (.own 5 .byte) .nil)) (.cons (.fn 31 .nil) (.cons (.val (.slice (.slice .byte))) (.cons (.val (.int .i64)) (.cons (.val (.int .i64)) .nil)))))
def codec_Put_byte_0.ts : List Tmp := [0, 2, 13, 14, 15]
def codec_Put_byte_0.asg : List Tmp := [7, 15, 16, 17, 18, 19, 20, 21, 22, 23]
def codec_Put_byte_0.C (N : Nat) : Ctx := { codec_Put_byte.C N with may := fun t => codec_Put_byte_0.asg.any (Nat.beq t) }
def codec_Put_byte_0.code : Code := loopBody (sub codec_Put_byte.code [true, true, false])
theorem codec_Put_byte_0.cok (N : Nat) : (codec_Put_byte_0.C N).Ok Try.prog := ⟨(codec_Put_byte.cok N).U, (codec_Put_byte.cok N).Γ, (codec_Put_byte.cok N).Y⟩
def codec_Put_byte_0.alts : List Alt := [⟨(.exit 0), [], (.cons (.upd 0 77 (.cons (.own 5 .byte) .nil)) .nil)⟩]
def codec_Put_byte_0.go (N : Nat) : Nat → (List UInt8) → (List (List UInt8)) → Int → Int → Option ((((List UInt8) × Unit) × Unit))
  | 0, _, _, _, _ => none
  | fuel + 1, b, t13, t14, t15 =>
    bif decide (t15 < t14) then
      bif inB t15 t13.length then
        obind (law_text.run N b (t13.getD t15.toNat ([] : List UInt8))) fun ((b1, _), _) =>
          codec_Put_byte_0.go N fuel b1 t13 t14 (IntKind.i64.wrap (t15 + (1 : Int)))
      else none
    else some ((b, ()), ())
def codec_Put_byte_0.g (N n : Nat) (x : Sh.den codec_Put_byte_0.ins) : Option (altsDen codec_Put_byte_0.alts) := codec_Put_byte_0.go N n x.1.1 x.2.2.1 x.2.2.2.1 x.2.2.2.2.1
def codec_Put_byte_0.P (N : Nat) : Ps := ⟨codec_Put_byte_0.ts, codec_Put_byte_0.ins, codec_Put_byte_0.asg, codec_Put_byte_0.alts, codec_Put_byte_0.g N N⟩
def codec_Put_byte_0.lam (N : Nat) : Pcs := pcs []
theorem codec_Put_byte_0.pok (N : Nat) : (codec_Put_byte_0.lam N).Ok Try.prog (codec_Put_byte_0.C N) codec_Put_byte_0.code := pcsOk_nil
theorem codec_Put_byte_0.ev (N n : Nat) (x : Sh.den codec_Put_byte_0.ins) : evC (codec_Put_byte_0.C N) codec_Put_byte_0.code (codec_Put_byte_0.lam N) ((codec_Put_byte_0.P N).canon 1000 x) (loopK (codec_Put_byte_0.P N) (codec_Put_byte_0.g N n)) = codec_Put_byte_0.g N (n + 1) x := by kernel_rfl
theorem codec_Put_byte_0.ok (N : Nat) : ((codec_Put_byte_0.P N).pc (codec_Put_byte.C N)).Ok Try.prog (codec_Put_byte.C N) (.loop codec_Put_byte_0.code) := loop_ok (F := codec_Put_byte_0.P N) (n0 := 1000) (N := N) (codec_Put_byte.cok N) mix (codec_Put_byte_0.pok N) (codec_Put_byte_0.g N) (fun x => by rfl) rfl (fun n x y h => (codec_Put_byte_0.ev N n x).trans h)
def codec_Put_byte.outs : Sh := (.cons (.upd 0 77 (.cons (.own 5 .byte) .nil)) .nil)
def codec_Put_byte.run (N : Nat) (b : (List UInt8)) (l : (List (List UInt8))) : Option (((List UInt8) × Unit) × Unit) :=
  obind (codec_Writer_Var.run N b (IntKind.u64.wrap (l.length : Int))) fun ((b1, _), _) =>
    obind (codec_Put_byte_0.go N N b1 l (l.length : Int) (0 : Int)) fun ((b2, _), _) =>
      some ((b2, ()), ())
def codec_Put_byte.fn (N : Nat) (x : Sh.den codec_Put_byte.ins) : Option (Sh.den codec_Put_byte.outs) := codec_Put_byte.run N x.1.1 x.2.1
def codec_Put_byte.S (N : Nat) : Fs := ⟨codec_Put_byte.ins, codec_Put_byte.outs, codec_Put_byte.fn N⟩
def codec_Put_byte.lam (N : Nat) : Pcs := pcs [([true, true, false], (codec_Put_byte_0.P N).pc (codec_Put_byte.C N))]
theorem codec_Put_byte.pok (N : Nat) : (codec_Put_byte.lam N).Ok Try.prog (codec_Put_byte.C N) codec_Put_byte.code := pcsOk_cons (c1 := .loop codec_Put_byte_0.code) (by kernel_rfl) (codec_Put_byte_0.ok N) (pcsOk_nil)
theorem codec_Put_byte.ev (N : Nat) (x : Sh.den codec_Put_byte.ins) : evC (codec_Put_byte.C N) codec_Put_byte.code (codec_Put_byte.lam N) ⟨envOf 0 (bld (fun k => k) codec_Put_byte.ins x 0).1, (bld (fun k => k) codec_Put_byte.ins x 0).2.1, 1000⟩ (endF U codec_Put_byte.outs Try.f30.results.toList []) = codec_Put_byte.fn N x := by kernel_rfl
theorem codec_Put_byte.ok (N : Nat) : (codec_Put_byte.S N).con.Ok Try.prog 30 := fn_ok (F := codec_Put_byte.S N) (n0 := 1000) Try.func30 (by kernel_rfl) (show Try.f30.body = some codec_Put_byte.code by rfl) mix (codec_Put_byte.cok N) (fun _ => rfl) (fun _ => rfl) (codec_Put_byte.pok N) (fun x y h => (codec_Put_byte.ev N x).trans h)
/-- hayloft/hayloftref01.Text -/
def ref_Text.ins : Sh := (.cons (.val (.slice .byte)) .nil)
def ref_Text.C (N : Nat) : Ctx := ⟨U, 12, fun _ => true, gam [(32, (ref_Var.S N).con)], gamY []⟩
theorem ref_Text.cok (N : Nat) : (ref_Text.C N).Ok Try.prog := ⟨U_ok, GamOk.cons (ref_Var.ok N) (GamOk.nil), GamYOk.nil⟩
def ref_Text.code : Code := Try.f33.body.getD .skip
def ref_Text.outs : Sh := (.cons (.own 5 .byte) .nil)
def ref_Text.run (N : Nat) (b : (List UInt8)) : Option ((List UInt8) × Unit) :=
  obind (ref_Var.run N (IntKind.u64.wrap (b.length : Int))) fun (l, _) =>
    bif room (l.length + b.length) 1 then
      some (l ++ b, ())
    else none
def ref_Text.fn (N : Nat) (x : Sh.den ref_Text.ins) : Option (Sh.den ref_Text.outs) := ref_Text.run N x.1
def ref_Text.S (N : Nat) : Fs := ⟨ref_Text.ins, ref_Text.outs, ref_Text.fn N⟩
def ref_Text.lam (N : Nat) : Pcs := pcs []
theorem ref_Text.pok (N : Nat) : (ref_Text.lam N).Ok Try.prog (ref_Text.C N) ref_Text.code := pcsOk_nil
theorem ref_Text.ev (N : Nat) (x : Sh.den ref_Text.ins) : evC (ref_Text.C N) ref_Text.code (ref_Text.lam N) ⟨envOf 0 (bld (fun k => k) ref_Text.ins x 0).1, (bld (fun k => k) ref_Text.ins x 0).2.1, 1000⟩ (endF U ref_Text.outs Try.f33.results.toList []) = ref_Text.fn N x := by kernel_rfl
theorem ref_Text.ok (N : Nat) : (ref_Text.S N).con.Ok Try.prog 33 := fn_ok (F := ref_Text.S N) (n0 := 1000) Try.func33 (by kernel_rfl) (show Try.f33.body = some ref_Text.code by rfl) mix (ref_Text.cok N) (fun _ => rfl) (fun _ => rfl) (ref_Text.pok N) (fun x y h => (ref_Text.ev N x).trans h)
/-- hayloft/hayloftlaw01.CodecPuts -/
def law_CodecPuts.ins : Sh := (.cons (.val (.slice (.slice .byte))) .nil)
def law_CodecPuts.C (N : Nat) : Ctx := ⟨U, 36, fun _ => true, gam [(15, (codec_New.S N).con), (16, (law_alive.S N).con), (30, (codec_Put_byte.S N).con), (32, (ref_Var.S N).con), (33, (ref_Text.S N).con), (22, (codec_Writer_Bytes.S N).con), (21, (law_same.S N).con)], gamY []⟩
theorem law_CodecPuts.cok (N : Nat) : (law_CodecPuts.C N).Ok Try.prog := ⟨U_ok, GamOk.cons (codec_New.ok N) (GamOk.cons (law_alive.ok N) (GamOk.cons (codec_Put_byte.ok N) (GamOk.cons (ref_Var.ok N) (GamOk.cons (ref_Text.ok N) (GamOk.cons (codec_Writer_Bytes.ok N) (GamOk.cons (law_same.ok N) (GamOk.nil))))))), GamYOk.nil⟩
def law_CodecPuts.code : Code := Try.f7.body.getD .skip
def law_CodecPuts_0.ins : Sh := (.cons (.own 5 .byte) (.cons (.val (.slice (.slice .byte))) (.cons (.val (.int .i64)) (.cons (.val (.int .i64)) .nil))))
def law_CodecPuts_0.ts : List Tmp := [4, 21, 22, 23]
def law_CodecPuts_0.asg : List Tmp := [4, 6, 23, 24, 25, 26, 27, 28, 29, 30, 31]
def law_CodecPuts_0.C (N : Nat) : Ctx := { law_CodecPuts.C N with may := fun t => law_CodecPuts_0.asg.any (Nat.beq t) }
def law_CodecPuts_0.code : Code := loopBody (sub law_CodecPuts.code [true, true, true, true, true, false, true, false])
theorem law_CodecPuts_0.cok (N : Nat) : (law_CodecPuts_0.C N).Ok Try.prog := ⟨(law_CodecPuts.cok N).U, (law_CodecPuts.cok N).Γ, (law_CodecPuts.cok N).Y⟩
def law_CodecPuts_0.alts : List Alt := [⟨(.exit 0), [4], (.cons (.own 5 .byte) .nil)⟩]
def law_CodecPuts_0.go (N : Nat) : Nat → (List UInt8) → (List (List UInt8)) → Int → Int → Option (((List UInt8) × Unit))
  | 0, _, _, _, _ => none
  | fuel + 1, want, t21, t22, t23 =>
    bif decide (t23 < t22) then
      bif inB t23 t21.length then
        obind (ref_Text.run N (t21.getD t23.toNat ([] : List UInt8))) fun (l, _) =>
          bif room (want.length + l.length) 1 then
            law_CodecPuts_0.go N fuel (want ++ l) t21 t22 (IntKind.i64.wrap (t23 + (1 : Int)))
          else none
      else none
    else some (want, ())
def law_CodecPuts_0.g (N n : Nat) (x : Sh.den law_CodecPuts_0.ins) : Option (altsDen law_CodecPuts_0.alts) := law_CodecPuts_0.go N n x.1 x.2.1 x.2.2.1 x.2.2.2.1
def law_CodecPuts_0.P (N : Nat) : Ps := ⟨law_CodecPuts_0.ts, law_CodecPuts_0.ins, law_CodecPuts_0.asg, law_CodecPuts_0.alts, law_CodecPuts_0.g N N⟩
def law_CodecPuts_0.lam (N : Nat) : Pcs := pcs []
theorem law_CodecPuts_0.pok (N : Nat) : (law_CodecPuts_0.lam N).Ok Try.prog (law_CodecPuts_0.C N) law_CodecPuts_0.code := pcsOk_nil
theorem law_CodecPuts_0.ev (N n : Nat) (x : Sh.den law_CodecPuts_0.ins) : evC (law_CodecPuts_0.C N) law_CodecPuts_0.code (law_CodecPuts_0.lam N) ((law_CodecPuts_0.P N).canon 1000 x) (loopK (law_CodecPuts_0.P N) (law_CodecPuts_0.g N n)) = law_CodecPuts_0.g N (n + 1) x := by kernel_rfl
theorem law_CodecPuts_0.ok (N : Nat) : ((law_CodecPuts_0.P N).pc (law_CodecPuts.C N)).Ok Try.prog (law_CodecPuts.C N) (.loop law_CodecPuts_0.code) := loop_ok (F := law_CodecPuts_0.P N) (n0 := 1000) (N := N) (law_CodecPuts.cok N) mix (law_CodecPuts_0.pok N) (law_CodecPuts_0.g N) (fun x => by rfl) rfl (fun n x y h => (law_CodecPuts_0.ev N n x).trans h)
def law_CodecPuts.outs : Sh := (.cons (.val .bool) .nil)
def law_CodecPuts.run (N : Nat) (l : (List (List UInt8))) : Option (Bool × Unit) :=
  obind (codec_New.run N) fun ((b, _), _) =>
    obind (law_alive.run N) fun (b1, _) =>
      bif !b1 then
        some (false, ())
      else
        obind (codec_Put_byte.run N b l) fun ((b2, _), _) =>
          obind (ref_Var.run N (IntKind.u64.wrap (l.length : Int))) fun (l1, _) =>
            obind (law_CodecPuts_0.go N N l1 l (l.length : Int) (0 : Int)) fun (want, _) =>
              obind (codec_Writer_Bytes.run N b2) fun (l2, _) =>
                obind (law_same.run N l2 want) fun (b3, _) =>
                  some (b3, ())
def law_CodecPuts.fn (N : Nat) (x : Sh.den law_CodecPuts.ins) : Option (Sh.den law_CodecPuts.outs) := law_CodecPuts.run N x.1
def law_CodecPuts.S (N : Nat) : Fs := ⟨law_CodecPuts.ins, law_CodecPuts.outs, law_CodecPuts.fn N⟩
def law_CodecPuts.lam (N : Nat) : Pcs := pcs [([true, true, true, true, true, false, true, false], (law_CodecPuts_0.P N).pc (law_CodecPuts.C N))]
theorem law_CodecPuts.pok (N : Nat) : (law_CodecPuts.lam N).Ok Try.prog (law_CodecPuts.C N) law_CodecPuts.code := pcsOk_cons (c1 := .loop law_CodecPuts_0.code) (by kernel_rfl) (law_CodecPuts_0.ok N) (pcsOk_nil)
theorem law_CodecPuts.ev (N : Nat) (x : Sh.den law_CodecPuts.ins) : evC (law_CodecPuts.C N) law_CodecPuts.code (law_CodecPuts.lam N) ⟨envOf 0 (bld (fun k => k) law_CodecPuts.ins x 0).1, (bld (fun k => k) law_CodecPuts.ins x 0).2.1, 1000⟩ (endF U law_CodecPuts.outs Try.f7.results.toList []) = law_CodecPuts.fn N x := by kernel_rfl
theorem law_CodecPuts.ok (N : Nat) : (law_CodecPuts.S N).con.Ok Try.prog 7 := fn_ok (F := law_CodecPuts.S N) (n0 := 1000) Try.func7 (by kernel_rfl) (show Try.f7.body = some law_CodecPuts.code by rfl) mix (law_CodecPuts.cok N) (fun _ => rfl) (fun _ => rfl) (law_CodecPuts.pok N) (fun x y h => (law_CodecPuts.ev N x).trans h)
/-- hayloft/hayloftlaw01.listed -/
def law_listed.ins : Sh := (.cons (.val (.slice .byte)) (.cons (.val (.int .i64)) .nil))
def law_listed.C (N : Nat) : Ctx := ⟨U, 47, fun _ => true, gam [(58, (ref_GetVar.S N).con), (61, (ref_GetText.S N).con)], gamY []⟩
theorem law_listed.cok (N : Nat) : (law_listed.C N).Ok Try.prog := ⟨U_ok, GamOk.cons (ref_GetVar.ok N) (GamOk.cons (ref_GetText.ok N) (GamOk.nil)), GamYOk.nil⟩
def law_listed.code : Code := Try.f34.body.getD .skip
def law_listed_0.ins : Sh := (.cons (.box 44 (.cons (.val (.slice .byte)) (.cons (.val (.int .i64)) (.cons (.val (.int .i64)) .nil)))) (.cons (.val (.int .u64)) (.cons (.own 22 (.slice .byte)) (.cons (.val (.int .u64)) .nil))))
def law_listed_0.ts : List Tmp := [6, 7, 8, 9]
def law_listed_0.asg : List Tmp := [8, 9, 10, 11, 22, 23, 24, 25, 26, 27, 28, 29, 30, 31, 32, 33, 34, 35, 36, 37, 38, 39, 40, 41, 42, 43, 44]
def law_listed_0.C (N : Nat) : Ctx := { law_listed.C N with may := fun t => law_listed_0.asg.any (Nat.beq t) }
def law_listed_0.code : Code := loopBody (sub law_listed.code [true, true, true, false, true, false])
theorem law_listed_0.cok (N : Nat) : (law_listed_0.C N).Ok Try.prog := ⟨(law_listed.cok N).U, (law_listed.cok N).Γ, (law_listed.cok N).Y⟩
def law_listed_0.alts : List Alt := [⟨(.exit 0), [8], (.cons (.upd 0 44 (.cons (.val (.slice .byte)) (.cons (.val (.int .i64)) (.cons (.val (.int .i64)) .nil)))) (.cons (.own 22 (.slice .byte)) .nil))⟩]
def law_listed_0.go (N : Nat) : Nat → (List UInt8) → Int → Int → Int → (List (List UInt8)) → Int → Option ((((List UInt8) × Int × Int × Unit) × (List (List UInt8)) × Unit))
  | 0, _, _, _, _, _, _ => none
  | fuel + 1, b, at_, e, n_, l, i =>
    bif decide (i < n_) then
      bif decide (e = (0 : Int)) then
        obind (ref_GetText.run N (b, at_, e) (9 : Int)) fun (v, l1, _) =>
          bif decide (v.2.2 = (0 : Int)) then
            bif room (l.length + 1) 24 then
              law_listed_0.go N fuel v.1 v.2.1 v.2.2 n_ (l ++ ([l1] : List (List UInt8))) (IntKind.u64.wrap (i + (1 : Int)))
            else none
          else law_listed_0.go N fuel v.1 v.2.1 v.2.2 n_ l (IntKind.u64.wrap (i + (1 : Int)))
      else some ((b, at_, e, ()), l, ())
    else some ((b, at_, e, ()), l, ())
def law_listed_0.g (N n : Nat) (x : Sh.den law_listed_0.ins) : Option (altsDen law_listed_0.alts) := law_listed_0.go N n x.1.1 x.1.2.1 x.1.2.2.1 x.2.1 x.2.2.1 x.2.2.2.1
def law_listed_0.P (N : Nat) : Ps := ⟨law_listed_0.ts, law_listed_0.ins, law_listed_0.asg, law_listed_0.alts, law_listed_0.g N N⟩
def law_listed_0.lam (N : Nat) : Pcs := pcs []
theorem law_listed_0.pok (N : Nat) : (law_listed_0.lam N).Ok Try.prog (law_listed_0.C N) law_listed_0.code := pcsOk_nil
theorem law_listed_0.ev (N n : Nat) (x : Sh.den law_listed_0.ins) : evC (law_listed_0.C N) law_listed_0.code (law_listed_0.lam N) ((law_listed_0.P N).canon 1000 x) (loopK (law_listed_0.P N) (law_listed_0.g N n)) = law_listed_0.g N (n + 1) x := by kernel_rfl
theorem law_listed_0.ok (N : Nat) : ((law_listed_0.P N).pc (law_listed.C N)).Ok Try.prog (law_listed.C N) (.loop law_listed_0.code) := loop_ok (F := law_listed_0.P N) (n0 := 1000) (N := N) (law_listed.cok N) mix (law_listed_0.pok N) (law_listed_0.g N) (fun x => by rfl) rfl (fun n x y h => (law_listed_0.ev N n x).trans h)
def law_listed.outs : Sh := (.cons (.own 22 (.slice .byte)) (.cons (.val (.pair (.slice .byte) (.pair (.int .i64) (.int .i64)))) .nil))
def law_listed.run (N : Nat) (b : (List UInt8)) (most : Int) : Option ((List (List UInt8)) × ((List UInt8) × (Int × Int)) × Unit) :=
  obind (ref_GetVar.run N (b, (0 : Int), (0 : Int)) (IntKind.u64.wrap most) (decide (most < (0 : Int)))) fun (v, n_, _) =>
    obind (law_listed_0.go N N v.1 v.2.1 v.2.2 n_ ([] : List (List UInt8)) (0 : Int)) fun ((b1, at_, e, _), l, _) =>
      some (l, (b1, at_, e), ())
def law_listed.fn (N : Nat) (x : Sh.den law_listed.ins) : Option (Sh.den law_listed.outs) := law_listed.run N x.1 x.2.1
def law_listed.S (N : Nat) : Fs := ⟨law_listed.ins, law_listed.outs, law_listed.fn N⟩
def law_listed.lam (N : Nat) : Pcs := pcs [([true, true, true, false, true, false], (law_listed_0.P N).pc (law_listed.C N))]
theorem law_listed.pok (N : Nat) : (law_listed.lam N).Ok Try.prog (law_listed.C N) law_listed.code := pcsOk_cons (c1 := .loop law_listed_0.code) (by kernel_rfl) (law_listed_0.ok N) (pcsOk_nil)
theorem law_listed.ev (N : Nat) (x : Sh.den law_listed.ins) : evC (law_listed.C N) law_listed.code (law_listed.lam N) ⟨envOf 0 (bld (fun k => k) law_listed.ins x 0).1, (bld (fun k => k) law_listed.ins x 0).2.1, 1000⟩ (endF U law_listed.outs Try.f34.results.toList []) = law_listed.fn N x := by kernel_rfl
theorem law_listed.ok (N : Nat) : (law_listed.S N).con.Ok Try.prog 34 := fn_ok (F := law_listed.S N) (n0 := 1000) Try.func34 (by kernel_rfl) (show Try.f34.body = some law_listed.code by rfl) mix (law_listed.cok N) (fun _ => rfl) (fun _ => rfl) (law_listed.pok N) (fun x y h => (law_listed.ev N x).trans h)
/-- hayloft/codec.Items[[]byte] -/
def codec_Items_byte.ins : Sh := (.cons (.box 75 (.cons (.val (.slice .byte)) (.cons (.val (.int .i64)) .nil))) (.cons (.val (.int .i64)) (.cons (.fn 36 .nil) .nil)))
def codec_Items_byte.C (N : Nat) : Ctx := ⟨U, 8, fun _ => true, gam [], gamY []⟩
theorem codec_Items_byte.cok (N : Nat) : (codec_Items_byte.C N).Ok Try.prog := ⟨U_ok, GamOk.nil, GamYOk.nil⟩
def codec_Items_byte.code : Code := Try.f35.body.getD .skip
def codec_Items_byte.outs : Sh := (.cons (.upd 0 75 (.cons (.val (.slice .byte)) (.cons (.val (.int .i64)) .nil))) (.cons (.fn 63 (.cons (.box 24 (.cons (.ref 0) .nil)) (.cons (.box 3 (.cons (.val (.int .i64)) .nil)) (.cons (.box 62 (.cons (.fn 36 .nil) .nil)) .nil)))) .nil))
def codec_Items_byte.run (N : Nat) (b : (List UInt8)) (e : Int) (most : Int) : Option (((List UInt8) × Int × Unit) × ((Unit × Unit) × (Int × Unit) × (Unit × Unit) × Unit) × Unit) :=
  some ((b, e, ()), (((), ()), (most, ()), ((), ()), ()), ())
def codec_Items_byte.fn (N : Nat) (x : Sh.den codec_Items_byte.ins) : Option (Sh.den codec_Items_byte.outs) := codec_Items_byte.run N x.1.1 x.1.2.1 x.2.1
def codec_Items_byte.S (N : Nat) : Fs := ⟨codec_Items_byte.ins, codec_Items_byte.outs, codec_Items_byte.fn N⟩
def codec_Items_byte.lam (N : Nat) : Pcs := pcs []
theorem codec_Items_byte.pok (N : Nat) : (codec_Items_byte.lam N).Ok Try.prog (codec_Items_byte.C N) codec_Items_byte.code := pcsOk_nil
theorem codec_Items_byte.ev (N : Nat) (x : Sh.den codec_Items_byte.ins) : evC (codec_Items_byte.C N) codec_Items_byte.code (codec_Items_byte.lam N) ⟨envOf 0 (bld (fun k => k) codec_Items_byte.ins x 0).1, (bld (fun k => k) codec_Items_byte.ins x 0).2.1, 1000⟩ (endF U codec_Items_byte.outs Try.f35.results.toList []) = codec_Items_byte.fn N x := by kernel_rfl
theorem codec_Items_byte.ok (N : Nat) : (codec_Items_byte.S N).con.Ok Try.prog 35 := fn_ok (F := codec_Items_byte.S N) (n0 := 1000) Try.func35 (by kernel_rfl) (show Try.f35.body = some codec_Items_byte.code by rfl) mix (codec_Items_byte.cok N) (fun _ => rfl) (fun _ => rfl) (codec_Items_byte.pok N) (fun x y h => (codec_Items_byte.ev N x).trans h)
/-- hayloft/hayloftlaw01.short -/
def law_short.ins : Sh := (.cons (.box 75 (.cons (.val (.slice .byte)) (.cons (.val (.int .i64)) .nil))) .nil)
def law_short.C (N : Nat) : Ctx := ⟨U, 5, fun _ => true, gam [(46, (codec_Reader_Text.S N).con)], gamY []⟩
theorem law_short.cok (N : Nat) : (law_short.C N).Ok Try.prog := ⟨U_ok, GamOk.cons (codec_Reader_Text.ok N) (GamOk.nil), GamYOk.nil⟩
def law_short.code : Code := Try.f36.body.getD .skip
def law_short.outs : Sh := (.cons (.upd 0 75 (.cons (.val (.slice .byte)) (.cons (.val (.int .i64)) .nil))) (.cons (.own 5 .byte) .nil))
def law_short.run (N : Nat) (b : (List UInt8)) (e : Int) : Option (((List UInt8) × Int × Unit) × (List UInt8) × Unit) :=
  obind (codec_Reader_Text.run N b e (9 : Int)) fun ((b1, e1, _), l, _) =>
    some ((b1, e1, ()), l, ())
def law_short.fn (N : Nat) (x : Sh.den law_short.ins) : Option (Sh.den law_short.outs) := law_short.run N x.1.1 x.1.2.1
def law_short.S (N : Nat) : Fs := ⟨law_short.ins, law_short.outs, law_short.fn N⟩
def law_short.lam (N : Nat) : Pcs := pcs []
theorem law_short.pok (N : Nat) : (law_short.lam N).Ok Try.prog (law_short.C N) law_short.code := pcsOk_nil
theorem law_short.ev (N : Nat) (x : Sh.den law_short.ins) : evC (law_short.C N) law_short.code (law_short.lam N) ⟨envOf 0 (bld (fun k => k) law_short.ins x 0).1, (bld (fun k => k) law_short.ins x 0).2.1, 1000⟩ (endF U law_short.outs Try.f36.results.toList []) = law_short.fn N x := by kernel_rfl
theorem law_short.ok (N : Nat) : (law_short.S N).con.Ok Try.prog 36 := fn_ok (F := law_short.S N) (n0 := 1000) Try.func36 (by kernel_rfl) (show Try.f36.body = some law_short.code by rfl) mix (law_short.cok N) (fun _ => rfl) (fun _ => rfl) (law_short.pok N) (fun x y h => (law_short.ev N x).trans h)
def Y0.ins : Sh := (.cons (.rbox 3 (.cons (.val (.int .i64)) .nil)) (.cons (.box 4 (.cons (.val .bool) .nil)) (.cons (.rbox 24 (.cons (.rbox 75 (.cons (.val (.slice .byte)) (.cons (.val (.int .i64)) .nil))) .nil)) (.cons (.rbox 51 (.cons (.rown 22 (.slice .byte)) .nil)) (.cons (.box 3 (.cons (.val (.int .i64)) .nil)) (.cons (.val (.int .i64)) (.cons (.rown 5 .byte) .nil)))))))
def Y0.C (N : Nat) : Ctx := ⟨U, 80, fun _ => true, gam [(21, (law_same_b.S N).con), (18, (codec_Reader_Err.S N).con)], gamY []⟩
theorem Y0.cok (N : Nat) : (Y0.C N).Ok Try.prog := ⟨U_ok, GamOk.cons (law_same_b.ok N) (GamOk.cons (codec_Reader_Err.ok N) (GamOk.nil)), GamYOk.nil⟩
def Y0.code : Code := site0.body
def Y0.alts : List Alt := [⟨.normal, [], (.cons (.upd 1 4 (.cons (.val .bool) .nil)) (.cons (.upd 6 3 (.cons (.val (.int .i64)) .nil)) .nil))⟩, ⟨.ret, [], (.cons (.upd 1 4 (.cons (.val .bool) .nil)) (.cons (.upd 6 3 (.cons (.val (.int .i64)) .nil)) .nil))⟩]
def Y0.run (N : Nat) (stop : Int) (t6 : Bool) (b : (List UInt8)) (e : Int) (m : (List (List UInt8))) (k : Int) (t30 : Int) (t31 : (List UInt8)) : Option (((Bool × Unit) × (Int × Unit) × Unit) ⊕ ((Bool × Unit) × (Int × Unit) × Unit)) :=
  bif !(decide (t30 = k)) then
    some (.inr ((false, ()), (k, ()), ()))
  else
    bif decide (k ≥ (m.length : Int)) then
      some (.inr ((false, ()), (k, ()), ()))
    else
      bif inB k m.length then
        bif decide (k.toNat < m.length) then
          obind (law_same_b.run N t31 (m.getD k.toNat ([] : List UInt8))) fun (b1, _) =>
            bif !b1 then
              some (.inr ((false, ()), (k, ()), ()))
            else
              bif decide ((IntKind.i64.wrap (k + (1 : Int))) = stop) then
                obind (codec_Reader_Err.run N b e) fun (n_, _) =>
                  some (.inr ((decide (n_ = (0 : Int)), ()), (IntKind.i64.wrap (k + (1 : Int)), ()), ()))
              else some (.inl ((t6, ()), (IntKind.i64.wrap (k + (1 : Int)), ()), ()))
        else none
      else none
def Y0.fn (N : Nat) (x : Sh.den Y0.ins) : Option (altsDen Y0.alts) := Y0.run N x.1.1 x.2.1.1 x.2.2.1.1.1 x.2.2.1.1.2.1 x.2.2.2.1.1 x.2.2.2.2.1.1 x.2.2.2.2.2.1 x.2.2.2.2.2.2.1
def Y0.F (N : Nat) : Ys := ⟨[5, 6, 7, 8, 10], [30, 31], Y0.ins, Y0.alts, Y0.fn N⟩
def Y0.yc (N : Nat) : Yc := (Y0.F N).yc
def Y0.lam (N : Nat) : Pcs := pcs []
theorem Y0.pok (N : Nat) : (Y0.lam N).Ok Try.prog (Y0.C N) site0.body := pcsOk_nil
theorem Y0.ev (N : Nat) (x : Sh.den Y0.ins) : evC (Y0.C N) site0.assign (pcs []) ⟨addT [5, 6, 7, 8, 10, 30, 31] (bld (fun k => k) Y0.ins x 0).1 [], (bld (fun k => k) Y0.ins x 0).2.1, 1000⟩ (thenC fun s => evC (Y0.C N) site0.body (Y0.lam N) s (altK Y0.alts)) = Y0.fn N x := by kernel_rfl
theorem Y0.ok (N : Nat) : (Y0.yc N).Ok Try.prog 1000000 := ys_ok (σ := site0) (k := 0) (C := Y0.C N) (F := Y0.F N) (n0 := 1000) (fun _ => rfl) (Y0.cok N) mix (fun _ => rfl) (show site0.ps.toList = [30, 31] by kernel_rfl) (show site0.ts = [5, 6, 7, 8, 10] by kernel_rfl) (show site0.nt = 80 by kernel_rfl) rfl rfl rfl rfl rfl pcsOk_nil (Y0.pok N) (fun x y h => (Y0.ev N x).trans h)
/-- hayloft/codec.Items[[]byte]$1 -/
def codec_Items_byte_1_f1.ins : Sh := (.cons (.box 1000000 (.cons (.val (.int .i64)) (.cons (.junk) (.cons (.junk) (.cons (.junk) (.cons (.rbox 3 (.cons (.val (.int .i64)) .nil)) (.cons (.box 4 (.cons (.val .bool) .nil)) (.cons (.rbox 24 (.cons (.box 75 (.cons (.val (.slice .byte)) (.cons (.val (.int .i64)) .nil))) .nil)) (.cons (.rbox 51 (.cons (.rown 22 (.slice .byte)) .nil)) (.cons (.box 3 (.cons (.val (.int .i64)) .nil)) .nil)))))))))) (.cons (.rbox 24 (.cons (.ref 4) .nil)) (.cons (.rbox 3 (.cons (.val (.int .i64)) .nil)) (.cons (.rbox 62 (.cons (.fn 36 .nil) .nil)) .nil))))
def codec_Items_byte_1_f1.C (N : Nat) : Ctx := ⟨U, 32, fun _ => true, gam [(64, (codec_Reader_room.S N).con), (36, (law_short.S N).con)], gamY [(1000000, Y0.yc N)]⟩
theorem codec_Items_byte_1_f1.cok (N : Nat) : (codec_Items_byte_1_f1.C N).Ok Try.prog := ⟨U_ok, GamOk.cons (codec_Reader_room.ok N) (GamOk.cons (law_short.ok N) (GamOk.nil)), GamYOk.cons (Y0.ok N) (GamYOk.nil)⟩
def codec_Items_byte_1_f1.code : Code := Try.f63.body.getD .skip
def codec_Items_byte_1_f1_0.ins : Sh := (.cons (.box 1000000 (.cons (.val (.int .i64)) (.cons (.junk) (.cons (.junk) (.cons (.junk) (.cons (.rbox 3 (.cons (.val (.int .i64)) .nil)) (.cons (.box 4 (.cons (.val .bool) .nil)) (.cons (.rbox 24 (.cons (.box 75 (.cons (.val (.slice .byte)) (.cons (.val (.int .i64)) .nil))) .nil)) (.cons (.rbox 51 (.cons (.rown 22 (.slice .byte)) .nil)) (.cons (.box 3 (.cons (.val (.int .i64)) .nil)) .nil)))))))))) (.cons (.rbox 24 (.cons (.ref 4) .nil)) (.cons (.rbox 62 (.cons (.fn 36 .nil) .nil)) (.cons (.val (.int .u64)) (.cons (.val (.int .i64)) .nil)))))
def codec_Items_byte_1_f1_0.ts : List Tmp := [0, 1, 3, 5, 6]
def codec_Items_byte_1_f1_0.asg : List Tmp := [6, 7, 11, 12, 13, 14, 15, 16, 17, 18, 19, 20, 21, 22, 23, 24, 25, 26, 27, 28, 29, 30, 31]
def codec_Items_byte_1_f1_0.C (N : Nat) : Ctx := { codec_Items_byte_1_f1.C N with may := fun t => codec_Items_byte_1_f1_0.asg.any (Nat.beq t) }
def codec_Items_byte_1_f1_0.code : Code := loopBody (sub codec_Items_byte_1_f1.code [true, true, false])
theorem codec_Items_byte_1_f1_0.cok (N : Nat) : (codec_Items_byte_1_f1_0.C N).Ok Try.prog := ⟨(codec_Items_byte_1_f1.cok N).U, (codec_Items_byte_1_f1.cok N).Γ, (codec_Items_byte_1_f1.cok N).Y⟩
def codec_Items_byte_1_f1_0.alts : List Alt := [⟨.ret, [], (.cons (.upd 2 4 (.cons (.val .bool) .nil)) (.cons (.upd 4 75 (.cons (.val (.slice .byte)) (.cons (.val (.int .i64)) .nil))) (.cons (.upd 7 3 (.cons (.val (.int .i64)) .nil)) (.cons (.upd 0 1000000 (.cons (.val (.int .i64)) (.cons (.junk) (.cons (.junk) (.cons (.junk) (.cons (.keep 0 1) (.cons (.ref 0) (.cons (.keep 0 3) (.cons (.keep 0 5) (.cons (.ref 2) .nil)))))))))) .nil))))⟩, ⟨(.exit 0), [], (.cons (.upd 2 4 (.cons (.val .bool) .nil)) (.cons (.upd 4 75 (.cons (.val (.slice .byte)) (.cons (.val (.int .i64)) .nil))) (.cons (.upd 7 3 (.cons (.val (.int .i64)) .nil)) (.cons (.upd 0 1000000 (.cons (.val (.int .i64)) (.cons (.junk) (.cons (.junk) (.cons (.junk) (.cons (.keep 0 1) (.cons (.ref 0) (.cons (.keep 0 3) (.cons (.keep 0 5) (.cons (.ref 2) .nil)))))))))) .nil))))⟩]
def codec_Items_byte_1_f1_0.go (N : Nat) : Nat → Int → Int → Bool → (List UInt8) → Int → (List (List UInt8)) → Int → Int → Int → Option (((Bool × Unit) × ((List UInt8) × Int × Unit) × (Int × Unit) × (Int × Unit × Unit × Unit × Unit × Unit × Unit × Unit × Unit × Unit) × Unit) ⊕ ((Bool × Unit) × ((List UInt8) × Int × Unit) × (Int × Unit) × (Int × Unit × Unit × Unit × Unit × Unit × Unit × Unit × Unit × Unit) × Unit))
  | 0, _, _, _, _, _, _, _, _, _ => none
  | fuel + 1, yield, yield1, yield2, b, e, yield3, yield4, n_, i =>
    bif decide ((IntKind.u64.wrap i) < n_) then
      obind (law_short.run N b e) fun ((b1, e1, _), l, _) =>
        bif !(decide (e1 = (0 : Int))) then
          some (.inl ((yield2, ()), (b1, e1, ()), (yield4, ()), (yield, (), (), (), (), (), (), (), (), ()), ()))
        else
          bif decide (yield = (0 : Int)) then
            obind (Y0.run N yield1 yield2 b1 e1 yield3 yield4 i l) fun y => match y with
            | .inl ((v, _), (v1, _), _) =>
                codec_Items_byte_1_f1_0.go N fuel (0 : Int) yield1 v b1 e1 yield3 v1 n_ (IntKind.i64.wrap (i + (1 : Int)))
            | .inr ((v2, _), (v3, _), _) =>
                some (.inl ((v2, ()), (b1, e1, ()), (v3, ()), ((1 : Int), (), (), (), (), (), (), (), (), ()), ()))
          else none
    else some (.inr ((yield2, ()), (b, e, ()), (yield4, ()), (yield, (), (), (), (), (), (), (), (), ()), ()))
def codec_Items_byte_1_f1_0.g (N n : Nat) (x : Sh.den codec_Items_byte_1_f1_0.ins) : Option (altsDen codec_Items_byte_1_f1_0.alts) := codec_Items_byte_1_f1_0.go N n x.1.1 x.1.2.2.2.2.1.1 x.1.2.2.2.2.2.1.1 x.1.2.2.2.2.2.2.1.1.1 x.1.2.2.2.2.2.2.1.1.2.1 x.1.2.2.2.2.2.2.2.1.1 x.1.2.2.2.2.2.2.2.2.1.1 x.2.2.2.1 x.2.2.2.2.1
def codec_Items_byte_1_f1_0.P (N : Nat) : Ps := ⟨codec_Items_byte_1_f1_0.ts, codec_Items_byte_1_f1_0.ins, codec_Items_byte_1_f1_0.asg, codec_Items_byte_1_f1_0.alts, codec_Items_byte_1_f1_0.g N N⟩
def codec_Items_byte_1_f1_0.lam (N : Nat) : Pcs := pcs []
theorem codec_Items_byte_1_f1_0.pok (N : Nat) : (codec_Items_byte_1_f1_0.lam N).Ok Try.prog (codec_Items_byte_1_f1_0.C N) codec_Items_byte_1_f1_0.code := pcsOk_nil
theorem codec_Items_byte_1_f1_0.ev (N n : Nat) (x : Sh.den codec_Items_byte_1_f1_0.ins) : evC (codec_Items_byte_1_f1_0.C N) codec_Items_byte_1_f1_0.code (codec_Items_byte_1_f1_0.lam N) ((codec_Items_byte_1_f1_0.P N).canon 1000 x) (loopK (codec_Items_byte_1_f1_0.P N) (codec_Items_byte_1_f1_0.g N n)) = codec_Items_byte_1_f1_0.g N (n + 1) x := by kernel_rfl
theorem codec_Items_byte_1_f1_0.ok (N : Nat) : ((codec_Items_byte_1_f1_0.P N).pc (codec_Items_byte_1_f1.C N)).Ok Try.prog (codec_Items_byte_1_f1.C N) (.loop codec_Items_byte_1_f1_0.code) := loop_ok (F := codec_Items_byte_1_f1_0.P N) (n0 := 1000) (N := N) (codec_Items_byte_1_f1.cok N) mix (codec_Items_byte_1_f1_0.pok N) (codec_Items_byte_1_f1_0.g N) (fun x => by rfl) rfl (fun n x y h => (codec_Items_byte_1_f1_0.ev N n x).trans h)
def codec_Items_byte_1_f1.outs : Sh := (.cons (.upd 2 4 (.cons (.val .bool) .nil)) (.cons (.upd 4 75 (.cons (.val (.slice .byte)) (.cons (.val (.int .i64)) .nil))) (.cons (.upd 7 3 (.cons (.val (.int .i64)) .nil)) (.cons (.upd 0 1000000 (.cons (.val (.int .i64)) (.cons (.junk) (.cons (.junk) (.cons (.junk) (.cons (.keep 0 1) (.cons (.ref 0) (.cons (.keep 0 3) (.cons (.keep 0 5) (.cons (.ref 2) .nil)))))))))) .nil))))
def codec_Items_byte_1_f1.run (N : Nat) (yield : Int) (yield1 : Int) (yield2 : Bool) (b : (List UInt8)) (e : Int) (yield3 : (List (List UInt8))) (yield4 : Int) (t2 : Int) : Option ((Bool × Unit) × ((List UInt8) × Int × Unit) × (Int × Unit) × (Int × Unit × Unit × Unit × Unit × Unit × Unit × Unit × Unit × Unit) × Unit) :=
  obind (codec_Reader_room.run N b e t2) fun ((b1, e1, _), n_, _) =>
    obind (codec_Items_byte_1_f1_0.go N N yield yield1 yield2 b1 e1 yield3 yield4 n_ (0 : Int)) fun y => match y with
    | .inl ((v, _), (b2, e2, _), (v1, _), (v2, _, _, _, _, _, _, _, _, _), _) =>
        some ((v, ()), (b2, e2, ()), (v1, ()), (v2, (), (), (), (), (), (), (), (), ()), ())
    | .inr ((v3, _), (b3, e3, _), (v4, _), (v5, _, _, _, _, _, _, _, _, _), _) =>
        some ((v3, ()), (b3, e3, ()), (v4, ()), (v5, (), (), (), (), (), (), (), (), ()), ())
def codec_Items_byte_1_f1.fn (N : Nat) (x : Sh.den codec_Items_byte_1_f1.ins) : Option (Sh.den codec_Items_byte_1_f1.outs) := codec_Items_byte_1_f1.run N x.1.1 x.1.2.2.2.2.1.1 x.1.2.2.2.2.2.1.1 x.1.2.2.2.2.2.2.1.1.1 x.1.2.2.2.2.2.2.1.1.2.1 x.1.2.2.2.2.2.2.2.1.1 x.1.2.2.2.2.2.2.2.2.1.1 x.2.2.1.1
def codec_Items_byte_1_f1.S (N : Nat) : Fs := ⟨codec_Items_byte_1_f1.ins, codec_Items_byte_1_f1.outs, codec_Items_byte_1_f1.fn N⟩
def codec_Items_byte_1_f1.lam (N : Nat) : Pcs := pcs [([true, true, false], (codec_Items_byte_1_f1_0.P N).pc (codec_Items_byte_1_f1.C N))]
theorem codec_Items_byte_1_f1.pok (N : Nat) : (codec_Items_byte_1_f1.lam N).Ok Try.prog (codec_Items_byte_1_f1.C N) codec_Items_byte_1_f1.code := pcsOk_cons (c1 := .loop codec_Items_byte_1_f1_0.code) (by kernel_rfl) (codec_Items_byte_1_f1_0.ok N) (pcsOk_nil)
theorem codec_Items_byte_1_f1.ev (N : Nat) (x : Sh.den codec_Items_byte_1_f1.ins) : evC (codec_Items_byte_1_f1.C N) codec_Items_byte_1_f1.code (codec_Items_byte_1_f1.lam N) ⟨envOf 0 (bld (fun k => k) codec_Items_byte_1_f1.ins x 0).1, (bld (fun k => k) codec_Items_byte_1_f1.ins x 0).2.1, 1000⟩ (endF U codec_Items_byte_1_f1.outs Try.f63.results.toList []) = codec_Items_byte_1_f1.fn N x := by kernel_rfl
theorem codec_Items_byte_1_f1.ok (N : Nat) : (codec_Items_byte_1_f1.S N).con.Ok Try.prog 63 := fn_ok (F := codec_Items_byte_1_f1.S N) (n0 := 1000) Try.func63 (by kernel_rfl) (show Try.f63.body = some codec_Items_byte_1_f1.code by rfl) mix (codec_Items_byte_1_f1.cok N) (fun _ => rfl) (fun _ => rfl) (codec_Items_byte_1_f1.pok N) (fun x y h => (codec_Items_byte_1_f1.ev N x).trans h)
/-- hayloft/hayloftlaw01.CodecItems -/
def law_CodecItems.ins : Sh := (.cons (.val (.slice .byte)) (.cons (.val (.int .i64)) (.cons (.val (.int .i64)) .nil)))
def law_CodecItems.C (N : Nat) : Ctx := ⟨U, 80, fun _ => true, gam [(14, (codec_Read.S N).con), (16, (law_alive.S N).con), (34, (law_listed.S N).con), (35, (codec_Items_byte.S N).con), (63, (codec_Items_byte_1_f1.S N).con), (18, (codec_Reader_Err.S N).con), (19, (codec_Reader_Left.S N).con)], gamY []⟩
theorem law_CodecItems.cok (N : Nat) : (law_CodecItems.C N).Ok Try.prog := ⟨U_ok, GamOk.cons (codec_Read.ok N) (GamOk.cons (law_alive.ok N) (GamOk.cons (law_listed.ok N) (GamOk.cons (codec_Items_byte.ok N) (GamOk.cons (codec_Items_byte_1_f1.ok N) (GamOk.cons (codec_Reader_Err.ok N) (GamOk.cons (codec_Reader_Left.ok N) (GamOk.nil))))))), GamYOk.nil⟩
def law_CodecItems.code : Code := Try.f8.body.getD .skip
def law_CodecItems.outs : Sh := (.cons (.val .bool) .nil)
def law_CodecItems.run (N : Nat) (b : (List UInt8)) (most : Int) (stop : Int) : Option (Bool × Unit) :=
  obind (codec_Read.run N b) fun ((b1, e, _), _) =>
    obind (law_alive.run N) fun (b2, _) =>
      bif !b2 then
        some (false, ())
      else
        obind (law_listed.run N b most) fun (l, v, _) =>
          obind (codec_Items_byte.run N b1 e most) fun ((b3, e1, _), ((_, _), (v1, _), (_, _), _), _) =>
            obind (codec_Items_byte_1_f1.run N (0 : Int) stop false b3 e1 l (0 : Int) v1) fun ((v2, _), (b4, e2, _), (v3, _), (v4, _, _, _, _, _, _, _, _, _), _) =>
              bif decide (v4 = (0 : Int)) then
                bif decide (v3 = (l.length : Int)) then
                  obind (codec_Reader_Err.run N b4 e2) fun (n_, _) =>
                    bif decide (n_ = v.2.2) then
                      obind (codec_Reader_Left.run N b4 e2) fun (n1, _) =>
                        some (decide (n1 = (IntKind.i64.wrap ((v.1.length : Int) - v.2.1))), ())
                    else some (false, ())
                else some (false, ())
              else
                bif decide (v4 = (1 : Int)) then
                  some (v2, ())
                else none
def law_CodecItems.fn (N : Nat) (x : Sh.den law_CodecItems.ins) : Option (Sh.den law_CodecItems.outs) := law_CodecItems.run N x.1 x.2.1 x.2.2.1
def law_CodecItems.S (N : Nat) : Fs := ⟨law_CodecItems.ins, law_CodecItems.outs, law_CodecItems.fn N⟩
def law_CodecItems.lam (N : Nat) : Pcs := pcs [([true, true, true, true, true, false, true, false], rfPc (law_CodecItems.C N) 1000000 (.tmp 29) [5, 6, 7, 8, 10] [.normal, .ret])]
theorem law_CodecItems.pok (N : Nat) : (law_CodecItems.lam N).Ok Try.prog (law_CodecItems.C N) law_CodecItems.code := pcsOk_cons (c1 := .rangeFunc (.tmp 29) site0.ps site0.assign site0.body) (by kernel_rfl) (rf_ok (k := 0) (fun _ => rfl) (law_CodecItems.cok N)) (pcsOk_nil)
theorem law_CodecItems.ev (N : Nat) (x : Sh.den law_CodecItems.ins) : evC (law_CodecItems.C N) law_CodecItems.code (law_CodecItems.lam N) ⟨envOf 0 (bld (fun k => k) law_CodecItems.ins x 0).1, (bld (fun k => k) law_CodecItems.ins x 0).2.1, 1000⟩ (endF U law_CodecItems.outs Try.f8.results.toList []) = law_CodecItems.fn N x := by kernel_rfl
theorem law_CodecItems.ok (N : Nat) : (law_CodecItems.S N).con.Ok Try.prog 8 := fn_ok (F := law_CodecItems.S N) (n0 := 1000) Try.func8 (by kernel_rfl) (show Try.f8.body = some law_CodecItems.code by rfl) mix (law_CodecItems.cok N) (fun _ => rfl) (fun _ => rfl) (law_CodecItems.pok N) (fun x y h => (law_CodecItems.ev N x).trans h)
/-- hayloft/codec.Sum -/
def codec_Sum.ins : Sh := (.cons (.val (.slice .byte)) .nil)
def codec_Sum.C (N : Nat) : Ctx := ⟨U, 54, fun _ => true, gam [], gamY []⟩
theorem codec_Sum.cok (N : Nat) : (codec_Sum.C N).Ok Try.prog := ⟨U_ok, GamOk.nil, GamYOk.nil⟩
def codec_Sum.code : Code := Try.f37.body.getD .skip
def codec_Sum_0.ins : Sh := (.cons (.arr 95 (.int .u32) 16) (.cons (.val (.int .i64)) .nil))
def codec_Sum_0.ts : List Tmp := [3, 9]
def codec_Sum_0.asg : List Tmp := [4, 5, 9, 10, 11, 12, 13, 14, 15, 16, 17, 18, 19, 20, 21, 22, 23, 24, 25, 26]
def codec_Sum_0.C (N : Nat) : Ctx := { codec_Sum.C N with may := fun t => codec_Sum_0.asg.any (Nat.beq t) }
def codec_Sum_0.code : Code := loopBody (sub codec_Sum.code [true, true, false, true, false])
theorem codec_Sum_0.cok (N : Nat) : (codec_Sum_0.C N).Ok Try.prog := ⟨(codec_Sum.cok N).U, (codec_Sum.cok N).Γ, (codec_Sum.cok N).Y⟩
def codec_Sum_0_0.ins : Sh := (.cons (.val (.int .u32)) (.cons (.val (.int .i64)) .nil))
def codec_Sum_0_0.ts : List Tmp := [5, 14]
def codec_Sum_0_0.asg : List Tmp := [5, 14, 15, 16, 17, 18, 19, 20, 21, 22]
def codec_Sum_0_0.C (N : Nat) : Ctx := { codec_Sum_0.C N with may := fun t => codec_Sum_0_0.asg.any (Nat.beq t) }
def codec_Sum_0_0.code : Code := loopBody (sub codec_Sum_0.code [true, true, false, false, true, true, false, true, false])
theorem codec_Sum_0_0.cok (N : Nat) : (codec_Sum_0_0.C N).Ok Try.prog := ⟨(codec_Sum_0.cok N).U, (codec_Sum_0.cok N).Γ, (codec_Sum_0.cok N).Y⟩
def codec_Sum_0_0.alts : List Alt := [⟨(.exit 2), [5], (.cons (.val (.int .u32)) .nil)⟩]
def codec_Sum_0_0.go (N : Nat) : Nat → Int → Int → Option ((Int × Unit))
  | 0, _, _ => none
  | fuel + 1, c, t14 =>
    bif decide (t14 < (4 : Int)) then
      codec_Sum_0_0.go N fuel (IntKind.u32.wrap ((BitVec.ofInt 32 (c.fdiv (2 : Int)) ^^^ BitVec.ofInt 32 (IntKind.u32.wrap ((3988292384 : Int) * (IntKind.u32.wrap ((BitVec.ofInt 32 c &&& BitVec.ofInt 32 (1 : Int)).toNat : Int))))).toNat : Int)) (IntKind.i64.wrap (t14 + (1 : Int)))
    else some (c, ())
def codec_Sum_0_0.g (N n : Nat) (x : Sh.den codec_Sum_0_0.ins) : Option (altsDen codec_Sum_0_0.alts) := codec_Sum_0_0.go N n x.1 x.2.1
def codec_Sum_0_0.P (N : Nat) : Ps := ⟨codec_Sum_0_0.ts, codec_Sum_0_0.ins, codec_Sum_0_0.asg, codec_Sum_0_0.alts, codec_Sum_0_0.g N N⟩
def codec_Sum_0_0.lam (N : Nat) : Pcs := pcs []
theorem codec_Sum_0_0.pok (N : Nat) : (codec_Sum_0_0.lam N).Ok Try.prog (codec_Sum_0_0.C N) codec_Sum_0_0.code := pcsOk_nil
theorem codec_Sum_0_0.ev (N n : Nat) (x : Sh.den codec_Sum_0_0.ins) : evC (codec_Sum_0_0.C N) codec_Sum_0_0.code (codec_Sum_0_0.lam N) ((codec_Sum_0_0.P N).canon 1000 x) (loopK (codec_Sum_0_0.P N) (codec_Sum_0_0.g N n)) = codec_Sum_0_0.g N (n + 1) x := by kernel_rfl
theorem codec_Sum_0_0.ok (N : Nat) : ((codec_Sum_0_0.P N).pc (codec_Sum_0.C N)).Ok Try.prog (codec_Sum_0.C N) (.loop codec_Sum_0_0.code) := loop_ok (F := codec_Sum_0_0.P N) (n0 := 1000) (N := N) (codec_Sum_0.cok N) mix (codec_Sum_0_0.pok N) (codec_Sum_0_0.g N) (fun x => by rfl) rfl (fun n x y h => (codec_Sum_0_0.ev N n x).trans h)
def codec_Sum_0.alts : List Alt := [⟨(.exit 0), [], (.cons (.updr 0 95 (.int .u32)) .nil)⟩]
def codec_Sum_0.go (N : Nat) : Nat → (List Int) → Int → Option (((List Int) × Unit))
  | 0, _, _ => none
  | fuel + 1, half, t9 =>
    bif decide (t9 < (16 : Int)) then
      obind (codec_Sum_0_0.go N N (IntKind.u32.wrap t9) (0 : Int)) fun (c, _) =>
        bif inB t9 16 then
          bif decide (t9.toNat < half.length) then
            codec_Sum_0.go N fuel (half.set t9.toNat c) (IntKind.i64.wrap (t9 + (1 : Int)))
          else none
        else none
    else some (half, ())
def codec_Sum_0.g (N n : Nat) (x : Sh.den codec_Sum_0.ins) : Option (altsDen codec_Sum_0.alts) := codec_Sum_0.go N n x.1 x.2.1
def codec_Sum_0.P (N : Nat) : Ps := ⟨codec_Sum_0.ts, codec_Sum_0.ins, codec_Sum_0.asg, codec_Sum_0.alts, codec_Sum_0.g N N⟩
def codec_Sum_0.lam (N : Nat) : Pcs := pcs [([true, true, false, false, true, true, false, true, false], (codec_Sum_0_0.P N).pc (codec_Sum_0.C N))]
theorem codec_Sum_0.pok (N : Nat) : (codec_Sum_0.lam N).Ok Try.prog (codec_Sum_0.C N) codec_Sum_0.code := pcsOk_cons (c1 := .loop codec_Sum_0_0.code) (by kernel_rfl) (codec_Sum_0_0.ok N) (pcsOk_nil)
theorem codec_Sum_0.ev (N n : Nat) (x : Sh.den codec_Sum_0.ins) : evC (codec_Sum_0.C N) codec_Sum_0.code (codec_Sum_0.lam N) ((codec_Sum_0.P N).canon 1000 x) (loopK (codec_Sum_0.P N) (codec_Sum_0.g N n)) = codec_Sum_0.g N (n + 1) x := by kernel_rfl
theorem codec_Sum_0.ok (N : Nat) : ((codec_Sum_0.P N).pc (codec_Sum.C N)).Ok Try.prog (codec_Sum.C N) (.loop codec_Sum_0.code) := loop_ok (F := codec_Sum_0.P N) (n0 := 1000) (N := N) (codec_Sum.cok N) mix (codec_Sum_0.pok N) (codec_Sum_0.g N) (fun x => by rfl) rfl (fun n x y h => (codec_Sum_0.ev N n x).trans h)
def codec_Sum_1.ins : Sh := (.cons (.arr 95 (.int .u32) 16) (.cons (.val (.int .u32)) (.cons (.val (.slice .byte)) (.cons (.val (.int .i64)) (.cons (.val (.int .i64)) .nil)))))
def codec_Sum_1.ts : List Tmp := [3, 6, 27, 28, 29]
def codec_Sum_1.asg : List Tmp := [6, 8, 29, 30, 31, 32, 33, 34, 35, 36, 37, 38, 39, 40, 41, 42, 43, 44, 45, 46, 47, 48, 49, 50, 51]
def codec_Sum_1.C (N : Nat) : Ctx := { codec_Sum.C N with may := fun t => codec_Sum_1.asg.any (Nat.beq t) }
def codec_Sum_1.code : Code := loopBody (sub codec_Sum.code [true, true, true, true, false, true, false])
theorem codec_Sum_1.cok (N : Nat) : (codec_Sum_1.C N).Ok Try.prog := ⟨(codec_Sum.cok N).U, (codec_Sum.cok N).Γ, (codec_Sum.cok N).Y⟩
def codec_Sum_1.alts : List Alt := [⟨(.exit 4), [6], (.cons (.val (.int .u32)) .nil)⟩]
def codec_Sum_1.go (N : Nat) : Nat → (List Int) → Int → (List UInt8) → Int → Int → Option ((Int × Unit))
  | 0, _, _, _, _, _ => none
  | fuel + 1, half, c, t27, t28, t29 =>
    bif decide (t29 < t28) then
      bif inB t29 t27.length then
        bif inB (IntKind.u32.wrap ((BitVec.ofInt 32 (IntKind.u32.wrap ((BitVec.ofInt 32 c ^^^ BitVec.ofInt 32 (IntKind.u32.wrap ((t27.getD t29.toNat (0 : UInt8)).toNat : Int))).toNat : Int)) &&& BitVec.ofInt 32 (15 : Int)).toNat : Int)) 16 then
          bif decide ((IntKind.u32.wrap ((BitVec.ofInt 32 (IntKind.u32.wrap ((BitVec.ofInt 32 c ^^^ BitVec.ofInt 32 (IntKind.u32.wrap ((t27.getD t29.toNat (0 : UInt8)).toNat : Int))).toNat : Int)) &&& BitVec.ofInt 32 (15 : Int)).toNat : Int)).toNat < half.length) then
            bif inB (IntKind.u32.wrap ((BitVec.ofInt 32 (IntKind.u32.wrap ((BitVec.ofInt 32 (half.getD (IntKind.u32.wrap ((BitVec.ofInt 32 (IntKind.u32.wrap ((BitVec.ofInt 32 c ^^^ BitVec.ofInt 32 (IntKind.u32.wrap ((t27.getD t29.toNat (0 : UInt8)).toNat : Int))).toNat : Int)) &&& BitVec.ofInt 32 (15 : Int)).toNat : Int)).toNat (0 : Int)) ^^^ BitVec.ofInt 32 ((IntKind.u32.wrap ((BitVec.ofInt 32 c ^^^ BitVec.ofInt 32 (IntKind.u32.wrap ((t27.getD t29.toNat (0 : UInt8)).toNat : Int))).toNat : Int)).fdiv (16 : Int))).toNat : Int)) &&& BitVec.ofInt 32 (15 : Int)).toNat : Int)) 16 then
              bif decide ((IntKind.u32.wrap ((BitVec.ofInt 32 (IntKind.u32.wrap ((BitVec.ofInt 32 (half.getD (IntKind.u32.wrap ((BitVec.ofInt 32 (IntKind.u32.wrap ((BitVec.ofInt 32 c ^^^ BitVec.ofInt 32 (IntKind.u32.wrap ((t27.getD t29.toNat (0 : UInt8)).toNat : Int))).toNat : Int)) &&& BitVec.ofInt 32 (15 : Int)).toNat : Int)).toNat (0 : Int)) ^^^ BitVec.ofInt 32 ((IntKind.u32.wrap ((BitVec.ofInt 32 c ^^^ BitVec.ofInt 32 (IntKind.u32.wrap ((t27.getD t29.toNat (0 : UInt8)).toNat : Int))).toNat : Int)).fdiv (16 : Int))).toNat : Int)) &&& BitVec.ofInt 32 (15 : Int)).toNat : Int)).toNat < half.length) then
                codec_Sum_1.go N fuel half (IntKind.u32.wrap ((BitVec.ofInt 32 (half.getD (IntKind.u32.wrap ((BitVec.ofInt 32 (IntKind.u32.wrap ((BitVec.ofInt 32 (half.getD (IntKind.u32.wrap ((BitVec.ofInt 32 (IntKind.u32.wrap ((BitVec.ofInt 32 c ^^^ BitVec.ofInt 32 (IntKind.u32.wrap ((t27.getD t29.toNat (0 : UInt8)).toNat : Int))).toNat : Int)) &&& BitVec.ofInt 32 (15 : Int)).toNat : Int)).toNat (0 : Int)) ^^^ BitVec.ofInt 32 ((IntKind.u32.wrap ((BitVec.ofInt 32 c ^^^ BitVec.ofInt 32 (IntKind.u32.wrap ((t27.getD t29.toNat (0 : UInt8)).toNat : Int))).toNat : Int)).fdiv (16 : Int))).toNat : Int)) &&& BitVec.ofInt 32 (15 : Int)).toNat : Int)).toNat (0 : Int)) ^^^ BitVec.ofInt 32 ((IntKind.u32.wrap ((BitVec.ofInt 32 (half.getD (IntKind.u32.wrap ((BitVec.ofInt 32 (IntKind.u32.wrap ((BitVec.ofInt 32 c ^^^ BitVec.ofInt 32 (IntKind.u32.wrap ((t27.getD t29.toNat (0 : UInt8)).toNat : Int))).toNat : Int)) &&& BitVec.ofInt 32 (15 : Int)).toNat : Int)).toNat (0 : Int)) ^^^ BitVec.ofInt 32 ((IntKind.u32.wrap ((BitVec.ofInt 32 c ^^^ BitVec.ofInt 32 (IntKind.u32.wrap ((t27.getD t29.toNat (0 : UInt8)).toNat : Int))).toNat : Int)).fdiv (16 : Int))).toNat : Int)).fdiv (16 : Int))).toNat : Int)) t27 t28 (IntKind.i64.wrap (t29 + (1 : Int)))
              else none
            else none
          else none
        else none
      else none
    else some (c, ())
def codec_Sum_1.g (N n : Nat) (x : Sh.den codec_Sum_1.ins) : Option (altsDen codec_Sum_1.alts) := codec_Sum_1.go N n x.1 x.2.1 x.2.2.1 x.2.2.2.1 x.2.2.2.2.1
def codec_Sum_1.P (N : Nat) : Ps := ⟨codec_Sum_1.ts, codec_Sum_1.ins, codec_Sum_1.asg, codec_Sum_1.alts, codec_Sum_1.g N N⟩
def codec_Sum_1.lam (N : Nat) : Pcs := pcs []
theorem codec_Sum_1.pok (N : Nat) : (codec_Sum_1.lam N).Ok Try.prog (codec_Sum_1.C N) codec_Sum_1.code := pcsOk_nil
theorem codec_Sum_1.ev (N n : Nat) (x : Sh.den codec_Sum_1.ins) : evC (codec_Sum_1.C N) codec_Sum_1.code (codec_Sum_1.lam N) ((codec_Sum_1.P N).canon 1000 x) (loopK (codec_Sum_1.P N) (codec_Sum_1.g N n)) = codec_Sum_1.g N (n + 1) x := by kernel_rfl
theorem codec_Sum_1.ok (N : Nat) : ((codec_Sum_1.P N).pc (codec_Sum.C N)).Ok Try.prog (codec_Sum.C N) (.loop codec_Sum_1.code) := loop_ok (F := codec_Sum_1.P N) (n0 := 1000) (N := N) (codec_Sum.cok N) mix (codec_Sum_1.pok N) (codec_Sum_1.g N) (fun x => by rfl) rfl (fun n x y h => (codec_Sum_1.ev N n x).trans h)
def codec_Sum.outs : Sh := (.cons (.val (.int .u32)) .nil)
def codec_Sum.run (N : Nat) (b : (List UInt8)) : Option (Int × Unit) :=
  obind (codec_Sum_0.go N N (List.replicate 16 (0 : Int)) (0 : Int)) fun (v, _) =>
    obind (codec_Sum_1.go N N v (4294967295 : Int) b (b.length : Int) (0 : Int)) fun (c, _) =>
      some (IntKind.u32.wrap ((BitVec.ofInt 32 (4294967295 : Int) ^^^ BitVec.ofInt 32 c).toNat : Int), ())
def codec_Sum.fn (N : Nat) (x : Sh.den codec_Sum.ins) : Option (Sh.den codec_Sum.outs) := codec_Sum.run N x.1
def codec_Sum.S (N : Nat) : Fs := ⟨codec_Sum.ins, codec_Sum.outs, codec_Sum.fn N⟩
def codec_Sum.lam (N : Nat) : Pcs := pcs [([true, true, false, true, false], (codec_Sum_0.P N).pc (codec_Sum.C N)), ([true, true, true, true, false, true, false], (codec_Sum_1.P N).pc (codec_Sum.C N))]
theorem codec_Sum.pok (N : Nat) : (codec_Sum.lam N).Ok Try.prog (codec_Sum.C N) codec_Sum.code := pcsOk_cons (c1 := .loop codec_Sum_0.code) (by kernel_rfl) (codec_Sum_0.ok N) (pcsOk_cons (c1 := .loop codec_Sum_1.code) (by kernel_rfl) (codec_Sum_1.ok N) (pcsOk_nil))
theorem codec_Sum.ev (N : Nat) (x : Sh.den codec_Sum.ins) : evC (codec_Sum.C N) codec_Sum.code (codec_Sum.lam N) ⟨envOf 0 (bld (fun k => k) codec_Sum.ins x 0).1, (bld (fun k => k) codec_Sum.ins x 0).2.1, 1000⟩ (endF U codec_Sum.outs Try.f37.results.toList []) = codec_Sum.fn N x := by kernel_rfl
theorem codec_Sum.ok (N : Nat) : (codec_Sum.S N).con.Ok Try.prog 37 := fn_ok (F := codec_Sum.S N) (n0 := 1000) Try.func37 (by kernel_rfl) (show Try.f37.body = some codec_Sum.code by rfl) mix (codec_Sum.cok N) (fun _ => rfl) (fun _ => rfl) (codec_Sum.pok N) (fun x y h => (codec_Sum.ev N x).trans h)
/-- hayloft/hayloftref01.Sum -/
def ref_Sum.ins : Sh := (.cons (.val (.slice .byte)) .nil)
def ref_Sum.C (N : Nat) : Ctx := ⟨U, 33, fun _ => true, gam [], gamY []⟩
theorem ref_Sum.cok (N : Nat) : (ref_Sum.C N).Ok Try.prog := ⟨U_ok, GamOk.nil, GamYOk.nil⟩
def ref_Sum.code : Code := Try.f38.body.getD .skip
def ref_Sum_0.ins : Sh := (.cons (.val (.slice .byte)) (.cons (.val (.int .u32)) (.cons (.val (.int .i64)) .nil)))
def ref_Sum_0.ts : List Tmp := [0, 3, 4]
def ref_Sum_0.asg : List Tmp := [3, 4, 5, 6, 7, 8, 9, 10, 11, 12, 13, 14, 15, 16, 17, 18, 19, 20, 21, 22, 23, 24, 25, 26, 27, 28, 29, 30]
def ref_Sum_0.C (N : Nat) : Ctx := { ref_Sum.C N with may := fun t => ref_Sum_0.asg.any (Nat.beq t) }
def ref_Sum_0.code : Code := loopBody (sub ref_Sum.code [true, true, false, true, false])
theorem ref_Sum_0.cok (N : Nat) : (ref_Sum_0.C N).Ok Try.prog := ⟨(ref_Sum.cok N).U, (ref_Sum.cok N).Γ, (ref_Sum.cok N).Y⟩
def ref_Sum_0_0.ins : Sh := (.cons (.val (.int .u32)) (.cons (.val (.int .i64)) .nil))
def ref_Sum_0_0.ts : List Tmp := [3, 5]
def ref_Sum_0_0.asg : List Tmp := [3, 5, 19, 20, 21, 22, 23, 24, 25, 26, 27, 28, 29, 30]
def ref_Sum_0_0.C (N : Nat) : Ctx := { ref_Sum_0.C N with may := fun t => ref_Sum_0_0.asg.any (Nat.beq t) }
def ref_Sum_0_0.code : Code := loopBody (sub ref_Sum_0.code [true, false, false, true, true, false])
theorem ref_Sum_0_0.cok (N : Nat) : (ref_Sum_0_0.C N).Ok Try.prog := ⟨(ref_Sum_0.cok N).U, (ref_Sum_0.cok N).Γ, (ref_Sum_0.cok N).Y⟩
def ref_Sum_0_0.alts : List Alt := [⟨(.exit 2), [3], (.cons (.val (.int .u32)) .nil)⟩]
def ref_Sum_0_0.go (N : Nat) : Nat → Int → Int → Option ((Int × Unit))
  | 0, _, _ => none
  | fuel + 1, r, k =>
    bif decide (k < (8 : Int)) then
      bif decide ((r.tmod (2 : Int)) = (1 : Int)) then
        ref_Sum_0_0.go N fuel (IntKind.u32.wrap ((BitVec.ofInt 32 (IntKind.u32.wrap (r.tdiv (2 : Int))) ^^^ BitVec.ofInt 32 (3988292384 : Int)).toNat : Int)) (IntKind.i64.wrap (k + (1 : Int)))
      else ref_Sum_0_0.go N fuel (IntKind.u32.wrap (r.tdiv (2 : Int))) (IntKind.i64.wrap (k + (1 : Int)))
    else some (r, ())
def ref_Sum_0_0.g (N n : Nat) (x : Sh.den ref_Sum_0_0.ins) : Option (altsDen ref_Sum_0_0.alts) := ref_Sum_0_0.go N n x.1 x.2.1
def ref_Sum_0_0.P (N : Nat) : Ps := ⟨ref_Sum_0_0.ts, ref_Sum_0_0.ins, ref_Sum_0_0.asg, ref_Sum_0_0.alts, ref_Sum_0_0.g N N⟩
def ref_Sum_0_0.lam (N : Nat) : Pcs := pcs []
theorem ref_Sum_0_0.pok (N : Nat) : (ref_Sum_0_0.lam N).Ok Try.prog (ref_Sum_0_0.C N) ref_Sum_0_0.code := pcsOk_nil
theorem ref_Sum_0_0.ev (N n : Nat) (x : Sh.den ref_Sum_0_0.ins) : evC (ref_Sum_0_0.C N) ref_Sum_0_0.code (ref_Sum_0_0.lam N) ((ref_Sum_0_0.P N).canon 1000 x) (loopK (ref_Sum_0_0.P N) (ref_Sum_0_0.g N n)) = ref_Sum_0_0.g N (n + 1) x := by kernel_rfl
theorem ref_Sum_0_0.ok (N : Nat) : ((ref_Sum_0_0.P N).pc (ref_Sum_0.C N)).Ok Try.prog (ref_Sum_0.C N) (.loop ref_Sum_0_0.code) := loop_ok (F := ref_Sum_0_0.P N) (n0 := 1000) (N := N) (ref_Sum_0.cok N) mix (ref_Sum_0_0.pok N) (ref_Sum_0_0.g N) (fun x => by rfl) rfl (fun n x y h => (ref_Sum_0_0.ev N n x).trans h)
def ref_Sum_0.alts : List Alt := [⟨(.exit 0), [3], (.cons (.val (.int .u32)) .nil)⟩]
def ref_Sum_0.go (N : Nat) : Nat → (List UInt8) → Int → Int → Option ((Int × Unit))
  | 0, _, _, _ => none
  | fuel + 1, b, r, i =>
    bif decide (i < (b.length : Int)) then
      bif inB i b.length then
        obind (ref_Sum_0_0.go N N (IntKind.u32.wrap ((BitVec.ofInt 32 r ^^^ BitVec.ofInt 32 (IntKind.u32.wrap ((b.getD i.toNat (0 : UInt8)).toNat : Int))).toNat : Int)) (0 : Int)) fun (r1, _) =>
          ref_Sum_0.go N fuel b r1 (IntKind.i64.wrap (i + (1 : Int)))
      else none
    else some (r, ())
def ref_Sum_0.g (N n : Nat) (x : Sh.den ref_Sum_0.ins) : Option (altsDen ref_Sum_0.alts) := ref_Sum_0.go N n x.1 x.2.1 x.2.2.1
def ref_Sum_0.P (N : Nat) : Ps := ⟨ref_Sum_0.ts, ref_Sum_0.ins, ref_Sum_0.asg, ref_Sum_0.alts, ref_Sum_0.g N N⟩
def ref_Sum_0.lam (N : Nat) : Pcs := pcs [([true, false, false, true, true, false], (ref_Sum_0_0.P N).pc (ref_Sum_0.C N))]
theorem ref_Sum_0.pok (N : Nat) : (ref_Sum_0.lam N).Ok Try.prog (ref_Sum_0.C N) ref_Sum_0.code := pcsOk_cons (c1 := .loop ref_Sum_0_0.code) (by kernel_rfl) (ref_Sum_0_0.ok N) (pcsOk_nil)
theorem ref_Sum_0.ev (N n : Nat) (x : Sh.den ref_Sum_0.ins) : evC (ref_Sum_0.C N) ref_Sum_0.code (ref_Sum_0.lam N) ((ref_Sum_0.P N).canon 1000 x) (loopK (ref_Sum_0.P N) (ref_Sum_0.g N n)) = ref_Sum_0.g N (n + 1) x := by kernel_rfl
theorem ref_Sum_0.ok (N : Nat) : ((ref_Sum_0.P N).pc (ref_Sum.C N)).Ok Try.prog (ref_Sum.C N) (.loop ref_Sum_0.code) := loop_ok (F := ref_Sum_0.P N) (n0 := 1000) (N := N) (ref_Sum.cok N) mix (ref_Sum_0.pok N) (ref_Sum_0.g N) (fun x => by rfl) rfl (fun n x y h => (ref_Sum_0.ev N n x).trans h)
def ref_Sum.outs : Sh := (.cons (.val (.int .u32)) .nil)
def ref_Sum.run (N : Nat) (b : (List UInt8)) : Option (Int × Unit) :=
  obind (ref_Sum_0.go N N b (4294967295 : Int) (0 : Int)) fun (r, _) =>
    some (IntKind.u32.wrap ((BitVec.ofInt 32 r ^^^ BitVec.ofInt 32 (4294967295 : Int)).toNat : Int), ())
def ref_Sum.fn (N : Nat) (x : Sh.den ref_Sum.ins) : Option (Sh.den ref_Sum.outs) := ref_Sum.run N x.1
def ref_Sum.S (N : Nat) : Fs := ⟨ref_Sum.ins, ref_Sum.outs, ref_Sum.fn N⟩
def ref_Sum.lam (N : Nat) : Pcs := pcs [([true, true, false, true, false], (ref_Sum_0.P N).pc (ref_Sum.C N))]
theorem ref_Sum.pok (N : Nat) : (ref_Sum.lam N).Ok Try.prog (ref_Sum.C N) ref_Sum.code := pcsOk_cons (c1 := .loop ref_Sum_0.code) (by kernel_rfl) (ref_Sum_0.ok N) (pcsOk_nil)
theorem ref_Sum.ev (N : Nat) (x : Sh.den ref_Sum.ins) : evC (ref_Sum.C N) ref_Sum.code (ref_Sum.lam N) ⟨envOf 0 (bld (fun k => k) ref_Sum.ins x 0).1, (bld (fun k => k) ref_Sum.ins x 0).2.1, 1000⟩ (endF U ref_Sum.outs Try.f38.results.toList []) = ref_Sum.fn N x := by kernel_rfl
theorem ref_Sum.ok (N : Nat) : (ref_Sum.S N).con.Ok Try.prog 38 := fn_ok (F := ref_Sum.S N) (n0 := 1000) Try.func38 (by kernel_rfl) (show Try.f38.body = some ref_Sum.code by rfl) mix (ref_Sum.cok N) (fun _ => rfl) (fun _ => rfl) (ref_Sum.pok N) (fun x y h => (ref_Sum.ev N x).trans h)
/-- hayloft/codec.Sum -/
def codec_Sum_b.ins : Sh := (.cons (.rown 5 .byte) .nil)
def codec_Sum_b.C (N : Nat) : Ctx := ⟨U, 54, fun _ => true, gam [], gamY []⟩
theorem codec_Sum_b.cok (N : Nat) : (codec_Sum_b.C N).Ok Try.prog := ⟨U_ok, GamOk.nil, GamYOk.nil⟩
def codec_Sum_b.code : Code := Try.f37.body.getD .skip
def codec_Sum_b_0.ins : Sh := (.cons (.arr 95 (.int .u32) 16) (.cons (.val (.int .i64)) .nil))
def codec_Sum_b_0.ts : List Tmp := [3, 9]
def codec_Sum_b_0.asg : List Tmp := [4, 5, 9, 10, 11, 12, 13, 14, 15, 16, 17, 18, 19, 20, 21, 22, 23, 24, 25, 26]
def codec_Sum_b_0.C (N : Nat) : Ctx := { codec_Sum_b.C N with may := fun t => codec_Sum_b_0.asg.any (Nat.beq t) }
def codec_Sum_b_0.code : Code := loopBody (sub codec_Sum_b.code [true, true, false, true, false])
theorem codec_Sum_b_0.cok (N : Nat) : (codec_Sum_b_0.C N).Ok Try.prog := ⟨(codec_Sum_b.cok N).U, (codec_Sum_b.cok N).Γ, (codec_Sum_b.cok N).Y⟩
def codec_Sum_b_0_0.ins : Sh := (.cons (.val (.int .u32)) (.cons (.val (.int .i64)) .nil))
def codec_Sum_b_0_0.ts : List Tmp := [5, 14]
def codec_Sum_b_0_0.asg : List Tmp := [5, 14, 15, 16, 17, 18, 19, 20, 21, 22]
def codec_Sum_b_0_0.C (N : Nat) : Ctx := { codec_Sum_b_0.C N with may := fun t => codec_Sum_b_0_0.asg.any (Nat.beq t) }
def codec_Sum_b_0_0.code : Code := loopBody (sub codec_Sum_b_0.code [true, true, false, false, true, true, false, true, false])
theorem codec_Sum_b_0_0.cok (N : Nat) : (codec_Sum_b_0_0.C N).Ok Try.prog := ⟨(codec_Sum_b_0.cok N).U, (codec_Sum_b_0.cok N).Γ, (codec_Sum_b_0.cok N).Y⟩
def codec_Sum_b_0_0.alts : List Alt := [⟨(.exit 2), [5], (.cons (.val (.int .u32)) .nil)⟩]
def codec_Sum_b_0_0.go (N : Nat) : Nat → Int → Int → Option ((Int × Unit))
  | 0, _, _ => none
  | fuel + 1, c, t14 =>
    bif decide (t14 < (4 : Int)) then
      codec_Sum_b_0_0.go N fuel (IntKind.u32.wrap ((BitVec.ofInt 32 (c.fdiv (2 : Int)) ^^^ BitVec.ofInt 32 (IntKind.u32.wrap ((3988292384 : Int) * (IntKind.u32.wrap ((BitVec.ofInt 32 c &&& BitVec.ofInt 32 (1 : Int)).toNat : Int))))).toNat : Int)) (IntKind.i64.wrap (t14 + (1 : Int)))
    else some (c, ())
def codec_Sum_b_0_0.g (N n : Nat) (x : Sh.den codec_Sum_b_0_0.ins) : Option (altsDen codec_Sum_b_0_0.alts) := codec_Sum_b_0_0.go N n x.1 x.2.1
def codec_Sum_b_0_0.P (N : Nat) : Ps := ⟨codec_Sum_b_0_0.ts, codec_Sum_b_0_0.ins, codec_Sum_b_0_0.asg, codec_Sum_b_0_0.alts, codec_Sum_b_0_0.g N N⟩
def codec_Sum_b_0_0.lam (N : Nat) : Pcs := pcs []
theorem codec_Sum_b_0_0.pok (N : Nat) : (codec_Sum_b_0_0.lam N).Ok Try.prog (codec_Sum_b_0_0.C N) codec_Sum_b_0_0.code := pcsOk_nil
theorem codec_Sum_b_0_0.ev (N n : Nat) (x : Sh.den codec_Sum_b_0_0.ins) : evC (codec_Sum_b_0_0.C N) codec_Sum_b_0_0.code (codec_Sum_b_0_0.lam N) ((codec_Sum_b_0_0.P N).canon 1000 x) (loopK (codec_Sum_b_0_0.P N) (codec_Sum_b_0_0.g N n)) = codec_Sum_b_0_0.g N (n + 1) x := by kernel_rfl
theorem codec_Sum_b_0_0.ok (N : Nat) : ((codec_Sum_b_0_0.P N).pc (codec_Sum_b_0.C N)).Ok Try.prog (codec_Sum_b_0.C N) (.loop codec_Sum_b_0_0.code) := loop_ok (F := codec_Sum_b_0_0.P N) (n0 := 1000) (N := N) (codec_Sum_b_0.cok N) mix (codec_Sum_b_0_0.pok N) (codec_Sum_b_0_0.g N) (fun x => by rfl) rfl (fun n x y h => (codec_Sum_b_0_0.ev N n x).trans h)
def codec_Sum_b_0.alts : List Alt := [⟨(.exit 0), [], (.cons (.updr 0 95 (.int .u32)) .nil)⟩]
def codec_Sum_b_0.go (N : Nat) : Nat → (List Int) → Int → Option (((List Int) × Unit))
  | 0, _, _ => none
  | fuel + 1, half, t9 =>
    bif decide (t9 < (16 : Int)) then
      obind (codec_Sum_b_0_0.go N N (IntKind.u32.wrap t9) (0 : Int)) fun (c, _) =>
        bif inB t9 16 then
          bif decide (t9.toNat < half.length) then
            codec_Sum_b_0.go N fuel (half.set t9.toNat c) (IntKind.i64.wrap (t9 + (1 : Int)))
          else none
        else none
    else some (half, ())
def codec_Sum_b_0.g (N n : Nat) (x : Sh.den codec_Sum_b_0.ins) : Option (altsDen codec_Sum_b_0.alts) := codec_Sum_b_0.go N n x.1 x.2.1
def codec_Sum_b_0.P (N : Nat) : Ps := ⟨codec_Sum_b_0.ts, codec_Sum_b_0.ins, codec_Sum_b_0.asg, codec_Sum_b_0.alts, codec_Sum_b_0.g N N⟩
def codec_Sum_b_0.lam (N : Nat) : Pcs := pcs [([true, true, false, false, true, true, false, true, false], (codec_Sum_b_0_0.P N).pc (codec_Sum_b_0.C N))]
theorem codec_Sum_b_0.pok (N : Nat) : (codec_Sum_b_0.lam N).Ok Try.prog (codec_Sum_b_0.C N) codec_Sum_b_0.code := pcsOk_cons (c1 := .loop codec_Sum_b_0_0.code) (by kernel_rfl) (codec_Sum_b_0_0.ok N) (pcsOk_nil)
theorem codec_Sum_b_0.ev (N n : Nat) (x : Sh.den codec_Sum_b_0.ins) : evC (codec_Sum_b_0.C N) codec_Sum_b_0.code (codec_Sum_b_0.lam N) ((codec_Sum_b_0.P N).canon 1000 x) (loopK (codec_Sum_b_0.P N) (codec_Sum_b_0.g N n)) = codec_Sum_b_0.g N (n + 1) x := by kernel_rfl
theorem codec_Sum_b_0.ok (N : Nat) : ((codec_Sum_b_0.P N).pc (codec_Sum_b.C N)).Ok Try.prog (codec_Sum_b.C N) (.loop codec_Sum_b_0.code) := loop_ok (F := codec_Sum_b_0.P N) (n0 := 1000) (N := N) (codec_Sum_b.cok N) mix (codec_Sum_b_0.pok N) (codec_Sum_b_0.g N) (fun x => by rfl) rfl (fun n x y h => (codec_Sum_b_0.ev N n x).trans h)
def codec_Sum_b_1.ins : Sh := (.cons (.arr 95 (.int .u32) 16) (.cons (.val (.int .u32)) (.cons (.rown 5 .byte) (.cons (.val (.int .i64)) (.cons (.val (.int .i64)) .nil)))))
def codec_Sum_b_1.ts : List Tmp := [3, 6, 27, 28, 29]
def codec_Sum_b_1.asg : List Tmp := [6, 8, 29, 30, 31, 32, 33, 34, 35, 36, 37, 38, 39, 40, 41, 42, 43, 44, 45, 46, 47, 48, 49, 50, 51]
def codec_Sum_b_1.C (N : Nat) : Ctx := { codec_Sum_b.C N with may := fun t => codec_Sum_b_1.asg.any (Nat.beq t) }
def codec_Sum_b_1.code : Code := loopBody (sub codec_Sum_b.code [true, true, true, true, false, true, false])
theorem codec_Sum_b_1.cok (N : Nat) : (codec_Sum_b_1.C N).Ok Try.prog := ⟨(codec_Sum_b.cok N).U, (codec_Sum_b.cok N).Γ, (codec_Sum_b.cok N).Y⟩
def codec_Sum_b_1.alts : List Alt := [⟨(.exit 4), [6], (.cons (.val (.int .u32)) .nil)⟩]
def codec_Sum_b_1.go (N : Nat) : Nat → (List Int) → Int → (List UInt8) → Int → Int → Option ((Int × Unit))
  | 0, _, _, _, _, _ => none
  | fuel + 1, half, c, t27, t28, t29 =>
    bif decide (t29 < t28) then
      bif inB t29 t27.length then
        bif decide (t29.toNat < t27.length) then
          bif inB (IntKind.u32.wrap ((BitVec.ofInt 32 (IntKind.u32.wrap ((BitVec.ofInt 32 c ^^^ BitVec.ofInt 32 (IntKind.u32.wrap ((t27.getD t29.toNat (0 : UInt8)).toNat : Int))).toNat : Int)) &&& BitVec.ofInt 32 (15 : Int)).toNat : Int)) 16 then
            bif decide ((IntKind.u32.wrap ((BitVec.ofInt 32 (IntKind.u32.wrap ((BitVec.ofInt 32 c ^^^ BitVec.ofInt 32 (IntKind.u32.wrap ((t27.getD t29.toNat (0 : UInt8)).toNat : Int))).toNat : Int)) &&& BitVec.ofInt 32 (15 : Int)).toNat : Int)).toNat < half.length) then
              bif inB (IntKind.u32.wrap ((BitVec.ofInt 32 (IntKind.u32.wrap ((BitVec.ofInt 32 (half.getD (IntKind.u32.wrap ((BitVec.ofInt 32 (IntKind.u32.wrap ((BitVec.ofInt 32 c ^^^ BitVec.ofInt 32 (IntKind.u32.wrap ((t27.getD t29.toNat (0 : UInt8)).toNat : Int))).toNat : Int)) &&& BitVec.ofInt 32 (15 : Int)).toNat : Int)).toNat (0 : Int)) ^^^ BitVec.ofInt 32 ((IntKind.u32.wrap ((BitVec.ofInt 32 c ^^^ BitVec.ofInt 32 (IntKind.u32.wrap ((t27.getD t29.toNat (0 : UInt8)).toNat : Int))).toNat : Int)).fdiv (16 : Int))).toNat : Int)) &&& BitVec.ofInt 32 (15 : Int)).toNat : Int)) 16 then
                bif decide ((IntKind.u32.wrap ((BitVec.ofInt 32 (IntKind.u32.wrap ((BitVec.ofInt 32 (half.getD (IntKind.u32.wrap ((BitVec.ofInt 32 (IntKind.u32.wrap ((BitVec.ofInt 32 c ^^^ BitVec.ofInt 32 (IntKind.u32.wrap ((t27.getD t29.toNat (0 : UInt8)).toNat : Int))).toNat : Int)) &&& BitVec.ofInt 32 (15 : Int)).toNat : Int)).toNat (0 : Int)) ^^^ BitVec.ofInt 32 ((IntKind.u32.wrap ((BitVec.ofInt 32 c ^^^ BitVec.ofInt 32 (IntKind.u32.wrap ((t27.getD t29.toNat (0 : UInt8)).toNat : Int))).toNat : Int)).fdiv (16 : Int))).toNat : Int)) &&& BitVec.ofInt 32 (15 : Int)).toNat : Int)).toNat < half.length) then
                  codec_Sum_b_1.go N fuel half (IntKind.u32.wrap ((BitVec.ofInt 32 (half.getD (IntKind.u32.wrap ((BitVec.ofInt 32 (IntKind.u32.wrap ((BitVec.ofInt 32 (half.getD (IntKind.u32.wrap ((BitVec.ofInt 32 (IntKind.u32.wrap ((BitVec.ofInt 32 c ^^^ BitVec.ofInt 32 (IntKind.u32.wrap ((t27.getD t29.toNat (0 : UInt8)).toNat : Int))).toNat : Int)) &&& BitVec.ofInt 32 (15 : Int)).toNat : Int)).toNat (0 : Int)) ^^^ BitVec.ofInt 32 ((IntKind.u32.wrap ((BitVec.ofInt 32 c ^^^ BitVec.ofInt 32 (IntKind.u32.wrap ((t27.getD t29.toNat (0 : UInt8)).toNat : Int))).toNat : Int)).fdiv (16 : Int))).toNat : Int)) &&& BitVec.ofInt 32 (15 : Int)).toNat : Int)).toNat (0 : Int)) ^^^ BitVec.ofInt 32 ((IntKind.u32.wrap ((BitVec.ofInt 32 (half.getD (IntKind.u32.wrap ((BitVec.ofInt 32 (IntKind.u32.wrap ((BitVec.ofInt 32 c ^^^ BitVec.ofInt 32 (IntKind.u32.wrap ((t27.getD t29.toNat (0 : UInt8)).toNat : Int))).toNat : Int)) &&& BitVec.ofInt 32 (15 : Int)).toNat : Int)).toNat (0 : Int)) ^^^ BitVec.ofInt 32 ((IntKind.u32.wrap ((BitVec.ofInt 32 c ^^^ BitVec.ofInt 32 (IntKind.u32.wrap ((t27.getD t29.toNat (0 : UInt8)).toNat : Int))).toNat : Int)).fdiv (16 : Int))).toNat : Int)).fdiv (16 : Int))).toNat : Int)) t27 t28 (IntKind.i64.wrap (t29 + (1 : Int)))
                else none
              else none
            else none
          else none
        else none
      else none
    else some (c, ())
def codec_Sum_b_1.g (N n : Nat) (x : Sh.den codec_Sum_b_1.ins) : Option (altsDen codec_Sum_b_1.alts) := codec_Sum_b_1.go N n x.1 x.2.1 x.2.2.1 x.2.2.2.1 x.2.2.2.2.1
def codec_Sum_b_1.P (N : Nat) : Ps := ⟨codec_Sum_b_1.ts, codec_Sum_b_1.ins, codec_Sum_b_1.asg, codec_Sum_b_1.alts, codec_Sum_b_1.g N N⟩
def codec_Sum_b_1.lam (N : Nat) : Pcs := pcs []
theorem codec_Sum_b_1.pok (N : Nat) : (codec_Sum_b_1.lam N).Ok Try.prog (codec_Sum_b_1.C N) codec_Sum_b_1.code := pcsOk_nil
theorem codec_Sum_b_1.ev (N n : Nat) (x : Sh.den codec_Sum_b_1.ins) : evC (codec_Sum_b_1.C N) codec_Sum_b_1.code (codec_Sum_b_1.lam N) ((codec_Sum_b_1.P N).canon 1000 x) (loopK (codec_Sum_b_1.P N) (codec_Sum_b_1.g N n)) = codec_Sum_b_1.g N (n + 1) x := by kernel_rfl
theorem codec_Sum_b_1.ok (N : Nat) : ((codec_Sum_b_1.P N).pc (codec_Sum_b.C N)).Ok Try.prog (codec_Sum_b.C N) (.loop codec_Sum_b_1.code) := loop_ok (F := codec_Sum_b_1.P N) (n0 := 1000) (N := N) (codec_Sum_b.cok N) mix (codec_Sum_b_1.pok N) (codec_Sum_b_1.g N) (fun x => by rfl) rfl (fun n x y h => (codec_Sum_b_1.ev N n x).trans h)
def codec_Sum_b.outs : Sh := (.cons (.val (.int .u32)) .nil)
def codec_Sum_b.run (N : Nat) (b : (List UInt8)) : Option (Int × Unit) :=
  obind (codec_Sum_b_0.go N N (List.replicate 16 (0 : Int)) (0 : Int)) fun (v, _) =>
    obind (codec_Sum_b_1.go N N v (4294967295 : Int) b (b.length : Int) (0 : Int)) fun (c, _) =>
      some (IntKind.u32.wrap ((BitVec.ofInt 32 (4294967295 : Int) ^^^ BitVec.ofInt 32 c).toNat : Int), ())
def codec_Sum_b.fn (N : Nat) (x : Sh.den codec_Sum_b.ins) : Option (Sh.den codec_Sum_b.outs) := codec_Sum_b.run N x.1
def codec_Sum_b.S (N : Nat) : Fs := ⟨codec_Sum_b.ins, codec_Sum_b.outs, codec_Sum_b.fn N⟩
def codec_Sum_b.lam (N : Nat) : Pcs := pcs [([true, true, false, true, false], (codec_Sum_b_0.P N).pc (codec_Sum_b.C N)), ([true, true, true, true, false, true, false], (codec_Sum_b_1.P N).pc (codec_Sum_b.C N))]
theorem codec_Sum_b.pok (N : Nat) : (codec_Sum_b.lam N).Ok Try.prog (codec_Sum_b.C N) codec_Sum_b.code := pcsOk_cons (c1 := .loop codec_Sum_b_0.code) (by kernel_rfl) (codec_Sum_b_0.ok N) (pcsOk_cons (c1 := .loop codec_Sum_b_1.code) (by kernel_rfl) (codec_Sum_b_1.ok N) (pcsOk_nil))
theorem codec_Sum_b.ev (N : Nat) (x : Sh.den codec_Sum_b.ins) : evC (codec_Sum_b.C N) codec_Sum_b.code (codec_Sum_b.lam N) ⟨envOf 0 (bld (fun k => k) codec_Sum_b.ins x 0).1, (bld (fun k => k) codec_Sum_b.ins x 0).2.1, 1000⟩ (endF U codec_Sum_b.outs Try.f37.results.toList []) = codec_Sum_b.fn N x := by kernel_rfl
theorem codec_Sum_b.ok (N : Nat) : (codec_Sum_b.S N).con.Ok Try.prog 37 := fn_ok (F := codec_Sum_b.S N) (n0 := 1000) Try.func37 (by kernel_rfl) (show Try.f37.body = some codec_Sum_b.code by rfl) mix (codec_Sum_b.cok N) (fun _ => rfl) (fun _ => rfl) (codec_Sum_b.pok N) (fun x y h => (codec_Sum_b.ev N x).trans h)
/-- hayloft/hayloftlaw01.CodecSums -/
def law_CodecSums.ins : Sh := (.cons (.val (.slice .byte)) (.cons (.val (.int .i64)) .nil))
def law_CodecSums.C (N : Nat) : Ctx := ⟨U, 51, fun _ => true, gam [(37, (((codec_Sum_b.S N).con).or (codec_Sum.S N).con)), (16, (law_alive.S N).con), (38, (ref_Sum.S N).con)], gamY []⟩
theorem law_CodecSums.cok (N : Nat) : (law_CodecSums.C N).Ok Try.prog := ⟨U_ok, GamOk.cons (Con.or_ok (codec_Sum_b.ok N) (codec_Sum.ok N)) (GamOk.cons (law_alive.ok N) (GamOk.cons (ref_Sum.ok N) (GamOk.nil))), GamYOk.nil⟩
def law_CodecSums.code : Code := Try.f9.body.getD .skip
def law_CodecSums.outs : Sh := (.cons (.val .bool) .nil)
def law_CodecSums.run (N : Nat) (b : (List UInt8)) (at_ : Int) : Option (Bool × Unit) :=
  obind (codec_Sum.run N b) fun (n_, _) =>
    obind (law_alive.run N) fun (b1, _) =>
      bif !b1 then
        some (false, ())
      else
        obind (ref_Sum.run N b) fun (n1, _) =>
          bif !(decide (n_ = n1)) then
            some (false, ())
          else
            obind (codec_Sum.run N ([(49 : UInt8), (50 : UInt8), (51 : UInt8), (52 : UInt8), (53 : UInt8), (54 : UInt8), (55 : UInt8), (56 : UInt8), (57 : UInt8)] : List UInt8)) fun (n2, _) =>
              bif !(decide (n2 = (3421780262 : Int))) then
                some (false, ())
              else
                bif decide (at_ < (0 : Int)) then
                  some (true, ())
                else
                  bif decide ((IntKind.i64.wrap (at_.tdiv (8 : Int))) ≥ (b.length : Int)) then
                    some (true, ())
                  else
                    bif room b.length 1 then
                      bif inB (IntKind.i64.wrap (at_.tdiv (8 : Int))) b.length then
                        bif decide ((IntKind.i64.wrap (at_.tdiv (8 : Int))).toNat < b.length) then
                          bif decide ((0 : Int) ≤ (at_.tmod (8 : Int))) then
                            bif inB (IntKind.i64.wrap (at_.tdiv (8 : Int))) b.length then
                              bif decide ((IntKind.i64.wrap (at_.tdiv (8 : Int))).toNat < b.length) then
                                obind (codec_Sum_b.run N (b.set (IntKind.i64.wrap (at_.tdiv (8 : Int))).toNat (Hay.u8 (IntKind.u8.wrap ((BitVec.ofInt 8 ((b.getD (IntKind.i64.wrap (at_.tdiv (8 : Int))).toNat (0 : UInt8)).toNat : Int) ^^^ BitVec.ofInt 8 (IntKind.u8.wrap ((1 : Int) * (2 ^ (min (at_.tmod (8 : Int)).toNat 8))))).toNat : Int))))) fun (n3, _) =>
                                  some (!(decide (n3 = n_)), ())
                              else none
                            else none
                          else none
                        else none
                      else none
                    else none
def law_CodecSums.fn (N : Nat) (x : Sh.den law_CodecSums.ins) : Option (Sh.den law_CodecSums.outs) := law_CodecSums.run N x.1 x.2.1
def law_CodecSums.S (N : Nat) : Fs := ⟨law_CodecSums.ins, law_CodecSums.outs, law_CodecSums.fn N⟩
def law_CodecSums.lam (N : Nat) : Pcs := pcs []
theorem law_CodecSums.pok (N : Nat) : (law_CodecSums.lam N).Ok Try.prog (law_CodecSums.C N) law_CodecSums.code := pcsOk_nil
theorem law_CodecSums.ev (N : Nat) (x : Sh.den law_CodecSums.ins) : evC (law_CodecSums.C N) law_CodecSums.code (law_CodecSums.lam N) ⟨envOf 0 (bld (fun k => k) law_CodecSums.ins x 0).1, (bld (fun k => k) law_CodecSums.ins x 0).2.1, 1000⟩ (endF U law_CodecSums.outs Try.f9.results.toList []) = law_CodecSums.fn N x := by kernel_rfl
theorem law_CodecSums.ok (N : Nat) : (law_CodecSums.S N).con.Ok Try.prog 9 := fn_ok (F := law_CodecSums.S N) (n0 := 1000) Try.func9 (by kernel_rfl) (show Try.f9.body = some law_CodecSums.code by rfl) mix (law_CodecSums.cok N) (fun _ => rfl) (fun _ => rfl) (law_CodecSums.pok N) (fun x y h => (law_CodecSums.ev N x).trans h)
def Y1.ins : Sh := (.cons (.box 51 (.cons (.own 22 (.slice .byte)) .nil)) (.cons (.val (.int .i64)) (.cons (.own 5 .byte) .nil)))
def Y1.C (N : Nat) : Ctx := ⟨U, 26, fun _ => true, gam [], gamY []⟩
theorem Y1.cok (N : Nat) : (Y1.C N).Ok Try.prog := ⟨U_ok, GamOk.nil, GamYOk.nil⟩
def Y1.code : Code := site1.body
def Y1.alts : List Alt := [⟨.normal, [], (.cons (.upd 0 51 (.cons (.own 22 (.slice .byte)) .nil)) .nil)⟩]
def Y1.run (N : Nat) (l : (List (List UInt8))) (t14 : Int) (t15 : (List UInt8)) : Option ((((List (List UInt8)) × Unit) × Unit)) :=
  bif room (l.length + 1) 24 then
    some ((l ++ ([t15] : List (List UInt8)), ()), ())
  else none
def Y1.fn (N : Nat) (x : Sh.den Y1.ins) : Option (altsDen Y1.alts) := Y1.run N x.1.1 x.2.1 x.2.2.1
def Y1.F (N : Nat) : Ys := ⟨[7], [14, 15], Y1.ins, Y1.alts, Y1.fn N⟩
def Y1.yc (N : Nat) : Yc := (Y1.F N).yc
def Y1.lam (N : Nat) : Pcs := pcs []
theorem Y1.pok (N : Nat) : (Y1.lam N).Ok Try.prog (Y1.C N) site1.body := pcsOk_nil
theorem Y1.ev (N : Nat) (x : Sh.den Y1.ins) : evC (Y1.C N) site1.assign (pcs []) ⟨addT [7, 14, 15] (bld (fun k => k) Y1.ins x 0).1 [], (bld (fun k => k) Y1.ins x 0).2.1, 1000⟩ (thenC fun s => evC (Y1.C N) site1.body (Y1.lam N) s (altK Y1.alts)) = Y1.fn N x := by kernel_rfl
theorem Y1.ok (N : Nat) : (Y1.yc N).Ok Try.prog 1000001 := ys_ok (σ := site1) (k := 1) (C := Y1.C N) (F := Y1.F N) (n0 := 1000) (fun _ => rfl) (Y1.cok N) mix (fun _ => rfl) (show site1.ps.toList = [14, 15] by kernel_rfl) (show site1.ts = [7] by kernel_rfl) (show site1.nt = 26 by kernel_rfl) rfl rfl rfl rfl rfl pcsOk_nil (Y1.pok N) (fun x y h => (Y1.ev N x).trans h)
/-- hayloft/codec.Items[[]byte]$1 -/
def codec_Items_byte_1_f1_b.ins : Sh := (.cons (.box 1000001 (.cons (.val (.int .i64)) (.cons (.junk) (.cons (.junk) (.cons (.junk) (.cons (.box 51 (.cons (.own 22 (.slice .byte)) .nil)) .nil)))))) (.cons (.rbox 24 (.cons (.box 75 (.cons (.val (.slice .byte)) (.cons (.val (.int .i64)) .nil))) .nil)) (.cons (.rbox 3 (.cons (.val (.int .i64)) .nil)) (.cons (.rbox 62 (.cons (.fn 36 .nil) .nil)) .nil))))
def codec_Items_byte_1_f1_b.C (N : Nat) : Ctx := ⟨U, 32, fun _ => true, gam [(64, (codec_Reader_room.S N).con), (36, (law_short.S N).con)], gamY [(1000001, Y1.yc N)]⟩
theorem codec_Items_byte_1_f1_b.cok (N : Nat) : (codec_Items_byte_1_f1_b.C N).Ok Try.prog := ⟨U_ok, GamOk.cons (codec_Reader_room.ok N) (GamOk.cons (law_short.ok N) (GamOk.nil)), GamYOk.cons (Y1.ok N) (GamYOk.nil)⟩
def codec_Items_byte_1_f1_b.code : Code := Try.f63.body.getD .skip
def codec_Items_byte_1_f1_b_0.ins : Sh := (.cons (.box 1000001 (.cons (.val (.int .i64)) (.cons (.junk) (.cons (.junk) (.cons (.junk) (.cons (.box 51 (.cons (.own 22 (.slice .byte)) .nil)) .nil)))))) (.cons (.rbox 24 (.cons (.box 75 (.cons (.val (.slice .byte)) (.cons (.val (.int .i64)) .nil))) .nil)) (.cons (.rbox 62 (.cons (.fn 36 .nil) .nil)) (.cons (.val (.int .u64)) (.cons (.val (.int .i64)) .nil)))))
def codec_Items_byte_1_f1_b_0.ts : List Tmp := [0, 1, 3, 5, 6]
def codec_Items_byte_1_f1_b_0.asg : List Tmp := [6, 7, 11, 12, 13, 14, 15, 16, 17, 18, 19, 20, 21, 22, 23, 24, 25, 26, 27, 28, 29, 30, 31]
def codec_Items_byte_1_f1_b_0.C (N : Nat) : Ctx := { codec_Items_byte_1_f1_b.C N with may := fun t => codec_Items_byte_1_f1_b_0.asg.any (Nat.beq t) }
def codec_Items_byte_1_f1_b_0.code : Code := loopBody (sub codec_Items_byte_1_f1_b.code [true, true, false])
theorem codec_Items_byte_1_f1_b_0.cok (N : Nat) : (codec_Items_byte_1_f1_b_0.C N).Ok Try.prog := ⟨(codec_Items_byte_1_f1_b.cok N).U, (codec_Items_byte_1_f1_b.cok N).Γ, (codec_Items_byte_1_f1_b.cok N).Y⟩
def codec_Items_byte_1_f1_b_0.alts : List Alt := [⟨.ret, [], (.cons (.upd 1 51 (.cons (.own 22 (.slice .byte)) .nil)) (.cons (.upd 4 75 (.cons (.val (.slice .byte)) (.cons (.val (.int .i64)) .nil))) (.cons (.upd 0 1000001 (.cons (.val (.int .i64)) (.cons (.junk) (.cons (.junk) (.cons (.junk) (.cons (.ref 0) .nil)))))) .nil)))⟩, ⟨(.exit 0), [], (.cons (.upd 1 51 (.cons (.own 22 (.slice .byte)) .nil)) (.cons (.upd 4 75 (.cons (.val (.slice .byte)) (.cons (.val (.int .i64)) .nil))) (.cons (.upd 0 1000001 (.cons (.val (.int .i64)) (.cons (.junk) (.cons (.junk) (.cons (.junk) (.cons (.ref 0) .nil)))))) .nil)))⟩]
def codec_Items_byte_1_f1_b_0.go (N : Nat) : Nat → Int → (List (List UInt8)) → (List UInt8) → Int → Int → Int → Option ((((List (List UInt8)) × Unit) × ((List UInt8) × Int × Unit) × (Int × Unit × Unit × Unit × Unit × Unit) × Unit) ⊕ (((List (List UInt8)) × Unit) × ((List UInt8) × Int × Unit) × (Int × Unit × Unit × Unit × Unit × Unit) × Unit))
  | 0, _, _, _, _, _, _ => none
  | fuel + 1, yield, yield1, b, e, n_, i =>
    bif decide ((IntKind.u64.wrap i) < n_) then
      obind (law_short.run N b e) fun ((b1, e1, _), l, _) =>
        bif !(decide (e1 = (0 : Int))) then
          some (.inl ((yield1, ()), (b1, e1, ()), (yield, (), (), (), (), ()), ()))
        else
          bif decide (yield = (0 : Int)) then
            obind (Y1.run N yield1 i l) fun ((v, _), _) =>
              codec_Items_byte_1_f1_b_0.go N fuel (0 : Int) v b1 e1 n_ (IntKind.i64.wrap (i + (1 : Int)))
          else none
    else some (.inr ((yield1, ()), (b, e, ()), (yield, (), (), (), (), ()), ()))
def codec_Items_byte_1_f1_b_0.g (N n : Nat) (x : Sh.den codec_Items_byte_1_f1_b_0.ins) : Option (altsDen codec_Items_byte_1_f1_b_0.alts) := codec_Items_byte_1_f1_b_0.go N n x.1.1 x.1.2.2.2.2.1.1 x.2.1.1.1 x.2.1.1.2.1 x.2.2.2.1 x.2.2.2.2.1
def codec_Items_byte_1_f1_b_0.P (N : Nat) : Ps := ⟨codec_Items_byte_1_f1_b_0.ts, codec_Items_byte_1_f1_b_0.ins, codec_Items_byte_1_f1_b_0.asg, codec_Items_byte_1_f1_b_0.alts, codec_Items_byte_1_f1_b_0.g N N⟩
def codec_Items_byte_1_f1_b_0.lam (N : Nat) : Pcs := pcs []
theorem codec_Items_byte_1_f1_b_0.pok (N : Nat) : (codec_Items_byte_1_f1_b_0.lam N).Ok Try.prog (codec_Items_byte_1_f1_b_0.C N) codec_Items_byte_1_f1_b_0.code := pcsOk_nil
theorem codec_Items_byte_1_f1_b_0.ev (N n : Nat) (x : Sh.den codec_Items_byte_1_f1_b_0.ins) : evC (codec_Items_byte_1_f1_b_0.C N) codec_Items_byte_1_f1_b_0.code (codec_Items_byte_1_f1_b_0.lam N) ((codec_Items_byte_1_f1_b_0.P N).canon 1000 x) (loopK (codec_Items_byte_1_f1_b_0.P N) (codec_Items_byte_1_f1_b_0.g N n)) = codec_Items_byte_1_f1_b_0.g N (n + 1) x := by kernel_rfl
theorem codec_Items_byte_1_f1_b_0.ok (N : Nat) : ((codec_Items_byte_1_f1_b_0.P N).pc (codec_Items_byte_1_f1_b.C N)).Ok Try.prog (codec_Items_byte_1_f1_b.C N) (.loop codec_Items_byte_1_f1_b_0.code) := loop_ok (F := codec_Items_byte_1_f1_b_0.P N) (n0 := 1000) (N := N) (codec_Items_byte_1_f1_b.cok N) mix (codec_Items_byte_1_f1_b_0.pok N) (codec_Items_byte_1_f1_b_0.g N) (fun x => by rfl) rfl (fun n x y h => (codec_Items_byte_1_f1_b_0.ev N n x).trans h)
def codec_Items_byte_1_f1_b.outs : Sh := (.cons (.upd 1 51 (.cons (.own 22 (.slice .byte)) .nil)) (.cons (.upd 4 75 (.cons (.val (.slice .byte)) (.cons (.val (.int .i64)) .nil))) (.cons (.upd 0 1000001 (.cons (.val (.int .i64)) (.cons (.junk) (.cons (.junk) (.cons (.junk) (.cons (.ref 0) .nil)))))) .nil)))
def codec_Items_byte_1_f1_b.run (N : Nat) (yield : Int) (yield1 : (List (List UInt8))) (b : (List UInt8)) (e : Int) (t2 : Int) : Option (((List (List UInt8)) × Unit) × ((List UInt8) × Int × Unit) × (Int × Unit × Unit × Unit × Unit × Unit) × Unit) :=
  obind (codec_Reader_room.run N b e t2) fun ((b1, e1, _), n_, _) =>
    obind (codec_Items_byte_1_f1_b_0.go N N yield yield1 b1 e1 n_ (0 : Int)) fun y => match y with
    | .inl ((v, _), (b2, e2, _), (v1, _, _, _, _, _), _) =>
        some ((v, ()), (b2, e2, ()), (v1, (), (), (), (), ()), ())
    | .inr ((v2, _), (b3, e3, _), (v3, _, _, _, _, _), _) =>
        some ((v2, ()), (b3, e3, ()), (v3, (), (), (), (), ()), ())
def codec_Items_byte_1_f1_b.fn (N : Nat) (x : Sh.den codec_Items_byte_1_f1_b.ins) : Option (Sh.den codec_Items_byte_1_f1_b.outs) := codec_Items_byte_1_f1_b.run N x.1.1 x.1.2.2.2.2.1.1 x.2.1.1.1 x.2.1.1.2.1 x.2.2.1.1
def codec_Items_byte_1_f1_b.S (N : Nat) : Fs := ⟨codec_Items_byte_1_f1_b.ins, codec_Items_byte_1_f1_b.outs, codec_Items_byte_1_f1_b.fn N⟩
def codec_Items_byte_1_f1_b.lam (N : Nat) : Pcs := pcs [([true, true, false], (codec_Items_byte_1_f1_b_0.P N).pc (codec_Items_byte_1_f1_b.C N))]
theorem codec_Items_byte_1_f1_b.pok (N : Nat) : (codec_Items_byte_1_f1_b.lam N).Ok Try.prog (codec_Items_byte_1_f1_b.C N) codec_Items_byte_1_f1_b.code := pcsOk_cons (c1 := .loop codec_Items_byte_1_f1_b_0.code) (by kernel_rfl) (codec_Items_byte_1_f1_b_0.ok N) (pcsOk_nil)
theorem codec_Items_byte_1_f1_b.ev (N : Nat) (x : Sh.den codec_Items_byte_1_f1_b.ins) : evC (codec_Items_byte_1_f1_b.C N) codec_Items_byte_1_f1_b.code (codec_Items_byte_1_f1_b.lam N) ⟨envOf 0 (bld (fun k => k) codec_Items_byte_1_f1_b.ins x 0).1, (bld (fun k => k) codec_Items_byte_1_f1_b.ins x 0).2.1, 1000⟩ (endF U codec_Items_byte_1_f1_b.outs Try.f63.results.toList []) = codec_Items_byte_1_f1_b.fn N x := by kernel_rfl
theorem codec_Items_byte_1_f1_b.ok (N : Nat) : (codec_Items_byte_1_f1_b.S N).con.Ok Try.prog 63 := fn_ok (F := codec_Items_byte_1_f1_b.S N) (n0 := 1000) Try.func63 (by kernel_rfl) (show Try.f63.body = some codec_Items_byte_1_f1_b.code by rfl) mix (codec_Items_byte_1_f1_b.cok N) (fun _ => rfl) (fun _ => rfl) (codec_Items_byte_1_f1_b.pok N) (fun x y h => (codec_Items_byte_1_f1_b.ev N x).trans h)
/-- hayloft/codec.List[[]byte] -/
def codec_List_byte.ins : Sh := (.cons (.box 75 (.cons (.val (.slice .byte)) (.cons (.val (.int .i64)) .nil))) (.cons (.val (.int .i64)) (.cons (.fn 36 .nil) .nil)))
def codec_List_byte.C (N : Nat) : Ctx := ⟨U, 26, fun _ => true, gam [(35, (codec_Items_byte.S N).con), (63, (codec_Items_byte_1_f1_b.S N).con)], gamY []⟩
theorem codec_List_byte.cok (N : Nat) : (codec_List_byte.C N).Ok Try.prog := ⟨U_ok, GamOk.cons (codec_Items_byte.ok N) (GamOk.cons (codec_Items_byte_1_f1_b.ok N) (GamOk.nil)), GamYOk.nil⟩
def codec_List_byte.code : Code := Try.f39.body.getD .skip
def codec_List_byte.outs : Sh := (.cons (.upd 0 75 (.cons (.val (.slice .byte)) (.cons (.val (.int .i64)) .nil))) (.cons (.own 22 (.slice .byte)) .nil))
def codec_List_byte.run (N : Nat) (b : (List UInt8)) (e : Int) (most : Int) : Option (((List UInt8) × Int × Unit) × (List (List UInt8)) × Unit) :=
  obind (codec_Items_byte.run N b e most) fun ((b1, e1, _), ((_, _), (v, _), (_, _), _), _) =>
    obind (codec_Items_byte_1_f1_b.run N (0 : Int) ([] : List (List UInt8)) b1 e1 v) fun ((v1, _), (b2, e2, _), (v2, _, _, _, _, _), _) =>
      bif decide (v2 = (0 : Int)) then
        bif !(decide (e2 = (0 : Int))) then
          some ((b2, e2, ()), ([] : List (List UInt8)), ())
        else some ((b2, e2, ()), v1, ())
      else none
def codec_List_byte.fn (N : Nat) (x : Sh.den codec_List_byte.ins) : Option (Sh.den codec_List_byte.outs) := codec_List_byte.run N x.1.1 x.1.2.1 x.2.1
def codec_List_byte.S (N : Nat) : Fs := ⟨codec_List_byte.ins, codec_List_byte.outs, codec_List_byte.fn N⟩
def codec_List_byte.lam (N : Nat) : Pcs := pcs [([true, true, false, true, false], rfPc (codec_List_byte.C N) 1000001 (.tmp 13) [7] [.normal])]
theorem codec_List_byte.pok (N : Nat) : (codec_List_byte.lam N).Ok Try.prog (codec_List_byte.C N) codec_List_byte.code := pcsOk_cons (c1 := .rangeFunc (.tmp 13) site1.ps site1.assign site1.body) (by kernel_rfl) (rf_ok (k := 1) (fun _ => rfl) (codec_List_byte.cok N)) (pcsOk_nil)
theorem codec_List_byte.ev (N : Nat) (x : Sh.den codec_List_byte.ins) : evC (codec_List_byte.C N) codec_List_byte.code (codec_List_byte.lam N) ⟨envOf 0 (bld (fun k => k) codec_List_byte.ins x 0).1, (bld (fun k => k) codec_List_byte.ins x 0).2.1, 1000⟩ (endF U codec_List_byte.outs Try.f39.results.toList []) = codec_List_byte.fn N x := by kernel_rfl
theorem codec_List_byte.ok (N : Nat) : (codec_List_byte.S N).con.Ok Try.prog 39 := fn_ok (F := codec_List_byte.S N) (n0 := 1000) Try.func39 (by kernel_rfl) (show Try.f39.body = some codec_List_byte.code by rfl) mix (codec_List_byte.cok N) (fun _ => rfl) (fun _ => rfl) (codec_List_byte.pok N) (fun x y h => (codec_List_byte.ev N x).trans h)
/-- hayloft/hayloftlaw01.same -/
def law_same_c.ins : Sh := (.cons (.val (.slice .byte)) (.cons (.val (.slice .byte)) .nil))
def law_same_c.C (N : Nat) : Ctx := ⟨U, 10, fun _ => true, gam [], gamY []⟩
theorem law_same_c.cok (N : Nat) : (law_same_c.C N).Ok Try.prog := ⟨U_ok, GamOk.nil, GamYOk.nil⟩
def law_same_c.code : Code := Try.f21.body.getD .skip
def law_same_c.outs : Sh := (.cons (.val .bool) .nil)
def law_same_c.run (N : Nat) (a : (List UInt8)) (b : (List UInt8)) : Option (Bool × Unit) :=
  some (decide (a = b), ())
def law_same_c.fn (N : Nat) (x : Sh.den law_same_c.ins) : Option (Sh.den law_same_c.outs) := law_same_c.run N x.1 x.2.1
def law_same_c.S (N : Nat) : Fs := ⟨law_same_c.ins, law_same_c.outs, law_same_c.fn N⟩
def law_same_c.lam (N : Nat) : Pcs := pcs []
theorem law_same_c.pok (N : Nat) : (law_same_c.lam N).Ok Try.prog (law_same_c.C N) law_same_c.code := pcsOk_nil
theorem law_same_c.ev (N : Nat) (x : Sh.den law_same_c.ins) : evC (law_same_c.C N) law_same_c.code (law_same_c.lam N) ⟨envOf 0 (bld (fun k => k) law_same_c.ins x 0).1, (bld (fun k => k) law_same_c.ins x 0).2.1, 1000⟩ (endF U law_same_c.outs Try.f21.results.toList []) = law_same_c.fn N x := by kernel_rfl
theorem law_same_c.ok (N : Nat) : (law_same_c.S N).con.Ok Try.prog 21 := fn_ok (F := law_same_c.S N) (n0 := 1000) Try.func21 (by kernel_rfl) (show Try.f21.body = some law_same_c.code by rfl) mix (law_same_c.cok N) (fun _ => rfl) (fun _ => rfl) (law_same_c.pok N) (fun x y h => (law_same_c.ev N x).trans h)
/-- hayloft/hayloftlaw01.CodecLists -/
def law_CodecLists.ins : Sh := (.cons (.val (.slice .byte)) (.cons (.val (.int .i64)) .nil))
def law_CodecLists.C (N : Nat) : Ctx := ⟨U, 69, fun _ => true, gam [(14, (codec_Read.S N).con), (16, (law_alive.S N).con), (39, (codec_List_byte.S N).con), (34, (law_listed.S N).con), (18, (codec_Reader_Err.S N).con), (19, (codec_Reader_Left.S N).con), (21, (law_same_c.S N).con)], gamY []⟩
theorem law_CodecLists.cok (N : Nat) : (law_CodecLists.C N).Ok Try.prog := ⟨U_ok, GamOk.cons (codec_Read.ok N) (GamOk.cons (law_alive.ok N) (GamOk.cons (codec_List_byte.ok N) (GamOk.cons (law_listed.ok N) (GamOk.cons (codec_Reader_Err.ok N) (GamOk.cons (codec_Reader_Left.ok N) (GamOk.cons (law_same_c.ok N) (GamOk.nil))))))), GamYOk.nil⟩
def law_CodecLists.code : Code := Try.f10.body.getD .skip
def law_CodecLists_0.ins : Sh := (.cons (.own 22 (.slice .byte)) (.cons (.rbox 44 (.cons (.val (.slice .byte)) (.cons (.val (.int .i64)) (.cons (.val (.int .i64)) .nil)))) .nil))
def law_CodecLists_0.ts : List Tmp := [7, 8]
def law_CodecLists_0.asg : List Tmp := [7, 27, 28, 29]
def law_CodecLists_0.C (N : Nat) : Ctx := { law_CodecLists.C N with may := fun t => law_CodecLists_0.asg.any (Nat.beq t) }
def law_CodecLists_0.code : Code := (sub law_CodecLists.code [true, true, true, true, true, false]).getD .skip
theorem law_CodecLists_0.cok (N : Nat) : (law_CodecLists_0.C N).Ok Try.prog := ⟨(law_CodecLists.cok N).U, (law_CodecLists.cok N).Γ, (law_CodecLists.cok N).Y⟩
def law_CodecLists_0.alts : List Alt := [⟨.normal, [7], (.cons (.own 22 (.slice .byte)) .nil)⟩]
def law_CodecLists_0.run (N : Nat) (m : (List (List UInt8))) (b : (List UInt8)) (at_ : Int) (e : Int) : Option (((List (List UInt8)) × Unit)) :=
  bif !(decide (e = (0 : Int))) then
    some (([] : List (List UInt8)), ())
  else some (m, ())
def law_CodecLists_0.fn (N : Nat) (x : Sh.den law_CodecLists_0.ins) : Option (altsDen law_CodecLists_0.alts) := law_CodecLists_0.run N x.1 x.2.1.1 x.2.1.2.1 x.2.1.2.2.1
def law_CodecLists_0.P (N : Nat) : Ps := ⟨law_CodecLists_0.ts, law_CodecLists_0.ins, law_CodecLists_0.asg, law_CodecLists_0.alts, law_CodecLists_0.fn N⟩
def law_CodecLists_0.lam (N : Nat) : Pcs := pcs []
theorem law_CodecLists_0.pok (N : Nat) : (law_CodecLists_0.lam N).Ok Try.prog (law_CodecLists_0.C N) law_CodecLists_0.code := pcsOk_nil
theorem law_CodecLists_0.ev (N : Nat) (x : Sh.den law_CodecLists_0.ins) : evC (law_CodecLists_0.C N) law_CodecLists_0.code (law_CodecLists_0.lam N) ((law_CodecLists_0.P N).canon 1000 x) (altK (law_CodecLists_0.P N).alts) = law_CodecLists_0.fn N x := by kernel_rfl
theorem law_CodecLists_0.ok (N : Nat) : ((law_CodecLists_0.P N).pc (law_CodecLists.C N)).Ok Try.prog (law_CodecLists.C N) law_CodecLists_0.code := ps_ok (F := law_CodecLists_0.P N) (n0 := 1000) (law_CodecLists.cok N) mix (law_CodecLists_0.pok N) (fun x y h => (law_CodecLists_0.ev N x).trans h)
def law_CodecLists_1.ins : Sh := (.cons (.rown 22 (.slice .byte)) (.cons (.rown 22 (.slice .byte)) (.cons (.val (.int .i64)) (.cons (.val (.int .i64)) .nil))))
def law_CodecLists_1.ts : List Tmp := [6, 7, 54, 55]
def law_CodecLists_1.asg : List Tmp := [4, 9, 55, 56, 57, 58, 59, 60, 61, 62, 63, 64, 65, 66, 67, 68]
def law_CodecLists_1.C (N : Nat) : Ctx := { law_CodecLists.C N with may := fun t => law_CodecLists_1.asg.any (Nat.beq t) }
def law_CodecLists_1.code : Code := loopBody (sub law_CodecLists.code [true, true, true, true, true, true, true, false, true, false])
theorem law_CodecLists_1.cok (N : Nat) : (law_CodecLists_1.C N).Ok Try.prog := ⟨(law_CodecLists.cok N).U, (law_CodecLists.cok N).Γ, (law_CodecLists.cok N).Y⟩
def law_CodecLists_1.alts : List Alt := [⟨.ret, [4], (.cons (.val .bool) .nil)⟩, ⟨(.exit 0), [], .nil⟩]
def law_CodecLists_1.go (N : Nat) : Nat → (List (List UInt8)) → (List (List UInt8)) → Int → Int → Option ((Bool × Unit) ⊕ Unit)
  | 0, _, _, _, _ => none
  | fuel + 1, l, m, t54, t55 =>
    bif decide (t55 < t54) then
      bif inB t55 l.length then
        bif decide (t55.toNat < l.length) then
          bif inB t55 m.length then
            bif decide (t55.toNat < m.length) then
              obind (law_same_c.run N (l.getD t55.toNat ([] : List UInt8)) (m.getD t55.toNat ([] : List UInt8))) fun (b, _) =>
                bif !b then
                  some (.inl (false, ()))
                else law_CodecLists_1.go N fuel l m t54 (IntKind.i64.wrap (t55 + (1 : Int)))
            else none
          else none
        else none
      else none
    else some (.inr ())
def law_CodecLists_1.g (N n : Nat) (x : Sh.den law_CodecLists_1.ins) : Option (altsDen law_CodecLists_1.alts) := law_CodecLists_1.go N n x.1 x.2.1 x.2.2.1 x.2.2.2.1
def law_CodecLists_1.P (N : Nat) : Ps := ⟨law_CodecLists_1.ts, law_CodecLists_1.ins, law_CodecLists_1.asg, law_CodecLists_1.alts, law_CodecLists_1.g N N⟩
def law_CodecLists_1.lam (N : Nat) : Pcs := pcs []
theorem law_CodecLists_1.pok (N : Nat) : (law_CodecLists_1.lam N).Ok Try.prog (law_CodecLists_1.C N) law_CodecLists_1.code := pcsOk_nil
theorem law_CodecLists_1.ev (N n : Nat) (x : Sh.den law_CodecLists_1.ins) : evC (law_CodecLists_1.C N) law_CodecLists_1.code (law_CodecLists_1.lam N) ((law_CodecLists_1.P N).canon 1000 x) (loopK (law_CodecLists_1.P N) (law_CodecLists_1.g N n)) = law_CodecLists_1.g N (n + 1) x := by kernel_rfl
theorem law_CodecLists_1.ok (N : Nat) : ((law_CodecLists_1.P N).pc (law_CodecLists.C N)).Ok Try.prog (law_CodecLists.C N) (.loop law_CodecLists_1.code) := loop_ok (F := law_CodecLists_1.P N) (n0 := 1000) (N := N) (law_CodecLists.cok N) mix (law_CodecLists_1.pok N) (law_CodecLists_1.g N) (fun x => by rfl) rfl (fun n x y h => (law_CodecLists_1.ev N n x).trans h)
def law_CodecLists.outs : Sh := (.cons (.val .bool) .nil)
def law_CodecLists.run (N : Nat) (b : (List UInt8)) (most : Int) : Option (Bool × Unit) :=
  obind (codec_Read.run N b) fun ((b1, e, _), _) =>
    obind (law_alive.run N) fun (b2, _) =>
      bif !b2 then
        some (false, ())
      else
        obind (codec_List_byte.run N b1 e most) fun ((b3, e1, _), l, _) =>
          obind (law_listed.run N b most) fun (l1, v, _) =>
            obind (law_CodecLists_0.run N l1 v.1 v.2.1 v.2.2) fun (m, _) =>
              bif !(decide ((l.length : Int) = (m.length : Int))) then
                some (false, ())
              else
                obind (codec_Reader_Err.run N b3 e1) fun (n_, _) =>
                  bif !(decide (n_ = v.2.2)) then
                    some (false, ())
                  else
                    obind (codec_Reader_Left.run N b3 e1) fun (n1, _) =>
                      bif !(decide (n1 = (IntKind.i64.wrap ((v.1.length : Int) - v.2.1)))) then
                        some (false, ())
                      else
                        obind (law_CodecLists_1.go N N l m (l.length : Int) (0 : Int)) fun y => match y with
                        | .inl (t4, _) =>
                            some (t4, ())
                        | .inr (_) =>
                            some (true, ())
def law_CodecLists.fn (N : Nat) (x : Sh.den law_CodecLists.ins) : Option (Sh.den law_CodecLists.outs) := law_CodecLists.run N x.1 x.2.1
def law_CodecLists.S (N : Nat) : Fs := ⟨law_CodecLists.ins, law_CodecLists.outs, law_CodecLists.fn N⟩
def law_CodecLists.lam (N : Nat) : Pcs := pcs [([true, true, true, true, true, false], (law_CodecLists_0.P N).pc (law_CodecLists.C N)), ([true, true, true, true, true, true, true, false, true, false], (law_CodecLists_1.P N).pc (law_CodecLists.C N))]
theorem law_CodecLists.pok (N : Nat) : (law_CodecLists.lam N).Ok Try.prog (law_CodecLists.C N) law_CodecLists.code := pcsOk_cons (c1 := law_CodecLists_0.code) (by kernel_rfl) (law_CodecLists_0.ok N) (pcsOk_cons (c1 := .loop law_CodecLists_1.code) (by kernel_rfl) (law_CodecLists_1.ok N) (pcsOk_nil))
theorem law_CodecLists.ev (N : Nat) (x : Sh.den law_CodecLists.ins) : evC (law_CodecLists.C N) law_CodecLists.code (law_CodecLists.lam N) ⟨envOf 0 (bld (fun k => k) law_CodecLists.ins x 0).1, (bld (fun k => k) law_CodecLists.ins x 0).2.1, 1000⟩ (endF U law_CodecLists.outs Try.f10.results.toList []) = law_CodecLists.fn N x := by kernel_rfl
theorem law_CodecLists.ok (N : Nat) : (law_CodecLists.S N).con.Ok Try.prog 10 := fn_ok (F := law_CodecLists.S N) (n0 := 1000) Try.func10 (by kernel_rfl) (show Try.f10.body = some law_CodecLists.code by rfl) mix (law_CodecLists.cok N) (fun _ => rfl) (fun _ => rfl) (law_CodecLists.pok N) (fun x y h => (law_CodecLists.ev N x).trans h)
/-- hayloft/codec.Frame -/
def codec_Frame.ins : Sh := (.cons (.val (.slice .byte)) .nil)
def codec_Frame.C (N : Nat) : Ctx := ⟨U, 30, fun _ => true, gam [(15, (codec_New.S N).con), (51, (codec_Writer_Word.S N).con), (37, (((codec_Sum_b.S N).con).or (codec_Sum.S N).con)), (53, (codec_Writer_Raw.S N).con), (22, (codec_Writer_Bytes.S N).con)], gamY []⟩
theorem codec_Frame.cok (N : Nat) : (codec_Frame.C N).Ok Try.prog := ⟨U_ok, GamOk.cons (codec_New.ok N) (GamOk.cons (codec_Writer_Word.ok N) (GamOk.cons (Con.or_ok (codec_Sum_b.ok N) (codec_Sum.ok N)) (GamOk.cons (codec_Writer_Raw.ok N) (GamOk.cons (codec_Writer_Bytes.ok N) (GamOk.nil))))), GamYOk.nil⟩
def codec_Frame.code : Code := Try.f40.body.getD .skip
def codec_Frame.outs : Sh := (.cons (.own 5 .byte) (.cons (.val (.int .i64)) .nil))
def codec_Frame.run (N : Nat) (b : (List UInt8)) : Option ((List UInt8) × Int × Unit) :=
  bif decide ((b.length : Int) > (16777216 : Int)) then
    some (([] : List UInt8), (12 : Int), ())
  else
    obind (codec_New.run N) fun ((b1, _), _) =>
      obind (codec_Writer_Word.run N b1 (IntKind.u32.wrap (b.length : Int))) fun ((b2, _), _) =>
        obind (codec_Sum_b.run N b2) fun (n_, _) =>
          obind (codec_Writer_Word.run N b2 n_) fun ((b3, _), _) =>
            obind (codec_Writer_Raw.run N b3 b) fun ((b4, _), _) =>
              obind (codec_Sum.run N b) fun (n1, _) =>
                obind (codec_Writer_Word.run N b4 n1) fun ((b5, _), _) =>
                  obind (codec_Writer_Bytes.run N b5) fun (l, _) =>
                    some (l, (0 : Int), ())
end
end Go.Hay.Ytebejjfgibkhbaa
