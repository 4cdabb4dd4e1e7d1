/- Functions of the program as functions of Lean, and that they are what the program computes. Conditions: none. -/
import Derived.Test.YthlojpcjafefjaaK
set_option linter.unusedVariables false
namespace Go.Hay.Ythlojpcjafefjaa
open Go Go.Hay Go.Proofs
noncomputable section
set_option maxRecDepth 100000
def site0 : Site := siteOf [7] 26 (sub (Try.f29.body.getD .skip) [true, true, false, true, false])
def site1 : Site := siteOf [3] 15 (sub (Try.f19.body.getD .skip) [true, true, false, true, false])
def site2 : Site := siteOf [2, 3, 5] 54 (sub (Try.f26.body.getD .skip) [true, true, false, true, false])
def sites : List Site := [site0, site1, site2]
instance : Sites := ⟨fun k us => loopObj (sites.getD k ⟨#[], .skip, .skip, [], 0⟩) us, fun _ _ _ => loopObj_ne _ _ _⟩
/-- slices.Clone[[]byte,byte] -/
def slices_Clone_byte_byte.ins : Sh := (.cons (.val (.slice .byte)) .nil)
def slices_Clone_byte_byte.C (N : Nat) : Ctx := ⟨U, 8, fun _ => true, gam [], gamY []⟩
theorem slices_Clone_byte_byte.cok (N : Nat) : (slices_Clone_byte_byte.C N).Ok Try.prog := ⟨U_ok, GamOk.nil, GamYOk.nil⟩
def slices_Clone_byte_byte.code : Code := Try.f52.body.getD .skip
def slices_Clone_byte_byte.outs : Sh := (.cons (.own 5 .byte) .nil)
def slices_Clone_byte_byte.run (N : Nat) (s : (List UInt8)) : Option ((List UInt8) × Unit) :=
  pick2 (Nat.beq s.length 0)
    (
      some (([] : List UInt8), ()))
    (
      bif room (0 + s.length) 1 then
        some (s, ())
      else none)
def slices_Clone_byte_byte.fn (N : Nat) (x : Sh.den slices_Clone_byte_byte.ins) : Option (Sh.den slices_Clone_byte_byte.outs) := slices_Clone_byte_byte.run N x.1
def slices_Clone_byte_byte.S (N : Nat) : Fs := ⟨slices_Clone_byte_byte.ins, slices_Clone_byte_byte.outs, slices_Clone_byte_byte.fn N⟩
def slices_Clone_byte_byte.lam (N : Nat) : Pcs := pcs []
theorem slices_Clone_byte_byte.pok (N : Nat) : (slices_Clone_byte_byte.lam N).Ok Try.prog (slices_Clone_byte_byte.C N) slices_Clone_byte_byte.code := pcsOk_nil
theorem slices_Clone_byte_byte.ev (N : Nat) (x : Sh.den slices_Clone_byte_byte.ins) : evC (slices_Clone_byte_byte.C N) slices_Clone_byte_byte.code (slices_Clone_byte_byte.lam N) ⟨envOf 0 (bld (fun k => k) slices_Clone_byte_byte.ins x 0).1, (bld (fun k => k) slices_Clone_byte_byte.ins x 0).2.1, 1000⟩ (endF U slices_Clone_byte_byte.outs Try.f52.results.toList []) = slices_Clone_byte_byte.fn N x := by kernel_rfl
theorem slices_Clone_byte_byte.ok (N : Nat) : (slices_Clone_byte_byte.S N).con.Ok Try.prog 52 := fn_ok (F := slices_Clone_byte_byte.S N) (n0 := 1000) Try.func52 (by kernel_rfl) (show Try.f52.body = some slices_Clone_byte_byte.code by rfl) mix (slices_Clone_byte_byte.cok N) (fun _ => rfl) (fun _ => rfl) (slices_Clone_byte_byte.pok N) (fun x y h => (slices_Clone_byte_byte.ev N x).trans h)
/-- hayloft/codec.Read -/
def codec_Read.ins : Sh := (.cons (.val (.slice .byte)) .nil)
def codec_Read.C (N : Nat) : Ctx := ⟨U, 7, fun _ => true, gam [(52, (slices_Clone_byte_byte.S N).con)], gamY []⟩
theorem codec_Read.cok (N : Nat) : (codec_Read.C N).Ok Try.prog := ⟨U_ok, GamOk.cons (slices_Clone_byte_byte.ok N) (GamOk.nil), GamYOk.nil⟩
def codec_Read.code : Code := Try.f28.body.getD .skip
def codec_Read.outs : Sh := (.cons (.box 93 (.cons (.val (.slice .byte)) (.cons (.val (.int .i64)) .nil))) .nil)
def codec_Read.run (N : Nat) (b : (List UInt8)) : Option (((List UInt8) × Int × Unit) × Unit) :=
  obind (slices_Clone_byte_byte.run N b) fun (l, _) =>
    some ((l, (0 : Int), ()), ())
def codec_Read.fn (N : Nat) (x : Sh.den codec_Read.ins) : Option (Sh.den codec_Read.outs) := codec_Read.run N x.1
def codec_Read.S (N : Nat) : Fs := ⟨codec_Read.ins, codec_Read.outs, codec_Read.fn N⟩
def codec_Read.lam (N : Nat) : Pcs := pcs []
theorem codec_Read.pok (N : Nat) : (codec_Read.lam N).Ok Try.prog (codec_Read.C N) codec_Read.code := pcsOk_nil
theorem codec_Read.ev (N : Nat) (x : Sh.den codec_Read.ins) : evC (codec_Read.C N) codec_Read.code (codec_Read.lam N) ⟨envOf 0 (bld (fun k => k) codec_Read.ins x 0).1, (bld (fun k => k) codec_Read.ins x 0).2.1, 1000⟩ (endF U codec_Read.outs Try.f28.results.toList []) = codec_Read.fn N x := by kernel_rfl
theorem codec_Read.ok (N : Nat) : (codec_Read.S N).con.Ok Try.prog 28 := fn_ok (F := codec_Read.S N) (n0 := 1000) Try.func28 (by kernel_rfl) (show Try.f28.body = some codec_Read.code by rfl) mix (codec_Read.cok N) (fun _ => rfl) (fun _ => rfl) (codec_Read.pok N) (fun x y h => (codec_Read.ev N x).trans h)
/-- (*hayloft/codec.Reader).take -/
def codec_Reader_take.ins : Sh := (.cons (.box 93 (.cons (.val (.slice .byte)) (.cons (.val (.int .i64)) .nil))) (.cons (.val (.int .i64)) .nil))
def codec_Reader_take.C (N : Nat) : Ctx := ⟨U, 45, fun _ => true, gam [], gamY []⟩
theorem codec_Reader_take.cok (N : Nat) : (codec_Reader_take.C N).Ok Try.prog := ⟨U_ok, GamOk.nil, GamYOk.nil⟩
def codec_Reader_take.code : Code := Try.f90.body.getD .skip
def codec_Reader_take_0.ins : Sh := (.cons (.box 93 (.cons (.val (.slice .byte)) (.cons (.val (.int .i64)) .nil))) (.cons (.val (.int .i64)) .nil))
def codec_Reader_take_0.ts : List Tmp := [0, 1]
def codec_Reader_take_0.asg : List Tmp := [7, 8, 9, 10, 11, 12, 13, 14, 15, 16, 17, 18, 19, 20, 21, 22, 23]
def codec_Reader_take_0.C (N : Nat) : Ctx := { codec_Reader_take.C N with may := fun t => codec_Reader_take_0.asg.any (Nat.beq t) }
def codec_Reader_take_0.code : Code := (sub codec_Reader_take.code [true, false]).getD .skip
theorem codec_Reader_take_0.cok (N : Nat) : (codec_Reader_take_0.C N).Ok Try.prog := ⟨(codec_Reader_take.cok N).U, (codec_Reader_take.cok N).Γ, (codec_Reader_take.cok N).Y⟩
def codec_Reader_take_0.alts : List Alt := [⟨.normal, [], (.cons (.upd 0 93 (.cons (.val (.slice .byte)) (.cons (.val (.int .i64)) .nil))) .nil)⟩]
def codec_Reader_take_0.run (N : Nat) (b : (List UInt8)) (e : Int) (n_ : Int) : Option ((((List UInt8) × Int × Unit) × Unit)) :=
  bif decide (e = (0 : Int)) then
    bif decide (n_ > (b.length : Int)) then
      some ((b, (10 : Int), ()), ())
    else some ((b, e, ()), ())
  else some ((b, e, ()), ())
def codec_Reader_take_0.fn (N : Nat) (x : Sh.den codec_Reader_take_0.ins) : Option (altsDen codec_Reader_take_0.alts) := codec_Reader_take_0.run N x.1.1 x.1.2.1 x.2.1
def codec_Reader_take_0.P (N : Nat) : Ps := ⟨codec_Reader_take_0.ts, codec_Reader_take_0.ins, codec_Reader_take_0.asg, codec_Reader_take_0.alts, codec_Reader_take_0.fn N⟩
def codec_Reader_take_0.lam (N : Nat) : Pcs := pcs []
theorem codec_Reader_take_0.pok (N : Nat) : (codec_Reader_take_0.lam N).Ok Try.prog (codec_Reader_take_0.C N) codec_Reader_take_0.code := pcsOk_nil
theorem codec_Reader_take_0.ev (N : Nat) (x : Sh.den codec_Reader_take_0.ins) : evC (codec_Reader_take_0.C N) codec_Reader_take_0.code (codec_Reader_take_0.lam N) ((codec_Reader_take_0.P N).canon 1000 x) (altK (codec_Reader_take_0.P N).alts) = codec_Reader_take_0.fn N x := by kernel_rfl
theorem codec_Reader_take_0.ok (N : Nat) : ((codec_Reader_take_0.P N).pc (codec_Reader_take.C N)).Ok Try.prog (codec_Reader_take.C N) codec_Reader_take_0.code := ps_ok (F := codec_Reader_take_0.P N) (n0 := 1000) (codec_Reader_take.cok N) mix (codec_Reader_take_0.pok N) (fun x y h => (codec_Reader_take_0.ev N x).trans h)
def codec_Reader_take.outs : Sh := (.cons (.upd 0 93 (.cons (.val (.slice .byte)) (.cons (.val (.int .i64)) .nil))) (.cons (.val (.slice .byte)) (.cons (.val .bool) .nil)))
def codec_Reader_take.run (N : Nat) (b : (List UInt8)) (e : Int) (n_ : Int) : Option (((List UInt8) × Int × Unit) × (List UInt8) × Bool × Unit) :=
  obind (codec_Reader_take_0.run N b e n_) fun ((b1, e1, _), _) =>
    bif !(decide (e1 = (0 : Int))) then
      some ((b1, e1, ()), ([] : List UInt8), false, ())
    else
      bif okB (0 : Int) n_ b1.length then
        bif okB n_ (b1.length : Int) b1.length then
          some ((b1.drop n_.toNat, e1, ()), b1.take n_.toNat, true, ())
        else none
      else none
def codec_Reader_take.fn (N : Nat) (x : Sh.den codec_Reader_take.ins) : Option (Sh.den codec_Reader_take.outs) := codec_Reader_take.run N x.1.1 x.1.2.1 x.2.1
def codec_Reader_take.S (N : Nat) : Fs := ⟨codec_Reader_take.ins, codec_Reader_take.outs, codec_Reader_take.fn N⟩
def codec_Reader_take.lam (N : Nat) : Pcs := pcs [([true, false], (codec_Reader_take_0.P N).pc (codec_Reader_take.C N))]
theorem codec_Reader_take.pok (N : Nat) : (codec_Reader_take.lam N).Ok Try.prog (codec_Reader_take.C N) codec_Reader_take.code := pcsOk_cons (c1 := codec_Reader_take_0.code) (by kernel_rfl) (codec_Reader_take_0.ok N) (pcsOk_nil)
theorem codec_Reader_take.ev (N : Nat) (x : Sh.den codec_Reader_take.ins) : evC (codec_Reader_take.C N) codec_Reader_take.code (codec_Reader_take.lam N) ⟨envOf 0 (bld (fun k => k) codec_Reader_take.ins x 0).1, (bld (fun k => k) codec_Reader_take.ins x 0).2.1, 1000⟩ (endF U codec_Reader_take.outs Try.f90.results.toList []) = codec_Reader_take.fn N x := by kernel_rfl
theorem codec_Reader_take.ok (N : Nat) : (codec_Reader_take.S N).con.Ok Try.prog 90 := fn_ok (F := codec_Reader_take.S N) (n0 := 1000) Try.func90 (by kernel_rfl) (show Try.f90.body = some codec_Reader_take.code by rfl) mix (codec_Reader_take.cok N) (fun _ => rfl) (fun _ => rfl) (codec_Reader_take.pok N) (fun x y h => (codec_Reader_take.ev N x).trans h)
/-- (*hayloft/codec.Reader).high -/
def codec_Reader_high.ins : Sh := (.cons (.box 93 (.cons (.val (.slice .byte)) (.cons (.val (.int .i64)) .nil))) (.cons (.val (.int .i64)) .nil))
def codec_Reader_high.C (N : Nat) : Ctx := ⟨U, 29, fun _ => true, gam [(90, (codec_Reader_take.S N).con)], gamY []⟩
theorem codec_Reader_high.cok (N : Nat) : (codec_Reader_high.C N).Ok Try.prog := ⟨U_ok, GamOk.cons (codec_Reader_take.ok N) (GamOk.nil), GamYOk.nil⟩
def codec_Reader_high.code : Code := Try.f88.body.getD .skip
def codec_Reader_high_0.ins : Sh := (.cons (.val (.int .u64)) (.cons (.val (.slice .byte)) (.cons (.val (.int .i64)) (.cons (.val (.int .i64)) .nil))))
def codec_Reader_high_0.ts : List Tmp := [7, 16, 17, 18]
def codec_Reader_high_0.asg : List Tmp := [7, 9, 18, 19, 20, 21, 22, 23, 24, 25, 26, 27]
def codec_Reader_high_0.C (N : Nat) : Ctx := { codec_Reader_high.C N with may := fun t => codec_Reader_high_0.asg.any (Nat.beq t) }
def codec_Reader_high_0.code : Code := loopBody (sub codec_Reader_high.code [true, true, true, false, true, false])
theorem codec_Reader_high_0.cok (N : Nat) : (codec_Reader_high_0.C N).Ok Try.prog := ⟨(codec_Reader_high.cok N).U, (codec_Reader_high.cok N).Γ, (codec_Reader_high.cok N).Y⟩
def codec_Reader_high_0.alts : List Alt := [⟨(.exit 0), [7], (.cons (.val (.int .u64)) .nil)⟩]
def codec_Reader_high_0.go (N : Nat) : Nat → Int → (List UInt8) → Int → Int → Option ((Int × Unit))
  | 0, _, _, _, _ => none
  | fuel + 1, n_, t16, t17, t18 =>
    bif decide (t18 < t17) then
      bif inB t18 t16.length then
        codec_Reader_high_0.go N fuel (IntKind.u64.wrap ((BitVec.ofInt 64 (IntKind.u64.wrap (n_ * (256 : Int))) ||| BitVec.ofInt 64 (IntKind.u64.wrap ((t16.getD t18.toNat (0 : UInt8)).toNat : Int))).toNat : Int)) t16 t17 (IntKind.i64.wrap (t18 + (1 : Int)))
      else none
    else some (n_, ())
def codec_Reader_high_0.g (N n : Nat) (x : Sh.den codec_Reader_high_0.ins) : Option (altsDen codec_Reader_high_0.alts) := codec_Reader_high_0.go N n x.1 x.2.1 x.2.2.1 x.2.2.2.1
def codec_Reader_high_0.P (N : Nat) : Ps := ⟨codec_Reader_high_0.ts, codec_Reader_high_0.ins, codec_Reader_high_0.asg, codec_Reader_high_0.alts, codec_Reader_high_0.g N N⟩
def codec_Reader_high_0.lam (N : Nat) : Pcs := pcs []
theorem codec_Reader_high_0.pok (N : Nat) : (codec_Reader_high_0.lam N).Ok Try.prog (codec_Reader_high_0.C N) codec_Reader_high_0.code := pcsOk_nil
theorem codec_Reader_high_0.ev (N n : Nat) (x : Sh.den codec_Reader_high_0.ins) : evC (codec_Reader_high_0.C N) codec_Reader_high_0.code (codec_Reader_high_0.lam N) ((codec_Reader_high_0.P N).canon 1000 x) (loopK (codec_Reader_high_0.P N) (codec_Reader_high_0.g N n)) = codec_Reader_high_0.g N (n + 1) x := by kernel_rfl
theorem codec_Reader_high_0.ok (N : Nat) : ((codec_Reader_high_0.P N).pc (codec_Reader_high.C N)).Ok Try.prog (codec_Reader_high.C N) (.loop codec_Reader_high_0.code) := loop_ok (F := codec_Reader_high_0.P N) (n0 := 1000) (N := N) (codec_Reader_high.cok N) mix (codec_Reader_high_0.pok N) (codec_Reader_high_0.g N) (fun x => by rfl) rfl (fun n x y h => (codec_Reader_high_0.ev N n x).trans h)
def codec_Reader_high.outs : Sh := (.cons (.upd 0 93 (.cons (.val (.slice .byte)) (.cons (.val (.int .i64)) .nil))) (.cons (.val (.int .u64)) .nil))
def codec_Reader_high.run (N : Nat) (b : (List UInt8)) (e : Int) (many : Int) : Option (((List UInt8) × Int × Unit) × Int × Unit) :=
  obind (codec_Reader_take.run N b e many) fun ((b1, e1, _), l, b2, _) =>
    obind (codec_Reader_high_0.go N N (0 : Int) l (l.length : Int) (0 : Int)) fun (n_, _) =>
      some ((b1, e1, ()), n_, ())
def codec_Reader_high.fn (N : Nat) (x : Sh.den codec_Reader_high.ins) : Option (Sh.den codec_Reader_high.outs) := codec_Reader_high.run N x.1.1 x.1.2.1 x.2.1
def codec_Reader_high.S (N : Nat) : Fs := ⟨codec_Reader_high.ins, codec_Reader_high.outs, codec_Reader_high.fn N⟩
def codec_Reader_high.lam (N : Nat) : Pcs := pcs [([true, true, true, false, true, false], (codec_Reader_high_0.P N).pc (codec_Reader_high.C N))]
theorem codec_Reader_high.pok (N : Nat) : (codec_Reader_high.lam N).Ok Try.prog (codec_Reader_high.C N) codec_Reader_high.code := pcsOk_cons (c1 := .loop codec_Reader_high_0.code) (by kernel_rfl) (codec_Reader_high_0.ok N) (pcsOk_nil)
theorem codec_Reader_high.ev (N : Nat) (x : Sh.den codec_Reader_high.ins) : evC (codec_Reader_high.C N) codec_Reader_high.code (codec_Reader_high.lam N) ⟨envOf 0 (bld (fun k => k) codec_Reader_high.ins x 0).1, (bld (fun k => k) codec_Reader_high.ins x 0).2.1, 1000⟩ (endF U codec_Reader_high.outs Try.f88.results.toList []) = codec_Reader_high.fn N x := by kernel_rfl
theorem codec_Reader_high.ok (N : Nat) : (codec_Reader_high.S N).con.Ok Try.prog 88 := fn_ok (F := codec_Reader_high.S N) (n0 := 1000) Try.func88 (by kernel_rfl) (show Try.f88.body = some codec_Reader_high.code by rfl) mix (codec_Reader_high.cok N) (fun _ => rfl) (fun _ => rfl) (codec_Reader_high.pok N) (fun x y h => (codec_Reader_high.ev N x).trans h)
/-- (*hayloft/codec.Reader).Word -/
def codec_Reader_Word.ins : Sh := (.cons (.box 93 (.cons (.val (.slice .byte)) (.cons (.val (.int .i64)) .nil))) .nil)
def codec_Reader_Word.C (N : Nat) : Ctx := ⟨U, 6, fun _ => true, gam [(88, (codec_Reader_high.S N).con)], gamY []⟩
theorem codec_Reader_Word.cok (N : Nat) : (codec_Reader_Word.C N).Ok Try.prog := ⟨U_ok, GamOk.cons (codec_Reader_high.ok N) (GamOk.nil), GamYOk.nil⟩
def codec_Reader_Word.code : Code := Try.f59.body.getD .skip
def codec_Reader_Word.outs : Sh := (.cons (.upd 0 93 (.cons (.val (.slice .byte)) (.cons (.val (.int .i64)) .nil))) (.cons (.val (.int .u32)) .nil))
def codec_Reader_Word.run (N : Nat) (b : (List UInt8)) (e : Int) : Option (((List UInt8) × Int × Unit) × Int × Unit) :=
  obind (codec_Reader_high.run N b e (4 : Int)) fun ((b1, e1, _), n_, _) =>
    some ((b1, e1, ()), IntKind.u32.wrap n_, ())
def codec_Reader_Word.fn (N : Nat) (x : Sh.den codec_Reader_Word.ins) : Option (Sh.den codec_Reader_Word.outs) := codec_Reader_Word.run N x.1.1 x.1.2.1
def codec_Reader_Word.S (N : Nat) : Fs := ⟨codec_Reader_Word.ins, codec_Reader_Word.outs, codec_Reader_Word.fn N⟩
def codec_Reader_Word.lam (N : Nat) : Pcs := pcs []
theorem codec_Reader_Word.pok (N : Nat) : (codec_Reader_Word.lam N).Ok Try.prog (codec_Reader_Word.C N) codec_Reader_Word.code := pcsOk_nil
theorem codec_Reader_Word.ev (N : Nat) (x : Sh.den codec_Reader_Word.ins) : evC (codec_Reader_Word.C N) codec_Reader_Word.code (codec_Reader_Word.lam N) ⟨envOf 0 (bld (fun k => k) codec_Reader_Word.ins x 0).1, (bld (fun k => k) codec_Reader_Word.ins x 0).2.1, 1000⟩ (endF U codec_Reader_Word.outs Try.f59.results.toList []) = codec_Reader_Word.fn N x := by kernel_rfl
theorem codec_Reader_Word.ok (N : Nat) : (codec_Reader_Word.S N).con.Ok Try.prog 59 := fn_ok (F := codec_Reader_Word.S N) (n0 := 1000) Try.func59 (by kernel_rfl) (show Try.f59.body = some codec_Reader_Word.code by rfl) mix (codec_Reader_Word.cok N) (fun _ => rfl) (fun _ => rfl) (codec_Reader_Word.pok N) (fun x y h => (codec_Reader_Word.ev N x).trans h)
/-- hayloft/codec.Sum -/
def codec_Sum.ins : Sh := (.cons (.val (.slice .byte)) .nil)
def codec_Sum.C (N : Nat) : Ctx := ⟨U, 54, fun _ => true, gam [], gamY []⟩
theorem codec_Sum.cok (N : Nat) : (codec_Sum.C N).Ok Try.prog := ⟨U_ok, GamOk.nil, GamYOk.nil⟩
def codec_Sum.code : Code := Try.f60.body.getD .skip
def codec_Sum_0.ins : Sh := (.cons (.arr 122 (.int .u32) 16) (.cons (.val (.int .i64)) .nil))
def codec_Sum_0.ts : List Tmp := [3, 9]
def codec_Sum_0.asg : List Tmp := [4, 5, 9, 10, 11, 12, 13, 14, 15, 16, 17, 18, 19, 20, 21, 22, 23, 24, 25, 26]
def codec_Sum_0.C (N : Nat) : Ctx := { codec_Sum.C N with may := fun t => codec_Sum_0.asg.any (Nat.beq t) }
def codec_Sum_0.code : Code := loopBody (sub codec_Sum.code [true, true, false, true, false])
theorem codec_Sum_0.cok (N : Nat) : (codec_Sum_0.C N).Ok Try.prog := ⟨(codec_Sum.cok N).U, (codec_Sum.cok N).Γ, (codec_Sum.cok N).Y⟩
def codec_Sum_0_0.ins : Sh := (.cons (.val (.int .u32)) (.cons (.val (.int .i64)) .nil))
def codec_Sum_0_0.ts : List Tmp := [5, 14]
def codec_Sum_0_0.asg : List Tmp := [5, 14, 15, 16, 17, 18, 19, 20, 21, 22]
def codec_Sum_0_0.C (N : Nat) : Ctx := { codec_Sum_0.C N with may := fun t => codec_Sum_0_0.asg.any (Nat.beq t) }
def codec_Sum_0_0.code : Code := loopBody (sub codec_Sum_0.code [true, true, false, false, true, true, false, true, false])
theorem codec_Sum_0_0.cok (N : Nat) : (codec_Sum_0_0.C N).Ok Try.prog := ⟨(codec_Sum_0.cok N).U, (codec_Sum_0.cok N).Γ, (codec_Sum_0.cok N).Y⟩
def codec_Sum_0_0.alts : List Alt := [⟨(.exit 2), [5], (.cons (.val (.int .u32)) .nil)⟩]
def codec_Sum_0_0.go (N : Nat) : Nat → Int → Int → Option ((Int × Unit))
  | 0, _, _ => none
  | fuel + 1, c, t14 =>
    bif decide (t14 < (4 : Int)) then
      codec_Sum_0_0.go N fuel (IntKind.u32.wrap ((BitVec.ofInt 32 (c.fdiv (2 : Int)) ^^^ BitVec.ofInt 32 (IntKind.u32.wrap ((3988292384 : Int) * (IntKind.u32.wrap ((BitVec.ofInt 32 c &&& BitVec.ofInt 32 (1 : Int)).toNat : Int))))).toNat : Int)) (IntKind.i64.wrap (t14 + (1 : Int)))
    else some (c, ())
def codec_Sum_0_0.g (N n : Nat) (x : Sh.den codec_Sum_0_0.ins) : Option (altsDen codec_Sum_0_0.alts) := codec_Sum_0_0.go N n x.1 x.2.1
def codec_Sum_0_0.P (N : Nat) : Ps := ⟨codec_Sum_0_0.ts, codec_Sum_0_0.ins, codec_Sum_0_0.asg, codec_Sum_0_0.alts, codec_Sum_0_0.g N N⟩
def codec_Sum_0_0.lam (N : Nat) : Pcs := pcs []
theorem codec_Sum_0_0.pok (N : Nat) : (codec_Sum_0_0.lam N).Ok Try.prog (codec_Sum_0_0.C N) codec_Sum_0_0.code := pcsOk_nil
theorem codec_Sum_0_0.ev (N n : Nat) (x : Sh.den codec_Sum_0_0.ins) : evC (codec_Sum_0_0.C N) codec_Sum_0_0.code (codec_Sum_0_0.lam N) ((codec_Sum_0_0.P N).canon 1000 x) (loopK (codec_Sum_0_0.P N) (codec_Sum_0_0.g N n)) = codec_Sum_0_0.g N (n + 1) x := by kernel_rfl
theorem codec_Sum_0_0.ok (N : Nat) : ((codec_Sum_0_0.P N).pc (codec_Sum_0.C N)).Ok Try.prog (codec_Sum_0.C N) (.loop codec_Sum_0_0.code) := loop_ok (F := codec_Sum_0_0.P N) (n0 := 1000) (N := N) (codec_Sum_0.cok N) mix (codec_Sum_0_0.pok N) (codec_Sum_0_0.g N) (fun x => by rfl) rfl (fun n x y h => (codec_Sum_0_0.ev N n x).trans h)
def codec_Sum_0.alts : List Alt := [⟨(.exit 0), [], (.cons (.updr 0 122 (.int .u32)) .nil)⟩]
def codec_Sum_0.go (N : Nat) : Nat → (List Int) → Int → Option (((List Int) × Unit))
  | 0, _, _ => none
  | fuel + 1, half, t9 =>
    bif decide (t9 < (16 : Int)) then
      obind (codec_Sum_0_0.go N N (IntKind.u32.wrap t9) (0 : Int)) fun (c, _) =>
        bif inB t9 16 then
          bif decide (t9.toNat < half.length) then
            codec_Sum_0.go N fuel (half.set t9.toNat c) (IntKind.i64.wrap (t9 + (1 : Int)))
          else none
        else none
    else some (half, ())
def codec_Sum_0.g (N n : Nat) (x : Sh.den codec_Sum_0.ins) : Option (altsDen codec_Sum_0.alts) := codec_Sum_0.go N n x.1 x.2.1
def codec_Sum_0.P (N : Nat) : Ps := ⟨codec_Sum_0.ts, codec_Sum_0.ins, codec_Sum_0.asg, codec_Sum_0.alts, codec_Sum_0.g N N⟩
def codec_Sum_0.lam (N : Nat) : Pcs := pcs [([true, true, false, false, true, true, false, true, false], (codec_Sum_0_0.P N).pc (codec_Sum_0.C N))]
theorem codec_Sum_0.pok (N : Nat) : (codec_Sum_0.lam N).Ok Try.prog (codec_Sum_0.C N) codec_Sum_0.code := pcsOk_cons (c1 := .loop codec_Sum_0_0.code) (by kernel_rfl) (codec_Sum_0_0.ok N) (pcsOk_nil)
theorem codec_Sum_0.ev (N n : Nat) (x : Sh.den codec_Sum_0.ins) : evC (codec_Sum_0.C N) codec_Sum_0.code (codec_Sum_0.lam N) ((codec_Sum_0.P N).canon 1000 x) (loopK (codec_Sum_0.P N) (codec_Sum_0.g N n)) = codec_Sum_0.g N (n + 1) x := by kernel_rfl
theorem codec_Sum_0.ok (N : Nat) : ((codec_Sum_0.P N).pc (codec_Sum.C N)).Ok Try.prog (codec_Sum.C N) (.loop codec_Sum_0.code) := loop_ok (F := codec_Sum_0.P N) (n0 := 1000) (N := N) (codec_Sum.cok N) mix (codec_Sum_0.pok N) (codec_Sum_0.g N) (fun x => by rfl) rfl (fun n x y h => (codec_Sum_0.ev N n x).trans h)
def codec_Sum_1.ins : Sh := (.cons (.arr 122 (.int .u32) 16) (.cons (.val (.int .u32)) (.cons (.val (.slice .byte)) (.cons (.val (.int .i64)) (.cons (.val (.int .i64)) .nil)))))
def codec_Sum_1.ts : List Tmp := [3, 6, 27, 28, 29]
def codec_Sum_1.asg : List Tmp := [6, 8, 29, 30, 31, 32, 33, 34, 35, 36, 37, 38, 39, 40, 41, 42, 43, 44, 45, 46, 47, 48, 49, 50, 51]
def codec_Sum_1.C (N : Nat) : Ctx := { codec_Sum.C N with may := fun t => codec_Sum_1.asg.any (Nat.beq t) }
def codec_Sum_1.code : Code := loopBody (sub codec_Sum.code [true, true, true, true, false, true, false])
theorem codec_Sum_1.cok (N : Nat) : (codec_Sum_1.C N).Ok Try.prog := ⟨(codec_Sum.cok N).U, (codec_Sum.cok N).Γ, (codec_Sum.cok N).Y⟩
def codec_Sum_1.alts : List Alt := [⟨(.exit 4), [6], (.cons (.val (.int .u32)) .nil)⟩]
def codec_Sum_1.go (N : Nat) : Nat → (List Int) → Int → (List UInt8) → Int → Int → Option ((Int × Unit))
  | 0, _, _, _, _, _ => none
  | fuel + 1, half, c, t27, t28, t29 =>
    bif decide (t29 < t28) then
      bif inB t29 t27.length then
        bif inB (IntKind.u32.wrap ((BitVec.ofInt 32 (IntKind.u32.wrap ((BitVec.ofInt 32 c ^^^ BitVec.ofInt 32 (IntKind.u32.wrap ((t27.getD t29.toNat (0 : UInt8)).toNat : Int))).toNat : Int)) &&& BitVec.ofInt 32 (15 : Int)).toNat : Int)) 16 then
          bif decide ((IntKind.u32.wrap ((BitVec.ofInt 32 (IntKind.u32.wrap ((BitVec.ofInt 32 c ^^^ BitVec.ofInt 32 (IntKind.u32.wrap ((t27.getD t29.toNat (0 : UInt8)).toNat : Int))).toNat : Int)) &&& BitVec.ofInt 32 (15 : Int)).toNat : Int)).toNat < half.length) then
            bif inB (IntKind.u32.wrap ((BitVec.ofInt 32 (IntKind.u32.wrap ((BitVec.ofInt 32 (half.getD (IntKind.u32.wrap ((BitVec.ofInt 32 (IntKind.u32.wrap ((BitVec.ofInt 32 c ^^^ BitVec.ofInt 32 (IntKind.u32.wrap ((t27.getD t29.toNat (0 : UInt8)).toNat : Int))).toNat : Int)) &&& BitVec.ofInt 32 (15 : Int)).toNat : Int)).toNat (0 : Int)) ^^^ BitVec.ofInt 32 ((IntKind.u32.wrap ((BitVec.ofInt 32 c ^^^ BitVec.ofInt 32 (IntKind.u32.wrap ((t27.getD t29.toNat (0 : UInt8)).toNat : Int))).toNat : Int)).fdiv (16 : Int))).toNat : Int)) &&& BitVec.ofInt 32 (15 : Int)).toNat : Int)) 16 then
              bif decide ((IntKind.u32.wrap ((BitVec.ofInt 32 (IntKind.u32.wrap ((BitVec.ofInt 32 (half.getD (IntKind.u32.wrap ((BitVec.ofInt 32 (IntKind.u32.wrap ((BitVec.ofInt 32 c ^^^ BitVec.ofInt 32 (IntKind.u32.wrap ((t27.getD t29.toNat (0 : UInt8)).toNat : Int))).toNat : Int)) &&& BitVec.ofInt 32 (15 : Int)).toNat : Int)).toNat (0 : Int)) ^^^ BitVec.ofInt 32 ((IntKind.u32.wrap ((BitVec.ofInt 32 c ^^^ BitVec.ofInt 32 (IntKind.u32.wrap ((t27.getD t29.toNat (0 : UInt8)).toNat : Int))).toNat : Int)).fdiv (16 : Int))).toNat : Int)) &&& BitVec.ofInt 32 (15 : Int)).toNat : Int)).toNat < half.length) then
                codec_Sum_1.go N fuel half (IntKind.u32.wrap ((BitVec.ofInt 32 (half.getD (IntKind.u32.wrap ((BitVec.ofInt 32 (IntKind.u32.wrap ((BitVec.ofInt 32 (half.getD (IntKind.u32.wrap ((BitVec.ofInt 32 (IntKind.u32.wrap ((BitVec.ofInt 32 c ^^^ BitVec.ofInt 32 (IntKind.u32.wrap ((t27.getD t29.toNat (0 : UInt8)).toNat : Int))).toNat : Int)) &&& BitVec.ofInt 32 (15 : Int)).toNat : Int)).toNat (0 : Int)) ^^^ BitVec.ofInt 32 ((IntKind.u32.wrap ((BitVec.ofInt 32 c ^^^ BitVec.ofInt 32 (IntKind.u32.wrap ((t27.getD t29.toNat (0 : UInt8)).toNat : Int))).toNat : Int)).fdiv (16 : Int))).toNat : Int)) &&& BitVec.ofInt 32 (15 : Int)).toNat : Int)).toNat (0 : Int)) ^^^ BitVec.ofInt 32 ((IntKind.u32.wrap ((BitVec.ofInt 32 (half.getD (IntKind.u32.wrap ((BitVec.ofInt 32 (IntKind.u32.wrap ((BitVec.ofInt 32 c ^^^ BitVec.ofInt 32 (IntKind.u32.wrap ((t27.getD t29.toNat (0 : UInt8)).toNat : Int))).toNat : Int)) &&& BitVec.ofInt 32 (15 : Int)).toNat : Int)).toNat (0 : Int)) ^^^ BitVec.ofInt 32 ((IntKind.u32.wrap ((BitVec.ofInt 32 c ^^^ BitVec.ofInt 32 (IntKind.u32.wrap ((t27.getD t29.toNat (0 : UInt8)).toNat : Int))).toNat : Int)).fdiv (16 : Int))).toNat : Int)).fdiv (16 : Int))).toNat : Int)) t27 t28 (IntKind.i64.wrap (t29 + (1 : Int)))
              else none
            else none
          else none
        else none
      else none
    else some (c, ())
def codec_Sum_1.g (N n : Nat) (x : Sh.den codec_Sum_1.ins) : Option (altsDen codec_Sum_1.alts) := codec_Sum_1.go N n x.1 x.2.1 x.2.2.1 x.2.2.2.1 x.2.2.2.2.1
def codec_Sum_1.P (N : Nat) : Ps := ⟨codec_Sum_1.ts, codec_Sum_1.ins, codec_Sum_1.asg, codec_Sum_1.alts, codec_Sum_1.g N N⟩
def codec_Sum_1.lam (N : Nat) : Pcs := pcs []
theorem codec_Sum_1.pok (N : Nat) : (codec_Sum_1.lam N).Ok Try.prog (codec_Sum_1.C N) codec_Sum_1.code := pcsOk_nil
theorem codec_Sum_1.ev (N n : Nat) (x : Sh.den codec_Sum_1.ins) : evC (codec_Sum_1.C N) codec_Sum_1.code (codec_Sum_1.lam N) ((codec_Sum_1.P N).canon 1000 x) (loopK (codec_Sum_1.P N) (codec_Sum_1.g N n)) = codec_Sum_1.g N (n + 1) x := by kernel_rfl
theorem codec_Sum_1.ok (N : Nat) : ((codec_Sum_1.P N).pc (codec_Sum.C N)).Ok Try.prog (codec_Sum.C N) (.loop codec_Sum_1.code) := loop_ok (F := codec_Sum_1.P N) (n0 := 1000) (N := N) (codec_Sum.cok N) mix (codec_Sum_1.pok N) (codec_Sum_1.g N) (fun x => by rfl) rfl (fun n x y h => (codec_Sum_1.ev N n x).trans h)
def codec_Sum.outs : Sh := (.cons (.val (.int .u32)) .nil)
def codec_Sum.run (N : Nat) (b : (List UInt8)) : Option (Int × Unit) :=
  obind (codec_Sum_0.go N N (List.replicate 16 (0 : Int)) (0 : Int)) fun (v, _) =>
    obind (codec_Sum_1.go N N v (4294967295 : Int) b (b.length : Int) (0 : Int)) fun (c, _) =>
      some (IntKind.u32.wrap ((BitVec.ofInt 32 (4294967295 : Int) ^^^ BitVec.ofInt 32 c).toNat : Int), ())
def codec_Sum.fn (N : Nat) (x : Sh.den codec_Sum.ins) : Option (Sh.den codec_Sum.outs) := codec_Sum.run N x.1
def codec_Sum.S (N : Nat) : Fs := ⟨codec_Sum.ins, codec_Sum.outs, codec_Sum.fn N⟩
def codec_Sum.lam (N : Nat) : Pcs := pcs [([true, true, false, true, false], (codec_Sum_0.P N).pc (codec_Sum.C N)), ([true, true, true, true, false, true, false], (codec_Sum_1.P N).pc (codec_Sum.C N))]
theorem codec_Sum.pok (N : Nat) : (codec_Sum.lam N).Ok Try.prog (codec_Sum.C N) codec_Sum.code := pcsOk_cons (c1 := .loop codec_Sum_0.code) (by kernel_rfl) (codec_Sum_0.ok N) (pcsOk_cons (c1 := .loop codec_Sum_1.code) (by kernel_rfl) (codec_Sum_1.ok N) (pcsOk_nil))
theorem codec_Sum.ev (N : Nat) (x : Sh.den codec_Sum.ins) : evC (codec_Sum.C N) codec_Sum.code (codec_Sum.lam N) ⟨envOf 0 (bld (fun k => k) codec_Sum.ins x 0).1, (bld (fun k => k) codec_Sum.ins x 0).2.1, 1000⟩ (endF U codec_Sum.outs Try.f60.results.toList []) = codec_Sum.fn N x := by kernel_rfl
theorem codec_Sum.ok (N : Nat) : (codec_Sum.S N).con.Ok Try.prog 60 := fn_ok (F := codec_Sum.S N) (n0 := 1000) Try.func60 (by kernel_rfl) (show Try.f60.body = some codec_Sum.code by rfl) mix (codec_Sum.cok N) (fun _ => rfl) (fun _ => rfl) (codec_Sum.pok N) (fun x y h => (codec_Sum.ev N x).trans h)
/-- (*hayloft/codec.Reader).Fail -/
def codec_Reader_Fail.ins : Sh := (.cons (.box 93 (.cons (.val (.slice .byte)) (.cons (.val (.int .i64)) .nil))) (.cons (.val (.int .i64)) .nil))
def codec_Reader_Fail.C (N : Nat) : Ctx := ⟨U, 13, fun _ => true, gam [], gamY []⟩
theorem codec_Reader_Fail.cok (N : Nat) : (codec_Reader_Fail.C N).Ok Try.prog := ⟨U_ok, GamOk.nil, GamYOk.nil⟩
def codec_Reader_Fail.code : Code := Try.f89.body.getD .skip
def codec_Reader_Fail.outs : Sh := (.cons (.upd 0 93 (.cons (.val (.slice .byte)) (.cons (.val (.int .i64)) .nil))) .nil)
def codec_Reader_Fail.run (N : Nat) (b : (List UInt8)) (e : Int) (e1 : Int) : Option (((List UInt8) × Int × Unit) × Unit) :=
  bif decide (e = (0 : Int)) then
    some ((b, e1, ()), ())
  else some ((b, e, ()), ())
def codec_Reader_Fail.fn (N : Nat) (x : Sh.den codec_Reader_Fail.ins) : Option (Sh.den codec_Reader_Fail.outs) := codec_Reader_Fail.run N x.1.1 x.1.2.1 x.2.1
def codec_Reader_Fail.S (N : Nat) : Fs := ⟨codec_Reader_Fail.ins, codec_Reader_Fail.outs, codec_Reader_Fail.fn N⟩
def codec_Reader_Fail.lam (N : Nat) : Pcs := pcs []
theorem codec_Reader_Fail.pok (N : Nat) : (codec_Reader_Fail.lam N).Ok Try.prog (codec_Reader_Fail.C N) codec_Reader_Fail.code := pcsOk_nil
theorem codec_Reader_Fail.ev (N : Nat) (x : Sh.den codec_Reader_Fail.ins) : evC (codec_Reader_Fail.C N) codec_Reader_Fail.code (codec_Reader_Fail.lam N) ⟨envOf 0 (bld (fun k => k) codec_Reader_Fail.ins x 0).1, (bld (fun k => k) codec_Reader_Fail.ins x 0).2.1, 1000⟩ (endF U codec_Reader_Fail.outs Try.f89.results.toList []) = codec_Reader_Fail.fn N x := by kernel_rfl
theorem codec_Reader_Fail.ok (N : Nat) : (codec_Reader_Fail.S N).con.Ok Try.prog 89 := fn_ok (F := codec_Reader_Fail.S N) (n0 := 1000) Try.func89 (by kernel_rfl) (show Try.f89.body = some codec_Reader_Fail.code by rfl) mix (codec_Reader_Fail.cok N) (fun _ => rfl) (fun _ => rfl) (codec_Reader_Fail.pok N) (fun x y h => (codec_Reader_Fail.ev N x).trans h)
/-- (*hayloft/codec.Reader).Raw -/
def codec_Reader_Raw.ins : Sh := (.cons (.box 93 (.cons (.val (.slice .byte)) (.cons (.val (.int .i64)) .nil))) (.cons (.val (.int .i64)) .nil))
def codec_Reader_Raw.C (N : Nat) : Ctx := ⟨U, 19, fun _ => true, gam [(89, (codec_Reader_Fail.S N).con), (90, (codec_Reader_take.S N).con), (52, (slices_Clone_byte_byte.S N).con)], gamY []⟩
theorem codec_Reader_Raw.cok (N : Nat) : (codec_Reader_Raw.C N).Ok Try.prog := ⟨U_ok, GamOk.cons (codec_Reader_Fail.ok N) (GamOk.cons (codec_Reader_take.ok N) (GamOk.cons (slices_Clone_byte_byte.ok N) (GamOk.nil))), GamYOk.nil⟩
def codec_Reader_Raw.code : Code := Try.f61.body.getD .skip
def codec_Reader_Raw.outs : Sh := (.cons (.upd 0 93 (.cons (.val (.slice .byte)) (.cons (.val (.int .i64)) .nil))) (.cons (.own 5 .byte) .nil))
def codec_Reader_Raw.run (N : Nat) (b : (List UInt8)) (e : Int) (n_ : Int) : Option (((List UInt8) × Int × Unit) × (List UInt8) × Unit) :=
  bif decide (n_ < (0 : Int)) then
    obind (codec_Reader_Fail.run N b e (12 : Int)) fun ((b1, e1, _), _) =>
      some ((b1, e1, ()), ([] : List UInt8), ())
  else
    obind (codec_Reader_take.run N b e n_) fun ((b2, e2, _), l, b3, _) =>
      obind (slices_Clone_byte_byte.run N l) fun (l1, _) =>
        some ((b2, e2, ()), l1, ())
def codec_Reader_Raw.fn (N : Nat) (x : Sh.den codec_Reader_Raw.ins) : Option (Sh.den codec_Reader_Raw.outs) := codec_Reader_Raw.run N x.1.1 x.1.2.1 x.2.1
def codec_Reader_Raw.S (N : Nat) : Fs := ⟨codec_Reader_Raw.ins, codec_Reader_Raw.outs, codec_Reader_Raw.fn N⟩
def codec_Reader_Raw.lam (N : Nat) : Pcs := pcs []
theorem codec_Reader_Raw.pok (N : Nat) : (codec_Reader_Raw.lam N).Ok Try.prog (codec_Reader_Raw.C N) codec_Reader_Raw.code := pcsOk_nil
theorem codec_Reader_Raw.ev (N : Nat) (x : Sh.den codec_Reader_Raw.ins) : evC (codec_Reader_Raw.C N) codec_Reader_Raw.code (codec_Reader_Raw.lam N) ⟨envOf 0 (bld (fun k => k) codec_Reader_Raw.ins x 0).1, (bld (fun k => k) codec_Reader_Raw.ins x 0).2.1, 1000⟩ (endF U codec_Reader_Raw.outs Try.f61.results.toList []) = codec_Reader_Raw.fn N x := by kernel_rfl
theorem codec_Reader_Raw.ok (N : Nat) : (codec_Reader_Raw.S N).con.Ok Try.prog 61 := fn_ok (F := codec_Reader_Raw.S N) (n0 := 1000) Try.func61 (by kernel_rfl) (show Try.f61.body = some codec_Reader_Raw.code by rfl) mix (codec_Reader_Raw.cok N) (fun _ => rfl) (fun _ => rfl) (codec_Reader_Raw.pok N) (fun x y h => (codec_Reader_Raw.ev N x).trans h)
/-- hayloft/codec.Sum -/
def codec_Sum_b.ins : Sh := (.cons (.rown 5 .byte) .nil)
def codec_Sum_b.C (N : Nat) : Ctx := ⟨U, 54, fun _ => true, gam [], gamY []⟩
theorem codec_Sum_b.cok (N : Nat) : (codec_Sum_b.C N).Ok Try.prog := ⟨U_ok, GamOk.nil, GamYOk.nil⟩
def codec_Sum_b.code : Code := Try.f60.body.getD .skip
def codec_Sum_b_0.ins : Sh := (.cons (.arr 122 (.int .u32) 16) (.cons (.val (.int .i64)) .nil))
def codec_Sum_b_0.ts : List Tmp := [3, 9]
def codec_Sum_b_0.asg : List Tmp := [4, 5, 9, 10, 11, 12, 13, 14, 15, 16, 17, 18, 19, 20, 21, 22, 23, 24, 25, 26]
def codec_Sum_b_0.C (N : Nat) : Ctx := { codec_Sum_b.C N with may := fun t => codec_Sum_b_0.asg.any (Nat.beq t) }
def codec_Sum_b_0.code : Code := loopBody (sub codec_Sum_b.code [true, true, false, true, false])
theorem codec_Sum_b_0.cok (N : Nat) : (codec_Sum_b_0.C N).Ok Try.prog := ⟨(codec_Sum_b.cok N).U, (codec_Sum_b.cok N).Γ, (codec_Sum_b.cok N).Y⟩
def codec_Sum_b_0_0.ins : Sh := (.cons (.val (.int .u32)) (.cons (.val (.int .i64)) .nil))
def codec_Sum_b_0_0.ts : List Tmp := [5, 14]
def codec_Sum_b_0_0.asg : List Tmp := [5, 14, 15, 16, 17, 18, 19, 20, 21, 22]
def codec_Sum_b_0_0.C (N : Nat) : Ctx := { codec_Sum_b_0.C N with may := fun t => codec_Sum_b_0_0.asg.any (Nat.beq t) }
def codec_Sum_b_0_0.code : Code := loopBody (sub codec_Sum_b_0.code [true, true, false, false, true, true, false, true, false])
theorem codec_Sum_b_0_0.cok (N : Nat) : (codec_Sum_b_0_0.C N).Ok Try.prog := ⟨(codec_Sum_b_0.cok N).U, (codec_Sum_b_0.cok N).Γ, (codec_Sum_b_0.cok N).Y⟩
def codec_Sum_b_0_0.alts : List Alt := [⟨(.exit 2), [5], (.cons (.val (.int .u32)) .nil)⟩]
def codec_Sum_b_0_0.go (N : Nat) : Nat → Int → Int → Option ((Int × Unit))
  | 0, _, _ => none
  | fuel + 1, c, t14 =>
    bif decide (t14 < (4 : Int)) then
      codec_Sum_b_0_0.go N fuel (IntKind.u32.wrap ((BitVec.ofInt 32 (c.fdiv (2 : Int)) ^^^ BitVec.ofInt 32 (IntKind.u32.wrap ((3988292384 : Int) * (IntKind.u32.wrap ((BitVec.ofInt 32 c &&& BitVec.ofInt 32 (1 : Int)).toNat : Int))))).toNat : Int)) (IntKind.i64.wrap (t14 + (1 : Int)))
    else some (c, ())
def codec_Sum_b_0_0.g (N n : Nat) (x : Sh.den codec_Sum_b_0_0.ins) : Option (altsDen codec_Sum_b_0_0.alts) := codec_Sum_b_0_0.go N n x.1 x.2.1
def codec_Sum_b_0_0.P (N : Nat) : Ps := ⟨codec_Sum_b_0_0.ts, codec_Sum_b_0_0.ins, codec_Sum_b_0_0.asg, codec_Sum_b_0_0.alts, codec_Sum_b_0_0.g N N⟩
def codec_Sum_b_0_0.lam (N : Nat) : Pcs := pcs []
theorem codec_Sum_b_0_0.pok (N : Nat) : (codec_Sum_b_0_0.lam N).Ok Try.prog (codec_Sum_b_0_0.C N) codec_Sum_b_0_0.code := pcsOk_nil
theorem codec_Sum_b_0_0.ev (N n : Nat) (x : Sh.den codec_Sum_b_0_0.ins) : evC (codec_Sum_b_0_0.C N) codec_Sum_b_0_0.code (codec_Sum_b_0_0.lam N) ((codec_Sum_b_0_0.P N).canon 1000 x) (loopK (codec_Sum_b_0_0.P N) (codec_Sum_b_0_0.g N n)) = codec_Sum_b_0_0.g N (n + 1) x := by kernel_rfl
theorem codec_Sum_b_0_0.ok (N : Nat) : ((codec_Sum_b_0_0.P N).pc (codec_Sum_b_0.C N)).Ok Try.prog (codec_Sum_b_0.C N) (.loop codec_Sum_b_0_0.code) := loop_ok (F := codec_Sum_b_0_0.P N) (n0 := 1000) (N := N) (codec_Sum_b_0.cok N) mix (codec_Sum_b_0_0.pok N) (codec_Sum_b_0_0.g N) (fun x => by rfl) rfl (fun n x y h => (codec_Sum_b_0_0.ev N n x).trans h)
def codec_Sum_b_0.alts : List Alt := [⟨(.exit 0), [], (.cons (.updr 0 122 (.int .u32)) .nil)⟩]
def codec_Sum_b_0.go (N : Nat) : Nat → (List Int) → Int → Option (((List Int) × Unit))
  | 0, _, _ => none
  | fuel + 1, half, t9 =>
    bif decide (t9 < (16 : Int)) then
      obind (codec_Sum_b_0_0.go N N (IntKind.u32.wrap t9) (0 : Int)) fun (c, _) =>
        bif inB t9 16 then
          bif decide (t9.toNat < half.length) then
            codec_Sum_b_0.go N fuel (half.set t9.toNat c) (IntKind.i64.wrap (t9 + (1 : Int)))
          else none
        else none
    else some (half, ())
def codec_Sum_b_0.g (N n : Nat) (x : Sh.den codec_Sum_b_0.ins) : Option (altsDen codec_Sum_b_0.alts) := codec_Sum_b_0.go N n x.1 x.2.1
def codec_Sum_b_0.P (N : Nat) : Ps := ⟨codec_Sum_b_0.ts, codec_Sum_b_0.ins, codec_Sum_b_0.asg, codec_Sum_b_0.alts, codec_Sum_b_0.g N N⟩
def codec_Sum_b_0.lam (N : Nat) : Pcs := pcs [([true, true, false, false, true, true, false, true, false], (codec_Sum_b_0_0.P N).pc (codec_Sum_b_0.C N))]
theorem codec_Sum_b_0.pok (N : Nat) : (codec_Sum_b_0.lam N).Ok Try.prog (codec_Sum_b_0.C N) codec_Sum_b_0.code := pcsOk_cons (c1 := .loop codec_Sum_b_0_0.code) (by kernel_rfl) (codec_Sum_b_0_0.ok N) (pcsOk_nil)
theorem codec_Sum_b_0.ev (N n : Nat) (x : Sh.den codec_Sum_b_0.ins) : evC (codec_Sum_b_0.C N) codec_Sum_b_0.code (codec_Sum_b_0.lam N) ((codec_Sum_b_0.P N).canon 1000 x) (loopK (codec_Sum_b_0.P N) (codec_Sum_b_0.g N n)) = codec_Sum_b_0.g N (n + 1) x := by kernel_rfl
theorem codec_Sum_b_0.ok (N : Nat) : ((codec_Sum_b_0.P N).pc (codec_Sum_b.C N)).Ok Try.prog (codec_Sum_b.C N) (.loop codec_Sum_b_0.code) := loop_ok (F := codec_Sum_b_0.P N) (n0 := 1000) (N := N) (codec_Sum_b.cok N) mix (codec_Sum_b_0.pok N) (codec_Sum_b_0.g N) (fun x => by rfl) rfl (fun n x y h => (codec_Sum_b_0.ev N n x).trans h)
def codec_Sum_b_1.ins : Sh := (.cons (.arr 122 (.int .u32) 16) (.cons (.val (.int .u32)) (.cons (.rown 5 .byte) (.cons (.val (.int .i64)) (.cons (.val (.int .i64)) .nil)))))
def codec_Sum_b_1.ts : List Tmp := [3, 6, 27, 28, 29]
def codec_Sum_b_1.asg : List Tmp := [6, 8, 29, 30, 31, 32, 33, 34, 35, 36, 37, 38, 39, 40, 41, 42, 43, 44, 45, 46, 47, 48, 49, 50, 51]
def codec_Sum_b_1.C (N : Nat) : Ctx := { codec_Sum_b.C N with may := fun t => codec_Sum_b_1.asg.any (Nat.beq t) }
def codec_Sum_b_1.code : Code := loopBody (sub codec_Sum_b.code [true, true, true, true, false, true, false])
theorem codec_Sum_b_1.cok (N : Nat) : (codec_Sum_b_1.C N).Ok Try.prog := ⟨(codec_Sum_b.cok N).U, (codec_Sum_b.cok N).Γ, (codec_Sum_b.cok N).Y⟩
def codec_Sum_b_1.alts : List Alt := [⟨(.exit 4), [6], (.cons (.val (.int .u32)) .nil)⟩]
def codec_Sum_b_1.go (N : Nat) : Nat → (List Int) → Int → (List UInt8) → Int → Int → Option ((Int × Unit))
  | 0, _, _, _, _, _ => none
  | fuel + 1, half, c, t27, t28, t29 =>
    bif decide (t29 < t28) then
      bif inB t29 t27.length then
        bif decide (t29.toNat < t27.length) then
          bif inB (IntKind.u32.wrap ((BitVec.ofInt 32 (IntKind.u32.wrap ((BitVec.ofInt 32 c ^^^ BitVec.ofInt 32 (IntKind.u32.wrap ((t27.getD t29.toNat (0 : UInt8)).toNat : Int))).toNat : Int)) &&& BitVec.ofInt 32 (15 : Int)).toNat : Int)) 16 then
            bif decide ((IntKind.u32.wrap ((BitVec.ofInt 32 (IntKind.u32.wrap ((BitVec.ofInt 32 c ^^^ BitVec.ofInt 32 (IntKind.u32.wrap ((t27.getD t29.toNat (0 : UInt8)).toNat : Int))).toNat : Int)) &&& BitVec.ofInt 32 (15 : Int)).toNat : Int)).toNat < half.length) then
              bif inB (IntKind.u32.wrap ((BitVec.ofInt 32 (IntKind.u32.wrap ((BitVec.ofInt 32 (half.getD (IntKind.u32.wrap ((BitVec.ofInt 32 (IntKind.u32.wrap ((BitVec.ofInt 32 c ^^^ BitVec.ofInt 32 (IntKind.u32.wrap ((t27.getD t29.toNat (0 : UInt8)).toNat : Int))).toNat : Int)) &&& BitVec.ofInt 32 (15 : Int)).toNat : Int)).toNat (0 : Int)) ^^^ BitVec.ofInt 32 ((IntKind.u32.wrap ((BitVec.ofInt 32 c ^^^ BitVec.ofInt 32 (IntKind.u32.wrap ((t27.getD t29.toNat (0 : UInt8)).toNat : Int))).toNat : Int)).fdiv (16 : Int))).toNat : Int)) &&& BitVec.ofInt 32 (15 : Int)).toNat : Int)) 16 then
                bif decide ((IntKind.u32.wrap ((BitVec.ofInt 32 (IntKind.u32.wrap ((BitVec.ofInt 32 (half.getD (IntKind.u32.wrap ((BitVec.ofInt 32 (IntKind.u32.wrap ((BitVec.ofInt 32 c ^^^ BitVec.ofInt 32 (IntKind.u32.wrap ((t27.getD t29.toNat (0 : UInt8)).toNat : Int))).toNat : Int)) &&& BitVec.ofInt 32 (15 : Int)).toNat : Int)).toNat (0 : Int)) ^^^ BitVec.ofInt 32 ((IntKind.u32.wrap ((BitVec.ofInt 32 c ^^^ BitVec.ofInt 32 (IntKind.u32.wrap ((t27.getD t29.toNat (0 : UInt8)).toNat : Int))).toNat : Int)).fdiv (16 : Int))).toNat : Int)) &&& BitVec.ofInt 32 (15 : Int)).toNat : Int)).toNat < half.length) then
                  codec_Sum_b_1.go N fuel half (IntKind.u32.wrap ((BitVec.ofInt 32 (half.getD (IntKind.u32.wrap ((BitVec.ofInt 32 (IntKind.u32.wrap ((BitVec.ofInt 32 (half.getD (IntKind.u32.wrap ((BitVec.ofInt 32 (IntKind.u32.wrap ((BitVec.ofInt 32 c ^^^ BitVec.ofInt 32 (IntKind.u32.wrap ((t27.getD t29.toNat (0 : UInt8)).toNat : Int))).toNat : Int)) &&& BitVec.ofInt 32 (15 : Int)).toNat : Int)).toNat (0 : Int)) ^^^ BitVec.ofInt 32 ((IntKind.u32.wrap ((BitVec.ofInt 32 c ^^^ BitVec.ofInt 32 (IntKind.u32.wrap ((t27.getD t29.toNat (0 : UInt8)).toNat : Int))).toNat : Int)).fdiv (16 : Int))).toNat : Int)) &&& BitVec.ofInt 32 (15 : Int)).toNat : Int)).toNat (0 : Int)) ^^^ BitVec.ofInt 32 ((IntKind.u32.wrap ((BitVec.ofInt 32 (half.getD (IntKind.u32.wrap ((BitVec.ofInt 32 (IntKind.u32.wrap ((BitVec.ofInt 32 c ^^^ BitVec.ofInt 32 (IntKind.u32.wrap ((t27.getD t29.toNat (0 : UInt8)).toNat : Int))).toNat : Int)) &&& BitVec.ofInt 32 (15 : Int)).toNat : Int)).toNat (0 : Int)) ^^^ BitVec.ofInt 32 ((IntKind.u32.wrap ((BitVec.ofInt 32 c ^^^ BitVec.ofInt 32 (IntKind.u32.wrap ((t27.getD t29.toNat (0 : UInt8)).toNat : Int))).toNat : Int)).fdiv (16 : Int))).toNat : Int)).fdiv (16 : Int))).toNat : Int)) t27 t28 (IntKind.i64.wrap (t29 + (1 : Int)))
                else none
              else none
            else none
          else none
        else none
      else none
    else some (c, ())
def codec_Sum_b_1.g (N n : Nat) (x : Sh.den codec_Sum_b_1.ins) : Option (altsDen codec_Sum_b_1.alts) := codec_Sum_b_1.go N n x.1 x.2.1 x.2.2.1 x.2.2.2.1 x.2.2.2.2.1
def codec_Sum_b_1.P (N : Nat) : Ps := ⟨codec_Sum_b_1.ts, codec_Sum_b_1.ins, codec_Sum_b_1.asg, codec_Sum_b_1.alts, codec_Sum_b_1.g N N⟩
def codec_Sum_b_1.lam (N : Nat) : Pcs := pcs []
theorem codec_Sum_b_1.pok (N : Nat) : (codec_Sum_b_1.lam N).Ok Try.prog (codec_Sum_b_1.C N) codec_Sum_b_1.code := pcsOk_nil
theorem codec_Sum_b_1.ev (N n : Nat) (x : Sh.den codec_Sum_b_1.ins) : evC (codec_Sum_b_1.C N) codec_Sum_b_1.code (codec_Sum_b_1.lam N) ((codec_Sum_b_1.P N).canon 1000 x) (loopK (codec_Sum_b_1.P N) (codec_Sum_b_1.g N n)) = codec_Sum_b_1.g N (n + 1) x := by kernel_rfl
theorem codec_Sum_b_1.ok (N : Nat) : ((codec_Sum_b_1.P N).pc (codec_Sum_b.C N)).Ok Try.prog (codec_Sum_b.C N) (.loop codec_Sum_b_1.code) := loop_ok (F := codec_Sum_b_1.P N) (n0 := 1000) (N := N) (codec_Sum_b.cok N) mix (codec_Sum_b_1.pok N) (codec_Sum_b_1.g N) (fun x => by rfl) rfl (fun n x y h => (codec_Sum_b_1.ev N n x).trans h)
def codec_Sum_b.outs : Sh := (.cons (.val (.int .u32)) .nil)
def codec_Sum_b.run (N : Nat) (b : (List UInt8)) : Option (Int × Unit) :=
  obind (codec_Sum_b_0.go N N (List.replicate 16 (0 : Int)) (0 : Int)) fun (v, _) =>
    obind (codec_Sum_b_1.go N N v (4294967295 : Int) b (b.length : Int) (0 : Int)) fun (c, _) =>
      some (IntKind.u32.wrap ((BitVec.ofInt 32 (4294967295 : Int) ^^^ BitVec.ofInt 32 c).toNat : Int), ())
def codec_Sum_b.fn (N : Nat) (x : Sh.den codec_Sum_b.ins) : Option (Sh.den codec_Sum_b.outs) := codec_Sum_b.run N x.1
def codec_Sum_b.S (N : Nat) : Fs := ⟨codec_Sum_b.ins, codec_Sum_b.outs, codec_Sum_b.fn N⟩
def codec_Sum_b.lam (N : Nat) : Pcs := pcs [([true, true, false, true, false], (codec_Sum_b_0.P N).pc (codec_Sum_b.C N)), ([true, true, true, true, false, true, false], (codec_Sum_b_1.P N).pc (codec_Sum_b.C N))]
theorem codec_Sum_b.pok (N : Nat) : (codec_Sum_b.lam N).Ok Try.prog (codec_Sum_b.C N) codec_Sum_b.code := pcsOk_cons (c1 := .loop codec_Sum_b_0.code) (by kernel_rfl) (codec_Sum_b_0.ok N) (pcsOk_cons (c1 := .loop codec_Sum_b_1.code) (by kernel_rfl) (codec_Sum_b_1.ok N) (pcsOk_nil))
theorem codec_Sum_b.ev (N : Nat) (x : Sh.den codec_Sum_b.ins) : evC (codec_Sum_b.C N) codec_Sum_b.code (codec_Sum_b.lam N) ⟨envOf 0 (bld (fun k => k) codec_Sum_b.ins x 0).1, (bld (fun k => k) codec_Sum_b.ins x 0).2.1, 1000⟩ (endF U codec_Sum_b.outs Try.f60.results.toList []) = codec_Sum_b.fn N x := by kernel_rfl
theorem codec_Sum_b.ok (N : Nat) : (codec_Sum_b.S N).con.Ok Try.prog 60 := fn_ok (F := codec_Sum_b.S N) (n0 := 1000) Try.func60 (by kernel_rfl) (show Try.f60.body = some codec_Sum_b.code by rfl) mix (codec_Sum_b.cok N) (fun _ => rfl) (fun _ => rfl) (codec_Sum_b.pok N) (fun x y h => (codec_Sum_b.ev N x).trans h)
/-- hayloft/codec.Unframe -/
def codec_Unframe.ins : Sh := (.cons (.val (.slice .byte)) .nil)
def codec_Unframe.C (N : Nat) : Ctx := ⟨U, 51, fun _ => true, gam [(28, (codec_Read.S N).con), (59, (codec_Reader_Word.S N).con), (60, (((codec_Sum_b.S N).con).or (codec_Sum.S N).con)), (61, (codec_Reader_Raw.S N).con)], gamY []⟩
theorem codec_Unframe.cok (N : Nat) : (codec_Unframe.C N).Ok Try.prog := ⟨U_ok, GamOk.cons (codec_Read.ok N) (GamOk.cons (codec_Reader_Word.ok N) (GamOk.cons (Con.or_ok (codec_Sum_b.ok N) (codec_Sum.ok N)) (GamOk.cons (codec_Reader_Raw.ok N) (GamOk.nil)))), GamYOk.nil⟩
def codec_Unframe.code : Code := Try.f27.body.getD .skip
def codec_Unframe.outs : Sh := (.cons (.own 5 .byte) (.cons (.val (.int .i64)) (.cons (.val (.int .i64)) .nil)))
def codec_Unframe.run (N : Nat) (b : (List UInt8)) : Option ((List UInt8) × Int × Int × Unit) :=
  obind (codec_Read.run N b) fun ((b1, e, _), _) =>
    obind (codec_Reader_Word.run N b1 e) fun ((b2, e1, _), n_, _) =>
      obind (codec_Reader_Word.run N b2 e1) fun ((b3, e2, _), n1, _) =>
        bif !(decide (e2 = (0 : Int))) then
          some (([] : List UInt8), (0 : Int), (10 : Int), ())
        else
          bif okB (0 : Int) (4 : Int) b.length then
            obind (codec_Sum.run N (b.take 4)) fun (n2, _) =>
              bif !(decide (n1 = n2)) then
                some (([] : List UInt8), (0 : Int), (14 : Int), ())
              else
                bif decide (n_ > (16777216 : Int)) then
                  some (([] : List UInt8), (0 : Int), (12 : Int), ())
                else
                  obind (codec_Reader_Raw.run N b3 e2 (IntKind.i64.wrap n_)) fun ((b4, e3, _), l, _) =>
                    obind (codec_Reader_Word.run N b4 e3) fun ((b5, e4, _), n3, _) =>
                      bif !(decide (e4 = (0 : Int))) then
                        some (([] : List UInt8), (0 : Int), (10 : Int), ())
                      else
                        obind (codec_Sum_b.run N l) fun (n4, _) =>
                          bif !(decide (n3 = n4)) then
                            some (([] : List UInt8), (0 : Int), (14 : Int), ())
                          else some (l, IntKind.i64.wrap ((IntKind.i64.wrap n_) + (12 : Int)), (0 : Int), ())
          else none
def codec_Unframe.fn (N : Nat) (x : Sh.den codec_Unframe.ins) : Option (Sh.den codec_Unframe.outs) := codec_Unframe.run N x.1
def codec_Unframe.S (N : Nat) : Fs := ⟨codec_Unframe.ins, codec_Unframe.outs, codec_Unframe.fn N⟩
def codec_Unframe.lam (N : Nat) : Pcs := pcs []
theorem codec_Unframe.pok (N : Nat) : (codec_Unframe.lam N).Ok Try.prog (codec_Unframe.C N) codec_Unframe.code := pcsOk_nil
theorem codec_Unframe.ev (N : Nat) (x : Sh.den codec_Unframe.ins) : evC (codec_Unframe.C N) codec_Unframe.code (codec_Unframe.lam N) ⟨envOf 0 (bld (fun k => k) codec_Unframe.ins x 0).1, (bld (fun k => k) codec_Unframe.ins x 0).2.1, 1000⟩ (endF U codec_Unframe.outs Try.f27.results.toList []) = codec_Unframe.fn N x := by kernel_rfl
theorem codec_Unframe.ok (N : Nat) : (codec_Unframe.S N).con.Ok Try.prog 27 := fn_ok (F := codec_Unframe.S N) (n0 := 1000) Try.func27 (by kernel_rfl) (show Try.f27.body = some codec_Unframe.code by rfl) mix (codec_Unframe.cok N) (fun _ => rfl) (fun _ => rfl) (codec_Unframe.pok N) (fun x y h => (codec_Unframe.ev N x).trans h)
/-- slices.Clone[[]byte,byte] -/
def slices_Clone_byte_byte_b.ins : Sh := (.cons (.rown 5 .byte) .nil)
def slices_Clone_byte_byte_b.C (N : Nat) : Ctx := ⟨U, 8, fun _ => true, gam [], gamY []⟩
theorem slices_Clone_byte_byte_b.cok (N : Nat) : (slices_Clone_byte_byte_b.C N).Ok Try.prog := ⟨U_ok, GamOk.nil, GamYOk.nil⟩
def slices_Clone_byte_byte_b.code : Code := Try.f52.body.getD .skip
def slices_Clone_byte_byte_b.outs : Sh := (.cons (.own 5 .byte) .nil)
def slices_Clone_byte_byte_b.run (N : Nat) (s : (List UInt8)) : Option ((List UInt8) × Unit) :=
  pick2 (Nat.beq s.length 0)
    (
      some (([] : List UInt8), ()))
    (
      bif room (0 + s.length) 1 then
        some (s, ())
      else none)
def slices_Clone_byte_byte_b.fn (N : Nat) (x : Sh.den slices_Clone_byte_byte_b.ins) : Option (Sh.den slices_Clone_byte_byte_b.outs) := slices_Clone_byte_byte_b.run N x.1
def slices_Clone_byte_byte_b.S (N : Nat) : Fs := ⟨slices_Clone_byte_byte_b.ins, slices_Clone_byte_byte_b.outs, slices_Clone_byte_byte_b.fn N⟩
def slices_Clone_byte_byte_b.lam (N : Nat) : Pcs := pcs []
theorem slices_Clone_byte_byte_b.pok (N : Nat) : (slices_Clone_byte_byte_b.lam N).Ok Try.prog (slices_Clone_byte_byte_b.C N) slices_Clone_byte_byte_b.code := pcsOk_nil
theorem slices_Clone_byte_byte_b.ev (N : Nat) (x : Sh.den slices_Clone_byte_byte_b.ins) : evC (slices_Clone_byte_byte_b.C N) slices_Clone_byte_byte_b.code (slices_Clone_byte_byte_b.lam N) ⟨envOf 0 (bld (fun k => k) slices_Clone_byte_byte_b.ins x 0).1, (bld (fun k => k) slices_Clone_byte_byte_b.ins x 0).2.1, 1000⟩ (endF U slices_Clone_byte_byte_b.outs Try.f52.results.toList []) = slices_Clone_byte_byte_b.fn N x := by kernel_rfl
theorem slices_Clone_byte_byte_b.ok (N : Nat) : (slices_Clone_byte_byte_b.S N).con.Ok Try.prog 52 := fn_ok (F := slices_Clone_byte_byte_b.S N) (n0 := 1000) Try.func52 (by kernel_rfl) (show Try.f52.body = some slices_Clone_byte_byte_b.code by rfl) mix (slices_Clone_byte_byte_b.cok N) (fun _ => rfl) (fun _ => rfl) (slices_Clone_byte_byte_b.pok N) (fun x y h => (slices_Clone_byte_byte_b.ev N x).trans h)
/-- hayloft/codec.Read -/
def codec_Read_b.ins : Sh := (.cons (.rown 5 .byte) .nil)
def codec_Read_b.C (N : Nat) : Ctx := ⟨U, 7, fun _ => true, gam [(52, (slices_Clone_byte_byte_b.S N).con)], gamY []⟩
theorem codec_Read_b.cok (N : Nat) : (codec_Read_b.C N).Ok Try.prog := ⟨U_ok, GamOk.cons (slices_Clone_byte_byte_b.ok N) (GamOk.nil), GamYOk.nil⟩
def codec_Read_b.code : Code := Try.f28.body.getD .skip
def codec_Read_b.outs : Sh := (.cons (.box 93 (.cons (.val (.slice .byte)) (.cons (.val (.int .i64)) .nil))) .nil)
def codec_Read_b.run (N : Nat) (b : (List UInt8)) : Option (((List UInt8) × Int × Unit) × Unit) :=
  obind (slices_Clone_byte_byte_b.run N b) fun (l, _) =>
    some ((l, (0 : Int), ()), ())
def codec_Read_b.fn (N : Nat) (x : Sh.den codec_Read_b.ins) : Option (Sh.den codec_Read_b.outs) := codec_Read_b.run N x.1
def codec_Read_b.S (N : Nat) : Fs := ⟨codec_Read_b.ins, codec_Read_b.outs, codec_Read_b.fn N⟩
def codec_Read_b.lam (N : Nat) : Pcs := pcs []
theorem codec_Read_b.pok (N : Nat) : (codec_Read_b.lam N).Ok Try.prog (codec_Read_b.C N) codec_Read_b.code := pcsOk_nil
theorem codec_Read_b.ev (N : Nat) (x : Sh.den codec_Read_b.ins) : evC (codec_Read_b.C N) codec_Read_b.code (codec_Read_b.lam N) ⟨envOf 0 (bld (fun k => k) codec_Read_b.ins x 0).1, (bld (fun k => k) codec_Read_b.ins x 0).2.1, 1000⟩ (endF U codec_Read_b.outs Try.f28.results.toList []) = codec_Read_b.fn N x := by kernel_rfl
theorem codec_Read_b.ok (N : Nat) : (codec_Read_b.S N).con.Ok Try.prog 28 := fn_ok (F := codec_Read_b.S N) (n0 := 1000) Try.func28 (by kernel_rfl) (show Try.f28.body = some codec_Read_b.code by rfl) mix (codec_Read_b.cok N) (fun _ => rfl) (fun _ => rfl) (codec_Read_b.pok N) (fun x y h => (codec_Read_b.ev N x).trans h)
/-- hayloft/codec.Items[[]byte] -/
def codec_Items_byte.ins : Sh := (.cons (.box 93 (.cons (.val (.slice .byte)) (.cons (.val (.int .i64)) .nil))) (.cons (.val (.int .i64)) (.cons (.fn 30 .nil) .nil)))
def codec_Items_byte.C (N : Nat) : Ctx := ⟨U, 8, fun _ => true, gam [], gamY []⟩
theorem codec_Items_byte.cok (N : Nat) : (codec_Items_byte.C N).Ok Try.prog := ⟨U_ok, GamOk.nil, GamYOk.nil⟩
def codec_Items_byte.code : Code := Try.f62.body.getD .skip
def codec_Items_byte.outs : Sh := (.cons (.upd 0 93 (.cons (.val (.slice .byte)) (.cons (.val (.int .i64)) .nil))) (.cons (.fn 91 (.cons (.box 57 (.cons (.ref 0) .nil)) (.cons (.box 3 (.cons (.val (.int .i64)) .nil)) (.cons (.box 60 (.cons (.fn 30 .nil) .nil)) .nil)))) .nil))
def codec_Items_byte.run (N : Nat) (b : (List UInt8)) (e : Int) (most : Int) : Option (((List UInt8) × Int × Unit) × ((Unit × Unit) × (Int × Unit) × (Unit × Unit) × Unit) × Unit) :=
  some ((b, e, ()), (((), ()), (most, ()), ((), ()), ()), ())
def codec_Items_byte.fn (N : Nat) (x : Sh.den codec_Items_byte.ins) : Option (Sh.den codec_Items_byte.outs) := codec_Items_byte.run N x.1.1 x.1.2.1 x.2.1
def codec_Items_byte.S (N : Nat) : Fs := ⟨codec_Items_byte.ins, codec_Items_byte.outs, codec_Items_byte.fn N⟩
def codec_Items_byte.lam (N : Nat) : Pcs := pcs []
theorem codec_Items_byte.pok (N : Nat) : (codec_Items_byte.lam N).Ok Try.prog (codec_Items_byte.C N) codec_Items_byte.code := pcsOk_nil
theorem codec_Items_byte.ev (N : Nat) (x : Sh.den codec_Items_byte.ins) : evC (codec_Items_byte.C N) codec_Items_byte.code (codec_Items_byte.lam N) ⟨envOf 0 (bld (fun k => k) codec_Items_byte.ins x 0).1, (bld (fun k => k) codec_Items_byte.ins x 0).2.1, 1000⟩ (endF U codec_Items_byte.outs Try.f62.results.toList []) = codec_Items_byte.fn N x := by kernel_rfl
theorem codec_Items_byte.ok (N : Nat) : (codec_Items_byte.S N).con.Ok Try.prog 62 := fn_ok (F := codec_Items_byte.S N) (n0 := 1000) Try.func62 (by kernel_rfl) (show Try.f62.body = some codec_Items_byte.code by rfl) mix (codec_Items_byte.cok N) (fun _ => rfl) (fun _ => rfl) (codec_Items_byte.pok N) (fun x y h => (codec_Items_byte.ev N x).trans h)
/-- (*hayloft/codec.Reader).Var -/
def codec_Reader_Var.ins : Sh := (.cons (.box 93 (.cons (.val (.slice .byte)) (.cons (.val (.int .i64)) .nil))) (.cons (.val (.int .u64)) .nil))
def codec_Reader_Var.C (N : Nat) : Ctx := ⟨U, 52, fun _ => true, gam [(88, (codec_Reader_high.S N).con)], gamY []⟩
theorem codec_Reader_Var.cok (N : Nat) : (codec_Reader_Var.C N).Ok Try.prog := ⟨U_ok, GamOk.cons (codec_Reader_high.ok N) (GamOk.nil), GamYOk.nil⟩
def codec_Reader_Var.code : Code := Try.f101.body.getD .skip
def codec_Reader_Var_0.ins : Sh := (.cons (.box 93 (.cons (.val (.slice .byte)) (.cons (.val (.int .i64)) .nil))) (.cons (.val (.int .u64)) (.cons (.val (.int .u64)) .nil)))
def codec_Reader_Var_0.ts : List Tmp := [0, 6, 7]
def codec_Reader_Var_0.asg : List Tmp := [6, 7, 14, 15, 16, 17, 18, 19, 20, 21, 22, 23, 24, 25, 26]
def codec_Reader_Var_0.C (N : Nat) : Ctx := { codec_Reader_Var.C N with may := fun t => codec_Reader_Var_0.asg.any (Nat.beq t) }
def codec_Reader_Var_0.code : Code := (sub codec_Reader_Var.code [true, true, true, false]).getD .skip
theorem codec_Reader_Var_0.cok (N : Nat) : (codec_Reader_Var_0.C N).Ok Try.prog := ⟨(codec_Reader_Var.cok N).U, (codec_Reader_Var.cok N).Γ, (codec_Reader_Var.cok N).Y⟩
def codec_Reader_Var_0.alts : List Alt := [⟨.normal, [6, 7], (.cons (.upd 0 93 (.cons (.val (.slice .byte)) (.cons (.val (.int .i64)) .nil))) (.cons (.val (.int .u64)) (.cons (.val (.int .u64)) .nil)))⟩]
def codec_Reader_Var_0.run (N : Nat) (b : (List UInt8)) (e : Int) (n_ : Int) (least : Int) : Option ((((List UInt8) × Int × Unit) × Int × Int × Unit)) :=
  bif decide (n_ = (253 : Int)) then
    obind (codec_Reader_high.run N b e (2 : Int)) fun ((b1, e1, _), n1, _) =>
      some ((b1, e1, ()), n1, (253 : Int), ())
  else
    bif decide (n_ = (254 : Int)) then
      obind (codec_Reader_high.run N b e (4 : Int)) fun ((b2, e2, _), n2, _) =>
        some ((b2, e2, ()), n2, (65536 : Int), ())
    else
      bif decide (n_ = (255 : Int)) then
        obind (codec_Reader_high.run N b e (8 : Int)) fun ((b3, e3, _), n3, _) =>
          some ((b3, e3, ()), n3, (4294967296 : Int), ())
      else some ((b, e, ()), n_, least, ())
def codec_Reader_Var_0.fn (N : Nat) (x : Sh.den codec_Reader_Var_0.ins) : Option (altsDen codec_Reader_Var_0.alts) := codec_Reader_Var_0.run N x.1.1 x.1.2.1 x.2.1 x.2.2.1
def codec_Reader_Var_0.P (N : Nat) : Ps := ⟨codec_Reader_Var_0.ts, codec_Reader_Var_0.ins, codec_Reader_Var_0.asg, codec_Reader_Var_0.alts, codec_Reader_Var_0.fn N⟩
def codec_Reader_Var_0.lam (N : Nat) : Pcs := pcs []
theorem codec_Reader_Var_0.pok (N : Nat) : (codec_Reader_Var_0.lam N).Ok Try.prog (codec_Reader_Var_0.C N) codec_Reader_Var_0.code := pcsOk_nil
theorem codec_Reader_Var_0.ev (N : Nat) (x : Sh.den codec_Reader_Var_0.ins) : evC (codec_Reader_Var_0.C N) codec_Reader_Var_0.code (codec_Reader_Var_0.lam N) ((codec_Reader_Var_0.P N).canon 1000 x) (altK (codec_Reader_Var_0.P N).alts) = codec_Reader_Var_0.fn N x := by kernel_rfl
theorem codec_Reader_Var_0.ok (N : Nat) : ((codec_Reader_Var_0.P N).pc (codec_Reader_Var.C N)).Ok Try.prog (codec_Reader_Var.C N) codec_Reader_Var_0.code := ps_ok (F := codec_Reader_Var_0.P N) (n0 := 1000) (codec_Reader_Var.cok N) mix (codec_Reader_Var_0.pok N) (fun x y h => (codec_Reader_Var_0.ev N x).trans h)
def codec_Reader_Var.outs : Sh := (.cons (.upd 0 93 (.cons (.val (.slice .byte)) (.cons (.val (.int .i64)) .nil))) (.cons (.val (.int .u64)) .nil))
def codec_Reader_Var.run (N : Nat) (b : (List UInt8)) (e : Int) (most : Int) : Option (((List UInt8) × Int × Unit) × Int × Unit) :=
  obind (codec_Reader_high.run N b e (1 : Int)) fun ((b1, e1, _), n_, _) =>
    obind (codec_Reader_Var_0.run N b1 e1 n_ (0 : Int)) fun ((b5, e5, _), n4, least, _) =>
      bif !(decide (e5 = (0 : Int))) then
        some ((b, e5, ()), (0 : Int), ())
      else
        bif decide (n4 < least) then
          some ((b, (11 : Int), ()), (0 : Int), ())
        else
          bif decide (n4 > most) then
            some ((b, (12 : Int), ()), (0 : Int), ())
          else some ((b5, e5, ()), n4, ())
def codec_Reader_Var.fn (N : Nat) (x : Sh.den codec_Reader_Var.ins) : Option (Sh.den codec_Reader_Var.outs) := codec_Reader_Var.run N x.1.1 x.1.2.1 x.2.1
def codec_Reader_Var.S (N : Nat) : Fs := ⟨codec_Reader_Var.ins, codec_Reader_Var.outs, codec_Reader_Var.fn N⟩
def codec_Reader_Var.lam (N : Nat) : Pcs := pcs [([true, true, true, false], (codec_Reader_Var_0.P N).pc (codec_Reader_Var.C N))]
theorem codec_Reader_Var.pok (N : Nat) : (codec_Reader_Var.lam N).Ok Try.prog (codec_Reader_Var.C N) codec_Reader_Var.code := pcsOk_cons (c1 := codec_Reader_Var_0.code) (by kernel_rfl) (codec_Reader_Var_0.ok N) (pcsOk_nil)
theorem codec_Reader_Var.ev (N : Nat) (x : Sh.den codec_Reader_Var.ins) : evC (codec_Reader_Var.C N) codec_Reader_Var.code (codec_Reader_Var.lam N) ⟨envOf 0 (bld (fun k => k) codec_Reader_Var.ins x 0).1, (bld (fun k => k) codec_Reader_Var.ins x 0).2.1, 1000⟩ (endF U codec_Reader_Var.outs Try.f101.results.toList []) = codec_Reader_Var.fn N x := by kernel_rfl
theorem codec_Reader_Var.ok (N : Nat) : (codec_Reader_Var.S N).con.Ok Try.prog 101 := fn_ok (F := codec_Reader_Var.S N) (n0 := 1000) Try.func101 (by kernel_rfl) (show Try.f101.body = some codec_Reader_Var.code by rfl) mix (codec_Reader_Var.cok N) (fun _ => rfl) (fun _ => rfl) (codec_Reader_Var.pok N) (fun x y h => (codec_Reader_Var.ev N x).trans h)
/-- (*hayloft/codec.Reader).room -/
def codec_Reader_room.ins : Sh := (.cons (.box 93 (.cons (.val (.slice .byte)) (.cons (.val (.int .i64)) .nil))) (.cons (.val (.int .i64)) .nil))
def codec_Reader_room.C (N : Nat) : Ctx := ⟨U, 33, fun _ => true, gam [(101, (codec_Reader_Var.S N).con)], gamY []⟩
theorem codec_Reader_room.cok (N : Nat) : (codec_Reader_room.C N).Ok Try.prog := ⟨U_ok, GamOk.cons (codec_Reader_Var.ok N) (GamOk.nil), GamYOk.nil⟩
def codec_Reader_room.code : Code := Try.f92.body.getD .skip
def codec_Reader_room.outs : Sh := (.cons (.upd 0 93 (.cons (.val (.slice .byte)) (.cons (.val (.int .i64)) .nil))) (.cons (.val (.int .u64)) .nil))
def codec_Reader_room.run (N : Nat) (b : (List UInt8)) (e : Int) (most : Int) : Option (((List UInt8) × Int × Unit) × Int × Unit) :=
  obind (codec_Reader_Var.run N b e (IntKind.u64.wrap (max most (0 : Int)))) fun ((b1, e1, _), n_, _) =>
    bif decide (most < (0 : Int)) then
      bif decide (e1 = (0 : Int)) then
        some ((b, (12 : Int), ()), (0 : Int), ())
      else some ((b1, e1, ()), n_, ())
    else some ((b1, e1, ()), n_, ())
def codec_Reader_room.fn (N : Nat) (x : Sh.den codec_Reader_room.ins) : Option (Sh.den codec_Reader_room.outs) := codec_Reader_room.run N x.1.1 x.1.2.1 x.2.1
def codec_Reader_room.S (N : Nat) : Fs := ⟨codec_Reader_room.ins, codec_Reader_room.outs, codec_Reader_room.fn N⟩
def codec_Reader_room.lam (N : Nat) : Pcs := pcs []
theorem codec_Reader_room.pok (N : Nat) : (codec_Reader_room.lam N).Ok Try.prog (codec_Reader_room.C N) codec_Reader_room.code := pcsOk_nil
theorem codec_Reader_room.ev (N : Nat) (x : Sh.den codec_Reader_room.ins) : evC (codec_Reader_room.C N) codec_Reader_room.code (codec_Reader_room.lam N) ⟨envOf 0 (bld (fun k => k) codec_Reader_room.ins x 0).1, (bld (fun k => k) codec_Reader_room.ins x 0).2.1, 1000⟩ (endF U codec_Reader_room.outs Try.f92.results.toList []) = codec_Reader_room.fn N x := by kernel_rfl
theorem codec_Reader_room.ok (N : Nat) : (codec_Reader_room.S N).con.Ok Try.prog 92 := fn_ok (F := codec_Reader_room.S N) (n0 := 1000) Try.func92 (by kernel_rfl) (show Try.f92.body = some codec_Reader_room.code by rfl) mix (codec_Reader_room.cok N) (fun _ => rfl) (fun _ => rfl) (codec_Reader_room.pok N) (fun x y h => (codec_Reader_room.ev N x).trans h)
/-- (*hayloft/codec.Reader).Text -/
def codec_Reader_Text.ins : Sh := (.cons (.box 93 (.cons (.val (.slice .byte)) (.cons (.val (.int .i64)) .nil))) (.cons (.val (.int .i64)) .nil))
def codec_Reader_Text.C (N : Nat) : Ctx := ⟨U, 40, fun _ => true, gam [(92, (codec_Reader_room.S N).con), (61, (codec_Reader_Raw.S N).con)], gamY []⟩
theorem codec_Reader_Text.cok (N : Nat) : (codec_Reader_Text.C N).Ok Try.prog := ⟨U_ok, GamOk.cons (codec_Reader_room.ok N) (GamOk.cons (codec_Reader_Raw.ok N) (GamOk.nil)), GamYOk.nil⟩
def codec_Reader_Text.code : Code := Try.f63.body.getD .skip
def codec_Reader_Text.outs : Sh := (.cons (.upd 0 93 (.cons (.val (.slice .byte)) (.cons (.val (.int .i64)) .nil))) (.cons (.own 5 .byte) .nil))
def codec_Reader_Text.run (N : Nat) (b : (List UInt8)) (e : Int) (most : Int) : Option (((List UInt8) × Int × Unit) × (List UInt8) × Unit) :=
  obind (codec_Reader_room.run N b e most) fun ((b1, e1, _), n_, _) =>
    bif decide (e1 = (0 : Int)) then
      bif decide (n_ > (IntKind.u64.wrap (b1.length : Int))) then
        obind (codec_Reader_Raw.run N b (10 : Int) (IntKind.i64.wrap n_)) fun ((b2, e2, _), l, _) =>
          some ((b2, e2, ()), l, ())
      else
        obind (codec_Reader_Raw.run N b1 e1 (IntKind.i64.wrap n_)) fun ((b3, e3, _), l1, _) =>
          some ((b3, e3, ()), l1, ())
    else
      obind (codec_Reader_Raw.run N b1 e1 (IntKind.i64.wrap n_)) fun ((b4, e4, _), l2, _) =>
        some ((b4, e4, ()), l2, ())
def codec_Reader_Text.fn (N : Nat) (x : Sh.den codec_Reader_Text.ins) : Option (Sh.den codec_Reader_Text.outs) := codec_Reader_Text.run N x.1.1 x.1.2.1 x.2.1
def codec_Reader_Text.S (N : Nat) : Fs := ⟨codec_Reader_Text.ins, codec_Reader_Text.outs, codec_Reader_Text.fn N⟩
def codec_Reader_Text.lam (N : Nat) : Pcs := pcs []
theorem codec_Reader_Text.pok (N : Nat) : (codec_Reader_Text.lam N).Ok Try.prog (codec_Reader_Text.C N) codec_Reader_Text.code := pcsOk_nil
theorem codec_Reader_Text.ev (N : Nat) (x : Sh.den codec_Reader_Text.ins) : evC (codec_Reader_Text.C N) codec_Reader_Text.code (codec_Reader_Text.lam N) ⟨envOf 0 (bld (fun k => k) codec_Reader_Text.ins x 0).1, (bld (fun k => k) codec_Reader_Text.ins x 0).2.1, 1000⟩ (endF U codec_Reader_Text.outs Try.f63.results.toList []) = codec_Reader_Text.fn N x := by kernel_rfl
theorem codec_Reader_Text.ok (N : Nat) : (codec_Reader_Text.S N).con.Ok Try.prog 63 := fn_ok (F := codec_Reader_Text.S N) (n0 := 1000) Try.func63 (by kernel_rfl) (show Try.f63.body = some codec_Reader_Text.code by rfl) mix (codec_Reader_Text.cok N) (fun _ => rfl) (fun _ => rfl) (codec_Reader_Text.pok N) (fun x y h => (codec_Reader_Text.ev N x).trans h)
/-- hayloft/redo.record -/
def redo_record.ins : Sh := (.cons (.box 93 (.cons (.val (.slice .byte)) (.cons (.val (.int .i64)) .nil))) .nil)
def redo_record.C (N : Nat) : Ctx := ⟨U, 5, fun _ => true, gam [(63, (codec_Reader_Text.S N).con)], gamY []⟩
theorem redo_record.cok (N : Nat) : (redo_record.C N).Ok Try.prog := ⟨U_ok, GamOk.cons (codec_Reader_Text.ok N) (GamOk.nil), GamYOk.nil⟩
def redo_record.code : Code := Try.f30.body.getD .skip
def redo_record.outs : Sh := (.cons (.upd 0 93 (.cons (.val (.slice .byte)) (.cons (.val (.int .i64)) .nil))) (.cons (.own 5 .byte) .nil))
def redo_record.run (N : Nat) (b : (List UInt8)) (e : Int) : Option (((List UInt8) × Int × Unit) × (List UInt8) × Unit) :=
  obind (codec_Reader_Text.run N b e (16777216 : Int)) fun ((b1, e1, _), l, _) =>
    some ((b1, e1, ()), l, ())
def redo_record.fn (N : Nat) (x : Sh.den redo_record.ins) : Option (Sh.den redo_record.outs) := redo_record.run N x.1.1 x.1.2.1
def redo_record.S (N : Nat) : Fs := ⟨redo_record.ins, redo_record.outs, redo_record.fn N⟩
def redo_record.lam (N : Nat) : Pcs := pcs []
theorem redo_record.pok (N : Nat) : (redo_record.lam N).Ok Try.prog (redo_record.C N) redo_record.code := pcsOk_nil
theorem redo_record.ev (N : Nat) (x : Sh.den redo_record.ins) : evC (redo_record.C N) redo_record.code (redo_record.lam N) ⟨envOf 0 (bld (fun k => k) redo_record.ins x 0).1, (bld (fun k => k) redo_record.ins x 0).2.1, 1000⟩ (endF U redo_record.outs Try.f30.results.toList []) = redo_record.fn N x := by kernel_rfl
theorem redo_record.ok (N : Nat) : (redo_record.S N).con.Ok Try.prog 30 := fn_ok (F := redo_record.S N) (n0 := 1000) Try.func30 (by kernel_rfl) (show Try.f30.body = some redo_record.code by rfl) mix (redo_record.cok N) (fun _ => rfl) (fun _ => rfl) (redo_record.pok N) (fun x y h => (redo_record.ev N x).trans h)
def Y0.ins : Sh := (.cons (.box 23 (.cons (.own 22 (.slice .byte)) .nil)) (.cons (.val (.int .i64)) (.cons (.own 5 .byte) .nil)))
def Y0.C (N : Nat) : Ctx := ⟨U, 26, fun _ => true, gam [], gamY []⟩
theorem Y0.cok (N : Nat) : (Y0.C N).Ok Try.prog := ⟨U_ok, GamOk.nil, GamYOk.nil⟩
def Y0.code : Code := site0.body
def Y0.alts : List Alt := [⟨.normal, [], (.cons (.upd 0 23 (.cons (.own 22 (.slice .byte)) .nil)) .nil)⟩]
def Y0.run (N : Nat) (l : (List (List UInt8))) (t14 : Int) (t15 : (List UInt8)) : Option ((((List (List UInt8)) × Unit) × Unit)) :=
  bif room (l.length + 1) 24 then
    some ((l ++ ([t15] : List (List UInt8)), ()), ())
  else none
def Y0.fn (N : Nat) (x : Sh.den Y0.ins) : Option (altsDen Y0.alts) := Y0.run N x.1.1 x.2.1 x.2.2.1
def Y0.F (N : Nat) : Ys := ⟨[7], [14, 15], Y0.ins, Y0.alts, Y0.fn N⟩
def Y0.yc (N : Nat) : Yc := (Y0.F N).yc
def Y0.lam (N : Nat) : Pcs := pcs []
theorem Y0.pok (N : Nat) : (Y0.lam N).Ok Try.prog (Y0.C N) site0.body := pcsOk_nil
theorem Y0.ev (N : Nat) (x : Sh.den Y0.ins) : evC (Y0.C N) site0.assign (pcs []) ⟨addT [7, 14, 15] (bld (fun k => k) Y0.ins x 0).1 [], (bld (fun k => k) Y0.ins x 0).2.1, 1000⟩ (thenC fun s => evC (Y0.C N) site0.body (Y0.lam N) s (altK Y0.alts)) = Y0.fn N x := by kernel_rfl
theorem Y0.ok (N : Nat) : (Y0.yc N).Ok Try.prog 1000000 := ys_ok (σ := site0) (k := 0) (C := Y0.C N) (F := Y0.F N) (n0 := 1000) (fun _ => rfl) (Y0.cok N) mix (fun _ => rfl) (show site0.ps.toList = [14, 15] by kernel_rfl) (show site0.ts = [7] by kernel_rfl) (show site0.nt = 26 by kernel_rfl) rfl rfl rfl rfl rfl pcsOk_nil (Y0.pok N) (fun x y h => (Y0.ev N x).trans h)
/-- hayloft/codec.Items[[]byte]$1 -/
def codec_Items_byte_1_f1.ins : Sh := (.cons (.box 1000000 (.cons (.val (.int .i64)) (.cons (.junk) (.cons (.junk) (.cons (.junk) (.cons (.box 23 (.cons (.own 22 (.slice .byte)) .nil)) .nil)))))) (.cons (.rbox 57 (.cons (.box 93 (.cons (.val (.slice .byte)) (.cons (.val (.int .i64)) .nil))) .nil)) (.cons (.rbox 3 (.cons (.val (.int .i64)) .nil)) (.cons (.rbox 60 (.cons (.fn 30 .nil) .nil)) .nil))))
def codec_Items_byte_1_f1.C (N : Nat) : Ctx := ⟨U, 32, fun _ => true, gam [(92, (codec_Reader_room.S N).con), (30, (redo_record.S N).con)], gamY [(1000000, Y0.yc N)]⟩
theorem codec_Items_byte_1_f1.cok (N : Nat) : (codec_Items_byte_1_f1.C N).Ok Try.prog := ⟨U_ok, GamOk.cons (codec_Reader_room.ok N) (GamOk.cons (redo_record.ok N) (GamOk.nil)), GamYOk.cons (Y0.ok N) (GamYOk.nil)⟩
def codec_Items_byte_1_f1.code : Code := Try.f91.body.getD .skip
def codec_Items_byte_1_f1_0.ins : Sh := (.cons (.box 1000000 (.cons (.val (.int .i64)) (.cons (.junk) (.cons (.junk) (.cons (.junk) (.cons (.box 23 (.cons (.own 22 (.slice .byte)) .nil)) .nil)))))) (.cons (.rbox 57 (.cons (.box 93 (.cons (.val (.slice .byte)) (.cons (.val (.int .i64)) .nil))) .nil)) (.cons (.rbox 60 (.cons (.fn 30 .nil) .nil)) (.cons (.val (.int .u64)) (.cons (.val (.int .i64)) .nil)))))
def codec_Items_byte_1_f1_0.ts : List Tmp := [0, 1, 3, 5, 6]
def codec_Items_byte_1_f1_0.asg : List Tmp := [6, 7, 11, 12, 13, 14, 15, 16, 17, 18, 19, 20, 21, 22, 23, 24, 25, 26, 27, 28, 29, 30, 31]
def codec_Items_byte_1_f1_0.C (N : Nat) : Ctx := { codec_Items_byte_1_f1.C N with may := fun t => codec_Items_byte_1_f1_0.asg.any (Nat.beq t) }
def codec_Items_byte_1_f1_0.code : Code := loopBody (sub codec_Items_byte_1_f1.code [true, true, false])
theorem codec_Items_byte_1_f1_0.cok (N : Nat) : (codec_Items_byte_1_f1_0.C N).Ok Try.prog := ⟨(codec_Items_byte_1_f1.cok N).U, (codec_Items_byte_1_f1.cok N).Γ, (codec_Items_byte_1_f1.cok N).Y⟩
def codec_Items_byte_1_f1_0.alts : List Alt := [⟨.ret, [], (.cons (.upd 1 23 (.cons (.own 22 (.slice .byte)) .nil)) (.cons (.upd 4 93 (.cons (.val (.slice .byte)) (.cons (.val (.int .i64)) .nil))) (.cons (.upd 0 1000000 (.cons (.val (.int .i64)) (.cons (.junk) (.cons (.junk) (.cons (.junk) (.cons (.ref 0) .nil)))))) .nil)))⟩, ⟨(.exit 0), [], (.cons (.upd 1 23 (.cons (.own 22 (.slice .byte)) .nil)) (.cons (.upd 4 93 (.cons (.val (.slice .byte)) (.cons (.val (.int .i64)) .nil))) (.cons (.upd 0 1000000 (.cons (.val (.int .i64)) (.cons (.junk) (.cons (.junk) (.cons (.junk) (.cons (.ref 0) .nil)))))) .nil)))⟩]
def codec_Items_byte_1_f1_0.go (N : Nat) : Nat → Int → (List (List UInt8)) → (List UInt8) → Int → Int → Int → Option ((((List (List UInt8)) × Unit) × ((List UInt8) × Int × Unit) × (Int × Unit × Unit × Unit × Unit × Unit) × Unit) ⊕ (((List (List UInt8)) × Unit) × ((List UInt8) × Int × Unit) × (Int × Unit × Unit × Unit × Unit × Unit) × Unit))
  | 0, _, _, _, _, _, _ => none
  | fuel + 1, yield, yield1, b, e, n_, i =>
    bif decide ((IntKind.u64.wrap i) < n_) then
      obind (redo_record.run N b e) fun ((b1, e1, _), l, _) =>
        bif !(decide (e1 = (0 : Int))) then
          some (.inl ((yield1, ()), (b1, e1, ()), (yield, (), (), (), (), ()), ()))
        else
          bif decide (yield = (0 : Int)) then
            obind (Y0.run N yield1 i l) fun ((v, _), _) =>
              codec_Items_byte_1_f1_0.go N fuel (0 : Int) v b1 e1 n_ (IntKind.i64.wrap (i + (1 : Int)))
          else none
    else some (.inr ((yield1, ()), (b, e, ()), (yield, (), (), (), (), ()), ()))
def codec_Items_byte_1_f1_0.g (N n : Nat) (x : Sh.den codec_Items_byte_1_f1_0.ins) : Option (altsDen codec_Items_byte_1_f1_0.alts) := codec_Items_byte_1_f1_0.go N n x.1.1 x.1.2.2.2.2.1.1 x.2.1.1.1 x.2.1.1.2.1 x.2.2.2.1 x.2.2.2.2.1
def codec_Items_byte_1_f1_0.P (N : Nat) : Ps := ⟨codec_Items_byte_1_f1_0.ts, codec_Items_byte_1_f1_0.ins, codec_Items_byte_1_f1_0.asg, codec_Items_byte_1_f1_0.alts, codec_Items_byte_1_f1_0.g N N⟩
def codec_Items_byte_1_f1_0.lam (N : Nat) : Pcs := pcs []
theorem codec_Items_byte_1_f1_0.pok (N : Nat) : (codec_Items_byte_1_f1_0.lam N).Ok Try.prog (codec_Items_byte_1_f1_0.C N) codec_Items_byte_1_f1_0.code := pcsOk_nil
theorem codec_Items_byte_1_f1_0.ev (N n : Nat) (x : Sh.den codec_Items_byte_1_f1_0.ins) : evC (codec_Items_byte_1_f1_0.C N) codec_Items_byte_1_f1_0.code (codec_Items_byte_1_f1_0.lam N) ((codec_Items_byte_1_f1_0.P N).canon 1000 x) (loopK (codec_Items_byte_1_f1_0.P N) (codec_Items_byte_1_f1_0.g N n)) = codec_Items_byte_1_f1_0.g N (n + 1) x := by kernel_rfl
theorem codec_Items_byte_1_f1_0.ok (N : Nat) : ((codec_Items_byte_1_f1_0.P N).pc (codec_Items_byte_1_f1.C N)).Ok Try.prog (codec_Items_byte_1_f1.C N) (.loop codec_Items_byte_1_f1_0.code) := loop_ok (F := codec_Items_byte_1_f1_0.P N) (n0 := 1000) (N := N) (codec_Items_byte_1_f1.cok N) mix (codec_Items_byte_1_f1_0.pok N) (codec_Items_byte_1_f1_0.g N) (fun x => by rfl) rfl (fun n x y h => (codec_Items_byte_1_f1_0.ev N n x).trans h)
def codec_Items_byte_1_f1.outs : Sh := (.cons (.upd 1 23 (.cons (.own 22 (.slice .byte)) .nil)) (.cons (.upd 4 93 (.cons (.val (.slice .byte)) (.cons (.val (.int .i64)) .nil))) (.cons (.upd 0 1000000 (.cons (.val (.int .i64)) (.cons (.junk) (.cons (.junk) (.cons (.junk) (.cons (.ref 0) .nil)))))) .nil)))
def codec_Items_byte_1_f1.run (N : Nat) (yield : Int) (yield1 : (List (List UInt8))) (b : (List UInt8)) (e : Int) (t2 : Int) : Option (((List (List UInt8)) × Unit) × ((List UInt8) × Int × Unit) × (Int × Unit × Unit × Unit × Unit × Unit) × Unit) :=
  obind (codec_Reader_room.run N b e t2) fun ((b1, e1, _), n_, _) =>
    obind (codec_Items_byte_1_f1_0.go N N yield yield1 b1 e1 n_ (0 : Int)) fun y => match y with
    | .inl ((v, _), (b2, e2, _), (v1, _, _, _, _, _), _) =>
        some ((v, ()), (b2, e2, ()), (v1, (), (), (), (), ()), ())
    | .inr ((v2, _), (b3, e3, _), (v3, _, _, _, _, _), _) =>
        some ((v2, ()), (b3, e3, ()), (v3, (), (), (), (), ()), ())
def codec_Items_byte_1_f1.fn (N : Nat) (x : Sh.den codec_Items_byte_1_f1.ins) : Option (Sh.den codec_Items_byte_1_f1.outs) := codec_Items_byte_1_f1.run N x.1.1 x.1.2.2.2.2.1.1 x.2.1.1.1 x.2.1.1.2.1 x.2.2.1.1
def codec_Items_byte_1_f1.S (N : Nat) : Fs := ⟨codec_Items_byte_1_f1.ins, codec_Items_byte_1_f1.outs, codec_Items_byte_1_f1.fn N⟩
def codec_Items_byte_1_f1.lam (N : Nat) : Pcs := pcs [([true, true, false], (codec_Items_byte_1_f1_0.P N).pc (codec_Items_byte_1_f1.C N))]
theorem codec_Items_byte_1_f1.pok (N : Nat) : (codec_Items_byte_1_f1.lam N).Ok Try.prog (codec_Items_byte_1_f1.C N) codec_Items_byte_1_f1.code := pcsOk_cons (c1 := .loop codec_Items_byte_1_f1_0.code) (by kernel_rfl) (codec_Items_byte_1_f1_0.ok N) (pcsOk_nil)
theorem codec_Items_byte_1_f1.ev (N : Nat) (x : Sh.den codec_Items_byte_1_f1.ins) : evC (codec_Items_byte_1_f1.C N) codec_Items_byte_1_f1.code (codec_Items_byte_1_f1.lam N) ⟨envOf 0 (bld (fun k => k) codec_Items_byte_1_f1.ins x 0).1, (bld (fun k => k) codec_Items_byte_1_f1.ins x 0).2.1, 1000⟩ (endF U codec_Items_byte_1_f1.outs Try.f91.results.toList []) = codec_Items_byte_1_f1.fn N x := by kernel_rfl
theorem codec_Items_byte_1_f1.ok (N : Nat) : (codec_Items_byte_1_f1.S N).con.Ok Try.prog 91 := fn_ok (F := codec_Items_byte_1_f1.S N) (n0 := 1000) Try.func91 (by kernel_rfl) (show Try.f91.body = some codec_Items_byte_1_f1.code by rfl) mix (codec_Items_byte_1_f1.cok N) (fun _ => rfl) (fun _ => rfl) (codec_Items_byte_1_f1.pok N) (fun x y h => (codec_Items_byte_1_f1.ev N x).trans h)
/-- hayloft/codec.List[[]byte] -/
def codec_List_byte.ins : Sh := (.cons (.box 93 (.cons (.val (.slice .byte)) (.cons (.val (.int .i64)) .nil))) (.cons (.val (.int .i64)) (.cons (.fn 30 .nil) .nil)))
def codec_List_byte.C (N : Nat) : Ctx := ⟨U, 26, fun _ => true, gam [(62, (codec_Items_byte.S N).con), (91, (codec_Items_byte_1_f1.S N).con)], gamY []⟩
theorem codec_List_byte.cok (N : Nat) : (codec_List_byte.C N).Ok Try.prog := ⟨U_ok, GamOk.cons (codec_Items_byte.ok N) (GamOk.cons (codec_Items_byte_1_f1.ok N) (GamOk.nil)), GamYOk.nil⟩
def codec_List_byte.code : Code := Try.f29.body.getD .skip
def codec_List_byte.outs : Sh := (.cons (.upd 0 93 (.cons (.val (.slice .byte)) (.cons (.val (.int .i64)) .nil))) (.cons (.own 22 (.slice .byte)) .nil))
def codec_List_byte.run (N : Nat) (b : (List UInt8)) (e : Int) (most : Int) : Option (((List UInt8) × Int × Unit) × (List (List UInt8)) × Unit) :=
  obind (codec_Items_byte.run N b e most) fun ((b1, e1, _), ((_, _), (v, _), (_, _), _), _) =>
    obind (codec_Items_byte_1_f1.run N (0 : Int) ([] : List (List UInt8)) b1 e1 v) fun ((v1, _), (b2, e2, _), (v2, _, _, _, _, _), _) =>
      bif decide (v2 = (0 : Int)) then
        bif !(decide (e2 = (0 : Int))) then
          some ((b2, e2, ()), ([] : List (List UInt8)), ())
        else some ((b2, e2, ()), v1, ())
      else none
def codec_List_byte.fn (N : Nat) (x : Sh.den codec_List_byte.ins) : Option (Sh.den codec_List_byte.outs) := codec_List_byte.run N x.1.1 x.1.2.1 x.2.1
def codec_List_byte.S (N : Nat) : Fs := ⟨codec_List_byte.ins, codec_List_byte.outs, codec_List_byte.fn N⟩
def codec_List_byte.lam (N : Nat) : Pcs := pcs [([true, true, false, true, false], rfPc (codec_List_byte.C N) 1000000 (.tmp 13) [7] [.normal])]
theorem codec_List_byte.pok (N : Nat) : (codec_List_byte.lam N).Ok Try.prog (codec_List_byte.C N) codec_List_byte.code := pcsOk_cons (c1 := .rangeFunc (.tmp 13) site0.ps site0.assign site0.body) (by kernel_rfl) (rf_ok (k := 0) (fun _ => rfl) (codec_List_byte.cok N)) (pcsOk_nil)
theorem codec_List_byte.ev (N : Nat) (x : Sh.den codec_List_byte.ins) : evC (codec_List_byte.C N) codec_List_byte.code (codec_List_byte.lam N) ⟨envOf 0 (bld (fun k => k) codec_List_byte.ins x 0).1, (bld (fun k => k) codec_List_byte.ins x 0).2.1, 1000⟩ (endF U codec_List_byte.outs Try.f29.results.toList []) = codec_List_byte.fn N x := by kernel_rfl
theorem codec_List_byte.ok (N : Nat) : (codec_List_byte.S N).con.Ok Try.prog 29 := fn_ok (F := codec_List_byte.S N) (n0 := 1000) Try.func29 (by kernel_rfl) (show Try.f29.body = some codec_List_byte.code by rfl) mix (codec_List_byte.cok N) (fun _ => rfl) (fun _ => rfl) (codec_List_byte.pok N) (fun x y h => (codec_List_byte.ev N x).trans h)
/-- (*hayloft/codec.Reader).End -/
def codec_Reader_End.ins : Sh := (.cons (.rbox 93 (.cons (.val (.slice .byte)) (.cons (.val (.int .i64)) .nil))) .nil)
def codec_Reader_End.C (N : Nat) : Ctx := ⟨U, 20, fun _ => true, gam [], gamY []⟩
theorem codec_Reader_End.cok (N : Nat) : (codec_Reader_End.C N).Ok Try.prog := ⟨U_ok, GamOk.nil, GamYOk.nil⟩
def codec_Reader_End.code : Code := Try.f31.body.getD .skip
def codec_Reader_End.outs : Sh := (.cons (.val (.int .i64)) .nil)
def codec_Reader_End.run (N : Nat) (b : (List UInt8)) (e : Int) : Option (Int × Unit) :=
  bif decide (e = (0 : Int)) then
    bif decide ((b.length : Int) > (0 : Int)) then
      some ((13 : Int), ())
    else some (e, ())
  else some (e, ())
def codec_Reader_End.fn (N : Nat) (x : Sh.den codec_Reader_End.ins) : Option (Sh.den codec_Reader_End.outs) := codec_Reader_End.run N x.1.1 x.1.2.1
def codec_Reader_End.S (N : Nat) : Fs := ⟨codec_Reader_End.ins, codec_Reader_End.outs, codec_Reader_End.fn N⟩
def codec_Reader_End.lam (N : Nat) : Pcs := pcs []
theorem codec_Reader_End.pok (N : Nat) : (codec_Reader_End.lam N).Ok Try.prog (codec_Reader_End.C N) codec_Reader_End.code := pcsOk_nil
theorem codec_Reader_End.ev (N : Nat) (x : Sh.den codec_Reader_End.ins) : evC (codec_Reader_End.C N) codec_Reader_End.code (codec_Reader_End.lam N) ⟨envOf 0 (bld (fun k => k) codec_Reader_End.ins x 0).1, (bld (fun k => k) codec_Reader_End.ins x 0).2.1, 1000⟩ (endF U codec_Reader_End.outs Try.f31.results.toList []) = codec_Reader_End.fn N x := by kernel_rfl
theorem codec_Reader_End.ok (N : Nat) : (codec_Reader_End.S N).con.Ok Try.prog 31 := fn_ok (F := codec_Reader_End.S N) (n0 := 1000) Try.func31 (by kernel_rfl) (show Try.f31.body = some codec_Reader_End.code by rfl) mix (codec_Reader_End.cok N) (fun _ => rfl) (fun _ => rfl) (codec_Reader_End.pok N) (fun x y h => (codec_Reader_End.ev N x).trans h)
/-- hayloft/redo.Read -/
def redo_Read.ins : Sh := (.cons (.val (.slice .byte)) .nil)
def redo_Read.C (N : Nat) : Ctx := ⟨U, 42, fun _ => true, gam [(27, (codec_Unframe.S N).con), (28, (codec_Read_b.S N).con), (29, (codec_List_byte.S N).con), (31, (codec_Reader_End.S N).con)], gamY []⟩
theorem redo_Read.cok (N : Nat) : (redo_Read.C N).Ok Try.prog := ⟨U_ok, GamOk.cons (codec_Unframe.ok N) (GamOk.cons (codec_Read_b.ok N) (GamOk.cons (codec_List_byte.ok N) (GamOk.cons (codec_Reader_End.ok N) (GamOk.nil)))), GamYOk.nil⟩
def redo_Read.code : Code := Try.f9.body.getD .skip
def redo_Read_0.ins : Sh := (.cons (.val (.slice .byte)) (.cons (.own 22 (.slice .byte)) (.cons (.val (.int .i64)) .nil)))
def redo_Read_0.ts : List Tmp := [0, 5, 6]
def redo_Read_0.asg : List Tmp := [2, 3, 4, 5, 6, 7, 8, 9, 10, 11, 12, 13, 14, 15, 16, 17, 18, 19, 20, 21, 22, 23, 24, 25, 26, 27, 28, 29, 30, 31, 32, 33, 34, 35, 36, 37, 38, 39]
def redo_Read_0.C (N : Nat) : Ctx := { redo_Read.C N with may := fun t => redo_Read_0.asg.any (Nat.beq t) }
def redo_Read_0.code : Code := loopBody (sub redo_Read.code [true, false, true, true, true, false, false])
theorem redo_Read_0.cok (N : Nat) : (redo_Read_0.C N).Ok Try.prog := ⟨(redo_Read.cok N).U, (redo_Read.cok N).Γ, (redo_Read.cok N).Y⟩
def redo_Read_0.alts : List Alt := [⟨.ret, [2, 3, 4], (.cons (.own 22 (.slice .byte)) (.cons (.val (.int .i64)) (.cons (.val (.int .i64)) .nil)))⟩, ⟨(.exit 0), [5, 6], (.cons (.own 22 (.slice .byte)) (.cons (.val (.int .i64)) .nil))⟩]
def redo_Read_0.go (N : Nat) : Nat → (List UInt8) → (List (List UInt8)) → Int → Option (((List (List UInt8)) × Int × Int × Unit) ⊕ ((List (List UInt8)) × Int × Unit))
  | 0, _, _, _ => none
  | fuel + 1, b, l, at_ =>
    bif decide (at_ < (b.length : Int)) then
      bif okB at_ (b.length : Int) b.length then
        obind (codec_Unframe.run N (b.drop at_.toNat)) fun (l1, n_, n1, _) =>
          bif decide (n1 = (0 : Int)) then
            obind (codec_Read_b.run N l1) fun ((b1, e, _), _) =>
              obind (codec_List_byte.run N b1 e (16777216 : Int)) fun ((b2, e1, _), l2, _) =>
                bif room (l.length + l2.length) 24 then
                  obind (codec_Reader_End.run N b2 e1) fun (n2, _) =>
                    bif !(decide (n2 = (0 : Int))) then
                      some (.inl (([] : List (List UInt8)), (0 : Int), (91 : Int), ()))
                    else redo_Read_0.go N fuel b (l ++ l2) (IntKind.i64.wrap (at_ + n_))
                else none
          else
            bif decide (n1 = (10 : Int)) then
              some (.inr (l, at_, ()))
            else some (.inl (([] : List (List UInt8)), (0 : Int), (91 : Int), ()))
      else none
    else some (.inr (l, at_, ()))
def redo_Read_0.g (N n : Nat) (x : Sh.den redo_Read_0.ins) : Option (altsDen redo_Read_0.alts) := redo_Read_0.go N n x.1 x.2.1 x.2.2.1
def redo_Read_0.P (N : Nat) : Ps := ⟨redo_Read_0.ts, redo_Read_0.ins, redo_Read_0.asg, redo_Read_0.alts, redo_Read_0.g N N⟩
def redo_Read_0.lam (N : Nat) : Pcs := pcs []
theorem redo_Read_0.pok (N : Nat) : (redo_Read_0.lam N).Ok Try.prog (redo_Read_0.C N) redo_Read_0.code := pcsOk_nil
theorem redo_Read_0.ev (N n : Nat) (x : Sh.den redo_Read_0.ins) : evC (redo_Read_0.C N) redo_Read_0.code (redo_Read_0.lam N) ((redo_Read_0.P N).canon 1000 x) (loopK (redo_Read_0.P N) (redo_Read_0.g N n)) = redo_Read_0.g N (n + 1) x := by kernel_rfl
theorem redo_Read_0.ok (N : Nat) : ((redo_Read_0.P N).pc (redo_Read.C N)).Ok Try.prog (redo_Read.C N) (.loop redo_Read_0.code) := loop_ok (F := redo_Read_0.P N) (n0 := 1000) (N := N) (redo_Read.cok N) mix (redo_Read_0.pok N) (redo_Read_0.g N) (fun x => by rfl) rfl (fun n x y h => (redo_Read_0.ev N n x).trans h)
def redo_Read.outs : Sh := (.cons (.own 22 (.slice .byte)) (.cons (.val (.int .i64)) (.cons (.val (.int .i64)) .nil)))
def redo_Read.run (N : Nat) (b : (List UInt8)) : Option ((List (List UInt8)) × Int × Int × Unit) :=
  obind (redo_Read_0.go N N b ([] : List (List UInt8)) (0 : Int)) fun y => match y with
  | .inl (t2, t3, t4, _) =>
      some (t2, t3, t4, ())
  | .inr (l, at_, _) =>
      some (l, at_, (0 : Int), ())
def redo_Read.fn (N : Nat) (x : Sh.den redo_Read.ins) : Option (Sh.den redo_Read.outs) := redo_Read.run N x.1
def redo_Read.S (N : Nat) : Fs := ⟨redo_Read.ins, redo_Read.outs, redo_Read.fn N⟩
def redo_Read.lam (N : Nat) : Pcs := pcs [([true, false, true, true, true, false, false], (redo_Read_0.P N).pc (redo_Read.C N))]
theorem redo_Read.pok (N : Nat) : (redo_Read.lam N).Ok Try.prog (redo_Read.C N) redo_Read.code := pcsOk_cons (c1 := .loop redo_Read_0.code) (by kernel_rfl) (redo_Read_0.ok N) (pcsOk_nil)
theorem redo_Read.ev (N : Nat) (x : Sh.den redo_Read.ins) : evC (redo_Read.C N) redo_Read.code (redo_Read.lam N) ⟨envOf 0 (bld (fun k => k) redo_Read.ins x 0).1, (bld (fun k => k) redo_Read.ins x 0).2.1, 1000⟩ (endF U redo_Read.outs Try.f9.results.toList []) = redo_Read.fn N x := by kernel_rfl
theorem redo_Read.ok (N : Nat) : (redo_Read.S N).con.Ok Try.prog 9 := fn_ok (F := redo_Read.S N) (n0 := 1000) Try.func9 (by kernel_rfl) (show Try.f9.body = some redo_Read.code by rfl) mix (redo_Read.cok N) (fun _ => rfl) (fun _ => rfl) (redo_Read.pok N) (fun x y h => (redo_Read.ev N x).trans h)
/-- hayloft/hayloftref01.Said -/
def ref_Said.ins : Sh := (.cons (.val (.slice .byte)) .nil)
def ref_Said.C (N : Nat) : Ctx := ⟨U, 20, fun _ => true, gam [], gamY []⟩
theorem ref_Said.cok (N : Nat) : (ref_Said.C N).Ok Try.prog := ⟨U_ok, GamOk.nil, GamYOk.nil⟩
def ref_Said.code : Code := Try.f64.body.getD .skip
def ref_Said_0.ins : Sh := (.cons (.val (.slice .byte)) (.cons (.val (.int .u64)) (.cons (.val (.int .i64)) .nil)))
def ref_Said_0.ts : List Tmp := [0, 3, 4]
def ref_Said_0.asg : List Tmp := [3, 4, 5, 6, 7, 8, 9, 10, 11, 12, 13, 14, 15, 16, 17, 18]
def ref_Said_0.C (N : Nat) : Ctx := { ref_Said.C N with may := fun t => ref_Said_0.asg.any (Nat.beq t) }
def ref_Said_0.code : Code := loopBody (sub ref_Said.code [true, true, false, true, false])
theorem ref_Said_0.cok (N : Nat) : (ref_Said_0.C N).Ok Try.prog := ⟨(ref_Said.cok N).U, (ref_Said.cok N).Γ, (ref_Said.cok N).Y⟩
def ref_Said_0.alts : List Alt := [⟨(.exit 0), [3], (.cons (.val (.int .u64)) .nil)⟩]
def ref_Said_0.go (N : Nat) : Nat → (List UInt8) → Int → Int → Option ((Int × Unit))
  | 0, _, _, _ => none
  | fuel + 1, b, n_, i =>
    bif decide (i < (b.length : Int)) then
      bif inB i b.length then
        ref_Said_0.go N fuel b (IntKind.u64.wrap ((IntKind.u64.wrap ((256 : Int) * n_)) + (IntKind.u64.wrap ((b.getD i.toNat (0 : UInt8)).toNat : Int)))) (IntKind.i64.wrap (i + (1 : Int)))
      else none
    else some (n_, ())
def ref_Said_0.g (N n : Nat) (x : Sh.den ref_Said_0.ins) : Option (altsDen ref_Said_0.alts) := ref_Said_0.go N n x.1 x.2.1 x.2.2.1
def ref_Said_0.P (N : Nat) : Ps := ⟨ref_Said_0.ts, ref_Said_0.ins, ref_Said_0.asg, ref_Said_0.alts, ref_Said_0.g N N⟩
def ref_Said_0.lam (N : Nat) : Pcs := pcs []
theorem ref_Said_0.pok (N : Nat) : (ref_Said_0.lam N).Ok Try.prog (ref_Said_0.C N) ref_Said_0.code := pcsOk_nil
theorem ref_Said_0.ev (N n : Nat) (x : Sh.den ref_Said_0.ins) : evC (ref_Said_0.C N) ref_Said_0.code (ref_Said_0.lam N) ((ref_Said_0.P N).canon 1000 x) (loopK (ref_Said_0.P N) (ref_Said_0.g N n)) = ref_Said_0.g N (n + 1) x := by kernel_rfl
theorem ref_Said_0.ok (N : Nat) : ((ref_Said_0.P N).pc (ref_Said.C N)).Ok Try.prog (ref_Said.C N) (.loop ref_Said_0.code) := loop_ok (F := ref_Said_0.P N) (n0 := 1000) (N := N) (ref_Said.cok N) mix (ref_Said_0.pok N) (ref_Said_0.g N) (fun x => by rfl) rfl (fun n x y h => (ref_Said_0.ev N n x).trans h)
def ref_Said.outs : Sh := (.cons (.val (.int .u64)) .nil)
def ref_Said.run (N : Nat) (b : (List UInt8)) : Option (Int × Unit) :=
  obind (ref_Said_0.go N N b (0 : Int) (0 : Int)) fun (n_, _) =>
    some (n_, ())
def ref_Said.fn (N : Nat) (x : Sh.den ref_Said.ins) : Option (Sh.den ref_Said.outs) := ref_Said.run N x.1
def ref_Said.S (N : Nat) : Fs := ⟨ref_Said.ins, ref_Said.outs, ref_Said.fn N⟩
def ref_Said.lam (N : Nat) : Pcs := pcs [([true, true, false, true, false], (ref_Said_0.P N).pc (ref_Said.C N))]
theorem ref_Said.pok (N : Nat) : (ref_Said.lam N).Ok Try.prog (ref_Said.C N) ref_Said.code := pcsOk_cons (c1 := .loop ref_Said_0.code) (by kernel_rfl) (ref_Said_0.ok N) (pcsOk_nil)
theorem ref_Said.ev (N : Nat) (x : Sh.den ref_Said.ins) : evC (ref_Said.C N) ref_Said.code (ref_Said.lam N) ⟨envOf 0 (bld (fun k => k) ref_Said.ins x 0).1, (bld (fun k => k) ref_Said.ins x 0).2.1, 1000⟩ (endF U ref_Said.outs Try.f64.results.toList []) = ref_Said.fn N x := by kernel_rfl
theorem ref_Said.ok (N : Nat) : (ref_Said.S N).con.Ok Try.prog 64 := fn_ok (F := ref_Said.S N) (n0 := 1000) Try.func64 (by kernel_rfl) (show Try.f64.body = some ref_Said.code by rfl) mix (ref_Said.cok N) (fun _ => rfl) (fun _ => rfl) (ref_Said.pok N) (fun x y h => (ref_Said.ev N x).trans h)
/-- hayloft/hayloftref01.Sum -/
def ref_Sum.ins : Sh := (.cons (.val (.slice .byte)) .nil)
def ref_Sum.C (N : Nat) : Ctx := ⟨U, 33, fun _ => true, gam [], gamY []⟩
theorem ref_Sum.cok (N : Nat) : (ref_Sum.C N).Ok Try.prog := ⟨U_ok, GamOk.nil, GamYOk.nil⟩
def ref_Sum.code : Code := Try.f65.body.getD .skip
def ref_Sum_0.ins : Sh := (.cons (.val (.slice .byte)) (.cons (.val (.int .u32)) (.cons (.val (.int .i64)) .nil)))
def ref_Sum_0.ts : List Tmp := [0, 3, 4]
def ref_Sum_0.asg : List Tmp := [3, 4, 5, 6, 7, 8, 9, 10, 11, 12, 13, 14, 15, 16, 17, 18, 19, 20, 21, 22, 23, 24, 25, 26, 27, 28, 29, 30]
def ref_Sum_0.C (N : Nat) : Ctx := { ref_Sum.C N with may := fun t => ref_Sum_0.asg.any (Nat.beq t) }
def ref_Sum_0.code : Code := loopBody (sub ref_Sum.code [true, true, false, true, false])
theorem ref_Sum_0.cok (N : Nat) : (ref_Sum_0.C N).Ok Try.prog := ⟨(ref_Sum.cok N).U, (ref_Sum.cok N).Γ, (ref_Sum.cok N).Y⟩
def ref_Sum_0_0.ins : Sh := (.cons (.val (.int .u32)) (.cons (.val (.int .i64)) .nil))
def ref_Sum_0_0.ts : List Tmp := [3, 5]
def ref_Sum_0_0.asg : List Tmp := [3, 5, 19, 20, 21, 22, 23, 24, 25, 26, 27, 28, 29, 30]
def ref_Sum_0_0.C (N : Nat) : Ctx := { ref_Sum_0.C N with may := fun t => ref_Sum_0_0.asg.any (Nat.beq t) }
def ref_Sum_0_0.code : Code := loopBody (sub ref_Sum_0.code [true, false, false, true, true, false])
theorem ref_Sum_0_0.cok (N : Nat) : (ref_Sum_0_0.C N).Ok Try.prog := ⟨(ref_Sum_0.cok N).U, (ref_Sum_0.cok N).Γ, (ref_Sum_0.cok N).Y⟩
def ref_Sum_0_0.alts : List Alt := [⟨(.exit 2), [3], (.cons (.val (.int .u32)) .nil)⟩]
def ref_Sum_0_0.go (N : Nat) : Nat → Int → Int → Option ((Int × Unit))
  | 0, _, _ => none
  | fuel + 1, r, k =>
    bif decide (k < (8 : Int)) then
      bif decide ((r.tmod (2 : Int)) = (1 : Int)) then
        ref_Sum_0_0.go N fuel (IntKind.u32.wrap ((BitVec.ofInt 32 (IntKind.u32.wrap (r.tdiv (2 : Int))) ^^^ BitVec.ofInt 32 (3988292384 : Int)).toNat : Int)) (IntKind.i64.wrap (k + (1 : Int)))
      else ref_Sum_0_0.go N fuel (IntKind.u32.wrap (r.tdiv (2 : Int))) (IntKind.i64.wrap (k + (1 : Int)))
    else some (r, ())
def ref_Sum_0_0.g (N n : Nat) (x : Sh.den ref_Sum_0_0.ins) : Option (altsDen ref_Sum_0_0.alts) := ref_Sum_0_0.go N n x.1 x.2.1
def ref_Sum_0_0.P (N : Nat) : Ps := ⟨ref_Sum_0_0.ts, ref_Sum_0_0.ins, ref_Sum_0_0.asg, ref_Sum_0_0.alts, ref_Sum_0_0.g N N⟩
def ref_Sum_0_0.lam (N : Nat) : Pcs := pcs []
theorem ref_Sum_0_0.pok (N : Nat) : (ref_Sum_0_0.lam N).Ok Try.prog (ref_Sum_0_0.C N) ref_Sum_0_0.code := pcsOk_nil
theorem ref_Sum_0_0.ev (N n : Nat) (x : Sh.den ref_Sum_0_0.ins) : evC (ref_Sum_0_0.C N) ref_Sum_0_0.code (ref_Sum_0_0.lam N) ((ref_Sum_0_0.P N).canon 1000 x) (loopK (ref_Sum_0_0.P N) (ref_Sum_0_0.g N n)) = ref_Sum_0_0.g N (n + 1) x := by kernel_rfl
theorem ref_Sum_0_0.ok (N : Nat) : ((ref_Sum_0_0.P N).pc (ref_Sum_0.C N)).Ok Try.prog (ref_Sum_0.C N) (.loop ref_Sum_0_0.code) := loop_ok (F := ref_Sum_0_0.P N) (n0 := 1000) (N := N) (ref_Sum_0.cok N) mix (ref_Sum_0_0.pok N) (ref_Sum_0_0.g N) (fun x => by rfl) rfl (fun n x y h => (ref_Sum_0_0.ev N n x).trans h)
def ref_Sum_0.alts : List Alt := [⟨(.exit 0), [3], (.cons (.val (.int .u32)) .nil)⟩]
def ref_Sum_0.go (N : Nat) : Nat → (List UInt8) → Int → Int → Option ((Int × Unit))
  | 0, _, _, _ => none
  | fuel + 1, b, r, i =>
    bif decide (i < (b.length : Int)) then
      bif inB i b.length then
        obind (ref_Sum_0_0.go N N (IntKind.u32.wrap ((BitVec.ofInt 32 r ^^^ BitVec.ofInt 32 (IntKind.u32.wrap ((b.getD i.toNat (0 : UInt8)).toNat : Int))).toNat : Int)) (0 : Int)) fun (r1, _) =>
          ref_Sum_0.go N fuel b r1 (IntKind.i64.wrap (i + (1 : Int)))
      else none
    else some (r, ())
def ref_Sum_0.g (N n : Nat) (x : Sh.den ref_Sum_0.ins) : Option (altsDen ref_Sum_0.alts) := ref_Sum_0.go N n x.1 x.2.1 x.2.2.1
def ref_Sum_0.P (N : Nat) : Ps := ⟨ref_Sum_0.ts, ref_Sum_0.ins, ref_Sum_0.asg, ref_Sum_0.alts, ref_Sum_0.g N N⟩
def ref_Sum_0.lam (N : Nat) : Pcs := pcs [([true, false, false, true, true, false], (ref_Sum_0_0.P N).pc (ref_Sum_0.C N))]
theorem ref_Sum_0.pok (N : Nat) : (ref_Sum_0.lam N).Ok Try.prog (ref_Sum_0.C N) ref_Sum_0.code := pcsOk_cons (c1 := .loop ref_Sum_0_0.code) (by kernel_rfl) (ref_Sum_0_0.ok N) (pcsOk_nil)
theorem ref_Sum_0.ev (N n : Nat) (x : Sh.den ref_Sum_0.ins) : evC (ref_Sum_0.C N) ref_Sum_0.code (ref_Sum_0.lam N) ((ref_Sum_0.P N).canon 1000 x) (loopK (ref_Sum_0.P N) (ref_Sum_0.g N n)) = ref_Sum_0.g N (n + 1) x := by kernel_rfl
theorem ref_Sum_0.ok (N : Nat) : ((ref_Sum_0.P N).pc (ref_Sum.C N)).Ok Try.prog (ref_Sum.C N) (.loop ref_Sum_0.code) := loop_ok (F := ref_Sum_0.P N) (n0 := 1000) (N := N) (ref_Sum.cok N) mix (ref_Sum_0.pok N) (ref_Sum_0.g N) (fun x => by rfl) rfl (fun n x y h => (ref_Sum_0.ev N n x).trans h)
def ref_Sum.outs : Sh := (.cons (.val (.int .u32)) .nil)
def ref_Sum.run (N : Nat) (b : (List UInt8)) : Option (Int × Unit) :=
  obind (ref_Sum_0.go N N b (4294967295 : Int) (0 : Int)) fun (r, _) =>
    some (IntKind.u32.wrap ((BitVec.ofInt 32 r ^^^ BitVec.ofInt 32 (4294967295 : Int)).toNat : Int), ())
def ref_Sum.fn (N : Nat) (x : Sh.den ref_Sum.ins) : Option (Sh.den ref_Sum.outs) := ref_Sum.run N x.1
def ref_Sum.S (N : Nat) : Fs := ⟨ref_Sum.ins, ref_Sum.outs, ref_Sum.fn N⟩
def ref_Sum.lam (N : Nat) : Pcs := pcs [([true, true, false, true, false], (ref_Sum_0.P N).pc (ref_Sum.C N))]
theorem ref_Sum.pok (N : Nat) : (ref_Sum.lam N).Ok Try.prog (ref_Sum.C N) ref_Sum.code := pcsOk_cons (c1 := .loop ref_Sum_0.code) (by kernel_rfl) (ref_Sum_0.ok N) (pcsOk_nil)
theorem ref_Sum.ev (N : Nat) (x : Sh.den ref_Sum.ins) : evC (ref_Sum.C N) ref_Sum.code (ref_Sum.lam N) ⟨envOf 0 (bld (fun k => k) ref_Sum.ins x 0).1, (bld (fun k => k) ref_Sum.ins x 0).2.1, 1000⟩ (endF U ref_Sum.outs Try.f65.results.toList []) = ref_Sum.fn N x := by kernel_rfl
theorem ref_Sum.ok (N : Nat) : (ref_Sum.S N).con.Ok Try.prog 65 := fn_ok (F := ref_Sum.S N) (n0 := 1000) Try.func65 (by kernel_rfl) (show Try.f65.body = some ref_Sum.code by rfl) mix (ref_Sum.cok N) (fun _ => rfl) (fun _ => rfl) (ref_Sum.pok N) (fun x y h => (ref_Sum.ev N x).trans h)
/-- hayloft/hayloftref01.Unframe -/
def ref_Unframe.ins : Sh := (.cons (.val (.slice .byte)) .nil)
def ref_Unframe.C (N : Nat) : Ctx := ⟨U, 48, fun _ => true, gam [(64, (ref_Said.S N).con), (65, (ref_Sum.S N).con)], gamY []⟩
theorem ref_Unframe.cok (N : Nat) : (ref_Unframe.C N).Ok Try.prog := ⟨U_ok, GamOk.cons (ref_Said.ok N) (GamOk.cons (ref_Sum.ok N) (GamOk.nil)), GamYOk.nil⟩
def ref_Unframe.code : Code := Try.f32.body.getD .skip
def ref_Unframe.outs : Sh := (.cons (.val (.slice .byte)) (.cons (.val (.int .i64)) (.cons (.val (.int .i64)) .nil)))
def ref_Unframe.run (N : Nat) (b : (List UInt8)) : Option ((List UInt8) × Int × Int × Unit) :=
  bif decide ((b.length : Int) < (8 : Int)) then
    some (([] : List UInt8), (0 : Int), (10 : Int), ())
  else
    bif okB (0 : Int) (4 : Int) b.length then
      obind (ref_Said.run N (b.take 4)) fun (n_, _) =>
        bif okB (4 : Int) (8 : Int) b.length then
          obind (ref_Said.run N ((b.take 8).drop 4)) fun (n1, _) =>
            bif okB (0 : Int) (4 : Int) b.length then
              obind (ref_Sum.run N (b.take 4)) fun (n2, _) =>
                bif !(decide (n1 = (IntKind.u64.wrap n2))) then
                  some (([] : List UInt8), (0 : Int), (14 : Int), ())
                else
                  bif decide ((IntKind.i64.wrap n_) > (16777216 : Int)) then
                    some (([] : List UInt8), (0 : Int), (12 : Int), ())
                  else
                    bif decide ((IntKind.i64.wrap ((b.length : Int) - (12 : Int))) < (IntKind.i64.wrap n_)) then
                      some (([] : List UInt8), (0 : Int), (10 : Int), ())
                    else
                      bif okB (IntKind.i64.wrap ((8 : Int) + (IntKind.i64.wrap n_))) (IntKind.i64.wrap ((12 : Int) + (IntKind.i64.wrap n_))) b.length then
                        obind (ref_Said.run N ((b.take (IntKind.i64.wrap ((12 : Int) + (IntKind.i64.wrap n_))).toNat).drop (IntKind.i64.wrap ((8 : Int) + (IntKind.i64.wrap n_))).toNat)) fun (n3, _) =>
                          bif okB (8 : Int) (IntKind.i64.wrap ((8 : Int) + (IntKind.i64.wrap n_))) b.length then
                            obind (ref_Sum.run N ((b.take (IntKind.i64.wrap ((8 : Int) + (IntKind.i64.wrap n_))).toNat).drop 8)) fun (n4, _) =>
                              bif !(decide (n3 = (IntKind.u64.wrap n4))) then
                                some (([] : List UInt8), (0 : Int), (14 : Int), ())
                              else
                                bif okB (8 : Int) (IntKind.i64.wrap ((8 : Int) + (IntKind.i64.wrap n_))) b.length then
                                  some ((b.take (IntKind.i64.wrap ((8 : Int) + (IntKind.i64.wrap n_))).toNat).drop 8, IntKind.i64.wrap ((IntKind.i64.wrap n_) + (12 : Int)), (0 : Int), ())
                                else none
                          else none
                      else none
            else none
        else none
    else none
def ref_Unframe.fn (N : Nat) (x : Sh.den ref_Unframe.ins) : Option (Sh.den ref_Unframe.outs) := ref_Unframe.run N x.1
def ref_Unframe.S (N : Nat) : Fs := ⟨ref_Unframe.ins, ref_Unframe.outs, ref_Unframe.fn N⟩
def ref_Unframe.lam (N : Nat) : Pcs := pcs []
theorem ref_Unframe.pok (N : Nat) : (ref_Unframe.lam N).Ok Try.prog (ref_Unframe.C N) ref_Unframe.code := pcsOk_nil
theorem ref_Unframe.ev (N : Nat) (x : Sh.den ref_Unframe.ins) : evC (ref_Unframe.C N) ref_Unframe.code (ref_Unframe.lam N) ⟨envOf 0 (bld (fun k => k) ref_Unframe.ins x 0).1, (bld (fun k => k) ref_Unframe.ins x 0).2.1, 1000⟩ (endF U ref_Unframe.outs Try.f32.results.toList []) = ref_Unframe.fn N x := by kernel_rfl
theorem ref_Unframe.ok (N : Nat) : (ref_Unframe.S N).con.Ok Try.prog 32 := fn_ok (F := ref_Unframe.S N) (n0 := 1000) Try.func32 (by kernel_rfl) (show Try.f32.body = some ref_Unframe.code by rfl) mix (ref_Unframe.cok N) (fun _ => rfl) (fun _ => rfl) (ref_Unframe.pok N) (fun x y h => (ref_Unframe.ev N x).trans h)
/-- hayloft/hayloftref01.Raw -/
def ref_Raw.ins : Sh := (.cons (.val (.pair (.slice .byte) (.pair (.int .i64) (.int .i64)))) (.cons (.val (.int .i64)) .nil))
def ref_Raw.C (N : Nat) : Ctx := ⟨U, 46, fun _ => true, gam [], gamY []⟩
theorem ref_Raw.cok (N : Nat) : (ref_Raw.C N).Ok Try.prog := ⟨U_ok, GamOk.nil, GamYOk.nil⟩
def ref_Raw.code : Code := Try.f94.body.getD .skip
def ref_Raw.outs : Sh := (.cons (.val (.pair (.slice .byte) (.pair (.int .i64) (.int .i64)))) (.cons (.own 5 .byte) .nil))
def ref_Raw.run (N : Nat) (r : ((List UInt8) × (Int × Int))) (n_ : Int) : Option (((List UInt8) × (Int × Int)) × (List UInt8) × Unit) :=
  bif !(decide (r.2.2 = (0 : Int))) then
    some (r, ([] : List UInt8), ())
  else
    bif decide (n_ < (0 : Int)) then
      some ((r.1, r.2.1, (12 : Int)), ([] : List UInt8), ())
    else
      bif decide (n_ > (IntKind.i64.wrap ((r.1.length : Int) - r.2.1))) then
        some ((r.1, r.2.1, (10 : Int)), ([] : List UInt8), ())
      else
        bif okB r.2.1 (IntKind.i64.wrap (r.2.1 + n_)) r.1.length then
          bif room ((r.1.take (IntKind.i64.wrap (r.2.1 + n_)).toNat).drop r.2.1.toNat).length 1 then
            some ((r.1, IntKind.i64.wrap (r.2.1 + n_), r.2.2), (r.1.take (IntKind.i64.wrap (r.2.1 + n_)).toNat).drop r.2.1.toNat, ())
          else none
        else none
def ref_Raw.fn (N : Nat) (x : Sh.den ref_Raw.ins) : Option (Sh.den ref_Raw.outs) := ref_Raw.run N x.1 x.2.1
def ref_Raw.S (N : Nat) : Fs := ⟨ref_Raw.ins, ref_Raw.outs, ref_Raw.fn N⟩
def ref_Raw.lam (N : Nat) : Pcs := pcs []
theorem ref_Raw.pok (N : Nat) : (ref_Raw.lam N).Ok Try.prog (ref_Raw.C N) ref_Raw.code := pcsOk_nil
theorem ref_Raw.ev (N : Nat) (x : Sh.den ref_Raw.ins) : evC (ref_Raw.C N) ref_Raw.code (ref_Raw.lam N) ⟨envOf 0 (bld (fun k => k) ref_Raw.ins x 0).1, (bld (fun k => k) ref_Raw.ins x 0).2.1, 1000⟩ (endF U ref_Raw.outs Try.f94.results.toList []) = ref_Raw.fn N x := by kernel_rfl
theorem ref_Raw.ok (N : Nat) : (ref_Raw.S N).con.Ok Try.prog 94 := fn_ok (F := ref_Raw.S N) (n0 := 1000) Try.func94 (by kernel_rfl) (show Try.f94.body = some ref_Raw.code by rfl) mix (ref_Raw.cok N) (fun _ => rfl) (fun _ => rfl) (ref_Raw.pok N) (fun x y h => (ref_Raw.ev N x).trans h)
/-- hayloft/hayloftref01.Said -/
def ref_Said_b.ins : Sh := (.cons (.rown 5 .byte) .nil)
def ref_Said_b.C (N : Nat) : Ctx := ⟨U, 20, fun _ => true, gam [], gamY []⟩
theorem ref_Said_b.cok (N : Nat) : (ref_Said_b.C N).Ok Try.prog := ⟨U_ok, GamOk.nil, GamYOk.nil⟩
def ref_Said_b.code : Code := Try.f64.body.getD .skip
def ref_Said_b_0.ins : Sh := (.cons (.rown 5 .byte) (.cons (.val (.int .u64)) (.cons (.val (.int .i64)) .nil)))
def ref_Said_b_0.ts : List Tmp := [0, 3, 4]
def ref_Said_b_0.asg : List Tmp := [3, 4, 5, 6, 7, 8, 9, 10, 11, 12, 13, 14, 15, 16, 17, 18]
def ref_Said_b_0.C (N : Nat) : Ctx := { ref_Said_b.C N with may := fun t => ref_Said_b_0.asg.any (Nat.beq t) }
def ref_Said_b_0.code : Code := loopBody (sub ref_Said_b.code [true, true, false, true, false])
theorem ref_Said_b_0.cok (N : Nat) : (ref_Said_b_0.C N).Ok Try.prog := ⟨(ref_Said_b.cok N).U, (ref_Said_b.cok N).Γ, (ref_Said_b.cok N).Y⟩
def ref_Said_b_0.alts : List Alt := [⟨(.exit 0), [3], (.cons (.val (.int .u64)) .nil)⟩]
def ref_Said_b_0.go (N : Nat) : Nat → (List UInt8) → Int → Int → Option ((Int × Unit))
  | 0, _, _, _ => none
  | fuel + 1, b, n_, i =>
    bif decide (i < (b.length : Int)) then
      bif inB i b.length then
        bif decide (i.toNat < b.length) then
          ref_Said_b_0.go N fuel b (IntKind.u64.wrap ((IntKind.u64.wrap ((256 : Int) * n_)) + (IntKind.u64.wrap ((b.getD i.toNat (0 : UInt8)).toNat : Int)))) (IntKind.i64.wrap (i + (1 : Int)))
        else none
      else none
    else some (n_, ())
def ref_Said_b_0.g (N n : Nat) (x : Sh.den ref_Said_b_0.ins) : Option (altsDen ref_Said_b_0.alts) := ref_Said_b_0.go N n x.1 x.2.1 x.2.2.1
def ref_Said_b_0.P (N : Nat) : Ps := ⟨ref_Said_b_0.ts, ref_Said_b_0.ins, ref_Said_b_0.asg, ref_Said_b_0.alts, ref_Said_b_0.g N N⟩
def ref_Said_b_0.lam (N : Nat) : Pcs := pcs []
theorem ref_Said_b_0.pok (N : Nat) : (ref_Said_b_0.lam N).Ok Try.prog (ref_Said_b_0.C N) ref_Said_b_0.code := pcsOk_nil
theorem ref_Said_b_0.ev (N n : Nat) (x : Sh.den ref_Said_b_0.ins) : evC (ref_Said_b_0.C N) ref_Said_b_0.code (ref_Said_b_0.lam N) ((ref_Said_b_0.P N).canon 1000 x) (loopK (ref_Said_b_0.P N) (ref_Said_b_0.g N n)) = ref_Said_b_0.g N (n + 1) x := by kernel_rfl
theorem ref_Said_b_0.ok (N : Nat) : ((ref_Said_b_0.P N).pc (ref_Said_b.C N)).Ok Try.prog (ref_Said_b.C N) (.loop ref_Said_b_0.code) := loop_ok (F := ref_Said_b_0.P N) (n0 := 1000) (N := N) (ref_Said_b.cok N) mix (ref_Said_b_0.pok N) (ref_Said_b_0.g N) (fun x => by rfl) rfl (fun n x y h => (ref_Said_b_0.ev N n x).trans h)
def ref_Said_b.outs : Sh := (.cons (.val (.int .u64)) .nil)
def ref_Said_b.run (N : Nat) (b : (List UInt8)) : Option (Int × Unit) :=
  obind (ref_Said_b_0.go N N b (0 : Int) (0 : Int)) fun (n_, _) =>
    some (n_, ())
def ref_Said_b.fn (N : Nat) (x : Sh.den ref_Said_b.ins) : Option (Sh.den ref_Said_b.outs) := ref_Said_b.run N x.1
def ref_Said_b.S (N : Nat) : Fs := ⟨ref_Said_b.ins, ref_Said_b.outs, ref_Said_b.fn N⟩
def ref_Said_b.lam (N : Nat) : Pcs := pcs [([true, true, false, true, false], (ref_Said_b_0.P N).pc (ref_Said_b.C N))]
theorem ref_Said_b.pok (N : Nat) : (ref_Said_b.lam N).Ok Try.prog (ref_Said_b.C N) ref_Said_b.code := pcsOk_cons (c1 := .loop ref_Said_b_0.code) (by kernel_rfl) (ref_Said_b_0.ok N) (pcsOk_nil)
theorem ref_Said_b.ev (N : Nat) (x : Sh.den ref_Said_b.ins) : evC (ref_Said_b.C N) ref_Said_b.code (ref_Said_b.lam N) ⟨envOf 0 (bld (fun k => k) ref_Said_b.ins x 0).1, (bld (fun k => k) ref_Said_b.ins x 0).2.1, 1000⟩ (endF U ref_Said_b.outs Try.f64.results.toList []) = ref_Said_b.fn N x := by kernel_rfl
theorem ref_Said_b.ok (N : Nat) : (ref_Said_b.S N).con.Ok Try.prog 64 := fn_ok (F := ref_Said_b.S N) (n0 := 1000) Try.func64 (by kernel_rfl) (show Try.f64.body = some ref_Said_b.code by rfl) mix (ref_Said_b.cok N) (fun _ => rfl) (fun _ => rfl) (ref_Said_b.pok N) (fun x y h => (ref_Said_b.ev N x).trans h)
/-- hayloft/hayloftref01.Get -/
def ref_Get.ins : Sh := (.cons (.val (.pair (.slice .byte) (.pair (.int .i64) (.int .i64)))) (.cons (.val (.int .i64)) .nil))
def ref_Get.C (N : Nat) : Ctx := ⟨U, 16, fun _ => true, gam [(94, (ref_Raw.S N).con), (64, (ref_Said_b.S N).con)], gamY []⟩
theorem ref_Get.cok (N : Nat) : (ref_Get.C N).Ok Try.prog := ⟨U_ok, GamOk.cons (ref_Raw.ok N) (GamOk.cons (ref_Said_b.ok N) (GamOk.nil)), GamYOk.nil⟩
def ref_Get.code : Code := Try.f93.body.getD .skip
def ref_Get.outs : Sh := (.cons (.val (.pair (.slice .byte) (.pair (.int .i64) (.int .i64)))) (.cons (.val (.int .u64)) .nil))
def ref_Get.run (N : Nat) (r : ((List UInt8) × (Int × Int))) (many : Int) : Option (((List UInt8) × (Int × Int)) × Int × Unit) :=
  obind (ref_Raw.run N r many) fun (v, l, _) =>
    obind (ref_Said_b.run N l) fun (n_, _) =>
      some (v, n_, ())
def ref_Get.fn (N : Nat) (x : Sh.den ref_Get.ins) : Option (Sh.den ref_Get.outs) := ref_Get.run N x.1 x.2.1
def ref_Get.S (N : Nat) : Fs := ⟨ref_Get.ins, ref_Get.outs, ref_Get.fn N⟩
def ref_Get.lam (N : Nat) : Pcs := pcs []
theorem ref_Get.pok (N : Nat) : (ref_Get.lam N).Ok Try.prog (ref_Get.C N) ref_Get.code := pcsOk_nil
theorem ref_Get.ev (N : Nat) (x : Sh.den ref_Get.ins) : evC (ref_Get.C N) ref_Get.code (ref_Get.lam N) ⟨envOf 0 (bld (fun k => k) ref_Get.ins x 0).1, (bld (fun k => k) ref_Get.ins x 0).2.1, 1000⟩ (endF U ref_Get.outs Try.f93.results.toList []) = ref_Get.fn N x := by kernel_rfl
theorem ref_Get.ok (N : Nat) : (ref_Get.S N).con.Ok Try.prog 93 := fn_ok (F := ref_Get.S N) (n0 := 1000) Try.func93 (by kernel_rfl) (show Try.f93.body = some ref_Get.code by rfl) mix (ref_Get.cok N) (fun _ => rfl) (fun _ => rfl) (ref_Get.pok N) (fun x y h => (ref_Get.ev N x).trans h)
/-- hayloft/hayloftref01.Number -/
def ref_Number.ins : Sh := (.cons (.val (.int .u64)) (.cons (.val (.int .i64)) .nil))
def ref_Number.C (N : Nat) : Ctx := ⟨U, 30, fun _ => true, gam [], gamY []⟩
theorem ref_Number.cok (N : Nat) : (ref_Number.C N).Ok Try.prog := ⟨U_ok, GamOk.nil, GamYOk.nil⟩
def ref_Number.code : Code := Try.f73.body.getD .skip
def ref_Number_0.ins : Sh := (.cons (.val (.int .u64)) (.cons (.own 5 .byte) (.cons (.val (.int .i64)) .nil)))
def ref_Number_0.ts : List Tmp := [0, 5, 6]
def ref_Number_0.asg : List Tmp := [5, 6, 7, 8, 11, 12, 13, 14, 15, 16, 17, 18, 19, 20, 21, 22, 23, 24, 25, 26, 27, 28]
def ref_Number_0.C (N : Nat) : Ctx := { ref_Number.C N with may := fun t => ref_Number_0.asg.any (Nat.beq t) }
def ref_Number_0.code : Code := loopBody (sub ref_Number.code [true, true, false, true, false])
theorem ref_Number_0.cok (N : Nat) : (ref_Number_0.C N).Ok Try.prog := ⟨(ref_Number.cok N).U, (ref_Number.cok N).Γ, (ref_Number.cok N).Y⟩
def ref_Number_0_0.ins : Sh := (.cons (.val (.int .i64)) (.cons (.val (.int .u64)) (.cons (.val (.int .i64)) .nil)))
def ref_Number_0_0.ts : List Tmp := [6, 7, 8]
def ref_Number_0_0.asg : List Tmp := [7, 8, 16, 17, 18, 19, 20, 21, 22]
def ref_Number_0_0.C (N : Nat) : Ctx := { ref_Number_0.C N with may := fun t => ref_Number_0_0.asg.any (Nat.beq t) }
def ref_Number_0_0.code : Code := loopBody (sub ref_Number_0.code [true, false, false, true, false, true, false])
theorem ref_Number_0_0.cok (N : Nat) : (ref_Number_0_0.C N).Ok Try.prog := ⟨(ref_Number_0.cok N).U, (ref_Number_0.cok N).Γ, (ref_Number_0.cok N).Y⟩
def ref_Number_0_0.alts : List Alt := [⟨(.exit 2), [7], (.cons (.val (.int .u64)) .nil)⟩]
def ref_Number_0_0.go (N : Nat) : Nat → Int → Int → Int → Option ((Int × Unit))
  | 0, _, _, _ => none
  | fuel + 1, i, k, j =>
    bif decide (j < i) then
      ref_Number_0_0.go N fuel i (IntKind.u64.wrap (k.tdiv (256 : Int))) (IntKind.i64.wrap (j + (1 : Int)))
    else some (k, ())
def ref_Number_0_0.g (N n : Nat) (x : Sh.den ref_Number_0_0.ins) : Option (altsDen ref_Number_0_0.alts) := ref_Number_0_0.go N n x.1 x.2.1 x.2.2.1
def ref_Number_0_0.P (N : Nat) : Ps := ⟨ref_Number_0_0.ts, ref_Number_0_0.ins, ref_Number_0_0.asg, ref_Number_0_0.alts, ref_Number_0_0.g N N⟩
def ref_Number_0_0.lam (N : Nat) : Pcs := pcs []
theorem ref_Number_0_0.pok (N : Nat) : (ref_Number_0_0.lam N).Ok Try.prog (ref_Number_0_0.C N) ref_Number_0_0.code := pcsOk_nil
theorem ref_Number_0_0.ev (N n : Nat) (x : Sh.den ref_Number_0_0.ins) : evC (ref_Number_0_0.C N) ref_Number_0_0.code (ref_Number_0_0.lam N) ((ref_Number_0_0.P N).canon 1000 x) (loopK (ref_Number_0_0.P N) (ref_Number_0_0.g N n)) = ref_Number_0_0.g N (n + 1) x := by kernel_rfl
theorem ref_Number_0_0.ok (N : Nat) : ((ref_Number_0_0.P N).pc (ref_Number_0.C N)).Ok Try.prog (ref_Number_0.C N) (.loop ref_Number_0_0.code) := loop_ok (F := ref_Number_0_0.P N) (n0 := 1000) (N := N) (ref_Number_0.cok N) mix (ref_Number_0_0.pok N) (ref_Number_0_0.g N) (fun x => by rfl) rfl (fun n x y h => (ref_Number_0_0.ev N n x).trans h)
def ref_Number_0.alts : List Alt := [⟨(.exit 0), [5], (.cons (.own 5 .byte) .nil)⟩]
def ref_Number_0.go (N : Nat) : Nat → Int → (List UInt8) → Int → Option (((List UInt8) × Unit))
  | 0, _, _, _ => none
  | fuel + 1, n_, b, i =>
    bif decide (i ≥ (0 : Int)) then
      obind (ref_Number_0_0.go N N i n_ (0 : Int)) fun (k, _) =>
        bif room (b.length + 1) 1 then
          ref_Number_0.go N fuel n_ (b ++ ([Hay.u8 (IntKind.u8.wrap (k.tmod (256 : Int)))] : List UInt8)) (IntKind.i64.wrap (i - (1 : Int)))
        else none
    else some (b, ())
def ref_Number_0.g (N n : Nat) (x : Sh.den ref_Number_0.ins) : Option (altsDen ref_Number_0.alts) := ref_Number_0.go N n x.1 x.2.1 x.2.2.1
def ref_Number_0.P (N : Nat) : Ps := ⟨ref_Number_0.ts, ref_Number_0.ins, ref_Number_0.asg, ref_Number_0.alts, ref_Number_0.g N N⟩
def ref_Number_0.lam (N : Nat) : Pcs := pcs [([true, false, false, true, false, true, false], (ref_Number_0_0.P N).pc (ref_Number_0.C N))]
theorem ref_Number_0.pok (N : Nat) : (ref_Number_0.lam N).Ok Try.prog (ref_Number_0.C N) ref_Number_0.code := pcsOk_cons (c1 := .loop ref_Number_0_0.code) (by kernel_rfl) (ref_Number_0_0.ok N) (pcsOk_nil)
theorem ref_Number_0.ev (N n : Nat) (x : Sh.den ref_Number_0.ins) : evC (ref_Number_0.C N) ref_Number_0.code (ref_Number_0.lam N) ((ref_Number_0.P N).canon 1000 x) (loopK (ref_Number_0.P N) (ref_Number_0.g N n)) = ref_Number_0.g N (n + 1) x := by kernel_rfl
theorem ref_Number_0.ok (N : Nat) : ((ref_Number_0.P N).pc (ref_Number.C N)).Ok Try.prog (ref_Number.C N) (.loop ref_Number_0.code) := loop_ok (F := ref_Number_0.P N) (n0 := 1000) (N := N) (ref_Number.cok N) mix (ref_Number_0.pok N) (ref_Number_0.g N) (fun x => by rfl) rfl (fun n x y h => (ref_Number_0.ev N n x).trans h)
def ref_Number.outs : Sh := (.cons (.own 5 .byte) .nil)
def ref_Number.run (N : Nat) (n_ : Int) (many : Int) : Option ((List UInt8) × Unit) :=
  obind (ref_Number_0.go N N n_ ([] : List UInt8) (IntKind.i64.wrap (many - (1 : Int)))) fun (b, _) =>
    some (b, ())
def ref_Number.fn (N : Nat) (x : Sh.den ref_Number.ins) : Option (Sh.den ref_Number.outs) := ref_Number.run N x.1 x.2.1
def ref_Number.S (N : Nat) : Fs := ⟨ref_Number.ins, ref_Number.outs, ref_Number.fn N⟩
def ref_Number.lam (N : Nat) : Pcs := pcs [([true, true, false, true, false], (ref_Number_0.P N).pc (ref_Number.C N))]
theorem ref_Number.pok (N : Nat) : (ref_Number.lam N).Ok Try.prog (ref_Number.C N) ref_Number.code := pcsOk_cons (c1 := .loop ref_Number_0.code) (by kernel_rfl) (ref_Number_0.ok N) (pcsOk_nil)
theorem ref_Number.ev (N : Nat) (x : Sh.den ref_Number.ins) : evC (ref_Number.C N) ref_Number.code (ref_Number.lam N) ⟨envOf 0 (bld (fun k => k) ref_Number.ins x 0).1, (bld (fun k => k) ref_Number.ins x 0).2.1, 1000⟩ (endF U ref_Number.outs Try.f73.results.toList []) = ref_Number.fn N x := by kernel_rfl
theorem ref_Number.ok (N : Nat) : (ref_Number.S N).con.Ok Try.prog 73 := fn_ok (F := ref_Number.S N) (n0 := 1000) Try.func73 (by kernel_rfl) (show Try.f73.body = some ref_Number.code by rfl) mix (ref_Number.cok N) (fun _ => rfl) (fun _ => rfl) (ref_Number.pok N) (fun x y h => (ref_Number.ev N x).trans h)
/-- hayloft/hayloftref01.Var -/
def ref_Var.ins : Sh := (.cons (.val (.int .u64)) .nil)
def ref_Var.C (N : Nat) : Ctx := ⟨U, 23, fun _ => true, gam [(73, (ref_Number.S N).con)], gamY []⟩
theorem ref_Var.cok (N : Nat) : (ref_Var.C N).Ok Try.prog := ⟨U_ok, GamOk.cons (ref_Number.ok N) (GamOk.nil), GamYOk.nil⟩
def ref_Var.code : Code := Try.f39.body.getD .skip
def ref_Var_0.ins : Sh := (.cons (.val (.int .u64)) (.cons (.val .byte) (.cons (.val (.int .i64)) .nil)))
def ref_Var_0.ts : List Tmp := [0, 3, 4]
def ref_Var_0.asg : List Tmp := [3, 4, 11, 12]
def ref_Var_0.C (N : Nat) : Ctx := { ref_Var.C N with may := fun t => ref_Var_0.asg.any (Nat.beq t) }
def ref_Var_0.code : Code := (sub ref_Var.code [true, true, true, true, false]).getD .skip
theorem ref_Var_0.cok (N : Nat) : (ref_Var_0.C N).Ok Try.prog := ⟨(ref_Var.cok N).U, (ref_Var.cok N).Γ, (ref_Var.cok N).Y⟩
def ref_Var_0.alts : List Alt := [⟨.normal, [3, 4], (.cons (.val .byte) (.cons (.val (.int .i64)) .nil))⟩]
def ref_Var_0.run (N : Nat) (n_ : Int) (first : UInt8) (many : Int) : Option ((UInt8 × Int × Unit)) :=
  bif decide (n_ ≥ (65536 : Int)) then
    some ((254 : UInt8), (4 : Int), ())
  else some (Hay.u8 (first.toNat : Int), many, ())
def ref_Var_0.fn (N : Nat) (x : Sh.den ref_Var_0.ins) : Option (altsDen ref_Var_0.alts) := ref_Var_0.run N x.1 x.2.1 x.2.2.1
def ref_Var_0.P (N : Nat) : Ps := ⟨ref_Var_0.ts, ref_Var_0.ins, ref_Var_0.asg, ref_Var_0.alts, ref_Var_0.fn N⟩
def ref_Var_0.lam (N : Nat) : Pcs := pcs []
theorem ref_Var_0.pok (N : Nat) : (ref_Var_0.lam N).Ok Try.prog (ref_Var_0.C N) ref_Var_0.code := pcsOk_nil
theorem ref_Var_0.ev (N : Nat) (x : Sh.den ref_Var_0.ins) : evC (ref_Var_0.C N) ref_Var_0.code (ref_Var_0.lam N) ((ref_Var_0.P N).canon 1000 x) (altK (ref_Var_0.P N).alts) = ref_Var_0.fn N x := by kernel_rfl
theorem ref_Var_0.ok (N : Nat) : ((ref_Var_0.P N).pc (ref_Var.C N)).Ok Try.prog (ref_Var.C N) ref_Var_0.code := ps_ok (F := ref_Var_0.P N) (n0 := 1000) (ref_Var.cok N) mix (ref_Var_0.pok N) (fun x y h => (ref_Var_0.ev N x).trans h)
def ref_Var.outs : Sh := (.cons (.own 5 .byte) .nil)
def ref_Var.run (N : Nat) (n_ : Int) : Option ((List UInt8) × Unit) :=
  bif decide (n_ < (253 : Int)) then
    some (([Hay.u8 (IntKind.u8.wrap n_)] : List UInt8), ())
  else
    obind (ref_Var_0.run N n_ (253 : UInt8) (2 : Int)) fun (first, many, _) =>
      bif decide (n_ ≥ (4294967296 : Int)) then
        obind (ref_Number.run N n_ (8 : Int)) fun (l, _) =>
          bif room (1 + l.length) 1 then
            some ((255 : UInt8) :: l, ())
          else none
      else
        obind (ref_Number.run N n_ many) fun (l1, _) =>
          bif room (1 + l1.length) 1 then
            some (Hay.u8 (first.toNat : Int) :: l1, ())
          else none
def ref_Var.fn (N : Nat) (x : Sh.den ref_Var.ins) : Option (Sh.den ref_Var.outs) := ref_Var.run N x.1
def ref_Var.S (N : Nat) : Fs := ⟨ref_Var.ins, ref_Var.outs, ref_Var.fn N⟩
def ref_Var.lam (N : Nat) : Pcs := pcs [([true, true, true, true, false], (ref_Var_0.P N).pc (ref_Var.C N))]
theorem ref_Var.pok (N : Nat) : (ref_Var.lam N).Ok Try.prog (ref_Var.C N) ref_Var.code := pcsOk_cons (c1 := ref_Var_0.code) (by kernel_rfl) (ref_Var_0.ok N) (pcsOk_nil)
theorem ref_Var.ev (N : Nat) (x : Sh.den ref_Var.ins) : evC (ref_Var.C N) ref_Var.code (ref_Var.lam N) ⟨envOf 0 (bld (fun k => k) ref_Var.ins x 0).1, (bld (fun k => k) ref_Var.ins x 0).2.1, 1000⟩ (endF U ref_Var.outs Try.f39.results.toList []) = ref_Var.fn N x := by kernel_rfl
theorem ref_Var.ok (N : Nat) : (ref_Var.S N).con.Ok Try.prog 39 := fn_ok (F := ref_Var.S N) (n0 := 1000) Try.func39 (by kernel_rfl) (show Try.f39.body = some ref_Var.code by rfl) mix (ref_Var.cok N) (fun _ => rfl) (fun _ => rfl) (ref_Var.pok N) (fun x y h => (ref_Var.ev N x).trans h)
/-- hayloft/hayloftref01.GetVar -/
def ref_GetVar.ins : Sh := (.cons (.val (.pair (.slice .byte) (.pair (.int .i64) (.int .i64)))) (.cons (.val (.int .u64)) (.cons (.val .bool) .nil)))
def ref_GetVar.C (N : Nat) : Ctx := ⟨U, 63, fun _ => true, gam [(93, (ref_Get.S N).con), (39, (ref_Var.S N).con)], gamY []⟩
theorem ref_GetVar.cok (N : Nat) : (ref_GetVar.C N).Ok Try.prog := ⟨U_ok, GamOk.cons (ref_Get.ok N) (GamOk.cons (ref_Var.ok N) (GamOk.nil)), GamYOk.nil⟩
def ref_GetVar.code : Code := Try.f66.body.getD .skip
def ref_GetVar_0.ins : Sh := (.cons (.rbox 99 (.cons (.val (.slice .byte)) (.cons (.val (.int .i64)) (.cons (.val (.int .i64)) .nil)))) (.cons (.val (.int .u64)) .nil))
def ref_GetVar_0.ts : List Tmp := [8, 9]
def ref_GetVar_0.asg : List Tmp := [18, 19, 20, 21, 22, 23, 24]
def ref_GetVar_0.C (N : Nat) : Ctx := { ref_GetVar.C N with may := fun t => ref_GetVar_0.asg.any (Nat.beq t) }
def ref_GetVar_0.code : Code := (sub ref_GetVar.code [true, true, true, false, false]).getD .skip
theorem ref_GetVar_0.cok (N : Nat) : (ref_GetVar_0.C N).Ok Try.prog := ⟨(ref_GetVar.cok N).U, (ref_GetVar.cok N).Γ, (ref_GetVar.cok N).Y⟩
def ref_GetVar_0.alts : List Alt := [⟨.normal, [24], (.cons (.val .bool) .nil)⟩]
def ref_GetVar_0.run (N : Nat) (b : (List UInt8)) (at_ : Int) (e : Int) (c : Int) : Option ((Bool × Unit)) :=
  bif decide (e = (0 : Int)) then
    some (decide (c ≥ (253 : Int)), ())
  else some (false, ())
def ref_GetVar_0.fn (N : Nat) (x : Sh.den ref_GetVar_0.ins) : Option (altsDen ref_GetVar_0.alts) := ref_GetVar_0.run N x.1.1 x.1.2.1 x.1.2.2.1 x.2.1
def ref_GetVar_0.P (N : Nat) : Ps := ⟨ref_GetVar_0.ts, ref_GetVar_0.ins, ref_GetVar_0.asg, ref_GetVar_0.alts, ref_GetVar_0.fn N⟩
def ref_GetVar_0.lam (N : Nat) : Pcs := pcs []
theorem ref_GetVar_0.pok (N : Nat) : (ref_GetVar_0.lam N).Ok Try.prog (ref_GetVar_0.C N) ref_GetVar_0.code := pcsOk_nil
theorem ref_GetVar_0.ev (N : Nat) (x : Sh.den ref_GetVar_0.ins) : evC (ref_GetVar_0.C N) ref_GetVar_0.code (ref_GetVar_0.lam N) ((ref_GetVar_0.P N).canon 1000 x) (altK (ref_GetVar_0.P N).alts) = ref_GetVar_0.fn N x := by kernel_rfl
theorem ref_GetVar_0.ok (N : Nat) : ((ref_GetVar_0.P N).pc (ref_GetVar.C N)).Ok Try.prog (ref_GetVar.C N) ref_GetVar_0.code := ps_ok (F := ref_GetVar_0.P N) (n0 := 1000) (ref_GetVar.cok N) mix (ref_GetVar_0.pok N) (fun x y h => (ref_GetVar_0.ev N x).trans h)
def ref_GetVar_1.ins : Sh := (.cons (.box 99 (.cons (.val (.slice .byte)) (.cons (.val (.int .i64)) (.cons (.val (.int .i64)) .nil)))) (.cons (.val (.int .u64)) (.cons (.val (.int .u64)) .nil)))
def ref_GetVar_1.ts : List Tmp := [8, 9, 10]
def ref_GetVar_1.asg : List Tmp := [10, 11, 18, 19, 20, 21, 22, 23, 24, 25, 26, 27, 28, 29, 30, 31, 32, 33, 34]
def ref_GetVar_1.C (N : Nat) : Ctx := { ref_GetVar.C N with may := fun t => ref_GetVar_1.asg.any (Nat.beq t) }
def ref_GetVar_1.code : Code := (sub ref_GetVar.code [true, true, true, false]).getD .skip
theorem ref_GetVar_1.cok (N : Nat) : (ref_GetVar_1.C N).Ok Try.prog := ⟨(ref_GetVar.cok N).U, (ref_GetVar.cok N).Γ, (ref_GetVar.cok N).Y⟩
def ref_GetVar_1_0.ins : Sh := (.cons (.rbox 99 (.cons (.val (.slice .byte)) (.cons (.val (.int .i64)) (.cons (.val (.int .i64)) .nil)))) (.cons (.val (.int .u64)) .nil))
def ref_GetVar_1_0.ts : List Tmp := [8, 9]
def ref_GetVar_1_0.asg : List Tmp := [18, 19, 20, 21, 22, 23, 24]
def ref_GetVar_1_0.C (N : Nat) : Ctx := { ref_GetVar_1.C N with may := fun t => ref_GetVar_1_0.asg.any (Nat.beq t) }
def ref_GetVar_1_0.code : Code := (sub ref_GetVar_1.code [false]).getD .skip
theorem ref_GetVar_1_0.cok (N : Nat) : (ref_GetVar_1_0.C N).Ok Try.prog := ⟨(ref_GetVar_1.cok N).U, (ref_GetVar_1.cok N).Γ, (ref_GetVar_1.cok N).Y⟩
def ref_GetVar_1_0.alts : List Alt := [⟨.normal, [24], (.cons (.val .bool) .nil)⟩]
def ref_GetVar_1_0.run (N : Nat) (b : (List UInt8)) (at_ : Int) (e : Int) (c : Int) : Option ((Bool × Unit)) :=
  bif decide (e = (0 : Int)) then
    some (decide (c ≥ (253 : Int)), ())
  else some (false, ())
def ref_GetVar_1_0.fn (N : Nat) (x : Sh.den ref_GetVar_1_0.ins) : Option (altsDen ref_GetVar_1_0.alts) := ref_GetVar_1_0.run N x.1.1 x.1.2.1 x.1.2.2.1 x.2.1
def ref_GetVar_1_0.P (N : Nat) : Ps := ⟨ref_GetVar_1_0.ts, ref_GetVar_1_0.ins, ref_GetVar_1_0.asg, ref_GetVar_1_0.alts, ref_GetVar_1_0.fn N⟩
def ref_GetVar_1_0.lam (N : Nat) : Pcs := pcs []
theorem ref_GetVar_1_0.pok (N : Nat) : (ref_GetVar_1_0.lam N).Ok Try.prog (ref_GetVar_1_0.C N) ref_GetVar_1_0.code := pcsOk_nil
theorem ref_GetVar_1_0.ev (N : Nat) (x : Sh.den ref_GetVar_1_0.ins) : evC (ref_GetVar_1_0.C N) ref_GetVar_1_0.code (ref_GetVar_1_0.lam N) ((ref_GetVar_1_0.P N).canon 1000 x) (altK (ref_GetVar_1_0.P N).alts) = ref_GetVar_1_0.fn N x := by kernel_rfl
theorem ref_GetVar_1_0.ok (N : Nat) : ((ref_GetVar_1_0.P N).pc (ref_GetVar_1.C N)).Ok Try.prog (ref_GetVar_1.C N) ref_GetVar_1_0.code := ps_ok (F := ref_GetVar_1_0.P N) (n0 := 1000) (ref_GetVar_1.cok N) mix (ref_GetVar_1_0.pok N) (fun x y h => (ref_GetVar_1_0.ev N x).trans h)
def ref_GetVar_1.alts : List Alt := [⟨.normal, [10], (.cons (.upd 0 99 (.cons (.val (.slice .byte)) (.cons (.val (.int .i64)) (.cons (.val (.int .i64)) .nil)))) (.cons (.val (.int .u64)) .nil))⟩]
def ref_GetVar_1.run (N : Nat) (b : (List UInt8)) (at_ : Int) (e : Int) (c : Int) (n_ : Int) : Option ((((List UInt8) × Int × Int × Unit) × Int × Unit)) :=
  obind (ref_GetVar_1_0.run N b at_ e c) fun (t24, _) =>
    bif t24 then
      bif decide (c = (254 : Int)) then
        bif decide (c = (255 : Int)) then
          obind (ref_Get.run N (b, at_, e) (8 : Int)) fun (v, n1, _) =>
            some ((v.1, v.2.1, v.2.2, ()), n1, ())
        else
          obind (ref_Get.run N (b, at_, e) (4 : Int)) fun (v1, n2, _) =>
            some ((v1.1, v1.2.1, v1.2.2, ()), n2, ())
      else
        bif decide (c = (255 : Int)) then
          obind (ref_Get.run N (b, at_, e) (8 : Int)) fun (v2, n3, _) =>
            some ((v2.1, v2.2.1, v2.2.2, ()), n3, ())
        else
          obind (ref_Get.run N (b, at_, e) (2 : Int)) fun (v3, n4, _) =>
            some ((v3.1, v3.2.1, v3.2.2, ()), n4, ())
    else some ((b, at_, e, ()), n_, ())
def ref_GetVar_1.fn (N : Nat) (x : Sh.den ref_GetVar_1.ins) : Option (altsDen ref_GetVar_1.alts) := ref_GetVar_1.run N x.1.1 x.1.2.1 x.1.2.2.1 x.2.1 x.2.2.1
def ref_GetVar_1.P (N : Nat) : Ps := ⟨ref_GetVar_1.ts, ref_GetVar_1.ins, ref_GetVar_1.asg, ref_GetVar_1.alts, ref_GetVar_1.fn N⟩
def ref_GetVar_1.lam (N : Nat) : Pcs := pcs [([false], (ref_GetVar_1_0.P N).pc (ref_GetVar_1.C N))]
theorem ref_GetVar_1.pok (N : Nat) : (ref_GetVar_1.lam N).Ok Try.prog (ref_GetVar_1.C N) ref_GetVar_1.code := pcsOk_cons (c1 := ref_GetVar_1_0.code) (by kernel_rfl) (ref_GetVar_1_0.ok N) (pcsOk_nil)
theorem ref_GetVar_1.ev (N : Nat) (x : Sh.den ref_GetVar_1.ins) : evC (ref_GetVar_1.C N) ref_GetVar_1.code (ref_GetVar_1.lam N) ((ref_GetVar_1.P N).canon 1000 x) (altK (ref_GetVar_1.P N).alts) = ref_GetVar_1.fn N x := by kernel_rfl
theorem ref_GetVar_1.ok (N : Nat) : ((ref_GetVar_1.P N).pc (ref_GetVar.C N)).Ok Try.prog (ref_GetVar.C N) ref_GetVar_1.code := ps_ok (F := ref_GetVar_1.P N) (n0 := 1000) (ref_GetVar.cok N) mix (ref_GetVar_1.pok N) (fun x y h => (ref_GetVar_1.ev N x).trans h)
def ref_GetVar.outs : Sh := (.cons (.val (.pair (.slice .byte) (.pair (.int .i64) (.int .i64)))) (.cons (.val (.int .u64)) .nil))
def ref_GetVar.run (N : Nat) (r : ((List UInt8) × (Int × Int))) (most : Int) (negative : Bool) : Option (((List UInt8) × (Int × Int)) × Int × Unit) :=
  obind (ref_Get.run N r (1 : Int)) fun (v, n_, _) =>
    obind (ref_GetVar_1.run N v.1 v.2.1 v.2.2 n_ n_) fun ((b, at_, e, _), n5, _) =>
      bif !(decide (e = (0 : Int))) then
        some ((r.1, r.2.1, e), (0 : Int), ())
      else
        obind (ref_Var.run N n5) fun (l, _) =>
          bif !(decide ((l.length : Int) = (IntKind.i64.wrap (at_ - r.2.1)))) then
            some ((r.1, r.2.1, (11 : Int)), (0 : Int), ())
          else
            bif negative then
              some ((r.1, r.2.1, (12 : Int)), (0 : Int), ())
            else
              bif decide (n5 > most) then
                some ((r.1, r.2.1, (12 : Int)), (0 : Int), ())
              else some ((b, at_, e), n5, ())
def ref_GetVar.fn (N : Nat) (x : Sh.den ref_GetVar.ins) : Option (Sh.den ref_GetVar.outs) := ref_GetVar.run N x.1 x.2.1 x.2.2.1
def ref_GetVar.S (N : Nat) : Fs := ⟨ref_GetVar.ins, ref_GetVar.outs, ref_GetVar.fn N⟩
def ref_GetVar.lam (N : Nat) : Pcs := pcs [([true, true, true, false, false], (ref_GetVar_0.P N).pc (ref_GetVar.C N)), ([true, true, true, false], (ref_GetVar_1.P N).pc (ref_GetVar.C N))]
theorem ref_GetVar.pok (N : Nat) : (ref_GetVar.lam N).Ok Try.prog (ref_GetVar.C N) ref_GetVar.code := pcsOk_cons (c1 := ref_GetVar_0.code) (by kernel_rfl) (ref_GetVar_0.ok N) (pcsOk_cons (c1 := ref_GetVar_1.code) (by kernel_rfl) (ref_GetVar_1.ok N) (pcsOk_nil))
theorem ref_GetVar.ev (N : Nat) (x : Sh.den ref_GetVar.ins) : evC (ref_GetVar.C N) ref_GetVar.code (ref_GetVar.lam N) ⟨envOf 0 (bld (fun k => k) ref_GetVar.ins x 0).1, (bld (fun k => k) ref_GetVar.ins x 0).2.1, 1000⟩ (endF U ref_GetVar.outs Try.f66.results.toList []) = ref_GetVar.fn N x := by kernel_rfl
theorem ref_GetVar.ok (N : Nat) : (ref_GetVar.S N).con.Ok Try.prog 66 := fn_ok (F := ref_GetVar.S N) (n0 := 1000) Try.func66 (by kernel_rfl) (show Try.f66.body = some ref_GetVar.code by rfl) mix (ref_GetVar.cok N) (fun _ => rfl) (fun _ => rfl) (ref_GetVar.pok N) (fun x y h => (ref_GetVar.ev N x).trans h)
/-- hayloft/hayloftref01.GetText -/
def ref_GetText.ins : Sh := (.cons (.val (.pair (.slice .byte) (.pair (.int .i64) (.int .i64)))) (.cons (.val (.int .i64)) .nil))
def ref_GetText.C (N : Nat) : Ctx := ⟨U, 38, fun _ => true, gam [(66, (ref_GetVar.S N).con), (94, (ref_Raw.S N).con)], gamY []⟩
theorem ref_GetText.cok (N : Nat) : (ref_GetText.C N).Ok Try.prog := ⟨U_ok, GamOk.cons (ref_GetVar.ok N) (GamOk.cons (ref_Raw.ok N) (GamOk.nil)), GamYOk.nil⟩
def ref_GetText.code : Code := Try.f67.body.getD .skip
def ref_GetText.outs : Sh := (.cons (.val (.pair (.slice .byte) (.pair (.int .i64) (.int .i64)))) (.cons (.own 5 .byte) .nil))
def ref_GetText.run (N : Nat) (r : ((List UInt8) × (Int × Int))) (most : Int) : Option (((List UInt8) × (Int × Int)) × (List UInt8) × Unit) :=
  obind (ref_GetVar.run N r (IntKind.u64.wrap most) (decide (most < (0 : Int)))) fun (v, n_, _) =>
    bif !(decide (v.2.2 = (0 : Int))) then
      some (v, ([] : List UInt8), ())
    else
      bif decide (n_ > (IntKind.u64.wrap (IntKind.i64.wrap ((v.1.length : Int) - v.2.1)))) then
        some ((r.1, r.2.1, (10 : Int)), ([] : List UInt8), ())
      else
        obind (ref_Raw.run N v (IntKind.i64.wrap n_)) fun (v1, l, _) =>
          some (v1, l, ())
def ref_GetText.fn (N : Nat) (x : Sh.den ref_GetText.ins) : Option (Sh.den ref_GetText.outs) := ref_GetText.run N x.1 x.2.1
def ref_GetText.S (N : Nat) : Fs := ⟨ref_GetText.ins, ref_GetText.outs, ref_GetText.fn N⟩
def ref_GetText.lam (N : Nat) : Pcs := pcs []
theorem ref_GetText.pok (N : Nat) : (ref_GetText.lam N).Ok Try.prog (ref_GetText.C N) ref_GetText.code := pcsOk_nil
theorem ref_GetText.ev (N : Nat) (x : Sh.den ref_GetText.ins) : evC (ref_GetText.C N) ref_GetText.code (ref_GetText.lam N) ⟨envOf 0 (bld (fun k => k) ref_GetText.ins x 0).1, (bld (fun k => k) ref_GetText.ins x 0).2.1, 1000⟩ (endF U ref_GetText.outs Try.f67.results.toList []) = ref_GetText.fn N x := by kernel_rfl
theorem ref_GetText.ok (N : Nat) : (ref_GetText.S N).con.Ok Try.prog 67 := fn_ok (F := ref_GetText.S N) (n0 := 1000) Try.func67 (by kernel_rfl) (show Try.f67.body = some ref_GetText.code by rfl) mix (ref_GetText.cok N) (fun _ => rfl) (fun _ => rfl) (ref_GetText.pok N) (fun x y h => (ref_GetText.ev N x).trans h)
/-- hayloft/hayloftref01.End -/
def ref_End.ins : Sh := (.cons (.val (.pair (.slice .byte) (.pair (.int .i64) (.int .i64)))) .nil)
def ref_End.C (N : Nat) : Ctx := ⟨U, 16, fun _ => true, gam [], gamY []⟩
theorem ref_End.cok (N : Nat) : (ref_End.C N).Ok Try.prog := ⟨U_ok, GamOk.nil, GamYOk.nil⟩
def ref_End.code : Code := Try.f68.body.getD .skip
def ref_End.outs : Sh := (.cons (.val (.int .i64)) .nil)
def ref_End.run (N : Nat) (r : ((List UInt8) × (Int × Int))) : Option (Int × Unit) :=
  bif decide (r.2.2 = (0 : Int)) then
    bif decide (r.2.1 < (r.1.length : Int)) then
      some ((13 : Int), ())
    else some (r.2.2, ())
  else some (r.2.2, ())
def ref_End.fn (N : Nat) (x : Sh.den ref_End.ins) : Option (Sh.den ref_End.outs) := ref_End.run N x.1
def ref_End.S (N : Nat) : Fs := ⟨ref_End.ins, ref_End.outs, ref_End.fn N⟩
def ref_End.lam (N : Nat) : Pcs := pcs []
theorem ref_End.pok (N : Nat) : (ref_End.lam N).Ok Try.prog (ref_End.C N) ref_End.code := pcsOk_nil
theorem ref_End.ev (N : Nat) (x : Sh.den ref_End.ins) : evC (ref_End.C N) ref_End.code (ref_End.lam N) ⟨envOf 0 (bld (fun k => k) ref_End.ins x 0).1, (bld (fun k => k) ref_End.ins x 0).2.1, 1000⟩ (endF U ref_End.outs Try.f68.results.toList []) = ref_End.fn N x := by kernel_rfl
theorem ref_End.ok (N : Nat) : (ref_End.S N).con.Ok Try.prog 68 := fn_ok (F := ref_End.S N) (n0 := 1000) Try.func68 (by kernel_rfl) (show Try.f68.body = some ref_End.code by rfl) mix (ref_End.cok N) (fun _ => rfl) (fun _ => rfl) (ref_End.pok N) (fun x y h => (ref_End.ev N x).trans h)
/-- hayloft/hayloftref09.batch -/
def ref_batch.ins : Sh := (.cons (.val (.slice .byte)) .nil)
def ref_batch.C (N : Nat) : Ctx := ⟨U, 40, fun _ => true, gam [(66, (ref_GetVar.S N).con), (67, (ref_GetText.S N).con), (68, (ref_End.S N).con)], gamY []⟩
theorem ref_batch.cok (N : Nat) : (ref_batch.C N).Ok Try.prog := ⟨U_ok, GamOk.cons (ref_GetVar.ok N) (GamOk.cons (ref_GetText.ok N) (GamOk.cons (ref_End.ok N) (GamOk.nil))), GamYOk.nil⟩
def ref_batch.code : Code := Try.f33.body.getD .skip
def ref_batch_0.ins : Sh := (.cons (.box 99 (.cons (.val (.slice .byte)) (.cons (.val (.int .i64)) (.cons (.val (.int .i64)) .nil)))) (.cons (.val (.int .u64)) (.cons (.own 22 (.slice .byte)) (.cons (.val (.int .u64)) .nil))))
def ref_batch_0.ts : List Tmp := [4, 5, 6, 7]
def ref_batch_0.asg : List Tmp := [6, 7, 8, 9, 16, 17, 18, 19, 20, 21, 22, 23, 24, 25, 26, 27, 28, 29, 30, 31, 32, 33, 34, 35]
def ref_batch_0.C (N : Nat) : Ctx := { ref_batch.C N with may := fun t => ref_batch_0.asg.any (Nat.beq t) }
def ref_batch_0.code : Code := loopBody (sub ref_batch.code [true, true, true, false, true, false])
theorem ref_batch_0.cok (N : Nat) : (ref_batch_0.C N).Ok Try.prog := ⟨(ref_batch.cok N).U, (ref_batch.cok N).Γ, (ref_batch.cok N).Y⟩
def ref_batch_0.alts : List Alt := [⟨(.exit 0), [6], (.cons (.upd 0 99 (.cons (.val (.slice .byte)) (.cons (.val (.int .i64)) (.cons (.val (.int .i64)) .nil)))) (.cons (.own 22 (.slice .byte)) .nil))⟩]
def ref_batch_0.go (N : Nat) : Nat → (List UInt8) → Int → Int → Int → (List (List UInt8)) → Int → Option ((((List UInt8) × Int × Int × Unit) × (List (List UInt8)) × Unit))
  | 0, _, _, _, _, _, _ => none
  | fuel + 1, b, at_, e, n_, l, i =>
    bif decide (i < n_) then
      bif decide (e = (0 : Int)) then
        obind (ref_GetText.run N (b, at_, e) (16777216 : Int)) fun (v, l1, _) =>
          bif room (l.length + 1) 24 then
            ref_batch_0.go N fuel v.1 v.2.1 v.2.2 n_ (l ++ ([l1] : List (List UInt8))) (IntKind.u64.wrap (i + (1 : Int)))
          else none
      else some ((b, at_, e, ()), l, ())
    else some ((b, at_, e, ()), l, ())
def ref_batch_0.g (N n : Nat) (x : Sh.den ref_batch_0.ins) : Option (altsDen ref_batch_0.alts) := ref_batch_0.go N n x.1.1 x.1.2.1 x.1.2.2.1 x.2.1 x.2.2.1 x.2.2.2.1
def ref_batch_0.P (N : Nat) : Ps := ⟨ref_batch_0.ts, ref_batch_0.ins, ref_batch_0.asg, ref_batch_0.alts, ref_batch_0.g N N⟩
def ref_batch_0.lam (N : Nat) : Pcs := pcs []
theorem ref_batch_0.pok (N : Nat) : (ref_batch_0.lam N).Ok Try.prog (ref_batch_0.C N) ref_batch_0.code := pcsOk_nil
theorem ref_batch_0.ev (N n : Nat) (x : Sh.den ref_batch_0.ins) : evC (ref_batch_0.C N) ref_batch_0.code (ref_batch_0.lam N) ((ref_batch_0.P N).canon 1000 x) (loopK (ref_batch_0.P N) (ref_batch_0.g N n)) = ref_batch_0.g N (n + 1) x := by kernel_rfl
theorem ref_batch_0.ok (N : Nat) : ((ref_batch_0.P N).pc (ref_batch.C N)).Ok Try.prog (ref_batch.C N) (.loop ref_batch_0.code) := loop_ok (F := ref_batch_0.P N) (n0 := 1000) (N := N) (ref_batch.cok N) mix (ref_batch_0.pok N) (ref_batch_0.g N) (fun x => by rfl) rfl (fun n x y h => (ref_batch_0.ev N n x).trans h)
def ref_batch.outs : Sh := (.cons (.own 22 (.slice .byte)) (.cons (.val .bool) .nil))
def ref_batch.run (N : Nat) (b : (List UInt8)) : Option ((List (List UInt8)) × Bool × Unit) :=
  obind (ref_GetVar.run N (b, (0 : Int), (0 : Int)) (16777216 : Int) false) fun (v, n_, _) =>
    obind (ref_batch_0.go N N v.1 v.2.1 v.2.2 n_ ([] : List (List UInt8)) (0 : Int)) fun ((b1, at_, e, _), l, _) =>
      obind (ref_End.run N (b1, at_, e)) fun (n1, _) =>
        some (l, decide (n1 = (0 : Int)), ())
def ref_batch.fn (N : Nat) (x : Sh.den ref_batch.ins) : Option (Sh.den ref_batch.outs) := ref_batch.run N x.1
def ref_batch.S (N : Nat) : Fs := ⟨ref_batch.ins, ref_batch.outs, ref_batch.fn N⟩
def ref_batch.lam (N : Nat) : Pcs := pcs [([true, true, true, false, true, false], (ref_batch_0.P N).pc (ref_batch.C N))]
theorem ref_batch.pok (N : Nat) : (ref_batch.lam N).Ok Try.prog (ref_batch.C N) ref_batch.code := pcsOk_cons (c1 := .loop ref_batch_0.code) (by kernel_rfl) (ref_batch_0.ok N) (pcsOk_nil)
theorem ref_batch.ev (N : Nat) (x : Sh.den ref_batch.ins) : evC (ref_batch.C N) ref_batch.code (ref_batch.lam N) ⟨envOf 0 (bld (fun k => k) ref_batch.ins x 0).1, (bld (fun k => k) ref_batch.ins x 0).2.1, 1000⟩ (endF U ref_batch.outs Try.f33.results.toList []) = ref_batch.fn N x := by kernel_rfl
theorem ref_batch.ok (N : Nat) : (ref_batch.S N).con.Ok Try.prog 33 := fn_ok (F := ref_batch.S N) (n0 := 1000) Try.func33 (by kernel_rfl) (show Try.f33.body = some ref_batch.code by rfl) mix (ref_batch.cok N) (fun _ => rfl) (fun _ => rfl) (ref_batch.pok N) (fun x y h => (ref_batch.ev N x).trans h)
/-- hayloft/hayloftref09.Read -/
def ref_Read.ins : Sh := (.cons (.val (.slice .byte)) .nil)
def ref_Read.C (N : Nat) : Ctx := ⟨U, 47, fun _ => true, gam [(32, (ref_Unframe.S N).con), (33, (ref_batch.S N).con)], gamY []⟩
theorem ref_Read.cok (N : Nat) : (ref_Read.C N).Ok Try.prog := ⟨U_ok, GamOk.cons (ref_Unframe.ok N) (GamOk.cons (ref_batch.ok N) (GamOk.nil)), GamYOk.nil⟩
def ref_Read.code : Code := Try.f10.body.getD .skip
def ref_Read_0.ins : Sh := (.cons (.val (.slice .byte)) (.cons (.own 22 (.slice .byte)) (.cons (.val (.int .i64)) .nil)))
def ref_Read_0.ts : List Tmp := [0, 5, 6]
def ref_Read_0.asg : List Tmp := [2, 3, 4, 5, 6, 7, 8, 9, 10, 11, 12, 13, 14, 15, 16, 17, 18, 19, 20, 21, 22, 23, 24, 25, 26, 27, 28, 29, 30, 31, 32, 33, 34, 35, 36, 37, 38, 39, 40, 41, 42, 43, 44]
def ref_Read_0.C (N : Nat) : Ctx := { ref_Read.C N with may := fun t => ref_Read_0.asg.any (Nat.beq t) }
def ref_Read_0.code : Code := loopBody (sub ref_Read.code [true, true, true, false, false])
theorem ref_Read_0.cok (N : Nat) : (ref_Read_0.C N).Ok Try.prog := ⟨(ref_Read.cok N).U, (ref_Read.cok N).Γ, (ref_Read.cok N).Y⟩
def ref_Read_0.alts : List Alt := [⟨.ret, [2, 3, 4], (.cons (.own 22 (.slice .byte)) (.cons (.val (.int .i64)) (.cons (.val (.int .i64)) .nil)))⟩, ⟨(.exit 0), [5, 6], (.cons (.own 22 (.slice .byte)) (.cons (.val (.int .i64)) .nil))⟩]
def ref_Read_0.go (N : Nat) : Nat → (List UInt8) → (List (List UInt8)) → Int → Option (((List (List UInt8)) × Int × Int × Unit) ⊕ ((List (List UInt8)) × Int × Unit))
  | 0, _, _, _ => none
  | fuel + 1, b, l, at_ =>
    bif decide (at_ < (b.length : Int)) then
      bif okB at_ (b.length : Int) b.length then
        obind (ref_Unframe.run N (b.drop at_.toNat)) fun (l1, n_, n1, _) =>
          bif decide (n1 = (10 : Int)) then
            some (.inl (l, at_, (0 : Int), ()))
          else
            obind (ref_batch.run N l1) fun (l2, b1, _) =>
              bif !(decide (n1 = (0 : Int))) then
                some (.inl (([] : List (List UInt8)), (0 : Int), (91 : Int), ()))
              else
                bif !b1 then
                  some (.inl (([] : List (List UInt8)), (0 : Int), (91 : Int), ()))
                else
                  bif room (l.length + l2.length) 24 then
                    ref_Read_0.go N fuel b (l ++ l2) (IntKind.i64.wrap (at_ + n_))
                  else none
      else none
    else some (.inr (l, at_, ()))
def ref_Read_0.g (N n : Nat) (x : Sh.den ref_Read_0.ins) : Option (altsDen ref_Read_0.alts) := ref_Read_0.go N n x.1 x.2.1 x.2.2.1
def ref_Read_0.P (N : Nat) : Ps := ⟨ref_Read_0.ts, ref_Read_0.ins, ref_Read_0.asg, ref_Read_0.alts, ref_Read_0.g N N⟩
def ref_Read_0.lam (N : Nat) : Pcs := pcs []
theorem ref_Read_0.pok (N : Nat) : (ref_Read_0.lam N).Ok Try.prog (ref_Read_0.C N) ref_Read_0.code := pcsOk_nil
theorem ref_Read_0.ev (N n : Nat) (x : Sh.den ref_Read_0.ins) : evC (ref_Read_0.C N) ref_Read_0.code (ref_Read_0.lam N) ((ref_Read_0.P N).canon 1000 x) (loopK (ref_Read_0.P N) (ref_Read_0.g N n)) = ref_Read_0.g N (n + 1) x := by kernel_rfl
theorem ref_Read_0.ok (N : Nat) : ((ref_Read_0.P N).pc (ref_Read.C N)).Ok Try.prog (ref_Read.C N) (.loop ref_Read_0.code) := loop_ok (F := ref_Read_0.P N) (n0 := 1000) (N := N) (ref_Read.cok N) mix (ref_Read_0.pok N) (ref_Read_0.g N) (fun x => by rfl) rfl (fun n x y h => (ref_Read_0.ev N n x).trans h)
def ref_Read.outs : Sh := (.cons (.own 22 (.slice .byte)) (.cons (.val (.int .i64)) (.cons (.val (.int .i64)) .nil)))
def ref_Read.run (N : Nat) (b : (List UInt8)) : Option ((List (List UInt8)) × Int × Int × Unit) :=
  obind (ref_Read_0.go N N b ([] : List (List UInt8)) (0 : Int)) fun y => match y with
  | .inl (t2, t3, t4, _) =>
      some (t2, t3, t4, ())
  | .inr (l, at_, _) =>
      some (l, at_, (0 : Int), ())
def ref_Read.fn (N : Nat) (x : Sh.den ref_Read.ins) : Option (Sh.den ref_Read.outs) := ref_Read.run N x.1
def ref_Read.S (N : Nat) : Fs := ⟨ref_Read.ins, ref_Read.outs, ref_Read.fn N⟩
def ref_Read.lam (N : Nat) : Pcs := pcs [([true, true, true, false, false], (ref_Read_0.P N).pc (ref_Read.C N))]
theorem ref_Read.pok (N : Nat) : (ref_Read.lam N).Ok Try.prog (ref_Read.C N) ref_Read.code := pcsOk_cons (c1 := .loop ref_Read_0.code) (by kernel_rfl) (ref_Read_0.ok N) (pcsOk_nil)
theorem ref_Read.ev (N : Nat) (x : Sh.den ref_Read.ins) : evC (ref_Read.C N) ref_Read.code (ref_Read.lam N) ⟨envOf 0 (bld (fun k => k) ref_Read.ins x 0).1, (bld (fun k => k) ref_Read.ins x 0).2.1, 1000⟩ (endF U ref_Read.outs Try.f10.results.toList []) = ref_Read.fn N x := by kernel_rfl
theorem ref_Read.ok (N : Nat) : (ref_Read.S N).con.Ok Try.prog 10 := fn_ok (F := ref_Read.S N) (n0 := 1000) Try.func10 (by kernel_rfl) (show Try.f10.body = some ref_Read.code by rfl) mix (ref_Read.cok N) (fun _ => rfl) (fun _ => rfl) (ref_Read.pok N) (fun x y h => (ref_Read.ev N x).trans h)
/-- hayloft/codec.New -/
def codec_New.ins : Sh := .nil
def codec_New.C (N : Nat) : Ctx := ⟨U, 3, fun _ => true, gam [], gamY []⟩
theorem codec_New.cok (N : Nat) : (codec_New.C N).Ok Try.prog := ⟨U_ok, GamOk.nil, GamYOk.nil⟩
def codec_New.code : Code := Try.f34.body.getD .skip
def codec_New.outs : Sh := (.cons (.box 106 (.cons (.own 5 .byte) .nil)) .nil)
def codec_New.run (N : Nat)  : Option (((List UInt8) × Unit) × Unit) :=
  some ((([] : List UInt8), ()), ())
def codec_New.fn (N : Nat) (x : Sh.den codec_New.ins) : Option (Sh.den codec_New.outs) := codec_New.run N 
def codec_New.S (N : Nat) : Fs := ⟨codec_New.ins, codec_New.outs, codec_New.fn N⟩
def codec_New.lam (N : Nat) : Pcs := pcs []
theorem codec_New.pok (N : Nat) : (codec_New.lam N).Ok Try.prog (codec_New.C N) codec_New.code := pcsOk_nil
theorem codec_New.ev (N : Nat) (x : Sh.den codec_New.ins) : evC (codec_New.C N) codec_New.code (codec_New.lam N) ⟨envOf 0 (bld (fun k => k) codec_New.ins x 0).1, (bld (fun k => k) codec_New.ins x 0).2.1, 1000⟩ (endF U codec_New.outs Try.f34.results.toList []) = codec_New.fn N x := by kernel_rfl
theorem codec_New.ok (N : Nat) : (codec_New.S N).con.Ok Try.prog 34 := fn_ok (F := codec_New.S N) (n0 := 1000) Try.func34 (by kernel_rfl) (show Try.f34.body = some codec_New.code by rfl) mix (codec_New.cok N) (fun _ => rfl) (fun _ => rfl) (codec_New.pok N) (fun x y h => (codec_New.ev N x).trans h)
/-- (*hayloft/codec.Writer).Byte -/
def codec_Writer_Byte.ins : Sh := (.cons (.box 106 (.cons (.own 5 .byte) .nil)) (.cons (.val .byte) .nil))
def codec_Writer_Byte.C (N : Nat) : Ctx := ⟨U, 14, fun _ => true, gam [], gamY []⟩
theorem codec_Writer_Byte.cok (N : Nat) : (codec_Writer_Byte.C N).Ok Try.prog := ⟨U_ok, GamOk.nil, GamYOk.nil⟩
def codec_Writer_Byte.code : Code := Try.f95.body.getD .skip
def codec_Writer_Byte.outs : Sh := (.cons (.upd 0 106 (.cons (.own 5 .byte) .nil)) .nil)
def codec_Writer_Byte.run (N : Nat) (b : (List UInt8)) (b1 : UInt8) : Option (((List UInt8) × Unit) × Unit) :=
  bif room (b.length + 1) 1 then
    some ((b ++ ([Hay.u8 (b1.toNat : Int)] : List UInt8), ()), ())
  else none
def codec_Writer_Byte.fn (N : Nat) (x : Sh.den codec_Writer_Byte.ins) : Option (Sh.den codec_Writer_Byte.outs) := codec_Writer_Byte.run N x.1.1 x.2.1
def codec_Writer_Byte.S (N : Nat) : Fs := ⟨codec_Writer_Byte.ins, codec_Writer_Byte.outs, codec_Writer_Byte.fn N⟩
def codec_Writer_Byte.lam (N : Nat) : Pcs := pcs []
theorem codec_Writer_Byte.pok (N : Nat) : (codec_Writer_Byte.lam N).Ok Try.prog (codec_Writer_Byte.C N) codec_Writer_Byte.code := pcsOk_nil
theorem codec_Writer_Byte.ev (N : Nat) (x : Sh.den codec_Writer_Byte.ins) : evC (codec_Writer_Byte.C N) codec_Writer_Byte.code (codec_Writer_Byte.lam N) ⟨envOf 0 (bld (fun k => k) codec_Writer_Byte.ins x 0).1, (bld (fun k => k) codec_Writer_Byte.ins x 0).2.1, 1000⟩ (endF U codec_Writer_Byte.outs Try.f95.results.toList []) = codec_Writer_Byte.fn N x := by kernel_rfl
theorem codec_Writer_Byte.ok (N : Nat) : (codec_Writer_Byte.S N).con.Ok Try.prog 95 := fn_ok (F := codec_Writer_Byte.S N) (n0 := 1000) Try.func95 (by kernel_rfl) (show Try.f95.body = some codec_Writer_Byte.code by rfl) mix (codec_Writer_Byte.cok N) (fun _ => rfl) (fun _ => rfl) (codec_Writer_Byte.pok N) (fun x y h => (codec_Writer_Byte.ev N x).trans h)
/-- (*hayloft/codec.Writer).high -/
def codec_Writer_high.ins : Sh := (.cons (.box 106 (.cons (.own 5 .byte) .nil)) (.cons (.val (.int .u64)) (.cons (.val (.int .i64)) .nil)))
def codec_Writer_high.C (N : Nat) : Ctx := ⟨U, 24, fun _ => true, gam [], gamY []⟩
theorem codec_Writer_high.cok (N : Nat) : (codec_Writer_high.C N).Ok Try.prog := ⟨U_ok, GamOk.nil, GamYOk.nil⟩
def codec_Writer_high.code : Code := Try.f96.body.getD .skip
def codec_Writer_high_0.ins : Sh := (.cons (.box 106 (.cons (.own 5 .byte) .nil)) (.cons (.val (.int .u64)) (.cons (.val (.int .i64)) .nil)))
def codec_Writer_high_0.ts : List Tmp := [0, 1, 2]
def codec_Writer_high_0.asg : List Tmp := [2, 6, 7, 8, 9, 10, 11, 12, 13, 14, 15, 16, 17, 18, 19, 20, 21, 22, 23]
def codec_Writer_high_0.C (N : Nat) : Ctx := { codec_Writer_high.C N with may := fun t => codec_Writer_high_0.asg.any (Nat.beq t) }
def codec_Writer_high_0.code : Code := loopBody (sub codec_Writer_high.code [false])
theorem codec_Writer_high_0.cok (N : Nat) : (codec_Writer_high_0.C N).Ok Try.prog := ⟨(codec_Writer_high.cok N).U, (codec_Writer_high.cok N).Γ, (codec_Writer_high.cok N).Y⟩
def codec_Writer_high_0.alts : List Alt := [⟨(.exit 0), [], (.cons (.upd 0 106 (.cons (.own 5 .byte) .nil)) .nil)⟩]
def codec_Writer_high_0.go (N : Nat) : Nat → (List UInt8) → Int → Int → Option ((((List UInt8) × Unit) × Unit))
  | 0, _, _, _ => none
  | fuel + 1, b, n_, many =>
    bif decide (many > (0 : Int)) then
      bif decide ((0 : Int) ≤ (IntKind.i64.wrap ((8 : Int) * (IntKind.i64.wrap (many - (1 : Int)))))) then
        bif room (b.length + 1) 1 then
          codec_Writer_high_0.go N fuel (b ++ ([Hay.u8 (IntKind.u8.wrap (n_.fdiv (2 ^ (min (IntKind.i64.wrap ((8 : Int) * (IntKind.i64.wrap (many - (1 : Int))))).toNat 64))))] : List UInt8)) n_ (IntKind.i64.wrap (many - (1 : Int)))
        else none
      else none
    else some ((b, ()), ())
def codec_Writer_high_0.g (N n : Nat) (x : Sh.den codec_Writer_high_0.ins) : Option (altsDen codec_Writer_high_0.alts) := codec_Writer_high_0.go N n x.1.1 x.2.1 x.2.2.1
def codec_Writer_high_0.P (N : Nat) : Ps := ⟨codec_Writer_high_0.ts, codec_Writer_high_0.ins, codec_Writer_high_0.asg, codec_Writer_high_0.alts, codec_Writer_high_0.g N N⟩
def codec_Writer_high_0.lam (N : Nat) : Pcs := pcs []
theorem codec_Writer_high_0.pok (N : Nat) : (codec_Writer_high_0.lam N).Ok Try.prog (codec_Writer_high_0.C N) codec_Writer_high_0.code := pcsOk_nil
theorem codec_Writer_high_0.ev (N n : Nat) (x : Sh.den codec_Writer_high_0.ins) : evC (codec_Writer_high_0.C N) codec_Writer_high_0.code (codec_Writer_high_0.lam N) ((codec_Writer_high_0.P N).canon 1000 x) (loopK (codec_Writer_high_0.P N) (codec_Writer_high_0.g N n)) = codec_Writer_high_0.g N (n + 1) x := by kernel_rfl
theorem codec_Writer_high_0.ok (N : Nat) : ((codec_Writer_high_0.P N).pc (codec_Writer_high.C N)).Ok Try.prog (codec_Writer_high.C N) (.loop codec_Writer_high_0.code) := loop_ok (F := codec_Writer_high_0.P N) (n0 := 1000) (N := N) (codec_Writer_high.cok N) mix (codec_Writer_high_0.pok N) (codec_Writer_high_0.g N) (fun x => by rfl) rfl (fun n x y h => (codec_Writer_high_0.ev N n x).trans h)
def codec_Writer_high.outs : Sh := (.cons (.upd 0 106 (.cons (.own 5 .byte) .nil)) .nil)
def codec_Writer_high.run (N : Nat) (b : (List UInt8)) (n_ : Int) (many : Int) : Option (((List UInt8) × Unit) × Unit) :=
  obind (codec_Writer_high_0.go N N b n_ many) fun ((b1, _), _) =>
    some ((b1, ()), ())
def codec_Writer_high.fn (N : Nat) (x : Sh.den codec_Writer_high.ins) : Option (Sh.den codec_Writer_high.outs) := codec_Writer_high.run N x.1.1 x.2.1 x.2.2.1
def codec_Writer_high.S (N : Nat) : Fs := ⟨codec_Writer_high.ins, codec_Writer_high.outs, codec_Writer_high.fn N⟩
def codec_Writer_high.lam (N : Nat) : Pcs := pcs [([false], (codec_Writer_high_0.P N).pc (codec_Writer_high.C N))]
theorem codec_Writer_high.pok (N : Nat) : (codec_Writer_high.lam N).Ok Try.prog (codec_Writer_high.C N) codec_Writer_high.code := pcsOk_cons (c1 := .loop codec_Writer_high_0.code) (by kernel_rfl) (codec_Writer_high_0.ok N) (pcsOk_nil)
theorem codec_Writer_high.ev (N : Nat) (x : Sh.den codec_Writer_high.ins) : evC (codec_Writer_high.C N) codec_Writer_high.code (codec_Writer_high.lam N) ⟨envOf 0 (bld (fun k => k) codec_Writer_high.ins x 0).1, (bld (fun k => k) codec_Writer_high.ins x 0).2.1, 1000⟩ (endF U codec_Writer_high.outs Try.f96.results.toList []) = codec_Writer_high.fn N x := by kernel_rfl
theorem codec_Writer_high.ok (N : Nat) : (codec_Writer_high.S N).con.Ok Try.prog 96 := fn_ok (F := codec_Writer_high.S N) (n0 := 1000) Try.func96 (by kernel_rfl) (show Try.f96.body = some codec_Writer_high.code by rfl) mix (codec_Writer_high.cok N) (fun _ => rfl) (fun _ => rfl) (codec_Writer_high.pok N) (fun x y h => (codec_Writer_high.ev N x).trans h)
/-- (*hayloft/codec.Writer).Var -/
def codec_Writer_Var.ins : Sh := (.cons (.box 106 (.cons (.own 5 .byte) .nil)) (.cons (.val (.int .u64)) .nil))
def codec_Writer_Var.C (N : Nat) : Ctx := ⟨U, 32, fun _ => true, gam [(95, (codec_Writer_Byte.S N).con), (96, (codec_Writer_high.S N).con)], gamY []⟩
theorem codec_Writer_Var.cok (N : Nat) : (codec_Writer_Var.C N).Ok Try.prog := ⟨U_ok, GamOk.cons (codec_Writer_Byte.ok N) (GamOk.cons (codec_Writer_high.ok N) (GamOk.nil)), GamYOk.nil⟩
def codec_Writer_Var.code : Code := Try.f69.body.getD .skip
def codec_Writer_Var.outs : Sh := (.cons (.upd 0 106 (.cons (.own 5 .byte) .nil)) .nil)
def codec_Writer_Var.run (N : Nat) (b : (List UInt8)) (n_ : Int) : Option (((List UInt8) × Unit) × Unit) :=
  bif decide (n_ < (253 : Int)) then
    obind (codec_Writer_Byte.run N b (Hay.u8 (IntKind.u8.wrap n_))) fun ((b1, _), _) =>
      some ((b1, ()), ())
  else
    bif decide (n_ ≤ (65535 : Int)) then
      obind (codec_Writer_Byte.run N b (253 : UInt8)) fun ((b2, _), _) =>
        obind (codec_Writer_high.run N b2 n_ (2 : Int)) fun ((b3, _), _) =>
          some ((b3, ()), ())
    else
      bif decide (n_ ≤ (4294967295 : Int)) then
        obind (codec_Writer_Byte.run N b (254 : UInt8)) fun ((b4, _), _) =>
          obind (codec_Writer_high.run N b4 n_ (4 : Int)) fun ((b5, _), _) =>
            some ((b5, ()), ())
      else
        obind (codec_Writer_Byte.run N b (255 : UInt8)) fun ((b6, _), _) =>
          obind (codec_Writer_high.run N b6 n_ (8 : Int)) fun ((b7, _), _) =>
            some ((b7, ()), ())
def codec_Writer_Var.fn (N : Nat) (x : Sh.den codec_Writer_Var.ins) : Option (Sh.den codec_Writer_Var.outs) := codec_Writer_Var.run N x.1.1 x.2.1
def codec_Writer_Var.S (N : Nat) : Fs := ⟨codec_Writer_Var.ins, codec_Writer_Var.outs, codec_Writer_Var.fn N⟩
def codec_Writer_Var.lam (N : Nat) : Pcs := pcs []
theorem codec_Writer_Var.pok (N : Nat) : (codec_Writer_Var.lam N).Ok Try.prog (codec_Writer_Var.C N) codec_Writer_Var.code := pcsOk_nil
theorem codec_Writer_Var.ev (N : Nat) (x : Sh.den codec_Writer_Var.ins) : evC (codec_Writer_Var.C N) codec_Writer_Var.code (codec_Writer_Var.lam N) ⟨envOf 0 (bld (fun k => k) codec_Writer_Var.ins x 0).1, (bld (fun k => k) codec_Writer_Var.ins x 0).2.1, 1000⟩ (endF U codec_Writer_Var.outs Try.f69.results.toList []) = codec_Writer_Var.fn N x := by kernel_rfl
theorem codec_Writer_Var.ok (N : Nat) : (codec_Writer_Var.S N).con.Ok Try.prog 69 := fn_ok (F := codec_Writer_Var.S N) (n0 := 1000) Try.func69 (by kernel_rfl) (show Try.f69.body = some codec_Writer_Var.code by rfl) mix (codec_Writer_Var.cok N) (fun _ => rfl) (fun _ => rfl) (codec_Writer_Var.pok N) (fun x y h => (codec_Writer_Var.ev N x).trans h)
/-- (*hayloft/codec.Writer).Raw -/
def codec_Writer_Raw.ins : Sh := (.cons (.box 106 (.cons (.own 5 .byte) .nil)) (.cons (.val (.slice .byte)) .nil))
def codec_Writer_Raw.C (N : Nat) : Ctx := ⟨U, 13, fun _ => true, gam [], gamY []⟩
theorem codec_Writer_Raw.cok (N : Nat) : (codec_Writer_Raw.C N).Ok Try.prog := ⟨U_ok, GamOk.nil, GamYOk.nil⟩
def codec_Writer_Raw.code : Code := Try.f72.body.getD .skip
def codec_Writer_Raw.outs : Sh := (.cons (.upd 0 106 (.cons (.own 5 .byte) .nil)) .nil)
def codec_Writer_Raw.run (N : Nat) (b : (List UInt8)) (b1 : (List UInt8)) : Option (((List UInt8) × Unit) × Unit) :=
  bif room (b.length + b1.length) 1 then
    some ((b ++ b1, ()), ())
  else none
def codec_Writer_Raw.fn (N : Nat) (x : Sh.den codec_Writer_Raw.ins) : Option (Sh.den codec_Writer_Raw.outs) := codec_Writer_Raw.run N x.1.1 x.2.1
def codec_Writer_Raw.S (N : Nat) : Fs := ⟨codec_Writer_Raw.ins, codec_Writer_Raw.outs, codec_Writer_Raw.fn N⟩
def codec_Writer_Raw.lam (N : Nat) : Pcs := pcs []
theorem codec_Writer_Raw.pok (N : Nat) : (codec_Writer_Raw.lam N).Ok Try.prog (codec_Writer_Raw.C N) codec_Writer_Raw.code := pcsOk_nil
theorem codec_Writer_Raw.ev (N : Nat) (x : Sh.den codec_Writer_Raw.ins) : evC (codec_Writer_Raw.C N) codec_Writer_Raw.code (codec_Writer_Raw.lam N) ⟨envOf 0 (bld (fun k => k) codec_Writer_Raw.ins x 0).1, (bld (fun k => k) codec_Writer_Raw.ins x 0).2.1, 1000⟩ (endF U codec_Writer_Raw.outs Try.f72.results.toList []) = codec_Writer_Raw.fn N x := by kernel_rfl
theorem codec_Writer_Raw.ok (N : Nat) : (codec_Writer_Raw.S N).con.Ok Try.prog 72 := fn_ok (F := codec_Writer_Raw.S N) (n0 := 1000) Try.func72 (by kernel_rfl) (show Try.f72.body = some codec_Writer_Raw.code by rfl) mix (codec_Writer_Raw.cok N) (fun _ => rfl) (fun _ => rfl) (codec_Writer_Raw.pok N) (fun x y h => (codec_Writer_Raw.ev N x).trans h)
/-- (*hayloft/codec.Writer).Text -/
def codec_Writer_Text.ins : Sh := (.cons (.box 106 (.cons (.own 5 .byte) .nil)) (.cons (.val (.slice .byte)) .nil))
def codec_Writer_Text.C (N : Nat) : Ctx := ⟨U, 12, fun _ => true, gam [(69, (codec_Writer_Var.S N).con), (72, (codec_Writer_Raw.S N).con)], gamY []⟩
theorem codec_Writer_Text.cok (N : Nat) : (codec_Writer_Text.C N).Ok Try.prog := ⟨U_ok, GamOk.cons (codec_Writer_Var.ok N) (GamOk.cons (codec_Writer_Raw.ok N) (GamOk.nil)), GamYOk.nil⟩
def codec_Writer_Text.code : Code := Try.f70.body.getD .skip
def codec_Writer_Text.outs : Sh := (.cons (.upd 0 106 (.cons (.own 5 .byte) .nil)) .nil)
def codec_Writer_Text.run (N : Nat) (b : (List UInt8)) (b1 : (List UInt8)) : Option (((List UInt8) × Unit) × Unit) :=
  obind (codec_Writer_Var.run N b (IntKind.u64.wrap (b1.length : Int))) fun ((b2, _), _) =>
    obind (codec_Writer_Raw.run N b2 b1) fun ((b3, _), _) =>
      some ((b3, ()), ())
def codec_Writer_Text.fn (N : Nat) (x : Sh.den codec_Writer_Text.ins) : Option (Sh.den codec_Writer_Text.outs) := codec_Writer_Text.run N x.1.1 x.2.1
def codec_Writer_Text.S (N : Nat) : Fs := ⟨codec_Writer_Text.ins, codec_Writer_Text.outs, codec_Writer_Text.fn N⟩
def codec_Writer_Text.lam (N : Nat) : Pcs := pcs []
theorem codec_Writer_Text.pok (N : Nat) : (codec_Writer_Text.lam N).Ok Try.prog (codec_Writer_Text.C N) codec_Writer_Text.code := pcsOk_nil
theorem codec_Writer_Text.ev (N : Nat) (x : Sh.den codec_Writer_Text.ins) : evC (codec_Writer_Text.C N) codec_Writer_Text.code (codec_Writer_Text.lam N) ⟨envOf 0 (bld (fun k => k) codec_Writer_Text.ins x 0).1, (bld (fun k => k) codec_Writer_Text.ins x 0).2.1, 1000⟩ (endF U codec_Writer_Text.outs Try.f70.results.toList []) = codec_Writer_Text.fn N x := by kernel_rfl
theorem codec_Writer_Text.ok (N : Nat) : (codec_Writer_Text.S N).con.Ok Try.prog 70 := fn_ok (F := codec_Writer_Text.S N) (n0 := 1000) Try.func70 (by kernel_rfl) (show Try.f70.body = some codec_Writer_Text.code by rfl) mix (codec_Writer_Text.cok N) (fun _ => rfl) (fun _ => rfl) (codec_Writer_Text.pok N) (fun x y h => (codec_Writer_Text.ev N x).trans h)
/-- hayloft/redo.text -/
def redo_text.ins : Sh := (.cons (.box 106 (.cons (.own 5 .byte) .nil)) (.cons (.val (.slice .byte)) .nil))
def redo_text.C (N : Nat) : Ctx := ⟨U, 7, fun _ => true, gam [(70, (codec_Writer_Text.S N).con)], gamY []⟩
theorem redo_text.cok (N : Nat) : (redo_text.C N).Ok Try.prog := ⟨U_ok, GamOk.cons (codec_Writer_Text.ok N) (GamOk.nil), GamYOk.nil⟩
def redo_text.code : Code := Try.f36.body.getD .skip
def redo_text.outs : Sh := (.cons (.upd 0 106 (.cons (.own 5 .byte) .nil)) .nil)
def redo_text.run (N : Nat) (b : (List UInt8)) (b1 : (List UInt8)) : Option (((List UInt8) × Unit) × Unit) :=
  obind (codec_Writer_Text.run N b b1) fun ((b2, _), _) =>
    some ((b2, ()), ())
def redo_text.fn (N : Nat) (x : Sh.den redo_text.ins) : Option (Sh.den redo_text.outs) := redo_text.run N x.1.1 x.2.1
def redo_text.S (N : Nat) : Fs := ⟨redo_text.ins, redo_text.outs, redo_text.fn N⟩
def redo_text.lam (N : Nat) : Pcs := pcs []
theorem redo_text.pok (N : Nat) : (redo_text.lam N).Ok Try.prog (redo_text.C N) redo_text.code := pcsOk_nil
theorem redo_text.ev (N : Nat) (x : Sh.den redo_text.ins) : evC (redo_text.C N) redo_text.code (redo_text.lam N) ⟨envOf 0 (bld (fun k => k) redo_text.ins x 0).1, (bld (fun k => k) redo_text.ins x 0).2.1, 1000⟩ (endF U redo_text.outs Try.f36.results.toList []) = redo_text.fn N x := by kernel_rfl
theorem redo_text.ok (N : Nat) : (redo_text.S N).con.Ok Try.prog 36 := fn_ok (F := redo_text.S N) (n0 := 1000) Try.func36 (by kernel_rfl) (show Try.f36.body = some redo_text.code by rfl) mix (redo_text.cok N) (fun _ => rfl) (fun _ => rfl) (redo_text.pok N) (fun x y h => (redo_text.ev N x).trans h)
/-- hayloft/codec.Put[[]byte] -/
def codec_Put_byte.ins : Sh := (.cons (.box 106 (.cons (.own 5 .byte) .nil)) (.cons (.val (.slice (.slice .byte))) (.cons (.fn 36 .nil) .nil)))
def codec_Put_byte.C (N : Nat) : Ctx := ⟨U, 24, fun _ => true, gam [(69, (codec_Writer_Var.S N).con), (36, (redo_text.S N).con)], gamY []⟩
theorem codec_Put_byte.cok (N : Nat) : (codec_Put_byte.C N).Ok Try.prog := ⟨U_ok, GamOk.cons (codec_Writer_Var.ok N) (GamOk.cons (redo_text.ok N) (GamOk.nil)), GamYOk.nil⟩
def codec_Put_byte.code : Code := Try.f35.body.getD .skip
def codec_Put_byte_0.ins : Sh := (.cons (.box 106 (.cons (.own 5 .byte) .nil)) (.cons (.fn 36 .nil) (.cons (.val (.slice (.slice .byte))) (.cons (.val (.int .i64)) (.cons (.val (.int .i64)) .nil)))))
def codec_Put_byte_0.ts : List Tmp := [0, 2, 13, 14, 15]
def codec_Put_byte_0.asg : List Tmp := [7, 15, 16, 17, 18, 19, 20, 21, 22, 23]
def codec_Put_byte_0.C (N : Nat) : Ctx := { codec_Put_byte.C N with may := fun t => codec_Put_byte_0.asg.any (Nat.beq t) }
def codec_Put_byte_0.code : Code := loopBody (sub codec_Put_byte.code [true, true, false])
theorem codec_Put_byte_0.cok (N : Nat) : (codec_Put_byte_0.C N).Ok Try.prog := ⟨(codec_Put_byte.cok N).U, (codec_Put_byte.cok N).Γ, (codec_Put_byte.cok N).Y⟩
def codec_Put_byte_0.alts : List Alt := [⟨(.exit 0), [], (.cons (.upd 0 106 (.cons (.own 5 .byte) .nil)) .nil)⟩]
def codec_Put_byte_0.go (N : Nat) : Nat → (List UInt8) → (List (List UInt8)) → Int → Int → Option ((((List UInt8) × Unit) × Unit))
  | 0, _, _, _, _ => none
  | fuel + 1, b, t13, t14, t15 =>
    bif decide (t15 < t14) then
      bif inB t15 t13.length then
        obind (redo_text.run N b (t13.getD t15.toNat ([] : List UInt8))) fun ((b1, _), _) =>
          codec_Put_byte_0.go N fuel b1 t13 t14 (IntKind.i64.wrap (t15 + (1 : Int)))
      else none
    else some ((b, ()), ())
def codec_Put_byte_0.g (N n : Nat) (x : Sh.den codec_Put_byte_0.ins) : Option (altsDen codec_Put_byte_0.alts) := codec_Put_byte_0.go N n x.1.1 x.2.2.1 x.2.2.2.1 x.2.2.2.2.1
def codec_Put_byte_0.P (N : Nat) : Ps := ⟨codec_Put_byte_0.ts, codec_Put_byte_0.ins, codec_Put_byte_0.asg, codec_Put_byte_0.alts, codec_Put_byte_0.g N N⟩
def codec_Put_byte_0.lam (N : Nat) : Pcs := pcs []
theorem codec_Put_byte_0.pok (N : Nat) : (codec_Put_byte_0.lam N).Ok Try.prog (codec_Put_byte_0.C N) codec_Put_byte_0.code := pcsOk_nil
theorem codec_Put_byte_0.ev (N n : Nat) (x : Sh.den codec_Put_byte_0.ins) : evC (codec_Put_byte_0.C N) codec_Put_byte_0.code (codec_Put_byte_0.lam N) ((codec_Put_byte_0.P N).canon 1000 x) (loopK (codec_Put_byte_0.P N) (codec_Put_byte_0.g N n)) = codec_Put_byte_0.g N (n + 1) x := by kernel_rfl
theorem codec_Put_byte_0.ok (N : Nat) : ((codec_Put_byte_0.P N).pc (codec_Put_byte.C N)).Ok Try.prog (codec_Put_byte.C N) (.loop codec_Put_byte_0.code) := loop_ok (F := codec_Put_byte_0.P N) (n0 := 1000) (N := N) (codec_Put_byte.cok N) mix (codec_Put_byte_0.pok N) (codec_Put_byte_0.g N) (fun x => by rfl) rfl (fun n x y h => (codec_Put_byte_0.ev N n x).trans h)
def codec_Put_byte.outs : Sh := (.cons (.upd 0 106 (.cons (.own 5 .byte) .nil)) .nil)
def codec_Put_byte.run (N : Nat) (b : (List UInt8)) (l : (List (List UInt8))) : Option (((List UInt8) × Unit) × Unit) :=
  obind (codec_Writer_Var.run N b (IntKind.u64.wrap (l.length : Int))) fun ((b1, _), _) =>
    obind (codec_Put_byte_0.go N N b1 l (l.length : Int) (0 : Int)) fun ((b2, _), _) =>
      some ((b2, ()), ())
def codec_Put_byte.fn (N : Nat) (x : Sh.den codec_Put_byte.ins) : Option (Sh.den codec_Put_byte.outs) := codec_Put_byte.run N x.1.1 x.2.1
def codec_Put_byte.S (N : Nat) : Fs := ⟨codec_Put_byte.ins, codec_Put_byte.outs, codec_Put_byte.fn N⟩
def codec_Put_byte.lam (N : Nat) : Pcs := pcs [([true, true, false], (codec_Put_byte_0.P N).pc (codec_Put_byte.C N))]
theorem codec_Put_byte.pok (N : Nat) : (codec_Put_byte.lam N).Ok Try.prog (codec_Put_byte.C N) codec_Put_byte.code := pcsOk_cons (c1 := .loop codec_Put_byte_0.code) (by kernel_rfl) (codec_Put_byte_0.ok N) (pcsOk_nil)
theorem codec_Put_byte.ev (N : Nat) (x : Sh.den codec_Put_byte.ins) : evC (codec_Put_byte.C N) codec_Put_byte.code (codec_Put_byte.lam N) ⟨envOf 0 (bld (fun k => k) codec_Put_byte.ins x 0).1, (bld (fun k => k) codec_Put_byte.ins x 0).2.1, 1000⟩ (endF U codec_Put_byte.outs Try.f35.results.toList []) = codec_Put_byte.fn N x := by kernel_rfl
theorem codec_Put_byte.ok (N : Nat) : (codec_Put_byte.S N).con.Ok Try.prog 35 := fn_ok (F := codec_Put_byte.S N) (n0 := 1000) Try.func35 (by kernel_rfl) (show Try.f35.body = some codec_Put_byte.code by rfl) mix (codec_Put_byte.cok N) (fun _ => rfl) (fun _ => rfl) (codec_Put_byte.pok N) (fun x y h => (codec_Put_byte.ev N x).trans h)
/-- (*hayloft/codec.Writer).Bytes -/
def codec_Writer_Bytes.ins : Sh := (.cons (.rbox 106 (.cons (.rown 5 .byte) .nil)) .nil)
def codec_Writer_Bytes.C (N : Nat) : Ctx := ⟨U, 8, fun _ => true, gam [(52, (slices_Clone_byte_byte_b.S N).con)], gamY []⟩
theorem codec_Writer_Bytes.cok (N : Nat) : (codec_Writer_Bytes.C N).Ok Try.prog := ⟨U_ok, GamOk.cons (slices_Clone_byte_byte_b.ok N) (GamOk.nil), GamYOk.nil⟩
def codec_Writer_Bytes.code : Code := Try.f38.body.getD .skip
def codec_Writer_Bytes.outs : Sh := (.cons (.own 5 .byte) .nil)
def codec_Writer_Bytes.run (N : Nat) (b : (List UInt8)) : Option ((List UInt8) × Unit) :=
  obind (slices_Clone_byte_byte_b.run N b) fun (l, _) =>
    some (l, ())
def codec_Writer_Bytes.fn (N : Nat) (x : Sh.den codec_Writer_Bytes.ins) : Option (Sh.den codec_Writer_Bytes.outs) := codec_Writer_Bytes.run N x.1.1
def codec_Writer_Bytes.S (N : Nat) : Fs := ⟨codec_Writer_Bytes.ins, codec_Writer_Bytes.outs, codec_Writer_Bytes.fn N⟩
def codec_Writer_Bytes.lam (N : Nat) : Pcs := pcs []
theorem codec_Writer_Bytes.pok (N : Nat) : (codec_Writer_Bytes.lam N).Ok Try.prog (codec_Writer_Bytes.C N) codec_Writer_Bytes.code := pcsOk_nil
theorem codec_Writer_Bytes.ev (N : Nat) (x : Sh.den codec_Writer_Bytes.ins) : evC (codec_Writer_Bytes.C N) codec_Writer_Bytes.code (codec_Writer_Bytes.lam N) ⟨envOf 0 (bld (fun k => k) codec_Writer_Bytes.ins x 0).1, (bld (fun k => k) codec_Writer_Bytes.ins x 0).2.1, 1000⟩ (endF U codec_Writer_Bytes.outs Try.f38.results.toList []) = codec_Writer_Bytes.fn N x := by kernel_rfl
theorem codec_Writer_Bytes.ok (N : Nat) : (codec_Writer_Bytes.S N).con.Ok Try.prog 38 := fn_ok (F := codec_Writer_Bytes.S N) (n0 := 1000) Try.func38 (by kernel_rfl) (show Try.f38.body = some codec_Writer_Bytes.code by rfl) mix (codec_Writer_Bytes.cok N) (fun _ => rfl) (fun _ => rfl) (codec_Writer_Bytes.pok N) (fun x y h => (codec_Writer_Bytes.ev N x).trans h)
/-- (*hayloft/codec.Writer).Word -/
def codec_Writer_Word.ins : Sh := (.cons (.box 106 (.cons (.own 5 .byte) .nil)) (.cons (.val (.int .u32)) .nil))
def codec_Writer_Word.C (N : Nat) : Ctx := ⟨U, 8, fun _ => true, gam [(96, (codec_Writer_high.S N).con)], gamY []⟩
theorem codec_Writer_Word.cok (N : Nat) : (codec_Writer_Word.C N).Ok Try.prog := ⟨U_ok, GamOk.cons (codec_Writer_high.ok N) (GamOk.nil), GamYOk.nil⟩
def codec_Writer_Word.code : Code := Try.f71.body.getD .skip
def codec_Writer_Word.outs : Sh := (.cons (.upd 0 106 (.cons (.own 5 .byte) .nil)) .nil)
def codec_Writer_Word.run (N : Nat) (b : (List UInt8)) (n_ : Int) : Option (((List UInt8) × Unit) × Unit) :=
  obind (codec_Writer_high.run N b (IntKind.u64.wrap n_) (4 : Int)) fun ((b1, _), _) =>
    some ((b1, ()), ())
def codec_Writer_Word.fn (N : Nat) (x : Sh.den codec_Writer_Word.ins) : Option (Sh.den codec_Writer_Word.outs) := codec_Writer_Word.run N x.1.1 x.2.1
def codec_Writer_Word.S (N : Nat) : Fs := ⟨codec_Writer_Word.ins, codec_Writer_Word.outs, codec_Writer_Word.fn N⟩
def codec_Writer_Word.lam (N : Nat) : Pcs := pcs []
theorem codec_Writer_Word.pok (N : Nat) : (codec_Writer_Word.lam N).Ok Try.prog (codec_Writer_Word.C N) codec_Writer_Word.code := pcsOk_nil
theorem codec_Writer_Word.ev (N : Nat) (x : Sh.den codec_Writer_Word.ins) : evC (codec_Writer_Word.C N) codec_Writer_Word.code (codec_Writer_Word.lam N) ⟨envOf 0 (bld (fun k => k) codec_Writer_Word.ins x 0).1, (bld (fun k => k) codec_Writer_Word.ins x 0).2.1, 1000⟩ (endF U codec_Writer_Word.outs Try.f71.results.toList []) = codec_Writer_Word.fn N x := by kernel_rfl
theorem codec_Writer_Word.ok (N : Nat) : (codec_Writer_Word.S N).con.Ok Try.prog 71 := fn_ok (F := codec_Writer_Word.S N) (n0 := 1000) Try.func71 (by kernel_rfl) (show Try.f71.body = some codec_Writer_Word.code by rfl) mix (codec_Writer_Word.cok N) (fun _ => rfl) (fun _ => rfl) (codec_Writer_Word.pok N) (fun x y h => (codec_Writer_Word.ev N x).trans h)
/-- (*hayloft/codec.Writer).Raw -/
def codec_Writer_Raw_b.ins : Sh := (.cons (.box 106 (.cons (.own 5 .byte) .nil)) (.cons (.rown 5 .byte) .nil))
def codec_Writer_Raw_b.C (N : Nat) : Ctx := ⟨U, 13, fun _ => true, gam [], gamY []⟩
theorem codec_Writer_Raw_b.cok (N : Nat) : (codec_Writer_Raw_b.C N).Ok Try.prog := ⟨U_ok, GamOk.nil, GamYOk.nil⟩
def codec_Writer_Raw_b.code : Code := Try.f72.body.getD .skip
def codec_Writer_Raw_b.outs : Sh := (.cons (.upd 0 106 (.cons (.own 5 .byte) .nil)) .nil)
def codec_Writer_Raw_b.run (N : Nat) (b : (List UInt8)) (b1 : (List UInt8)) : Option (((List UInt8) × Unit) × Unit) :=
  bif room (b.length + b1.length) 1 then
    some ((b ++ b1, ()), ())
  else none
def codec_Writer_Raw_b.fn (N : Nat) (x : Sh.den codec_Writer_Raw_b.ins) : Option (Sh.den codec_Writer_Raw_b.outs) := codec_Writer_Raw_b.run N x.1.1 x.2.1
def codec_Writer_Raw_b.S (N : Nat) : Fs := ⟨codec_Writer_Raw_b.ins, codec_Writer_Raw_b.outs, codec_Writer_Raw_b.fn N⟩
def codec_Writer_Raw_b.lam (N : Nat) : Pcs := pcs []
theorem codec_Writer_Raw_b.pok (N : Nat) : (codec_Writer_Raw_b.lam N).Ok Try.prog (codec_Writer_Raw_b.C N) codec_Writer_Raw_b.code := pcsOk_nil
theorem codec_Writer_Raw_b.ev (N : Nat) (x : Sh.den codec_Writer_Raw_b.ins) : evC (codec_Writer_Raw_b.C N) codec_Writer_Raw_b.code (codec_Writer_Raw_b.lam N) ⟨envOf 0 (bld (fun k => k) codec_Writer_Raw_b.ins x 0).1, (bld (fun k => k) codec_Writer_Raw_b.ins x 0).2.1, 1000⟩ (endF U codec_Writer_Raw_b.outs Try.f72.results.toList []) = codec_Writer_Raw_b.fn N x := by kernel_rfl
theorem codec_Writer_Raw_b.ok (N : Nat) : (codec_Writer_Raw_b.S N).con.Ok Try.prog 72 := fn_ok (F := codec_Writer_Raw_b.S N) (n0 := 1000) Try.func72 (by kernel_rfl) (show Try.f72.body = some codec_Writer_Raw_b.code by rfl) mix (codec_Writer_Raw_b.cok N) (fun _ => rfl) (fun _ => rfl) (codec_Writer_Raw_b.pok N) (fun x y h => (codec_Writer_Raw_b.ev N x).trans h)
/-- hayloft/codec.Frame -/
def codec_Frame.ins : Sh := (.cons (.rown 5 .byte) .nil)
def codec_Frame.C (N : Nat) : Ctx := ⟨U, 30, fun _ => true, gam [(34, (codec_New.S N).con), (71, (codec_Writer_Word.S N).con), (60, (codec_Sum_b.S N).con), (72, (codec_Writer_Raw_b.S N).con), (38, (codec_Writer_Bytes.S N).con)], gamY []⟩
theorem codec_Frame.cok (N : Nat) : (codec_Frame.C N).Ok Try.prog := ⟨U_ok, GamOk.cons (codec_New.ok N) (GamOk.cons (codec_Writer_Word.ok N) (GamOk.cons (codec_Sum_b.ok N) (GamOk.cons (codec_Writer_Raw_b.ok N) (GamOk.cons (codec_Writer_Bytes.ok N) (GamOk.nil))))), GamYOk.nil⟩
def codec_Frame.code : Code := Try.f37.body.getD .skip
def codec_Frame.outs : Sh := (.cons (.own 5 .byte) (.cons (.val (.int .i64)) .nil))
def codec_Frame.run (N : Nat) (b : (List UInt8)) : Option ((List UInt8) × Int × Unit) :=
  bif decide ((b.length : Int) > (16777216 : Int)) then
    some (([] : List UInt8), (12 : Int), ())
  else
    obind (codec_New.run N) fun ((b1, _), _) =>
      obind (codec_Writer_Word.run N b1 (IntKind.u32.wrap (b.length : Int))) fun ((b2, _), _) =>
        obind (codec_Sum_b.run N b2) fun (n_, _) =>
          obind (codec_Writer_Word.run N b2 n_) fun ((b3, _), _) =>
            obind (codec_Writer_Raw_b.run N b3 b) fun ((b4, _), _) =>
              obind (codec_Sum_b.run N b) fun (n1, _) =>
                obind (codec_Writer_Word.run N b4 n1) fun ((b5, _), _) =>
                  obind (codec_Writer_Bytes.run N b5) fun (l, _) =>
                    some (l, (0 : Int), ())
def codec_Frame.fn (N : Nat) (x : Sh.den codec_Frame.ins) : Option (Sh.den codec_Frame.outs) := codec_Frame.run N x.1
def codec_Frame.S (N : Nat) : Fs := ⟨codec_Frame.ins, codec_Frame.outs, codec_Frame.fn N⟩
def codec_Frame.lam (N : Nat) : Pcs := pcs []
theorem codec_Frame.pok (N : Nat) : (codec_Frame.lam N).Ok Try.prog (codec_Frame.C N) codec_Frame.code := pcsOk_nil
theorem codec_Frame.ev (N : Nat) (x : Sh.den codec_Frame.ins) : evC (codec_Frame.C N) codec_Frame.code (codec_Frame.lam N) ⟨envOf 0 (bld (fun k => k) codec_Frame.ins x 0).1, (bld (fun k => k) codec_Frame.ins x 0).2.1, 1000⟩ (endF U codec_Frame.outs Try.f37.results.toList []) = codec_Frame.fn N x := by kernel_rfl
theorem codec_Frame.ok (N : Nat) : (codec_Frame.S N).con.Ok Try.prog 37 := fn_ok (F := codec_Frame.S N) (n0 := 1000) Try.func37 (by kernel_rfl) (show Try.f37.body = some codec_Frame.code by rfl) mix (codec_Frame.cok N) (fun _ => rfl) (fun _ => rfl) (codec_Frame.pok N) (fun x y h => (codec_Frame.ev N x).trans h)
/-- hayloft/redo.Frames -/
def redo_Frames.ins : Sh := (.cons (.val (.slice (.slice .byte))) .nil)
def redo_Frames.C (N : Nat) : Ctx := ⟨U, 36, fun _ => true, gam [(34, (codec_New.S N).con), (35, (codec_Put_byte.S N).con), (38, (codec_Writer_Bytes.S N).con), (37, (codec_Frame.S N).con)], gamY []⟩
theorem redo_Frames.cok (N : Nat) : (redo_Frames.C N).Ok Try.prog := ⟨U_ok, GamOk.cons (codec_New.ok N) (GamOk.cons (codec_Put_byte.ok N) (GamOk.cons (codec_Writer_Bytes.ok N) (GamOk.cons (codec_Frame.ok N) (GamOk.nil)))), GamYOk.nil⟩
def redo_Frames.code : Code := Try.f11.body.getD .skip
def redo_Frames_0.ins : Sh := (.cons (.val (.int .i64)) (.cons (.val (.slice (.slice .byte))) (.cons (.val (.int .i64)) (.cons (.val (.int .i64)) .nil))))
def redo_Frames_0.ts : List Tmp := [4, 10, 11, 12]
def redo_Frames_0.asg : List Tmp := [2, 3, 4, 6, 12, 13, 14, 15, 16, 17, 18, 19, 20, 21, 22]
def redo_Frames_0.C (N : Nat) : Ctx := { redo_Frames.C N with may := fun t => redo_Frames_0.asg.any (Nat.beq t) }
def redo_Frames_0.code : Code := loopBody (sub redo_Frames.code [true, true, false, true, false])
theorem redo_Frames_0.cok (N : Nat) : (redo_Frames_0.C N).Ok Try.prog := ⟨(redo_Frames.cok N).U, (redo_Frames.cok N).Γ, (redo_Frames.cok N).Y⟩
def redo_Frames_0.alts : List Alt := [⟨.ret, [2, 3], (.cons (.own 5 .byte) (.cons (.val (.int .i64)) .nil))⟩, ⟨(.exit 0), [], .nil⟩]
def redo_Frames_0.go (N : Nat) : Nat → Int → (List (List UInt8)) → Int → Int → Option (((List UInt8) × Int × Unit) ⊕ Unit)
  | 0, _, _, _, _ => none
  | fuel + 1, many, t10, t11, t12 =>
    bif decide (t12 < t11) then
      bif inB t12 t10.length then
        bif decide ((IntKind.i64.wrap (many + ((t10.getD t12.toNat ([] : List UInt8)).length : Int))) > (16777216 : Int)) then
          some (.inl (([] : List UInt8), (90 : Int), ()))
        else redo_Frames_0.go N fuel (IntKind.i64.wrap (many + ((t10.getD t12.toNat ([] : List UInt8)).length : Int))) t10 t11 (IntKind.i64.wrap (t12 + (1 : Int)))
      else none
    else some (.inr ())
def redo_Frames_0.g (N n : Nat) (x : Sh.den redo_Frames_0.ins) : Option (altsDen redo_Frames_0.alts) := redo_Frames_0.go N n x.1 x.2.1 x.2.2.1 x.2.2.2.1
def redo_Frames_0.P (N : Nat) : Ps := ⟨redo_Frames_0.ts, redo_Frames_0.ins, redo_Frames_0.asg, redo_Frames_0.alts, redo_Frames_0.g N N⟩
def redo_Frames_0.lam (N : Nat) : Pcs := pcs []
theorem redo_Frames_0.pok (N : Nat) : (redo_Frames_0.lam N).Ok Try.prog (redo_Frames_0.C N) redo_Frames_0.code := pcsOk_nil
theorem redo_Frames_0.ev (N n : Nat) (x : Sh.den redo_Frames_0.ins) : evC (redo_Frames_0.C N) redo_Frames_0.code (redo_Frames_0.lam N) ((redo_Frames_0.P N).canon 1000 x) (loopK (redo_Frames_0.P N) (redo_Frames_0.g N n)) = redo_Frames_0.g N (n + 1) x := by kernel_rfl
theorem redo_Frames_0.ok (N : Nat) : ((redo_Frames_0.P N).pc (redo_Frames.C N)).Ok Try.prog (redo_Frames.C N) (.loop redo_Frames_0.code) := loop_ok (F := redo_Frames_0.P N) (n0 := 1000) (N := N) (redo_Frames.cok N) mix (redo_Frames_0.pok N) (redo_Frames_0.g N) (fun x => by rfl) rfl (fun n x y h => (redo_Frames_0.ev N n x).trans h)
def redo_Frames.outs : Sh := (.cons (.own 5 .byte) (.cons (.val (.int .i64)) .nil))
def redo_Frames.run (N : Nat) (records : (List (List UInt8))) : Option ((List UInt8) × Int × Unit) :=
  obind (redo_Frames_0.go N N (0 : Int) records (records.length : Int) (0 : Int)) fun y => match y with
  | .inl (t2, t3, _) =>
      some (t2, t3, ())
  | .inr (_) =>
      obind (codec_New.run N) fun ((b, _), _) =>
        obind (codec_Put_byte.run N b records) fun ((b1, _), _) =>
          obind (codec_Writer_Bytes.run N b1) fun (l, _) =>
            obind (codec_Frame.run N l) fun (l1, n_, _) =>
              bif !(decide (n_ = (0 : Int))) then
                some (([] : List UInt8), (90 : Int), ())
              else some (l1, (0 : Int), ())
def redo_Frames.fn (N : Nat) (x : Sh.den redo_Frames.ins) : Option (Sh.den redo_Frames.outs) := redo_Frames.run N x.1
def redo_Frames.S (N : Nat) : Fs := ⟨redo_Frames.ins, redo_Frames.outs, redo_Frames.fn N⟩
def redo_Frames.lam (N : Nat) : Pcs := pcs [([true, true, false, true, false], (redo_Frames_0.P N).pc (redo_Frames.C N))]
theorem redo_Frames.pok (N : Nat) : (redo_Frames.lam N).Ok Try.prog (redo_Frames.C N) redo_Frames.code := pcsOk_cons (c1 := .loop redo_Frames_0.code) (by kernel_rfl) (redo_Frames_0.ok N) (pcsOk_nil)
theorem redo_Frames.ev (N : Nat) (x : Sh.den redo_Frames.ins) : evC (redo_Frames.C N) redo_Frames.code (redo_Frames.lam N) ⟨envOf 0 (bld (fun k => k) redo_Frames.ins x 0).1, (bld (fun k => k) redo_Frames.ins x 0).2.1, 1000⟩ (endF U redo_Frames.outs Try.f11.results.toList []) = redo_Frames.fn N x := by kernel_rfl
theorem redo_Frames.ok (N : Nat) : (redo_Frames.S N).con.Ok Try.prog 11 := fn_ok (F := redo_Frames.S N) (n0 := 1000) Try.func11 (by kernel_rfl) (show Try.f11.body = some redo_Frames.code by rfl) mix (redo_Frames.cok N) (fun _ => rfl) (fun _ => rfl) (redo_Frames.pok N) (fun x y h => (redo_Frames.ev N x).trans h)
/-- hayloft/hayloftref01.Text -/
def ref_Text.ins : Sh := (.cons (.val (.slice .byte)) .nil)
def ref_Text.C (N : Nat) : Ctx := ⟨U, 12, fun _ => true, gam [(39, (ref_Var.S N).con)], gamY []⟩
theorem ref_Text.cok (N : Nat) : (ref_Text.C N).Ok Try.prog := ⟨U_ok, GamOk.cons (ref_Var.ok N) (GamOk.nil), GamYOk.nil⟩
def ref_Text.code : Code := Try.f40.body.getD .skip
def ref_Text.outs : Sh := (.cons (.own 5 .byte) .nil)
def ref_Text.run (N : Nat) (b : (List UInt8)) : Option ((List UInt8) × Unit) :=
  obind (ref_Var.run N (IntKind.u64.wrap (b.length : Int))) fun (l, _) =>
    bif room (l.length + b.length) 1 then
      some (l ++ b, ())
    else none
def ref_Text.fn (N : Nat) (x : Sh.den ref_Text.ins) : Option (Sh.den ref_Text.outs) := ref_Text.run N x.1
def ref_Text.S (N : Nat) : Fs := ⟨ref_Text.ins, ref_Text.outs, ref_Text.fn N⟩
def ref_Text.lam (N : Nat) : Pcs := pcs []
theorem ref_Text.pok (N : Nat) : (ref_Text.lam N).Ok Try.prog (ref_Text.C N) ref_Text.code := pcsOk_nil
theorem ref_Text.ev (N : Nat) (x : Sh.den ref_Text.ins) : evC (ref_Text.C N) ref_Text.code (ref_Text.lam N) ⟨envOf 0 (bld (fun k => k) ref_Text.ins x 0).1, (bld (fun k => k) ref_Text.ins x 0).2.1, 1000⟩ (endF U ref_Text.outs Try.f40.results.toList []) = ref_Text.fn N x := by kernel_rfl
theorem ref_Text.ok (N : Nat) : (ref_Text.S N).con.Ok Try.prog 40 := fn_ok (F := ref_Text.S N) (n0 := 1000) Try.func40 (by kernel_rfl) (show Try.f40.body = some ref_Text.code by rfl) mix (ref_Text.cok N) (fun _ => rfl) (fun _ => rfl) (ref_Text.pok N) (fun x y h => (ref_Text.ev N x).trans h)
/-- hayloft/hayloftref01.Sum -/
def ref_Sum_b.ins : Sh := (.cons (.rown 5 .byte) .nil)
def ref_Sum_b.C (N : Nat) : Ctx := ⟨U, 33, fun _ => true, gam [], gamY []⟩
theorem ref_Sum_b.cok (N : Nat) : (ref_Sum_b.C N).Ok Try.prog := ⟨U_ok, GamOk.nil, GamYOk.nil⟩
def ref_Sum_b.code : Code := Try.f65.body.getD .skip
def ref_Sum_b_0.ins : Sh := (.cons (.rown 5 .byte) (.cons (.val (.int .u32)) (.cons (.val (.int .i64)) .nil)))
def ref_Sum_b_0.ts : List Tmp := [0, 3, 4]
def ref_Sum_b_0.asg : List Tmp := [3, 4, 5, 6, 7, 8, 9, 10, 11, 12, 13, 14, 15, 16, 17, 18, 19, 20, 21, 22, 23, 24, 25, 26, 27, 28, 29, 30]
def ref_Sum_b_0.C (N : Nat) : Ctx := { ref_Sum_b.C N with may := fun t => ref_Sum_b_0.asg.any (Nat.beq t) }
def ref_Sum_b_0.code : Code := loopBody (sub ref_Sum_b.code [true, true, false, true, false])
theorem ref_Sum_b_0.cok (N : Nat) : (ref_Sum_b_0.C N).Ok Try.prog := ⟨(ref_Sum_b.cok N).U, (ref_Sum_b.cok N).Γ, (ref_Sum_b.cok N).Y⟩
def ref_Sum_b_0_0.ins : Sh := (.cons (.val (.int .u32)) (.cons (.val (.int .i64)) .nil))
def ref_Sum_b_0_0.ts : List Tmp := [3, 5]
def ref_Sum_b_0_0.asg : List Tmp := [3, 5, 19, 20, 21, 22, 23, 24, 25, 26, 27, 28, 29, 30]
def ref_Sum_b_0_0.C (N : Nat) : Ctx := { ref_Sum_b_0.C N with may := fun t => ref_Sum_b_0_0.asg.any (Nat.beq t) }
def ref_Sum_b_0_0.code : Code := loopBody (sub ref_Sum_b_0.code [true, false, false, true, true, false])
theorem ref_Sum_b_0_0.cok (N : Nat) : (ref_Sum_b_0_0.C N).Ok Try.prog := ⟨(ref_Sum_b_0.cok N).U, (ref_Sum_b_0.cok N).Γ, (ref_Sum_b_0.cok N).Y⟩
def ref_Sum_b_0_0.alts : List Alt := [⟨(.exit 2), [3], (.cons (.val (.int .u32)) .nil)⟩]
def ref_Sum_b_0_0.go (N : Nat) : Nat → Int → Int → Option ((Int × Unit))
  | 0, _, _ => none
  | fuel + 1, r, k =>
    bif decide (k < (8 : Int)) then
      bif decide ((r.tmod (2 : Int)) = (1 : Int)) then
        ref_Sum_b_0_0.go N fuel (IntKind.u32.wrap ((BitVec.ofInt 32 (IntKind.u32.wrap (r.tdiv (2 : Int))) ^^^ BitVec.ofInt 32 (3988292384 : Int)).toNat : Int)) (IntKind.i64.wrap (k + (1 : Int)))
      else ref_Sum_b_0_0.go N fuel (IntKind.u32.wrap (r.tdiv (2 : Int))) (IntKind.i64.wrap (k + (1 : Int)))
    else some (r, ())
def ref_Sum_b_0_0.g (N n : Nat) (x : Sh.den ref_Sum_b_0_0.ins) : Option (altsDen ref_Sum_b_0_0.alts) := ref_Sum_b_0_0.go N n x.1 x.2.1
def ref_Sum_b_0_0.P (N : Nat) : Ps := ⟨ref_Sum_b_0_0.ts, ref_Sum_b_0_0.ins, ref_Sum_b_0_0.asg, ref_Sum_b_0_0.alts, ref_Sum_b_0_0.g N N⟩
def ref_Sum_b_0_0.lam (N : Nat) : Pcs := pcs []
theorem ref_Sum_b_0_0.pok (N : Nat) : (ref_Sum_b_0_0.lam N).Ok Try.prog (ref_Sum_b_0_0.C N) ref_Sum_b_0_0.code := pcsOk_nil
theorem ref_Sum_b_0_0.ev (N n : Nat) (x : Sh.den ref_Sum_b_0_0.ins) : evC (ref_Sum_b_0_0.C N) ref_Sum_b_0_0.code (ref_Sum_b_0_0.lam N) ((ref_Sum_b_0_0.P N).canon 1000 x) (loopK (ref_Sum_b_0_0.P N) (ref_Sum_b_0_0.g N n)) = ref_Sum_b_0_0.g N (n + 1) x := by kernel_rfl
theorem ref_Sum_b_0_0.ok (N : Nat) : ((ref_Sum_b_0_0.P N).pc (ref_Sum_b_0.C N)).Ok Try.prog (ref_Sum_b_0.C N) (.loop ref_Sum_b_0_0.code) := loop_ok (F := ref_Sum_b_0_0.P N) (n0 := 1000) (N := N) (ref_Sum_b_0.cok N) mix (ref_Sum_b_0_0.pok N) (ref_Sum_b_0_0.g N) (fun x => by rfl) rfl (fun n x y h => (ref_Sum_b_0_0.ev N n x).trans h)
def ref_Sum_b_0.alts : List Alt := [⟨(.exit 0), [3], (.cons (.val (.int .u32)) .nil)⟩]
def ref_Sum_b_0.go (N : Nat) : Nat → (List UInt8) → Int → Int → Option ((Int × Unit))
  | 0, _, _, _ => none
  | fuel + 1, b, r, i =>
    bif decide (i < (b.length : Int)) then
      bif inB i b.length then
        bif decide (i.toNat < b.length) then
          obind (ref_Sum_b_0_0.go N N (IntKind.u32.wrap ((BitVec.ofInt 32 r ^^^ BitVec.ofInt 32 (IntKind.u32.wrap ((b.getD i.toNat (0 : UInt8)).toNat : Int))).toNat : Int)) (0 : Int)) fun (r1, _) =>
            ref_Sum_b_0.go N fuel b r1 (IntKind.i64.wrap (i + (1 : Int)))
        else none
      else none
    else some (r, ())
def ref_Sum_b_0.g (N n : Nat) (x : Sh.den ref_Sum_b_0.ins) : Option (altsDen ref_Sum_b_0.alts) := ref_Sum_b_0.go N n x.1 x.2.1 x.2.2.1
def ref_Sum_b_0.P (N : Nat) : Ps := ⟨ref_Sum_b_0.ts, ref_Sum_b_0.ins, ref_Sum_b_0.asg, ref_Sum_b_0.alts, ref_Sum_b_0.g N N⟩
def ref_Sum_b_0.lam (N : Nat) : Pcs := pcs [([true, false, false, true, true, false], (ref_Sum_b_0_0.P N).pc (ref_Sum_b_0.C N))]
theorem ref_Sum_b_0.pok (N : Nat) : (ref_Sum_b_0.lam N).Ok Try.prog (ref_Sum_b_0.C N) ref_Sum_b_0.code := pcsOk_cons (c1 := .loop ref_Sum_b_0_0.code) (by kernel_rfl) (ref_Sum_b_0_0.ok N) (pcsOk_nil)
theorem ref_Sum_b_0.ev (N n : Nat) (x : Sh.den ref_Sum_b_0.ins) : evC (ref_Sum_b_0.C N) ref_Sum_b_0.code (ref_Sum_b_0.lam N) ((ref_Sum_b_0.P N).canon 1000 x) (loopK (ref_Sum_b_0.P N) (ref_Sum_b_0.g N n)) = ref_Sum_b_0.g N (n + 1) x := by kernel_rfl
theorem ref_Sum_b_0.ok (N : Nat) : ((ref_Sum_b_0.P N).pc (ref_Sum_b.C N)).Ok Try.prog (ref_Sum_b.C N) (.loop ref_Sum_b_0.code) := loop_ok (F := ref_Sum_b_0.P N) (n0 := 1000) (N := N) (ref_Sum_b.cok N) mix (ref_Sum_b_0.pok N) (ref_Sum_b_0.g N) (fun x => by rfl) rfl (fun n x y h => (ref_Sum_b_0.ev N n x).trans h)
def ref_Sum_b.outs : Sh := (.cons (.val (.int .u32)) .nil)
def ref_Sum_b.run (N : Nat) (b : (List UInt8)) : Option (Int × Unit) :=
  obind (ref_Sum_b_0.go N N b (4294967295 : Int) (0 : Int)) fun (r, _) =>
    some (IntKind.u32.wrap ((BitVec.ofInt 32 r ^^^ BitVec.ofInt 32 (4294967295 : Int)).toNat : Int), ())
def ref_Sum_b.fn (N : Nat) (x : Sh.den ref_Sum_b.ins) : Option (Sh.den ref_Sum_b.outs) := ref_Sum_b.run N x.1
def ref_Sum_b.S (N : Nat) : Fs := ⟨ref_Sum_b.ins, ref_Sum_b.outs, ref_Sum_b.fn N⟩
def ref_Sum_b.lam (N : Nat) : Pcs := pcs [([true, true, false, true, false], (ref_Sum_b_0.P N).pc (ref_Sum_b.C N))]
theorem ref_Sum_b.pok (N : Nat) : (ref_Sum_b.lam N).Ok Try.prog (ref_Sum_b.C N) ref_Sum_b.code := pcsOk_cons (c1 := .loop ref_Sum_b_0.code) (by kernel_rfl) (ref_Sum_b_0.ok N) (pcsOk_nil)
theorem ref_Sum_b.ev (N : Nat) (x : Sh.den ref_Sum_b.ins) : evC (ref_Sum_b.C N) ref_Sum_b.code (ref_Sum_b.lam N) ⟨envOf 0 (bld (fun k => k) ref_Sum_b.ins x 0).1, (bld (fun k => k) ref_Sum_b.ins x 0).2.1, 1000⟩ (endF U ref_Sum_b.outs Try.f65.results.toList []) = ref_Sum_b.fn N x := by kernel_rfl
theorem ref_Sum_b.ok (N : Nat) : (ref_Sum_b.S N).con.Ok Try.prog 65 := fn_ok (F := ref_Sum_b.S N) (n0 := 1000) Try.func65 (by kernel_rfl) (show Try.f65.body = some ref_Sum_b.code by rfl) mix (ref_Sum_b.cok N) (fun _ => rfl) (fun _ => rfl) (ref_Sum_b.pok N) (fun x y h => (ref_Sum_b.ev N x).trans h)
/-- hayloft/hayloftref01.Frame -/
def ref_Frame.ins : Sh := (.cons (.rown 5 .byte) .nil)
def ref_Frame.C (N : Nat) : Ctx := ⟨U, 28, fun _ => true, gam [(73, (ref_Number.S N).con), (65, (ref_Sum_b.S N).con)], gamY []⟩
theorem ref_Frame.cok (N : Nat) : (ref_Frame.C N).Ok Try.prog := ⟨U_ok, GamOk.cons (ref_Number.ok N) (GamOk.cons (ref_Sum_b.ok N) (GamOk.nil)), GamYOk.nil⟩
def ref_Frame.code : Code := Try.f41.body.getD .skip
def ref_Frame.outs : Sh := (.cons (.own 5 .byte) (.cons (.val (.int .i64)) .nil))
def ref_Frame.run (N : Nat) (b : (List UInt8)) : Option ((List UInt8) × Int × Unit) :=
  bif decide ((b.length : Int) > (16777216 : Int)) then
    some (([] : List UInt8), (12 : Int), ())
  else
    obind (ref_Number.run N (IntKind.u64.wrap (b.length : Int)) (4 : Int)) fun (l, _) =>
      obind (ref_Sum_b.run N l) fun (n_, _) =>
        obind (ref_Number.run N (IntKind.u64.wrap n_) (4 : Int)) fun (l1, _) =>
          bif room (l.length + l1.length) 1 then
            bif room ((l ++ l1).length + b.length) 1 then
              obind (ref_Sum_b.run N b) fun (n1, _) =>
                obind (ref_Number.run N (IntKind.u64.wrap n1) (4 : Int)) fun (l2, _) =>
                  bif room (((l ++ l1) ++ b).length + l2.length) 1 then
                    some (((l ++ l1) ++ b) ++ l2, (0 : Int), ())
                  else none
            else none
          else none
def ref_Frame.fn (N : Nat) (x : Sh.den ref_Frame.ins) : Option (Sh.den ref_Frame.outs) := ref_Frame.run N x.1
def ref_Frame.S (N : Nat) : Fs := ⟨ref_Frame.ins, ref_Frame.outs, ref_Frame.fn N⟩
def ref_Frame.lam (N : Nat) : Pcs := pcs []
theorem ref_Frame.pok (N : Nat) : (ref_Frame.lam N).Ok Try.prog (ref_Frame.C N) ref_Frame.code := pcsOk_nil
theorem ref_Frame.ev (N : Nat) (x : Sh.den ref_Frame.ins) : evC (ref_Frame.C N) ref_Frame.code (ref_Frame.lam N) ⟨envOf 0 (bld (fun k => k) ref_Frame.ins x 0).1, (bld (fun k => k) ref_Frame.ins x 0).2.1, 1000⟩ (endF U ref_Frame.outs Try.f41.results.toList []) = ref_Frame.fn N x := by kernel_rfl
theorem ref_Frame.ok (N : Nat) : (ref_Frame.S N).con.Ok Try.prog 41 := fn_ok (F := ref_Frame.S N) (n0 := 1000) Try.func41 (by kernel_rfl) (show Try.f41.body = some ref_Frame.code by rfl) mix (ref_Frame.cok N) (fun _ => rfl) (fun _ => rfl) (ref_Frame.pok N) (fun x y h => (ref_Frame.ev N x).trans h)
/-- hayloft/hayloftref09.Frames -/
def ref_Frames.ins : Sh := (.cons (.val (.slice (.slice .byte))) .nil)
def ref_Frames.C (N : Nat) : Ctx := ⟨U, 50, fun _ => true, gam [(39, (ref_Var.S N).con), (40, (ref_Text.S N).con), (41, (ref_Frame.S N).con)], gamY []⟩
theorem ref_Frames.cok (N : Nat) : (ref_Frames.C N).Ok Try.prog := ⟨U_ok, GamOk.cons (ref_Var.ok N) (GamOk.cons (ref_Text.ok N) (GamOk.cons (ref_Frame.ok N) (GamOk.nil))), GamYOk.nil⟩
def ref_Frames.code : Code := Try.f12.body.getD .skip
def ref_Frames_0.ins : Sh := (.cons (.val (.slice (.slice .byte))) (.cons (.val (.int .i64)) (.cons (.val (.int .i64)) .nil)))
def ref_Frames_0.ts : List Tmp := [0, 4, 5]
def ref_Frames_0.asg : List Tmp := [2, 3, 4, 5, 10, 11, 12, 13, 14, 15, 16, 17, 18, 19, 20, 21, 22, 23, 24]
def ref_Frames_0.C (N : Nat) : Ctx := { ref_Frames.C N with may := fun t => ref_Frames_0.asg.any (Nat.beq t) }
def ref_Frames_0.code : Code := loopBody (sub ref_Frames.code [true, true, false, true, false])
theorem ref_Frames_0.cok (N : Nat) : (ref_Frames_0.C N).Ok Try.prog := ⟨(ref_Frames.cok N).U, (ref_Frames.cok N).Γ, (ref_Frames.cok N).Y⟩
def ref_Frames_0.alts : List Alt := [⟨.ret, [2, 3], (.cons (.own 5 .byte) (.cons (.val (.int .i64)) .nil))⟩, ⟨(.exit 0), [], .nil⟩]
def ref_Frames_0.go (N : Nat) : Nat → (List (List UInt8)) → Int → Int → Option (((List UInt8) × Int × Unit) ⊕ Unit)
  | 0, _, _, _ => none
  | fuel + 1, records, n_, i =>
    bif decide (i < (records.length : Int)) then
      bif inB i records.length then
        bif decide ((IntKind.i64.wrap (n_ + ((records.getD i.toNat ([] : List UInt8)).length : Int))) > (16777216 : Int)) then
          some (.inl (([] : List UInt8), (90 : Int), ()))
        else ref_Frames_0.go N fuel records (IntKind.i64.wrap (n_ + ((records.getD i.toNat ([] : List UInt8)).length : Int))) (IntKind.i64.wrap (i + (1 : Int)))
      else none
    else some (.inr ())
def ref_Frames_0.g (N n : Nat) (x : Sh.den ref_Frames_0.ins) : Option (altsDen ref_Frames_0.alts) := ref_Frames_0.go N n x.1 x.2.1 x.2.2.1
def ref_Frames_0.P (N : Nat) : Ps := ⟨ref_Frames_0.ts, ref_Frames_0.ins, ref_Frames_0.asg, ref_Frames_0.alts, ref_Frames_0.g N N⟩
def ref_Frames_0.lam (N : Nat) : Pcs := pcs []
theorem ref_Frames_0.pok (N : Nat) : (ref_Frames_0.lam N).Ok Try.prog (ref_Frames_0.C N) ref_Frames_0.code := pcsOk_nil
theorem ref_Frames_0.ev (N n : Nat) (x : Sh.den ref_Frames_0.ins) : evC (ref_Frames_0.C N) ref_Frames_0.code (ref_Frames_0.lam N) ((ref_Frames_0.P N).canon 1000 x) (loopK (ref_Frames_0.P N) (ref_Frames_0.g N n)) = ref_Frames_0.g N (n + 1) x := by kernel_rfl
theorem ref_Frames_0.ok (N : Nat) : ((ref_Frames_0.P N).pc (ref_Frames.C N)).Ok Try.prog (ref_Frames.C N) (.loop ref_Frames_0.code) := loop_ok (F := ref_Frames_0.P N) (n0 := 1000) (N := N) (ref_Frames.cok N) mix (ref_Frames_0.pok N) (ref_Frames_0.g N) (fun x => by rfl) rfl (fun n x y h => (ref_Frames_0.ev N n x).trans h)
def ref_Frames_1.ins : Sh := (.cons (.val (.slice (.slice .byte))) (.cons (.own 5 .byte) (.cons (.val (.int .i64)) .nil)))
def ref_Frames_1.ts : List Tmp := [0, 6, 7]
def ref_Frames_1.asg : List Tmp := [6, 7, 29, 30, 31, 32, 33, 34, 35, 36, 37, 38, 39, 40, 41]
def ref_Frames_1.C (N : Nat) : Ctx := { ref_Frames.C N with may := fun t => ref_Frames_1.asg.any (Nat.beq t) }
def ref_Frames_1.code : Code := loopBody (sub ref_Frames.code [true, true, true, true, false, true, false])
theorem ref_Frames_1.cok (N : Nat) : (ref_Frames_1.C N).Ok Try.prog := ⟨(ref_Frames.cok N).U, (ref_Frames.cok N).Γ, (ref_Frames.cok N).Y⟩
def ref_Frames_1.alts : List Alt := [⟨(.exit 2), [6], (.cons (.own 5 .byte) .nil)⟩]
def ref_Frames_1.go (N : Nat) : Nat → (List (List UInt8)) → (List UInt8) → Int → Option (((List UInt8) × Unit))
  | 0, _, _, _ => none
  | fuel + 1, records, b, i =>
    bif decide (i < (records.length : Int)) then
      bif inB i records.length then
        obind (ref_Text.run N (records.getD i.toNat ([] : List UInt8))) fun (l, _) =>
          bif room (b.length + l.length) 1 then
            ref_Frames_1.go N fuel records (b ++ l) (IntKind.i64.wrap (i + (1 : Int)))
          else none
      else none
    else some (b, ())
def ref_Frames_1.g (N n : Nat) (x : Sh.den ref_Frames_1.ins) : Option (altsDen ref_Frames_1.alts) := ref_Frames_1.go N n x.1 x.2.1 x.2.2.1
def ref_Frames_1.P (N : Nat) : Ps := ⟨ref_Frames_1.ts, ref_Frames_1.ins, ref_Frames_1.asg, ref_Frames_1.alts, ref_Frames_1.g N N⟩
def ref_Frames_1.lam (N : Nat) : Pcs := pcs []
theorem ref_Frames_1.pok (N : Nat) : (ref_Frames_1.lam N).Ok Try.prog (ref_Frames_1.C N) ref_Frames_1.code := pcsOk_nil
theorem ref_Frames_1.ev (N n : Nat) (x : Sh.den ref_Frames_1.ins) : evC (ref_Frames_1.C N) ref_Frames_1.code (ref_Frames_1.lam N) ((ref_Frames_1.P N).canon 1000 x) (loopK (ref_Frames_1.P N) (ref_Frames_1.g N n)) = ref_Frames_1.g N (n + 1) x := by kernel_rfl
theorem ref_Frames_1.ok (N : Nat) : ((ref_Frames_1.P N).pc (ref_Frames.C N)).Ok Try.prog (ref_Frames.C N) (.loop ref_Frames_1.code) := loop_ok (F := ref_Frames_1.P N) (n0 := 1000) (N := N) (ref_Frames.cok N) mix (ref_Frames_1.pok N) (ref_Frames_1.g N) (fun x => by rfl) rfl (fun n x y h => (ref_Frames_1.ev N n x).trans h)
def ref_Frames.outs : Sh := (.cons (.own 5 .byte) (.cons (.val (.int .i64)) .nil))
def ref_Frames.run (N : Nat) (records : (List (List UInt8))) : Option ((List UInt8) × Int × Unit) :=
  obind (ref_Frames_0.go N N records (0 : Int) (0 : Int)) fun y => match y with
  | .inl (t2, t3, _) =>
      some (t2, t3, ())
  | .inr (_) =>
      obind (ref_Var.run N (IntKind.u64.wrap (records.length : Int))) fun (l, _) =>
        obind (ref_Frames_1.go N N records l (0 : Int)) fun (b, _) =>
          obind (ref_Frame.run N b) fun (l1, n_, _) =>
            bif !(decide (n_ = (0 : Int))) then
              some (([] : List UInt8), (90 : Int), ())
            else some (l1, (0 : Int), ())
def ref_Frames.fn (N : Nat) (x : Sh.den ref_Frames.ins) : Option (Sh.den ref_Frames.outs) := ref_Frames.run N x.1
def ref_Frames.S (N : Nat) : Fs := ⟨ref_Frames.ins, ref_Frames.outs, ref_Frames.fn N⟩
def ref_Frames.lam (N : Nat) : Pcs := pcs [([true, true, false, true, false], (ref_Frames_0.P N).pc (ref_Frames.C N)), ([true, true, true, true, false, true, false], (ref_Frames_1.P N).pc (ref_Frames.C N))]
theorem ref_Frames.pok (N : Nat) : (ref_Frames.lam N).Ok Try.prog (ref_Frames.C N) ref_Frames.code := pcsOk_cons (c1 := .loop ref_Frames_0.code) (by kernel_rfl) (ref_Frames_0.ok N) (pcsOk_cons (c1 := .loop ref_Frames_1.code) (by kernel_rfl) (ref_Frames_1.ok N) (pcsOk_nil))
theorem ref_Frames.ev (N : Nat) (x : Sh.den ref_Frames.ins) : evC (ref_Frames.C N) ref_Frames.code (ref_Frames.lam N) ⟨envOf 0 (bld (fun k => k) ref_Frames.ins x 0).1, (bld (fun k => k) ref_Frames.ins x 0).2.1, 1000⟩ (endF U ref_Frames.outs Try.f12.results.toList []) = ref_Frames.fn N x := by kernel_rfl
theorem ref_Frames.ok (N : Nat) : (ref_Frames.S N).con.Ok Try.prog 12 := fn_ok (F := ref_Frames.S N) (n0 := 1000) Try.func12 (by kernel_rfl) (show Try.f12.body = some ref_Frames.code by rfl) mix (ref_Frames.cok N) (fun _ => rfl) (fun _ => rfl) (ref_Frames.pok N) (fun x y h => (ref_Frames.ev N x).trans h)
/-- hayloft/disk.New -/
def disk_New.ins : Sh := (.cons (.val (.int .i64)) .nil)
def disk_New.C (N : Nat) : Ctx := ⟨U, 8, fun _ => true, gam [], gamY []⟩
theorem disk_New.cok (N : Nat) : (disk_New.C N).Ok Try.prog := ⟨U_ok, GamOk.nil, GamYOk.nil⟩
def disk_New.code : Code := Try.f15.body.getD .skip
def disk_New.outs : Sh := (.cons (.box 75 (.cons (.val (.int .i64)) (.cons (.val (.int .i64)) (.cons (.own 3000000 (.pair .str (.pair (.slice .byte) (.int .i64)))) (.cons (.val (.int .i64)) (.cons (.val (.int .i64)) (.cons (.val .bool) .nil))))))) .nil)
def disk_New.run (N : Nat) (room_ : Int) : Option ((Int × Int × (List ((List UInt8) × ((List UInt8) × Int))) × Int × Int × Bool × Unit) × Unit) :=
  some ((max room_ (0 : Int), (0 : Int), ([] : List ((List UInt8) × ((List UInt8) × Int))), (0 : Int), (-1 : Int), false, ()), ())
def disk_New.fn (N : Nat) (x : Sh.den disk_New.ins) : Option (Sh.den disk_New.outs) := disk_New.run N x.1
def disk_New.S (N : Nat) : Fs := ⟨disk_New.ins, disk_New.outs, disk_New.fn N⟩
def disk_New.lam (N : Nat) : Pcs := pcs []
theorem disk_New.pok (N : Nat) : (disk_New.lam N).Ok Try.prog (disk_New.C N) disk_New.code := pcsOk_nil
theorem disk_New.ev (N : Nat) (x : Sh.den disk_New.ins) : evC (disk_New.C N) disk_New.code (disk_New.lam N) ⟨envOf 0 (bld (fun k => k) disk_New.ins x 0).1, (bld (fun k => k) disk_New.ins x 0).2.1, 1000⟩ (endF U disk_New.outs Try.f15.results.toList []) = disk_New.fn N x := by kernel_rfl
theorem disk_New.ok (N : Nat) : (disk_New.S N).con.Ok Try.prog 15 := fn_ok (F := disk_New.S N) (n0 := 1000) Try.func15 (by kernel_rfl) (show Try.f15.body = some disk_New.code by rfl) mix (disk_New.cok N) (fun _ => rfl) (fun _ => rfl) (disk_New.pok N) (fun x y h => (disk_New.ev N x).trans h)
/-- (*hayloft/disk.Disk).Read -/
def disk_Disk_Read.ins : Sh := (.cons (.rbox 75 (.cons (.val (.int .i64)) (.cons (.val (.int .i64)) (.cons (.rown 3000000 (.pair .str (.pair (.slice .byte) (.int .i64)))) (.cons (.val (.int .i64)) (.cons (.val (.int .i64)) (.cons (.val .bool) .nil))))))) (.cons (.val .str) .nil))
def disk_Disk_Read.C (N : Nat) : Ctx := ⟨U, 21, fun _ => true, gam [(52, (slices_Clone_byte_byte.S N).con)], gamY []⟩
theorem disk_Disk_Read.cok (N : Nat) : (disk_Disk_Read.C N).Ok Try.prog := ⟨U_ok, GamOk.cons (slices_Clone_byte_byte.ok N) (GamOk.nil), GamYOk.nil⟩
def disk_Disk_Read.code : Code := Try.f21.body.getD .skip
def disk_Disk_Read.outs : Sh := (.cons (.own 5 .byte) (.cons (.val .bool) .nil))
def disk_Disk_Read.run (N : Nat) (room_ : Int) (used : Int) (files : (List ((List UInt8) × ((List UInt8) × Int)))) (steps : Int) (left : Int) (dead : Bool) (name : (List UInt8)) : Option ((List UInt8) × Bool × Unit) :=
  obind (slices_Clone_byte_byte.run N (mapGet files name (([] : List UInt8), (0 : Int))).1) fun (l, _) =>
    some (l, mapHas files name, ())
def disk_Disk_Read.fn (N : Nat) (x : Sh.den disk_Disk_Read.ins) : Option (Sh.den disk_Disk_Read.outs) := disk_Disk_Read.run N x.1.1 x.1.2.1 x.1.2.2.1 x.1.2.2.2.1 x.1.2.2.2.2.1 x.1.2.2.2.2.2.1 x.2.1
def disk_Disk_Read.S (N : Nat) : Fs := ⟨disk_Disk_Read.ins, disk_Disk_Read.outs, disk_Disk_Read.fn N⟩
def disk_Disk_Read.lam (N : Nat) : Pcs := pcs []
theorem disk_Disk_Read.pok (N : Nat) : (disk_Disk_Read.lam N).Ok Try.prog (disk_Disk_Read.C N) disk_Disk_Read.code := pcsOk_nil
theorem disk_Disk_Read.ev (N : Nat) (x : Sh.den disk_Disk_Read.ins) : evC (disk_Disk_Read.C N) disk_Disk_Read.code (disk_Disk_Read.lam N) ⟨envOf 0 (bld (fun k => k) disk_Disk_Read.ins x 0).1, (bld (fun k => k) disk_Disk_Read.ins x 0).2.1, 1000⟩ (endF U disk_Disk_Read.outs Try.f21.results.toList []) = disk_Disk_Read.fn N x := by kernel_rfl
theorem disk_Disk_Read.ok (N : Nat) : (disk_Disk_Read.S N).con.Ok Try.prog 21 := fn_ok (F := disk_Disk_Read.S N) (n0 := 1000) Try.func21 (by kernel_rfl) (show Try.f21.body = some disk_Disk_Read.code by rfl) mix (disk_Disk_Read.cok N) (fun _ => rfl) (fun _ => rfl) (disk_Disk_Read.pok N) (fun x y h => (disk_Disk_Read.ev N x).trans h)
/-- hayloft/disk.fine -/
def disk_fine.ins : Sh := (.cons (.val (.pair (.slice .byte) (.int .i64))) .nil)
def disk_fine.C (N : Nat) : Ctx := ⟨U, 3, fun _ => true, gam [], gamY []⟩
theorem disk_fine.cok (N : Nat) : (disk_fine.C N).Ok Try.prog := ⟨U_ok, GamOk.nil, GamYOk.nil⟩
def disk_fine.code : Code := Try.f75.body.getD .skip
def disk_fine.outs : Sh := (.cons (.val (.int .i64)) .nil)
def disk_fine.run (N : Nat) (f : ((List UInt8) × Int)) : Option (Int × Unit) :=
  some ((0 : Int), ())
def disk_fine.fn (N : Nat) (x : Sh.den disk_fine.ins) : Option (Sh.den disk_fine.outs) := disk_fine.run N x.1
def disk_fine.S (N : Nat) : Fs := ⟨disk_fine.ins, disk_fine.outs, disk_fine.fn N⟩
def disk_fine.lam (N : Nat) : Pcs := pcs []
theorem disk_fine.pok (N : Nat) : (disk_fine.lam N).Ok Try.prog (disk_fine.C N) disk_fine.code := pcsOk_nil
theorem disk_fine.ev (N : Nat) (x : Sh.den disk_fine.ins) : evC (disk_fine.C N) disk_fine.code (disk_fine.lam N) ⟨envOf 0 (bld (fun k => k) disk_fine.ins x 0).1, (bld (fun k => k) disk_fine.ins x 0).2.1, 1000⟩ (endF U disk_fine.outs Try.f75.results.toList []) = disk_fine.fn N x := by kernel_rfl
theorem disk_fine.ok (N : Nat) : (disk_fine.S N).con.Ok Try.prog 75 := fn_ok (F := disk_fine.S N) (n0 := 1000) Try.func75 (by kernel_rfl) (show Try.f75.body = some disk_fine.code by rfl) mix (disk_fine.cok N) (fun _ => rfl) (fun _ => rfl) (disk_fine.pok N) (fun x y h => (disk_fine.ev N x).trans h)
/-- (*hayloft/disk.Disk).step -/
def disk_Disk_step.ins : Sh := (.cons (.box 75 (.cons (.val (.int .i64)) (.cons (.val (.int .i64)) (.cons (.own 3000000 (.pair .str (.pair (.slice .byte) (.int .i64)))) (.cons (.val (.int .i64)) (.cons (.val (.int .i64)) (.cons (.val .bool) .nil))))))) .nil)
def disk_Disk_step.C (N : Nat) : Ctx := ⟨U, 28, fun _ => true, gam [], gamY []⟩
theorem disk_Disk_step.cok (N : Nat) : (disk_Disk_step.C N).Ok Try.prog := ⟨U_ok, GamOk.nil, GamYOk.nil⟩
def disk_Disk_step.code : Code := Try.f81.body.getD .skip
def disk_Disk_step.outs : Sh := (.cons (.upd 0 75 (.cons (.val (.int .i64)) (.cons (.val (.int .i64)) (.cons (.own 3000000 (.pair .str (.pair (.slice .byte) (.int .i64)))) (.cons (.val (.int .i64)) (.cons (.val (.int .i64)) (.cons (.val .bool) .nil))))))) (.cons (.val .bool) .nil))
def disk_Disk_step.run (N : Nat) (room_ : Int) (used : Int) (files : (List ((List UInt8) × ((List UInt8) × Int)))) (steps : Int) (left : Int) (dead : Bool) : Option ((Int × Int × (List ((List UInt8) × ((List UInt8) × Int))) × Int × Int × Bool × Unit) × Bool × Unit) :=
  bif decide (left = (-1 : Int)) then
    some ((room_, used, files, IntKind.i64.wrap (steps + (1 : Int)), left, dead, ()), false, ())
  else
    bif decide (left = (0 : Int)) then
      some ((room_, used, files, IntKind.i64.wrap (steps + (1 : Int)), left, true, ()), true, ())
    else some ((room_, used, files, IntKind.i64.wrap (steps + (1 : Int)), IntKind.i64.wrap (left - (1 : Int)), dead, ()), false, ())
def disk_Disk_step.fn (N : Nat) (x : Sh.den disk_Disk_step.ins) : Option (Sh.den disk_Disk_step.outs) := disk_Disk_step.run N x.1.1 x.1.2.1 x.1.2.2.1 x.1.2.2.2.1 x.1.2.2.2.2.1 x.1.2.2.2.2.2.1
def disk_Disk_step.S (N : Nat) : Fs := ⟨disk_Disk_step.ins, disk_Disk_step.outs, disk_Disk_step.fn N⟩
def disk_Disk_step.lam (N : Nat) : Pcs := pcs []
theorem disk_Disk_step.pok (N : Nat) : (disk_Disk_step.lam N).Ok Try.prog (disk_Disk_step.C N) disk_Disk_step.code := pcsOk_nil
theorem disk_Disk_step.ev (N : Nat) (x : Sh.den disk_Disk_step.ins) : evC (disk_Disk_step.C N) disk_Disk_step.code (disk_Disk_step.lam N) ⟨envOf 0 (bld (fun k => k) disk_Disk_step.ins x 0).1, (bld (fun k => k) disk_Disk_step.ins x 0).2.1, 1000⟩ (endF U disk_Disk_step.outs Try.f81.results.toList []) = disk_Disk_step.fn N x := by kernel_rfl
theorem disk_Disk_step.ok (N : Nat) : (disk_Disk_step.S N).con.Ok Try.prog 81 := fn_ok (F := disk_Disk_step.S N) (n0 := 1000) Try.func81 (by kernel_rfl) (show Try.f81.body = some disk_Disk_step.code by rfl) mix (disk_Disk_step.cok N) (fun _ => rfl) (fun _ => rfl) (disk_Disk_step.pok N) (fun x y h => (disk_Disk_step.ev N x).trans h)
/-- (*hayloft/disk.Disk).take -/
def disk_Disk_take.ins : Sh := (.cons (.box 75 (.cons (.val (.int .i64)) (.cons (.val (.int .i64)) (.cons (.own 3000000 (.pair .str (.pair (.slice .byte) (.int .i64)))) (.cons (.val (.int .i64)) (.cons (.val (.int .i64)) (.cons (.val .bool) .nil))))))) (.cons (.val .str) .nil))
def disk_Disk_take.C (N : Nat) : Ctx := ⟨U, 28, fun _ => true, gam [], gamY []⟩
theorem disk_Disk_take.cok (N : Nat) : (disk_Disk_take.C N).Ok Try.prog := ⟨U_ok, GamOk.nil, GamYOk.nil⟩
def disk_Disk_take.code : Code := Try.f77.body.getD .skip
def disk_Disk_take.outs : Sh := (.cons (.upd 0 75 (.cons (.val (.int .i64)) (.cons (.val (.int .i64)) (.cons (.own 3000000 (.pair .str (.pair (.slice .byte) (.int .i64)))) (.cons (.val (.int .i64)) (.cons (.val (.int .i64)) (.cons (.val .bool) .nil))))))) (.cons (.val (.pair (.slice .byte) (.int .i64))) .nil))
def disk_Disk_take.run (N : Nat) (room_ : Int) (used : Int) (files : (List ((List UInt8) × ((List UInt8) × Int)))) (steps : Int) (left : Int) (dead : Bool) (name : (List UInt8)) : Option ((Int × Int × (List ((List UInt8) × ((List UInt8) × Int))) × Int × Int × Bool × Unit) × ((List UInt8) × Int) × Unit) :=
  some ((room_, IntKind.i64.wrap (used - ((mapGet files name (([] : List UInt8), (0 : Int))).1.length : Int)), mapDel files name, steps, left, dead, ()), mapGet files name (([] : List UInt8), (0 : Int)), ())
def disk_Disk_take.fn (N : Nat) (x : Sh.den disk_Disk_take.ins) : Option (Sh.den disk_Disk_take.outs) := disk_Disk_take.run N x.1.1 x.1.2.1 x.1.2.2.1 x.1.2.2.2.1 x.1.2.2.2.2.1 x.1.2.2.2.2.2.1 x.2.1
def disk_Disk_take.S (N : Nat) : Fs := ⟨disk_Disk_take.ins, disk_Disk_take.outs, disk_Disk_take.fn N⟩
def disk_Disk_take.lam (N : Nat) : Pcs := pcs []
theorem disk_Disk_take.pok (N : Nat) : (disk_Disk_take.lam N).Ok Try.prog (disk_Disk_take.C N) disk_Disk_take.code := pcsOk_nil
theorem disk_Disk_take.ev (N : Nat) (x : Sh.den disk_Disk_take.ins) : evC (disk_Disk_take.C N) disk_Disk_take.code (disk_Disk_take.lam N) ⟨envOf 0 (bld (fun k => k) disk_Disk_take.ins x 0).1, (bld (fun k => k) disk_Disk_take.ins x 0).2.1, 1000⟩ (endF U disk_Disk_take.outs Try.f77.results.toList []) = disk_Disk_take.fn N x := by kernel_rfl
theorem disk_Disk_take.ok (N : Nat) : (disk_Disk_take.S N).con.Ok Try.prog 77 := fn_ok (F := disk_Disk_take.S N) (n0 := 1000) Try.func77 (by kernel_rfl) (show Try.f77.body = some disk_Disk_take.code by rfl) mix (disk_Disk_take.cok N) (fun _ => rfl) (fun _ => rfl) (disk_Disk_take.pok N) (fun x y h => (disk_Disk_take.ev N x).trans h)
/-- (*hayloft/disk.Disk).Remove$1 -/
def disk_Disk_Remove_f1.ins : Sh := (.cons (.val (.pair (.slice .byte) (.int .i64))) (.cons (.rbox 34 (.cons (.box 75 (.cons (.val (.int .i64)) (.cons (.val (.int .i64)) (.cons (.own 3000000 (.pair .str (.pair (.slice .byte) (.int .i64)))) (.cons (.val (.int .i64)) (.cons (.val (.int .i64)) (.cons (.val .bool) .nil))))))) .nil)) (.cons (.rbox 9 (.cons (.val .str) .nil)) .nil)))
def disk_Disk_Remove_f1.C (N : Nat) : Ctx := ⟨U, 7, fun _ => true, gam [(77, (disk_Disk_take.S N).con)], gamY []⟩
theorem disk_Disk_Remove_f1.cok (N : Nat) : (disk_Disk_Remove_f1.C N).Ok Try.prog := ⟨U_ok, GamOk.cons (disk_Disk_take.ok N) (GamOk.nil), GamYOk.nil⟩
def disk_Disk_Remove_f1.code : Code := Try.f76.body.getD .skip
def disk_Disk_Remove_f1.outs : Sh := (.cons (.upd 1 75 (.cons (.val (.int .i64)) (.cons (.val (.int .i64)) (.cons (.own 3000000 (.pair .str (.pair (.slice .byte) (.int .i64)))) (.cons (.val (.int .i64)) (.cons (.val (.int .i64)) (.cons (.val .bool) .nil))))))) .nil)
def disk_Disk_Remove_f1.run (N : Nat) (t0 : ((List UInt8) × Int)) (room_ : Int) (used : Int) (files : (List ((List UInt8) × ((List UInt8) × Int)))) (steps : Int) (left : Int) (dead : Bool) (t2 : (List UInt8)) : Option ((Int × Int × (List ((List UInt8) × ((List UInt8) × Int))) × Int × Int × Bool × Unit) × Unit) :=
  obind (disk_Disk_take.run N room_ used files steps left dead t2) fun ((room1, used1, files1, steps1, left1, dead1, _), v, _) =>
    some ((room1, used1, files1, steps1, left1, dead1, ()), ())
def disk_Disk_Remove_f1.fn (N : Nat) (x : Sh.den disk_Disk_Remove_f1.ins) : Option (Sh.den disk_Disk_Remove_f1.outs) := disk_Disk_Remove_f1.run N x.1 x.2.1.1.1 x.2.1.1.2.1 x.2.1.1.2.2.1 x.2.1.1.2.2.2.1 x.2.1.1.2.2.2.2.1 x.2.1.1.2.2.2.2.2.1 x.2.2.1.1
def disk_Disk_Remove_f1.S (N : Nat) : Fs := ⟨disk_Disk_Remove_f1.ins, disk_Disk_Remove_f1.outs, disk_Disk_Remove_f1.fn N⟩
def disk_Disk_Remove_f1.lam (N : Nat) : Pcs := pcs []
theorem disk_Disk_Remove_f1.pok (N : Nat) : (disk_Disk_Remove_f1.lam N).Ok Try.prog (disk_Disk_Remove_f1.C N) disk_Disk_Remove_f1.code := pcsOk_nil
theorem disk_Disk_Remove_f1.ev (N : Nat) (x : Sh.den disk_Disk_Remove_f1.ins) : evC (disk_Disk_Remove_f1.C N) disk_Disk_Remove_f1.code (disk_Disk_Remove_f1.lam N) ⟨envOf 0 (bld (fun k => k) disk_Disk_Remove_f1.ins x 0).1, (bld (fun k => k) disk_Disk_Remove_f1.ins x 0).2.1, 1000⟩ (endF U disk_Disk_Remove_f1.outs Try.f76.results.toList []) = disk_Disk_Remove_f1.fn N x := by kernel_rfl
theorem disk_Disk_Remove_f1.ok (N : Nat) : (disk_Disk_Remove_f1.S N).con.Ok Try.prog 76 := fn_ok (F := disk_Disk_Remove_f1.S N) (n0 := 1000) Try.func76 (by kernel_rfl) (show Try.f76.body = some disk_Disk_Remove_f1.code by rfl) mix (disk_Disk_Remove_f1.cok N) (fun _ => rfl) (fun _ => rfl) (disk_Disk_Remove_f1.pok N) (fun x y h => (disk_Disk_Remove_f1.ev N x).trans h)
/-- (*hayloft/disk.Disk).do -/
def disk_Disk_do.ins : Sh := (.cons (.box 75 (.cons (.val (.int .i64)) (.cons (.val (.int .i64)) (.cons (.own 3000000 (.pair .str (.pair (.slice .byte) (.int .i64)))) (.cons (.val (.int .i64)) (.cons (.val (.int .i64)) (.cons (.val .bool) .nil))))))) (.cons (.val .str) (.cons (.fn 75 .nil) (.cons (.fn 76 (.cons (.rbox 34 (.cons (.ref 0) .nil)) (.cons (.rbox 9 (.cons (.val .str) .nil)) .nil))) .nil))))
def disk_Disk_do.C (N : Nat) : Ctx := ⟨U, 40, fun _ => true, gam [(75, (disk_fine.S N).con), (81, (disk_Disk_step.S N).con), (76, (disk_Disk_Remove_f1.S N).con)], gamY []⟩
theorem disk_Disk_do.cok (N : Nat) : (disk_Disk_do.C N).Ok Try.prog := ⟨U_ok, GamOk.cons (disk_fine.ok N) (GamOk.cons (disk_Disk_step.ok N) (GamOk.cons (disk_Disk_Remove_f1.ok N) (GamOk.nil))), GamYOk.nil⟩
def disk_Disk_do.code : Code := Try.f74.body.getD .skip
def disk_Disk_do.outs : Sh := (.cons (.upd 0 75 (.cons (.val (.int .i64)) (.cons (.val (.int .i64)) (.cons (.own 3000000 (.pair .str (.pair (.slice .byte) (.int .i64)))) (.cons (.val (.int .i64)) (.cons (.val (.int .i64)) (.cons (.val .bool) .nil))))))) (.cons (.val (.int .i64)) .nil))
def disk_Disk_do.run (N : Nat) (room_ : Int) (used : Int) (files : (List ((List UInt8) × ((List UInt8) × Int)))) (steps : Int) (left : Int) (dead : Bool) (name : (List UInt8)) (done : (List UInt8)) : Option ((Int × Int × (List ((List UInt8) × ((List UInt8) × Int))) × Int × Int × Bool × Unit) × Int × Unit) :=
  bif dead then
    some ((room_, used, files, steps, left, dead, ()), (44 : Int), ())
  else
    bif !(mapHas files name) then
      some ((room_, used, files, steps, left, dead, ()), (42 : Int), ())
    else
      obind (disk_fine.run N (mapGet files name (([] : List UInt8), (0 : Int)))) fun (n_, _) =>
        bif !(decide (n_ = (0 : Int))) then
          some ((room_, used, files, steps, left, dead, ()), n_, ())
        else
          obind (disk_Disk_step.run N room_ used files steps left dead) fun ((room1, used1, files1, steps1, left1, dead1, _), b, _) =>
            bif b then
              some ((room1, used1, files1, steps1, left1, dead1, ()), (44 : Int), ())
            else
              obind (disk_Disk_Remove_f1.run N (mapGet files name (([] : List UInt8), (0 : Int))) room1 used1 files1 steps1 left1 dead1 done) fun ((room2, used2, files2, steps2, left2, dead2, _), _) =>
                some ((room2, used2, files2, steps2, left2, dead2, ()), (0 : Int), ())
def disk_Disk_do.fn (N : Nat) (x : Sh.den disk_Disk_do.ins) : Option (Sh.den disk_Disk_do.outs) := disk_Disk_do.run N x.1.1 x.1.2.1 x.1.2.2.1 x.1.2.2.2.1 x.1.2.2.2.2.1 x.1.2.2.2.2.2.1 x.2.1 x.2.2.2.1.2.1.1
def disk_Disk_do.S (N : Nat) : Fs := ⟨disk_Disk_do.ins, disk_Disk_do.outs, disk_Disk_do.fn N⟩
def disk_Disk_do.lam (N : Nat) : Pcs := pcs []
theorem disk_Disk_do.pok (N : Nat) : (disk_Disk_do.lam N).Ok Try.prog (disk_Disk_do.C N) disk_Disk_do.code := pcsOk_nil
theorem disk_Disk_do.ev (N : Nat) (x : Sh.den disk_Disk_do.ins) : evC (disk_Disk_do.C N) disk_Disk_do.code (disk_Disk_do.lam N) ⟨envOf 0 (bld (fun k => k) disk_Disk_do.ins x 0).1, (bld (fun k => k) disk_Disk_do.ins x 0).2.1, 1000⟩ (endF U disk_Disk_do.outs Try.f74.results.toList []) = disk_Disk_do.fn N x := by kernel_rfl
theorem disk_Disk_do.ok (N : Nat) : (disk_Disk_do.S N).con.Ok Try.prog 74 := fn_ok (F := disk_Disk_do.S N) (n0 := 1000) Try.func74 (by kernel_rfl) (show Try.f74.body = some disk_Disk_do.code by rfl) mix (disk_Disk_do.cok N) (fun _ => rfl) (fun _ => rfl) (disk_Disk_do.pok N) (fun x y h => (disk_Disk_do.ev N x).trans h)
/-- (*hayloft/disk.Disk).Remove -/
def disk_Disk_Remove.ins : Sh := (.cons (.box 75 (.cons (.val (.int .i64)) (.cons (.val (.int .i64)) (.cons (.own 3000000 (.pair .str (.pair (.slice .byte) (.int .i64)))) (.cons (.val (.int .i64)) (.cons (.val (.int .i64)) (.cons (.val .bool) .nil))))))) (.cons (.val .str) .nil))
def disk_Disk_Remove.C (N : Nat) : Ctx := ⟨U, 9, fun _ => true, gam [(74, (disk_Disk_do.S N).con)], gamY []⟩
theorem disk_Disk_Remove.cok (N : Nat) : (disk_Disk_Remove.C N).Ok Try.prog := ⟨U_ok, GamOk.cons (disk_Disk_do.ok N) (GamOk.nil), GamYOk.nil⟩
def disk_Disk_Remove.code : Code := Try.f45.body.getD .skip
def disk_Disk_Remove.outs : Sh := (.cons (.upd 0 75 (.cons (.val (.int .i64)) (.cons (.val (.int .i64)) (.cons (.own 3000000 (.pair .str (.pair (.slice .byte) (.int .i64)))) (.cons (.val (.int .i64)) (.cons (.val (.int .i64)) (.cons (.val .bool) .nil))))))) (.cons (.val (.int .i64)) .nil))
def disk_Disk_Remove.run (N : Nat) (room_ : Int) (used : Int) (files : (List ((List UInt8) × ((List UInt8) × Int)))) (steps : Int) (left : Int) (dead : Bool) (name : (List UInt8)) : Option ((Int × Int × (List ((List UInt8) × ((List UInt8) × Int))) × Int × Int × Bool × Unit) × Int × Unit) :=
  obind (disk_Disk_do.run N room_ used files steps left dead name name) fun ((room1, used1, files1, steps1, left1, dead1, _), n_, _) =>
    some ((room1, used1, files1, steps1, left1, dead1, ()), n_, ())
def disk_Disk_Remove.fn (N : Nat) (x : Sh.den disk_Disk_Remove.ins) : Option (Sh.den disk_Disk_Remove.outs) := disk_Disk_Remove.run N x.1.1 x.1.2.1 x.1.2.2.1 x.1.2.2.2.1 x.1.2.2.2.2.1 x.1.2.2.2.2.2.1 x.2.1
def disk_Disk_Remove.S (N : Nat) : Fs := ⟨disk_Disk_Remove.ins, disk_Disk_Remove.outs, disk_Disk_Remove.fn N⟩
def disk_Disk_Remove.lam (N : Nat) : Pcs := pcs []
theorem disk_Disk_Remove.pok (N : Nat) : (disk_Disk_Remove.lam N).Ok Try.prog (disk_Disk_Remove.C N) disk_Disk_Remove.code := pcsOk_nil
theorem disk_Disk_Remove.ev (N : Nat) (x : Sh.den disk_Disk_Remove.ins) : evC (disk_Disk_Remove.C N) disk_Disk_Remove.code (disk_Disk_Remove.lam N) ⟨envOf 0 (bld (fun k => k) disk_Disk_Remove.ins x 0).1, (bld (fun k => k) disk_Disk_Remove.ins x 0).2.1, 1000⟩ (endF U disk_Disk_Remove.outs Try.f45.results.toList []) = disk_Disk_Remove.fn N x := by kernel_rfl
theorem disk_Disk_Remove.ok (N : Nat) : (disk_Disk_Remove.S N).con.Ok Try.prog 45 := fn_ok (F := disk_Disk_Remove.S N) (n0 := 1000) Try.func45 (by kernel_rfl) (show Try.f45.body = some disk_Disk_Remove.code by rfl) mix (disk_Disk_Remove.cok N) (fun _ => rfl) (fun _ => rfl) (disk_Disk_Remove.pok N) (fun x y h => (disk_Disk_Remove.ev N x).trans h)
/-- hayloft/redo.Create$1 -/
def redo_Create_f1.ins : Sh := (.cons (.rbox 34 (.cons (.box 75 (.cons (.val (.int .i64)) (.cons (.val (.int .i64)) (.cons (.own 3000000 (.pair .str (.pair (.slice .byte) (.int .i64)))) (.cons (.val (.int .i64)) (.cons (.val (.int .i64)) (.cons (.val .bool) .nil))))))) .nil)) (.cons (.rbox 9 (.cons (.val .str) .nil)) .nil))
def redo_Create_f1.C (N : Nat) : Ctx := ⟨U, 15, fun _ => true, gam [(21, (disk_Disk_Read.S N).con), (45, (disk_Disk_Remove.S N).con)], gamY []⟩
theorem redo_Create_f1.cok (N : Nat) : (redo_Create_f1.C N).Ok Try.prog := ⟨U_ok, GamOk.cons (disk_Disk_Read.ok N) (GamOk.cons (disk_Disk_Remove.ok N) (GamOk.nil)), GamYOk.nil⟩
def redo_Create_f1.code : Code := Try.f44.body.getD .skip
def redo_Create_f1.outs : Sh := (.cons (.upd 1 75 (.cons (.val (.int .i64)) (.cons (.val (.int .i64)) (.cons (.own 3000000 (.pair .str (.pair (.slice .byte) (.int .i64)))) (.cons (.val (.int .i64)) (.cons (.val (.int .i64)) (.cons (.val .bool) .nil))))))) (.cons (.val (.int .i64)) .nil))
def redo_Create_f1.run (N : Nat) (room_ : Int) (used : Int) (files : (List ((List UInt8) × ((List UInt8) × Int)))) (steps : Int) (left : Int) (dead : Bool) (t1 : (List UInt8)) : Option ((Int × Int × (List ((List UInt8) × ((List UInt8) × Int))) × Int × Int × Bool × Unit) × Int × Unit) :=
  obind (disk_Disk_Read.run N room_ used files steps left dead t1) fun (l, b, _) =>
    bif b then
      obind (disk_Disk_Remove.run N room_ used files steps left dead t1) fun ((room1, used1, files1, steps1, left1, dead1, _), n_, _) =>
        some ((room1, used1, files1, steps1, left1, dead1, ()), n_, ())
    else some ((room_, used, files, steps, left, dead, ()), (0 : Int), ())
def redo_Create_f1.fn (N : Nat) (x : Sh.den redo_Create_f1.ins) : Option (Sh.den redo_Create_f1.outs) := redo_Create_f1.run N x.1.1.1 x.1.1.2.1 x.1.1.2.2.1 x.1.1.2.2.2.1 x.1.1.2.2.2.2.1 x.1.1.2.2.2.2.2.1 x.2.1.1
def redo_Create_f1.S (N : Nat) : Fs := ⟨redo_Create_f1.ins, redo_Create_f1.outs, redo_Create_f1.fn N⟩
def redo_Create_f1.lam (N : Nat) : Pcs := pcs []
theorem redo_Create_f1.pok (N : Nat) : (redo_Create_f1.lam N).Ok Try.prog (redo_Create_f1.C N) redo_Create_f1.code := pcsOk_nil
theorem redo_Create_f1.ev (N : Nat) (x : Sh.den redo_Create_f1.ins) : evC (redo_Create_f1.C N) redo_Create_f1.code (redo_Create_f1.lam N) ⟨envOf 0 (bld (fun k => k) redo_Create_f1.ins x 0).1, (bld (fun k => k) redo_Create_f1.ins x 0).2.1, 1000⟩ (endF U redo_Create_f1.outs Try.f44.results.toList []) = redo_Create_f1.fn N x := by kernel_rfl
theorem redo_Create_f1.ok (N : Nat) : (redo_Create_f1.S N).con.Ok Try.prog 44 := fn_ok (F := redo_Create_f1.S N) (n0 := 1000) Try.func44 (by kernel_rfl) (show Try.f44.body = some redo_Create_f1.code by rfl) mix (redo_Create_f1.cok N) (fun _ => rfl) (fun _ => rfl) (redo_Create_f1.pok N) (fun x y h => (redo_Create_f1.ev N x).trans h)
/-- hayloft/disk.named -/
def disk_named.ins : Sh := (.cons (.val .str) .nil)
def disk_named.C (N : Nat) : Ctx := ⟨U, 27, fun _ => true, gam [], gamY []⟩
theorem disk_named.cok (N : Nat) : (disk_named.C N).Ok Try.prog := ⟨U_ok, GamOk.nil, GamYOk.nil⟩
def disk_named.code : Code := Try.f78.body.getD .skip
def disk_named_0.ins : Sh := (.cons (.val .str) (.cons (.val (.int .i64)) (.cons (.val (.int .i64)) .nil)))
def disk_named_0.ts : List Tmp := [0, 5, 6]
def disk_named_0.asg : List Tmp := [2, 3, 6, 7, 8, 9, 10, 11, 12, 13, 14, 15, 16, 17, 18, 19]
def disk_named_0.C (N : Nat) : Ctx := { disk_named.C N with may := fun t => disk_named_0.asg.any (Nat.beq t) }
def disk_named_0.code : Code := loopBody (sub disk_named.code [true, false, true, false])
theorem disk_named_0.cok (N : Nat) : (disk_named_0.C N).Ok Try.prog := ⟨(disk_named.cok N).U, (disk_named.cok N).Γ, (disk_named.cok N).Y⟩
def disk_named_0.alts : List Alt := [⟨.ret, [2], (.cons (.val .bool) .nil)⟩, ⟨(.exit 0), [], .nil⟩]
def disk_named_0.go (N : Nat) : Nat → (List UInt8) → Int → Int → Option ((Bool × Unit) ⊕ Unit)
  | 0, _, _, _ => none
  | fuel + 1, s, t5, t6 =>
    bif decide (t6 < t5) then
      bif inB t6 s.length then
        bif decide (((s.getD t6.toNat (0 : UInt8)).toNat : Int) < (33 : Int)) then
          some (.inl (false, ()))
        else
          bif inB t6 s.length then
            bif decide (((s.getD t6.toNat (0 : UInt8)).toNat : Int) > (126 : Int)) then
              some (.inl (false, ()))
            else disk_named_0.go N fuel s t5 (IntKind.i64.wrap (t6 + (1 : Int)))
          else none
      else none
    else some (.inr ())
def disk_named_0.g (N n : Nat) (x : Sh.den disk_named_0.ins) : Option (altsDen disk_named_0.alts) := disk_named_0.go N n x.1 x.2.1 x.2.2.1
def disk_named_0.P (N : Nat) : Ps := ⟨disk_named_0.ts, disk_named_0.ins, disk_named_0.asg, disk_named_0.alts, disk_named_0.g N N⟩
def disk_named_0.lam (N : Nat) : Pcs := pcs []
theorem disk_named_0.pok (N : Nat) : (disk_named_0.lam N).Ok Try.prog (disk_named_0.C N) disk_named_0.code := pcsOk_nil
theorem disk_named_0.ev (N n : Nat) (x : Sh.den disk_named_0.ins) : evC (disk_named_0.C N) disk_named_0.code (disk_named_0.lam N) ((disk_named_0.P N).canon 1000 x) (loopK (disk_named_0.P N) (disk_named_0.g N n)) = disk_named_0.g N (n + 1) x := by kernel_rfl
theorem disk_named_0.ok (N : Nat) : ((disk_named_0.P N).pc (disk_named.C N)).Ok Try.prog (disk_named.C N) (.loop disk_named_0.code) := loop_ok (F := disk_named_0.P N) (n0 := 1000) (N := N) (disk_named.cok N) mix (disk_named_0.pok N) (disk_named_0.g N) (fun x => by rfl) rfl (fun n x y h => (disk_named_0.ev N n x).trans h)
def disk_named.outs : Sh := (.cons (.val .bool) .nil)
def disk_named.run (N : Nat) (s : (List UInt8)) : Option (Bool × Unit) :=
  obind (disk_named_0.go N N s (s.length : Int) (0 : Int)) fun y => match y with
  | .inl (t2, _) =>
      some (t2, ())
  | .inr (_) =>
      bif !(decide (s = ([] : List UInt8))) then
        some (decide ((s.length : Int) ≤ (32 : Int)), ())
      else some (false, ())
def disk_named.fn (N : Nat) (x : Sh.den disk_named.ins) : Option (Sh.den disk_named.outs) := disk_named.run N x.1
def disk_named.S (N : Nat) : Fs := ⟨disk_named.ins, disk_named.outs, disk_named.fn N⟩
def disk_named.lam (N : Nat) : Pcs := pcs [([true, false, true, false], (disk_named_0.P N).pc (disk_named.C N))]
theorem disk_named.pok (N : Nat) : (disk_named.lam N).Ok Try.prog (disk_named.C N) disk_named.code := pcsOk_cons (c1 := .loop disk_named_0.code) (by kernel_rfl) (disk_named_0.ok N) (pcsOk_nil)
theorem disk_named.ev (N : Nat) (x : Sh.den disk_named.ins) : evC (disk_named.C N) disk_named.code (disk_named.lam N) ⟨envOf 0 (bld (fun k => k) disk_named.ins x 0).1, (bld (fun k => k) disk_named.ins x 0).2.1, 1000⟩ (endF U disk_named.outs Try.f78.results.toList []) = disk_named.fn N x := by kernel_rfl
theorem disk_named.ok (N : Nat) : (disk_named.S N).con.Ok Try.prog 78 := fn_ok (F := disk_named.S N) (n0 := 1000) Try.func78 (by kernel_rfl) (show Try.f78.body = some disk_named.code by rfl) mix (disk_named.cok N) (fun _ => rfl) (fun _ => rfl) (disk_named.pok N) (fun x y h => (disk_named.ev N x).trans h)
/-- (*hayloft/disk.Disk).Free -/
def disk_Disk_Free.ins : Sh := (.cons (.rbox 75 (.cons (.val (.int .i64)) (.cons (.val (.int .i64)) (.cons (.rown 3000000 (.pair .str (.pair (.slice .byte) (.int .i64)))) (.cons (.val (.int .i64)) (.cons (.val (.int .i64)) (.cons (.val .bool) .nil))))))) .nil)
def disk_Disk_Free.C (N : Nat) : Ctx := ⟨U, 12, fun _ => true, gam [], gamY []⟩
theorem disk_Disk_Free.cok (N : Nat) : (disk_Disk_Free.C N).Ok Try.prog := ⟨U_ok, GamOk.nil, GamYOk.nil⟩
def disk_Disk_Free.code : Code := Try.f79.body.getD .skip
def disk_Disk_Free.outs : Sh := (.cons (.val (.int .i64)) .nil)
def disk_Disk_Free.run (N : Nat) (room_ : Int) (used : Int) (files : (List ((List UInt8) × ((List UInt8) × Int)))) (steps : Int) (left : Int) (dead : Bool) : Option (Int × Unit) :=
  some (IntKind.i64.wrap (room_ - used), ())
def disk_Disk_Free.fn (N : Nat) (x : Sh.den disk_Disk_Free.ins) : Option (Sh.den disk_Disk_Free.outs) := disk_Disk_Free.run N x.1.1 x.1.2.1 x.1.2.2.1 x.1.2.2.2.1 x.1.2.2.2.2.1 x.1.2.2.2.2.2.1
def disk_Disk_Free.S (N : Nat) : Fs := ⟨disk_Disk_Free.ins, disk_Disk_Free.outs, disk_Disk_Free.fn N⟩
def disk_Disk_Free.lam (N : Nat) : Pcs := pcs []
theorem disk_Disk_Free.pok (N : Nat) : (disk_Disk_Free.lam N).Ok Try.prog (disk_Disk_Free.C N) disk_Disk_Free.code := pcsOk_nil
theorem disk_Disk_Free.ev (N : Nat) (x : Sh.den disk_Disk_Free.ins) : evC (disk_Disk_Free.C N) disk_Disk_Free.code (disk_Disk_Free.lam N) ⟨envOf 0 (bld (fun k => k) disk_Disk_Free.ins x 0).1, (bld (fun k => k) disk_Disk_Free.ins x 0).2.1, 1000⟩ (endF U disk_Disk_Free.outs Try.f79.results.toList []) = disk_Disk_Free.fn N x := by kernel_rfl
theorem disk_Disk_Free.ok (N : Nat) : (disk_Disk_Free.S N).con.Ok Try.prog 79 := fn_ok (F := disk_Disk_Free.S N) (n0 := 1000) Try.func79 (by kernel_rfl) (show Try.f79.body = some disk_Disk_Free.code by rfl) mix (disk_Disk_Free.cok N) (fun _ => rfl) (fun _ => rfl) (disk_Disk_Free.pok N) (fun x y h => (disk_Disk_Free.ev N x).trans h)
/-- slices.Grow[[]byte,byte] -/
def slices_Grow_byte_byte.ins : Sh := (.cons (.nils) (.cons (.val (.int .i64)) .nil))
def slices_Grow_byte_byte.C (N : Nat) : Ctx := ⟨U, 27, fun _ => true, gam [], gamY []⟩
theorem slices_Grow_byte_byte.cok (N : Nat) : (slices_Grow_byte_byte.C N).Ok Try.prog := ⟨U_ok, GamOk.nil, GamYOk.nil⟩
def slices_Grow_byte_byte.code : Code := Try.f97.body.getD .skip
def slices_Grow_byte_byte.outs : Sh := (.cons (.own 5 .byte) .nil)
def slices_Grow_byte_byte.run (N : Nat) (n_ : Int) : Option ((List UInt8) × Unit) :=
  bif decide (n_ < (0 : Int)) then
    none
  else
    bif decide ((IntKind.i64.wrap (n_ - (0 : Int))) > (0 : Int)) then
      bif (decide ((0 : Int) ≤ (IntKind.i64.wrap (n_ - (0 : Int))))) && (room (IntKind.i64.wrap (n_ - (0 : Int))).toNat 1) then
        bif okB (0 : Int) (0 : Int) (List.replicate (IntKind.i64.wrap (n_ - (0 : Int))).toNat (0 : UInt8)).length then
          some ((List.replicate (IntKind.i64.wrap (n_ - (0 : Int))).toNat (0 : UInt8)).take 0, ())
        else none
      else none
    else some (([] : List UInt8), ())
def slices_Grow_byte_byte.fn (N : Nat) (x : Sh.den slices_Grow_byte_byte.ins) : Option (Sh.den slices_Grow_byte_byte.outs) := slices_Grow_byte_byte.run N x.2.1
def slices_Grow_byte_byte.S (N : Nat) : Fs := ⟨slices_Grow_byte_byte.ins, slices_Grow_byte_byte.outs, slices_Grow_byte_byte.fn N⟩
def slices_Grow_byte_byte.lam (N : Nat) : Pcs := pcs []
theorem slices_Grow_byte_byte.pok (N : Nat) : (slices_Grow_byte_byte.lam N).Ok Try.prog (slices_Grow_byte_byte.C N) slices_Grow_byte_byte.code := pcsOk_nil
theorem slices_Grow_byte_byte.ev (N : Nat) (x : Sh.den slices_Grow_byte_byte.ins) : evC (slices_Grow_byte_byte.C N) slices_Grow_byte_byte.code (slices_Grow_byte_byte.lam N) ⟨envOf 0 (bld (fun k => k) slices_Grow_byte_byte.ins x 0).1, (bld (fun k => k) slices_Grow_byte_byte.ins x 0).2.1, 1000⟩ (endF U slices_Grow_byte_byte.outs Try.f97.results.toList [4]) = slices_Grow_byte_byte.fn N x := by kernel_rfl
theorem slices_Grow_byte_byte.ok (N : Nat) : (slices_Grow_byte_byte.S N).con.Ok Try.prog 97 := fn_ok (F := slices_Grow_byte_byte.S N) (n0 := 1000) Try.func97 (by kernel_rfl) (show Try.f97.body = some slices_Grow_byte_byte.code by rfl) mix (slices_Grow_byte_byte.cok N) (fun _ => rfl) (fun _ => rfl) (slices_Grow_byte_byte.pok N) (fun x y h => (slices_Grow_byte_byte.ev N x).trans h)
/-- slices.Concat[[]byte,byte] -/
def slices_Concat_byte_byte.ins : Sh := (.cons (.rown 22 (.slice .byte)) .nil)
def slices_Concat_byte_byte.C (N : Nat) : Ctx := ⟨U, 36, fun _ => true, gam [(97, (slices_Grow_byte_byte.S N).con)], gamY []⟩
theorem slices_Concat_byte_byte.cok (N : Nat) : (slices_Concat_byte_byte.C N).Ok Try.prog := ⟨U_ok, GamOk.cons (slices_Grow_byte_byte.ok N) (GamOk.nil), GamYOk.nil⟩
def slices_Concat_byte_byte.code : Code := Try.f80.body.getD .skip
def slices_Concat_byte_byte_0.ins : Sh := (.cons (.val (.int .i64)) (.cons (.rown 22 (.slice .byte)) (.cons (.val (.int .i64)) (.cons (.val (.int .i64)) .nil))))
def slices_Concat_byte_byte_0.ts : List Tmp := [3, 9, 10, 11]
def slices_Concat_byte_byte_0.asg : List Tmp := [3, 5, 11, 12, 13, 14, 15, 16, 17, 18, 19, 20, 21, 22]
def slices_Concat_byte_byte_0.C (N : Nat) : Ctx := { slices_Concat_byte_byte.C N with may := fun t => slices_Concat_byte_byte_0.asg.any (Nat.beq t) }
def slices_Concat_byte_byte_0.code : Code := loopBody (sub slices_Concat_byte_byte.code [true, true, false, true, false])
theorem slices_Concat_byte_byte_0.cok (N : Nat) : (slices_Concat_byte_byte_0.C N).Ok Try.prog := ⟨(slices_Concat_byte_byte.cok N).U, (slices_Concat_byte_byte.cok N).Γ, (slices_Concat_byte_byte.cok N).Y⟩
def slices_Concat_byte_byte_0.alts : List Alt := [⟨(.exit 0), [3], (.cons (.val (.int .i64)) .nil)⟩]
def slices_Concat_byte_byte_0.go (N : Nat) : Nat → Int → (List (List UInt8)) → Int → Int → Option ((Int × Unit))
  | 0, _, _, _, _ => none
  | fuel + 1, size, t9, t10, t11 =>
    bif decide (t11 < t10) then
      bif inB t11 t9.length then
        bif decide (t11.toNat < t9.length) then
          bif decide ((IntKind.i64.wrap (size + ((t9.getD t11.toNat ([] : List UInt8)).length : Int))) < (0 : Int)) then
            none
          else slices_Concat_byte_byte_0.go N fuel (IntKind.i64.wrap (size + ((t9.getD t11.toNat ([] : List UInt8)).length : Int))) t9 t10 (IntKind.i64.wrap (t11 + (1 : Int)))
        else none
      else none
    else some (size, ())
def slices_Concat_byte_byte_0.g (N n : Nat) (x : Sh.den slices_Concat_byte_byte_0.ins) : Option (altsDen slices_Concat_byte_byte_0.alts) := slices_Concat_byte_byte_0.go N n x.1 x.2.1 x.2.2.1 x.2.2.2.1
def slices_Concat_byte_byte_0.P (N : Nat) : Ps := ⟨slices_Concat_byte_byte_0.ts, slices_Concat_byte_byte_0.ins, slices_Concat_byte_byte_0.asg, slices_Concat_byte_byte_0.alts, slices_Concat_byte_byte_0.g N N⟩
def slices_Concat_byte_byte_0.lam (N : Nat) : Pcs := pcs []
theorem slices_Concat_byte_byte_0.pok (N : Nat) : (slices_Concat_byte_byte_0.lam N).Ok Try.prog (slices_Concat_byte_byte_0.C N) slices_Concat_byte_byte_0.code := pcsOk_nil
theorem slices_Concat_byte_byte_0.ev (N n : Nat) (x : Sh.den slices_Concat_byte_byte_0.ins) : evC (slices_Concat_byte_byte_0.C N) slices_Concat_byte_byte_0.code (slices_Concat_byte_byte_0.lam N) ((slices_Concat_byte_byte_0.P N).canon 1000 x) (loopK (slices_Concat_byte_byte_0.P N) (slices_Concat_byte_byte_0.g N n)) = slices_Concat_byte_byte_0.g N (n + 1) x := by kernel_rfl
theorem slices_Concat_byte_byte_0.ok (N : Nat) : ((slices_Concat_byte_byte_0.P N).pc (slices_Concat_byte_byte.C N)).Ok Try.prog (slices_Concat_byte_byte.C N) (.loop slices_Concat_byte_byte_0.code) := loop_ok (F := slices_Concat_byte_byte_0.P N) (n0 := 1000) (N := N) (slices_Concat_byte_byte.cok N) mix (slices_Concat_byte_byte_0.pok N) (slices_Concat_byte_byte_0.g N) (fun x => by rfl) rfl (fun n x y h => (slices_Concat_byte_byte_0.ev N n x).trans h)
def slices_Concat_byte_byte_1.ins : Sh := (.cons (.own 5 .byte) (.cons (.rown 22 (.slice .byte)) (.cons (.val (.int .i64)) (.cons (.val (.int .i64)) .nil))))
def slices_Concat_byte_byte_1.ts : List Tmp := [6, 25, 26, 27]
def slices_Concat_byte_byte_1.asg : List Tmp := [6, 8, 27, 28, 29, 30, 31, 32, 33, 34]
def slices_Concat_byte_byte_1.C (N : Nat) : Ctx := { slices_Concat_byte_byte.C N with may := fun t => slices_Concat_byte_byte_1.asg.any (Nat.beq t) }
def slices_Concat_byte_byte_1.code : Code := loopBody (sub slices_Concat_byte_byte.code [true, true, true, true, false, true, false])
theorem slices_Concat_byte_byte_1.cok (N : Nat) : (slices_Concat_byte_byte_1.C N).Ok Try.prog := ⟨(slices_Concat_byte_byte.cok N).U, (slices_Concat_byte_byte.cok N).Γ, (slices_Concat_byte_byte.cok N).Y⟩
def slices_Concat_byte_byte_1.alts : List Alt := [⟨(.exit 2), [6], (.cons (.own 5 .byte) .nil)⟩]
def slices_Concat_byte_byte_1.go (N : Nat) : Nat → (List UInt8) → (List (List UInt8)) → Int → Int → Option (((List UInt8) × Unit))
  | 0, _, _, _, _ => none
  | fuel + 1, newslice, t25, t26, t27 =>
    bif decide (t27 < t26) then
      bif inB t27 t25.length then
        bif decide (t27.toNat < t25.length) then
          bif room (newslice.length + (t25.getD t27.toNat ([] : List UInt8)).length) 1 then
            slices_Concat_byte_byte_1.go N fuel (newslice ++ (t25.getD t27.toNat ([] : List UInt8))) t25 t26 (IntKind.i64.wrap (t27 + (1 : Int)))
          else none
        else none
      else none
    else some (newslice, ())
def slices_Concat_byte_byte_1.g (N n : Nat) (x : Sh.den slices_Concat_byte_byte_1.ins) : Option (altsDen slices_Concat_byte_byte_1.alts) := slices_Concat_byte_byte_1.go N n x.1 x.2.1 x.2.2.1 x.2.2.2.1
def slices_Concat_byte_byte_1.P (N : Nat) : Ps := ⟨slices_Concat_byte_byte_1.ts, slices_Concat_byte_byte_1.ins, slices_Concat_byte_byte_1.asg, slices_Concat_byte_byte_1.alts, slices_Concat_byte_byte_1.g N N⟩
def slices_Concat_byte_byte_1.lam (N : Nat) : Pcs := pcs []
theorem slices_Concat_byte_byte_1.pok (N : Nat) : (slices_Concat_byte_byte_1.lam N).Ok Try.prog (slices_Concat_byte_byte_1.C N) slices_Concat_byte_byte_1.code := pcsOk_nil
theorem slices_Concat_byte_byte_1.ev (N n : Nat) (x : Sh.den slices_Concat_byte_byte_1.ins) : evC (slices_Concat_byte_byte_1.C N) slices_Concat_byte_byte_1.code (slices_Concat_byte_byte_1.lam N) ((slices_Concat_byte_byte_1.P N).canon 1000 x) (loopK (slices_Concat_byte_byte_1.P N) (slices_Concat_byte_byte_1.g N n)) = slices_Concat_byte_byte_1.g N (n + 1) x := by kernel_rfl
theorem slices_Concat_byte_byte_1.ok (N : Nat) : ((slices_Concat_byte_byte_1.P N).pc (slices_Concat_byte_byte.C N)).Ok Try.prog (slices_Concat_byte_byte.C N) (.loop slices_Concat_byte_byte_1.code) := loop_ok (F := slices_Concat_byte_byte_1.P N) (n0 := 1000) (N := N) (slices_Concat_byte_byte.cok N) mix (slices_Concat_byte_byte_1.pok N) (slices_Concat_byte_byte_1.g N) (fun x => by rfl) rfl (fun n x y h => (slices_Concat_byte_byte_1.ev N n x).trans h)
def slices_Concat_byte_byte.outs : Sh := (.cons (.own 5 .byte) .nil)
def slices_Concat_byte_byte.run (N : Nat) (slices : (List (List UInt8))) : Option ((List UInt8) × Unit) :=
  obind (slices_Concat_byte_byte_0.go N N (0 : Int) slices (slices.length : Int) (0 : Int)) fun (size, _) =>
    obind (slices_Grow_byte_byte.run N size) fun (l, _) =>
      obind (slices_Concat_byte_byte_1.go N N l slices (slices.length : Int) (0 : Int)) fun (newslice, _) =>
        some (newslice, ())
def slices_Concat_byte_byte.fn (N : Nat) (x : Sh.den slices_Concat_byte_byte.ins) : Option (Sh.den slices_Concat_byte_byte.outs) := slices_Concat_byte_byte.run N x.1
def slices_Concat_byte_byte.S (N : Nat) : Fs := ⟨slices_Concat_byte_byte.ins, slices_Concat_byte_byte.outs, slices_Concat_byte_byte.fn N⟩
def slices_Concat_byte_byte.lam (N : Nat) : Pcs := pcs [([true, true, false, true, false], (slices_Concat_byte_byte_0.P N).pc (slices_Concat_byte_byte.C N)), ([true, true, true, true, false, true, false], (slices_Concat_byte_byte_1.P N).pc (slices_Concat_byte_byte.C N))]
theorem slices_Concat_byte_byte.pok (N : Nat) : (slices_Concat_byte_byte.lam N).Ok Try.prog (slices_Concat_byte_byte.C N) slices_Concat_byte_byte.code := pcsOk_cons (c1 := .loop slices_Concat_byte_byte_0.code) (by kernel_rfl) (slices_Concat_byte_byte_0.ok N) (pcsOk_cons (c1 := .loop slices_Concat_byte_byte_1.code) (by kernel_rfl) (slices_Concat_byte_byte_1.ok N) (pcsOk_nil))
theorem slices_Concat_byte_byte.ev (N : Nat) (x : Sh.den slices_Concat_byte_byte.ins) : evC (slices_Concat_byte_byte.C N) slices_Concat_byte_byte.code (slices_Concat_byte_byte.lam N) ⟨envOf 0 (bld (fun k => k) slices_Concat_byte_byte.ins x 0).1, (bld (fun k => k) slices_Concat_byte_byte.ins x 0).2.1, 1000⟩ (endF U slices_Concat_byte_byte.outs Try.f80.results.toList []) = slices_Concat_byte_byte.fn N x := by kernel_rfl
theorem slices_Concat_byte_byte.ok (N : Nat) : (slices_Concat_byte_byte.S N).con.Ok Try.prog 80 := fn_ok (F := slices_Concat_byte_byte.S N) (n0 := 1000) Try.func80 (by kernel_rfl) (show Try.f80.body = some slices_Concat_byte_byte.code by rfl) mix (slices_Concat_byte_byte.cok N) (fun _ => rfl) (fun _ => rfl) (slices_Concat_byte_byte.pok N) (fun x y h => (slices_Concat_byte_byte.ev N x).trans h)
/-- (*hayloft/disk.Disk).lay -/
def disk_Disk_lay.ins : Sh := (.cons (.box 75 (.cons (.val (.int .i64)) (.cons (.val (.int .i64)) (.cons (.own 3000000 (.pair .str (.pair (.slice .byte) (.int .i64)))) (.cons (.val (.int .i64)) (.cons (.val (.int .i64)) (.cons (.val .bool) .nil))))))) (.cons (.val .str) (.cons (.val (.pair (.slice .byte) (.int .i64))) .nil)))
def disk_Disk_lay.C (N : Nat) : Ctx := ⟨U, 31, fun _ => true, gam [], gamY []⟩
theorem disk_Disk_lay.cok (N : Nat) : (disk_Disk_lay.C N).Ok Try.prog := ⟨U_ok, GamOk.nil, GamYOk.nil⟩
def disk_Disk_lay.code : Code := Try.f58.body.getD .skip
def disk_Disk_lay.outs : Sh := (.cons (.upd 0 75 (.cons (.val (.int .i64)) (.cons (.val (.int .i64)) (.cons (.own 3000000 (.pair .str (.pair (.slice .byte) (.int .i64)))) (.cons (.val (.int .i64)) (.cons (.val (.int .i64)) (.cons (.val .bool) .nil))))))) .nil)
def disk_Disk_lay.run (N : Nat) (room_ : Int) (used : Int) (files : (List ((List UInt8) × ((List UInt8) × Int)))) (steps : Int) (left : Int) (dead : Bool) (name : (List UInt8)) (f : ((List UInt8) × Int)) : Option ((Int × Int × (List ((List UInt8) × ((List UInt8) × Int))) × Int × Int × Bool × Unit) × Unit) :=
  some ((room_, IntKind.i64.wrap (used + (IntKind.i64.wrap ((f.1.length : Int) - ((mapGet files name (([] : List UInt8), (0 : Int))).1.length : Int)))), mapPut files name f, steps, left, dead, ()), ())
def disk_Disk_lay.fn (N : Nat) (x : Sh.den disk_Disk_lay.ins) : Option (Sh.den disk_Disk_lay.outs) := disk_Disk_lay.run N x.1.1 x.1.2.1 x.1.2.2.1 x.1.2.2.2.1 x.1.2.2.2.2.1 x.1.2.2.2.2.2.1 x.2.1 x.2.2.1
def disk_Disk_lay.S (N : Nat) : Fs := ⟨disk_Disk_lay.ins, disk_Disk_lay.outs, disk_Disk_lay.fn N⟩
def disk_Disk_lay.lam (N : Nat) : Pcs := pcs []
theorem disk_Disk_lay.pok (N : Nat) : (disk_Disk_lay.lam N).Ok Try.prog (disk_Disk_lay.C N) disk_Disk_lay.code := pcsOk_nil
theorem disk_Disk_lay.ev (N : Nat) (x : Sh.den disk_Disk_lay.ins) : evC (disk_Disk_lay.C N) disk_Disk_lay.code (disk_Disk_lay.lam N) ⟨envOf 0 (bld (fun k => k) disk_Disk_lay.ins x 0).1, (bld (fun k => k) disk_Disk_lay.ins x 0).2.1, 1000⟩ (endF U disk_Disk_lay.outs Try.f58.results.toList []) = disk_Disk_lay.fn N x := by kernel_rfl
theorem disk_Disk_lay.ok (N : Nat) : (disk_Disk_lay.S N).con.Ok Try.prog 58 := fn_ok (F := disk_Disk_lay.S N) (n0 := 1000) Try.func58 (by kernel_rfl) (show Try.f58.body = some disk_Disk_lay.code by rfl) mix (disk_Disk_lay.cok N) (fun _ => rfl) (fun _ => rfl) (disk_Disk_lay.pok N) (fun x y h => (disk_Disk_lay.ev N x).trans h)
/-- (*hayloft/disk.Disk).Append -/
def disk_Disk_Append.ins : Sh := (.cons (.box 75 (.cons (.val (.int .i64)) (.cons (.val (.int .i64)) (.cons (.own 3000000 (.pair .str (.pair (.slice .byte) (.int .i64)))) (.cons (.val (.int .i64)) (.cons (.val (.int .i64)) (.cons (.val .bool) .nil))))))) (.cons (.val .str) (.cons (.val (.slice .byte)) .nil)))
def disk_Disk_Append.C (N : Nat) : Ctx := ⟨U, 41, fun _ => true, gam [(78, (disk_named.S N).con), (79, (disk_Disk_Free.S N).con), (80, (slices_Concat_byte_byte.S N).con), (58, (disk_Disk_lay.S N).con), (81, (disk_Disk_step.S N).con)], gamY []⟩
theorem disk_Disk_Append.cok (N : Nat) : (disk_Disk_Append.C N).Ok Try.prog := ⟨U_ok, GamOk.cons (disk_named.ok N) (GamOk.cons (disk_Disk_Free.ok N) (GamOk.cons (slices_Concat_byte_byte.ok N) (GamOk.cons (disk_Disk_lay.ok N) (GamOk.cons (disk_Disk_step.ok N) (GamOk.nil))))), GamYOk.nil⟩
def disk_Disk_Append.code : Code := Try.f47.body.getD .skip
def disk_Disk_Append.outs : Sh := (.cons (.upd 0 75 (.cons (.val (.int .i64)) (.cons (.val (.int .i64)) (.cons (.own 3000000 (.pair .str (.pair (.slice .byte) (.int .i64)))) (.cons (.val (.int .i64)) (.cons (.val (.int .i64)) (.cons (.val .bool) .nil))))))) (.cons (.val (.int .i64)) .nil))
def disk_Disk_Append.run (N : Nat) (room_ : Int) (used : Int) (files : (List ((List UInt8) × ((List UInt8) × Int)))) (steps : Int) (left : Int) (dead : Bool) (name : (List UInt8)) (b : (List UInt8)) : Option ((Int × Int × (List ((List UInt8) × ((List UInt8) × Int))) × Int × Int × Bool × Unit) × Int × Unit) :=
  bif dead then
    some ((room_, used, files, steps, left, dead, ()), (44 : Int), ())
  else
    obind (disk_named.run N name) fun (b1, _) =>
      bif !b1 then
        some ((room_, used, files, steps, left, dead, ()), (40 : Int), ())
      else
        obind (disk_Disk_Free.run N room_ used files steps left dead) fun (n_, _) =>
          bif decide ((b.length : Int) > n_) then
            some ((room_, used, files, steps, left, dead, ()), (41 : Int), ())
          else
            obind (slices_Concat_byte_byte.run N ([(mapGet files name (([] : List UInt8), (0 : Int))).1, b] : List (List UInt8))) fun (l, _) =>
              obind (disk_Disk_lay.run N room_ used files steps left dead name (l, (mapGet files name (([] : List UInt8), (0 : Int))).2)) fun ((room1, used1, files1, steps1, left1, dead1, _), _) =>
                obind (disk_Disk_step.run N room1 used1 files1 steps1 left1 dead1) fun ((room2, used2, files2, steps2, left2, dead2, _), b2, _) =>
                  bif b2 then
                    some ((room2, used2, files2, steps2, left2, dead2, ()), (44 : Int), ())
                  else some ((room2, used2, files2, steps2, left2, dead2, ()), (0 : Int), ())
def disk_Disk_Append.fn (N : Nat) (x : Sh.den disk_Disk_Append.ins) : Option (Sh.den disk_Disk_Append.outs) := disk_Disk_Append.run N x.1.1 x.1.2.1 x.1.2.2.1 x.1.2.2.2.1 x.1.2.2.2.2.1 x.1.2.2.2.2.2.1 x.2.1 x.2.2.1
def disk_Disk_Append.S (N : Nat) : Fs := ⟨disk_Disk_Append.ins, disk_Disk_Append.outs, disk_Disk_Append.fn N⟩
def disk_Disk_Append.lam (N : Nat) : Pcs := pcs []
theorem disk_Disk_Append.pok (N : Nat) : (disk_Disk_Append.lam N).Ok Try.prog (disk_Disk_Append.C N) disk_Disk_Append.code := pcsOk_nil
theorem disk_Disk_Append.ev (N : Nat) (x : Sh.den disk_Disk_Append.ins) : evC (disk_Disk_Append.C N) disk_Disk_Append.code (disk_Disk_Append.lam N) ⟨envOf 0 (bld (fun k => k) disk_Disk_Append.ins x 0).1, (bld (fun k => k) disk_Disk_Append.ins x 0).2.1, 1000⟩ (endF U disk_Disk_Append.outs Try.f47.results.toList []) = disk_Disk_Append.fn N x := by kernel_rfl
theorem disk_Disk_Append.ok (N : Nat) : (disk_Disk_Append.S N).con.Ok Try.prog 47 := fn_ok (F := disk_Disk_Append.S N) (n0 := 1000) Try.func47 (by kernel_rfl) (show Try.f47.body = some disk_Disk_Append.code by rfl) mix (disk_Disk_Append.cok N) (fun _ => rfl) (fun _ => rfl) (disk_Disk_Append.pok N) (fun x y h => (disk_Disk_Append.ev N x).trans h)
/-- hayloft/redo.Create$2 -/
def redo_Create_f2.ins : Sh := (.cons (.rbox 34 (.cons (.box 75 (.cons (.val (.int .i64)) (.cons (.val (.int .i64)) (.cons (.own 3000000 (.pair .str (.pair (.slice .byte) (.int .i64)))) (.cons (.val (.int .i64)) (.cons (.val (.int .i64)) (.cons (.val .bool) .nil))))))) .nil)) (.cons (.rbox 9 (.cons (.val .str) .nil)) .nil))
def redo_Create_f2.C (N : Nat) : Ctx := ⟨U, 6, fun _ => true, gam [(47, (disk_Disk_Append.S N).con)], gamY []⟩
theorem redo_Create_f2.cok (N : Nat) : (redo_Create_f2.C N).Ok Try.prog := ⟨U_ok, GamOk.cons (disk_Disk_Append.ok N) (GamOk.nil), GamYOk.nil⟩
def redo_Create_f2.code : Code := Try.f46.body.getD .skip
def redo_Create_f2.outs : Sh := (.cons (.upd 1 75 (.cons (.val (.int .i64)) (.cons (.val (.int .i64)) (.cons (.own 3000000 (.pair .str (.pair (.slice .byte) (.int .i64)))) (.cons (.val (.int .i64)) (.cons (.val (.int .i64)) (.cons (.val .bool) .nil))))))) (.cons (.val (.int .i64)) .nil))
def redo_Create_f2.run (N : Nat) (room_ : Int) (used : Int) (files : (List ((List UInt8) × ((List UInt8) × Int)))) (steps : Int) (left : Int) (dead : Bool) (t1 : (List UInt8)) : Option ((Int × Int × (List ((List UInt8) × ((List UInt8) × Int))) × Int × Int × Bool × Unit) × Int × Unit) :=
  obind (disk_Disk_Append.run N room_ used files steps left dead t1 ([] : List UInt8)) fun ((room1, used1, files1, steps1, left1, dead1, _), n_, _) =>
    some ((room1, used1, files1, steps1, left1, dead1, ()), n_, ())
def redo_Create_f2.fn (N : Nat) (x : Sh.den redo_Create_f2.ins) : Option (Sh.den redo_Create_f2.outs) := redo_Create_f2.run N x.1.1.1 x.1.1.2.1 x.1.1.2.2.1 x.1.1.2.2.2.1 x.1.1.2.2.2.2.1 x.1.1.2.2.2.2.2.1 x.2.1.1
def redo_Create_f2.S (N : Nat) : Fs := ⟨redo_Create_f2.ins, redo_Create_f2.outs, redo_Create_f2.fn N⟩
def redo_Create_f2.lam (N : Nat) : Pcs := pcs []
theorem redo_Create_f2.pok (N : Nat) : (redo_Create_f2.lam N).Ok Try.prog (redo_Create_f2.C N) redo_Create_f2.code := pcsOk_nil
theorem redo_Create_f2.ev (N : Nat) (x : Sh.den redo_Create_f2.ins) : evC (redo_Create_f2.C N) redo_Create_f2.code (redo_Create_f2.lam N) ⟨envOf 0 (bld (fun k => k) redo_Create_f2.ins x 0).1, (bld (fun k => k) redo_Create_f2.ins x 0).2.1, 1000⟩ (endF U redo_Create_f2.outs Try.f46.results.toList []) = redo_Create_f2.fn N x := by kernel_rfl
theorem redo_Create_f2.ok (N : Nat) : (redo_Create_f2.S N).con.Ok Try.prog 46 := fn_ok (F := redo_Create_f2.S N) (n0 := 1000) Try.func46 (by kernel_rfl) (show Try.f46.body = some redo_Create_f2.code by rfl) mix (redo_Create_f2.cok N) (fun _ => rfl) (fun _ => rfl) (redo_Create_f2.pok N) (fun x y h => (redo_Create_f2.ev N x).trans h)
/-- (*hayloft/disk.Disk).Sync$1 -/
def disk_Disk_Sync_f1.ins : Sh := (.cons (.val (.pair (.slice .byte) (.int .i64))) (.cons (.rbox 34 (.cons (.box 75 (.cons (.val (.int .i64)) (.cons (.val (.int .i64)) (.cons (.own 3000000 (.pair .str (.pair (.slice .byte) (.int .i64)))) (.cons (.val (.int .i64)) (.cons (.val (.int .i64)) (.cons (.val .bool) .nil))))))) .nil)) (.cons (.rbox 9 (.cons (.val .str) .nil)) .nil)))
end
end Go.Hay.Ythlojpcjafefjaa
