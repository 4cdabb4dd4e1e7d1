/- Functions of the program as functions of Lean, and that they are what the program computes. Conditions: none. -/
import Derived.Test.YtebejjfgibkhbaaFa
set_option linter.unusedVariables false
namespace Go.Hay.Ytebejjfgibkhbaa
open Go Go.Hay Go.Proofs
noncomputable section
set_option maxRecDepth 100000
def codec_Frame.fn (N : Nat) (x : Sh.den codec_Frame.ins) : Option (Sh.den codec_Frame.outs) := codec_Frame.run N x.1
def codec_Frame.S (N : Nat) : Fs := ⟨codec_Frame.ins, codec_Frame.outs, codec_Frame.fn N⟩
def codec_Frame.lam (N : Nat) : Pcs := pcs []
theorem codec_Frame.pok (N : Nat) : (codec_Frame.lam N).Ok Try.prog (codec_Frame.C N) codec_Frame.code := pcsOk_nil
theorem codec_Frame.ev (N : Nat) (x : Sh.den codec_Frame.ins) : evC (codec_Frame.C N) codec_Frame.code (codec_Frame.lam N) ⟨envOf 0 (bld (fun k => k) codec_Frame.ins x 0).1, (bld (fun k => k) codec_Frame.ins x 0).2.1, 1000⟩ (endF U codec_Frame.outs Try.f40.results.toList []) = codec_Frame.fn N x := by kernel_rfl
theorem codec_Frame.ok (N : Nat) : (codec_Frame.S N).con.Ok Try.prog 40 := fn_ok (F := codec_Frame.S N) (n0 := 1000) Try.func40 (by kernel_rfl) (show Try.f40.body = some codec_Frame.code by rfl) mix (codec_Frame.cok N) (fun _ => rfl) (fun _ => rfl) (codec_Frame.pok N) (fun x y h => (codec_Frame.ev N x).trans h)
/-- hayloft/hayloftref01.Sum -/
def ref_Sum_b.ins : Sh := (.cons (.rown 5 .byte) .nil)
def ref_Sum_b.C (N : Nat) : Ctx := ⟨U, 33, fun _ => true, gam [], gamY []⟩
theorem ref_Sum_b.cok (N : Nat) : (ref_Sum_b.C N).Ok Try.prog := ⟨U_ok, GamOk.nil, GamYOk.nil⟩
def ref_Sum_b.code : Code := Try.f38.body.getD .skip
def ref_Sum_b_0.ins : Sh := (.cons (.rown 5 .byte) (.cons (.val (.int .u32)) (.cons (.val (.int .i64)) .nil)))
def ref_Sum_b_0.ts : List Tmp := [0, 3, 4]
def ref_Sum_b_0.asg : List Tmp := [3, 4, 5, 6, 7, 8, 9, 10, 11, 12, 13, 14, 15, 16, 17, 18, 19, 20, 21, 22, 23, 24, 25, 26, 27, 28, 29, 30]
def ref_Sum_b_0.C (N : Nat) : Ctx := { ref_Sum_b.C N with may := fun t => ref_Sum_b_0.asg.any (Nat.beq t) }
def ref_Sum_b_0.code : Code := loopBody (sub ref_Sum_b.code [true, true, false, true, false])
theorem ref_Sum_b_0.cok (N : Nat) : (ref_Sum_b_0.C N).Ok Try.prog := ⟨(ref_Sum_b.cok N).U, (ref_Sum_b.cok N).Γ, (ref_Sum_b.cok N).Y⟩
def ref_Sum_b_0_0.ins : Sh := (.cons (.val (.int .u32)) (.cons (.val (.int .i64)) .nil))
def ref_Sum_b_0_0.ts : List Tmp := [3, 5]
def ref_Sum_b_0_0.asg : List Tmp := [3, 5, 19, 20, 21, 22, 23, 24, 25, 26, 27, 28, 29, 30]
def ref_Sum_b_0_0.C (N : Nat) : Ctx := { ref_Sum_b_0.C N with may := fun t => ref_Sum_b_0_0.asg.any (Nat.beq t) }
def ref_Sum_b_0_0.code : Code := loopBody (sub ref_Sum_b_0.code [true, false, false, true, true, false])
theorem ref_Sum_b_0_0.cok (N : Nat) : (ref_Sum_b_0_0.C N).Ok Try.prog := ⟨(ref_Sum_b_0.cok N).U, (ref_Sum_b_0.cok N).Γ, (ref_Sum_b_0.cok N).Y⟩
def ref_Sum_b_0_0.alts : List Alt := [⟨(.exit 2), [3], (.cons (.val (.int .u32)) .nil)⟩]
def ref_Sum_b_0_0.go (N : Nat) : Nat → Int → Int → Option ((Int × Unit))
  | 0, _, _ => none
  | fuel + 1, r, k =>
    bif decide (k < (8 : Int)) then
      bif decide ((r.tmod (2 : Int)) = (1 : Int)) then
        ref_Sum_b_0_0.go N fuel (IntKind.u32.wrap ((BitVec.ofInt 32 (IntKind.u32.wrap (r.tdiv (2 : Int))) ^^^ BitVec.ofInt 32 (3988292384 : Int)).toNat : Int)) (IntKind.i64.wrap (k + (1 : Int)))
      else ref_Sum_b_0_0.go N fuel (IntKind.u32.wrap (r.tdiv (2 : Int))) (IntKind.i64.wrap (k + (1 : Int)))
    else some (r, ())
def ref_Sum_b_0_0.g (N n : Nat) (x : Sh.den ref_Sum_b_0_0.ins) : Option (altsDen ref_Sum_b_0_0.alts) := ref_Sum_b_0_0.go N n x.1 x.2.1
def ref_Sum_b_0_0.P (N : Nat) : Ps := ⟨ref_Sum_b_0_0.ts, ref_Sum_b_0_0.ins, ref_Sum_b_0_0.asg, ref_Sum_b_0_0.alts, ref_Sum_b_0_0.g N N⟩
def ref_Sum_b_0_0.lam (N : Nat) : Pcs := pcs []
theorem ref_Sum_b_0_0.pok (N : Nat) : (ref_Sum_b_0_0.lam N).Ok Try.prog (ref_Sum_b_0_0.C N) ref_Sum_b_0_0.code := pcsOk_nil
theorem ref_Sum_b_0_0.ev (N n : Nat) (x : Sh.den ref_Sum_b_0_0.ins) : evC (ref_Sum_b_0_0.C N) ref_Sum_b_0_0.code (ref_Sum_b_0_0.lam N) ((ref_Sum_b_0_0.P N).canon 1000 x) (loopK (ref_Sum_b_0_0.P N) (ref_Sum_b_0_0.g N n)) = ref_Sum_b_0_0.g N (n + 1) x := by kernel_rfl
theorem ref_Sum_b_0_0.ok (N : Nat) : ((ref_Sum_b_0_0.P N).pc (ref_Sum_b_0.C N)).Ok Try.prog (ref_Sum_b_0.C N) (.loop ref_Sum_b_0_0.code) := loop_ok (F := ref_Sum_b_0_0.P N) (n0 := 1000) (N := N) (ref_Sum_b_0.cok N) mix (ref_Sum_b_0_0.pok N) (ref_Sum_b_0_0.g N) (fun x => by rfl) rfl (fun n x y h => (ref_Sum_b_0_0.ev N n x).trans h)
def ref_Sum_b_0.alts : List Alt := [⟨(.exit 0), [3], (.cons (.val (.int .u32)) .nil)⟩]
def ref_Sum_b_0.go (N : Nat) : Nat → (List UInt8) → Int → Int → Option ((Int × Unit))
  | 0, _, _, _ => none
  | fuel + 1, b, r, i =>
    bif decide (i < (b.length : Int)) then
      bif inB i b.length then
        bif decide (i.toNat < b.length) then
          obind (ref_Sum_b_0_0.go N N (IntKind.u32.wrap ((BitVec.ofInt 32 r ^^^ BitVec.ofInt 32 (IntKind.u32.wrap ((b.getD i.toNat (0 : UInt8)).toNat : Int))).toNat : Int)) (0 : Int)) fun (r1, _) =>
            ref_Sum_b_0.go N fuel b r1 (IntKind.i64.wrap (i + (1 : Int)))
        else none
      else none
    else some (r, ())
def ref_Sum_b_0.g (N n : Nat) (x : Sh.den ref_Sum_b_0.ins) : Option (altsDen ref_Sum_b_0.alts) := ref_Sum_b_0.go N n x.1 x.2.1 x.2.2.1
def ref_Sum_b_0.P (N : Nat) : Ps := ⟨ref_Sum_b_0.ts, ref_Sum_b_0.ins, ref_Sum_b_0.asg, ref_Sum_b_0.alts, ref_Sum_b_0.g N N⟩
def ref_Sum_b_0.lam (N : Nat) : Pcs := pcs [([true, false, false, true, true, false], (ref_Sum_b_0_0.P N).pc (ref_Sum_b_0.C N))]
theorem ref_Sum_b_0.pok (N : Nat) : (ref_Sum_b_0.lam N).Ok Try.prog (ref_Sum_b_0.C N) ref_Sum_b_0.code := pcsOk_cons (c1 := .loop ref_Sum_b_0_0.code) (by kernel_rfl) (ref_Sum_b_0_0.ok N) (pcsOk_nil)
theorem ref_Sum_b_0.ev (N n : Nat) (x : Sh.den ref_Sum_b_0.ins) : evC (ref_Sum_b_0.C N) ref_Sum_b_0.code (ref_Sum_b_0.lam N) ((ref_Sum_b_0.P N).canon 1000 x) (loopK (ref_Sum_b_0.P N) (ref_Sum_b_0.g N n)) = ref_Sum_b_0.g N (n + 1) x := by kernel_rfl
theorem ref_Sum_b_0.ok (N : Nat) : ((ref_Sum_b_0.P N).pc (ref_Sum_b.C N)).Ok Try.prog (ref_Sum_b.C N) (.loop ref_Sum_b_0.code) := loop_ok (F := ref_Sum_b_0.P N) (n0 := 1000) (N := N) (ref_Sum_b.cok N) mix (ref_Sum_b_0.pok N) (ref_Sum_b_0.g N) (fun x => by rfl) rfl (fun n x y h => (ref_Sum_b_0.ev N n x).trans h)
def ref_Sum_b.outs : Sh := (.cons (.val (.int .u32)) .nil)
def ref_Sum_b.run (N : Nat) (b : (List UInt8)) : Option (Int × Unit) :=
  obind (ref_Sum_b_0.go N N b (4294967295 : Int) (0 : Int)) fun (r, _) =>
    some (IntKind.u32.wrap ((BitVec.ofInt 32 r ^^^ BitVec.ofInt 32 (4294967295 : Int)).toNat : Int), ())
def ref_Sum_b.fn (N : Nat) (x : Sh.den ref_Sum_b.ins) : Option (Sh.den ref_Sum_b.outs) := ref_Sum_b.run N x.1
def ref_Sum_b.S (N : Nat) : Fs := ⟨ref_Sum_b.ins, ref_Sum_b.outs, ref_Sum_b.fn N⟩
def ref_Sum_b.lam (N : Nat) : Pcs := pcs [([true, true, false, true, false], (ref_Sum_b_0.P N).pc (ref_Sum_b.C N))]
theorem ref_Sum_b.pok (N : Nat) : (ref_Sum_b.lam N).Ok Try.prog (ref_Sum_b.C N) ref_Sum_b.code := pcsOk_cons (c1 := .loop ref_Sum_b_0.code) (by kernel_rfl) (ref_Sum_b_0.ok N) (pcsOk_nil)
theorem ref_Sum_b.ev (N : Nat) (x : Sh.den ref_Sum_b.ins) : evC (ref_Sum_b.C N) ref_Sum_b.code (ref_Sum_b.lam N) ⟨envOf 0 (bld (fun k => k) ref_Sum_b.ins x 0).1, (bld (fun k => k) ref_Sum_b.ins x 0).2.1, 1000⟩ (endF U ref_Sum_b.outs Try.f38.results.toList []) = ref_Sum_b.fn N x := by kernel_rfl
theorem ref_Sum_b.ok (N : Nat) : (ref_Sum_b.S N).con.Ok Try.prog 38 := fn_ok (F := ref_Sum_b.S N) (n0 := 1000) Try.func38 (by kernel_rfl) (show Try.f38.body = some ref_Sum_b.code by rfl) mix (ref_Sum_b.cok N) (fun _ => rfl) (fun _ => rfl) (ref_Sum_b.pok N) (fun x y h => (ref_Sum_b.ev N x).trans h)
/-- hayloft/hayloftref01.Frame -/
def ref_Frame.ins : Sh := (.cons (.val (.slice .byte)) .nil)
def ref_Frame.C (N : Nat) : Ctx := ⟨U, 28, fun _ => true, gam [(54, (ref_Number.S N).con), (38, (((ref_Sum_b.S N).con).or (ref_Sum.S N).con))], gamY []⟩
theorem ref_Frame.cok (N : Nat) : (ref_Frame.C N).Ok Try.prog := ⟨U_ok, GamOk.cons (ref_Number.ok N) (GamOk.cons (Con.or_ok (ref_Sum_b.ok N) (ref_Sum.ok N)) (GamOk.nil)), GamYOk.nil⟩
def ref_Frame.code : Code := Try.f41.body.getD .skip
def ref_Frame.outs : Sh := (.cons (.own 5 .byte) (.cons (.val (.int .i64)) .nil))
def ref_Frame.run (N : Nat) (b : (List UInt8)) : Option ((List UInt8) × Int × Unit) :=
  bif decide ((b.length : Int) > (16777216 : Int)) then
    some (([] : List UInt8), (12 : Int), ())
  else
    obind (ref_Number.run N (IntKind.u64.wrap (b.length : Int)) (4 : Int)) fun (l, _) =>
      obind (ref_Sum_b.run N l) fun (n_, _) =>
        obind (ref_Number.run N (IntKind.u64.wrap n_) (4 : Int)) fun (l1, _) =>
          bif room (l.length + l1.length) 1 then
            bif room ((l ++ l1).length + b.length) 1 then
              obind (ref_Sum.run N b) fun (n1, _) =>
                obind (ref_Number.run N (IntKind.u64.wrap n1) (4 : Int)) fun (l2, _) =>
                  bif room (((l ++ l1) ++ b).length + l2.length) 1 then
                    some (((l ++ l1) ++ b) ++ l2, (0 : Int), ())
                  else none
            else none
          else none
def ref_Frame.fn (N : Nat) (x : Sh.den ref_Frame.ins) : Option (Sh.den ref_Frame.outs) := ref_Frame.run N x.1
def ref_Frame.S (N : Nat) : Fs := ⟨ref_Frame.ins, ref_Frame.outs, ref_Frame.fn N⟩
def ref_Frame.lam (N : Nat) : Pcs := pcs []
theorem ref_Frame.pok (N : Nat) : (ref_Frame.lam N).Ok Try.prog (ref_Frame.C N) ref_Frame.code := pcsOk_nil
theorem ref_Frame.ev (N : Nat) (x : Sh.den ref_Frame.ins) : evC (ref_Frame.C N) ref_Frame.code (ref_Frame.lam N) ⟨envOf 0 (bld (fun k => k) ref_Frame.ins x 0).1, (bld (fun k => k) ref_Frame.ins x 0).2.1, 1000⟩ (endF U ref_Frame.outs Try.f41.results.toList []) = ref_Frame.fn N x := by kernel_rfl
theorem ref_Frame.ok (N : Nat) : (ref_Frame.S N).con.Ok Try.prog 41 := fn_ok (F := ref_Frame.S N) (n0 := 1000) Try.func41 (by kernel_rfl) (show Try.f41.body = some ref_Frame.code by rfl) mix (ref_Frame.cok N) (fun _ => rfl) (fun _ => rfl) (ref_Frame.pok N) (fun x y h => (ref_Frame.ev N x).trans h)
/-- hayloft/codec.Unframe -/
def codec_Unframe.ins : Sh := (.cons (.val (.slice .byte)) .nil)
def codec_Unframe.C (N : Nat) : Ctx := ⟨U, 51, fun _ => true, gam [(14, (codec_Read.S N).con), (56, (codec_Reader_Word.S N).con), (37, (((codec_Sum_b.S N).con).or (codec_Sum.S N).con)), (60, (codec_Reader_Raw.S N).con)], gamY []⟩
theorem codec_Unframe.cok (N : Nat) : (codec_Unframe.C N).Ok Try.prog := ⟨U_ok, GamOk.cons (codec_Read.ok N) (GamOk.cons (codec_Reader_Word.ok N) (GamOk.cons (Con.or_ok (codec_Sum_b.ok N) (codec_Sum.ok N)) (GamOk.cons (codec_Reader_Raw.ok N) (GamOk.nil)))), GamYOk.nil⟩
def codec_Unframe.code : Code := Try.f42.body.getD .skip
def codec_Unframe.outs : Sh := (.cons (.own 5 .byte) (.cons (.val (.int .i64)) (.cons (.val (.int .i64)) .nil)))
def codec_Unframe.run (N : Nat) (b : (List UInt8)) : Option ((List UInt8) × Int × Int × Unit) :=
  obind (codec_Read.run N b) fun ((b1, e, _), _) =>
    obind (codec_Reader_Word.run N b1 e) fun ((b2, e1, _), n_, _) =>
      obind (codec_Reader_Word.run N b2 e1) fun ((b3, e2, _), n1, _) =>
        bif !(decide (e2 = (0 : Int))) then
          some (([] : List UInt8), (0 : Int), (10 : Int), ())
        else
          bif okB (0 : Int) (4 : Int) b.length then
            obind (codec_Sum.run N (b.take 4)) fun (n2, _) =>
              bif !(decide (n1 = n2)) then
                some (([] : List UInt8), (0 : Int), (14 : Int), ())
              else
                bif decide (n_ > (16777216 : Int)) then
                  some (([] : List UInt8), (0 : Int), (12 : Int), ())
                else
                  obind (codec_Reader_Raw.run N b3 e2 (IntKind.i64.wrap n_)) fun ((b4, e3, _), l, _) =>
                    obind (codec_Reader_Word.run N b4 e3) fun ((b5, e4, _), n3, _) =>
                      bif !(decide (e4 = (0 : Int))) then
                        some (([] : List UInt8), (0 : Int), (10 : Int), ())
                      else
                        obind (codec_Sum_b.run N l) fun (n4, _) =>
                          bif !(decide (n3 = n4)) then
                            some (([] : List UInt8), (0 : Int), (14 : Int), ())
                          else some (l, IntKind.i64.wrap ((IntKind.i64.wrap n_) + (12 : Int)), (0 : Int), ())
          else none
def codec_Unframe.fn (N : Nat) (x : Sh.den codec_Unframe.ins) : Option (Sh.den codec_Unframe.outs) := codec_Unframe.run N x.1
def codec_Unframe.S (N : Nat) : Fs := ⟨codec_Unframe.ins, codec_Unframe.outs, codec_Unframe.fn N⟩
def codec_Unframe.lam (N : Nat) : Pcs := pcs []
theorem codec_Unframe.pok (N : Nat) : (codec_Unframe.lam N).Ok Try.prog (codec_Unframe.C N) codec_Unframe.code := pcsOk_nil
theorem codec_Unframe.ev (N : Nat) (x : Sh.den codec_Unframe.ins) : evC (codec_Unframe.C N) codec_Unframe.code (codec_Unframe.lam N) ⟨envOf 0 (bld (fun k => k) codec_Unframe.ins x 0).1, (bld (fun k => k) codec_Unframe.ins x 0).2.1, 1000⟩ (endF U codec_Unframe.outs Try.f42.results.toList []) = codec_Unframe.fn N x := by kernel_rfl
theorem codec_Unframe.ok (N : Nat) : (codec_Unframe.S N).con.Ok Try.prog 42 := fn_ok (F := codec_Unframe.S N) (n0 := 1000) Try.func42 (by kernel_rfl) (show Try.f42.body = some codec_Unframe.code by rfl) mix (codec_Unframe.cok N) (fun _ => rfl) (fun _ => rfl) (codec_Unframe.pok N) (fun x y h => (codec_Unframe.ev N x).trans h)
/-- hayloft/hayloftref01.Said -/
def ref_Said_b.ins : Sh := (.cons (.val (.slice .byte)) .nil)
def ref_Said_b.C (N : Nat) : Ctx := ⟨U, 20, fun _ => true, gam [], gamY []⟩
theorem ref_Said_b.cok (N : Nat) : (ref_Said_b.C N).Ok Try.prog := ⟨U_ok, GamOk.nil, GamYOk.nil⟩
def ref_Said_b.code : Code := Try.f65.body.getD .skip
def ref_Said_b_0.ins : Sh := (.cons (.val (.slice .byte)) (.cons (.val (.int .u64)) (.cons (.val (.int .i64)) .nil)))
def ref_Said_b_0.ts : List Tmp := [0, 3, 4]
def ref_Said_b_0.asg : List Tmp := [3, 4, 5, 6, 7, 8, 9, 10, 11, 12, 13, 14, 15, 16, 17, 18]
def ref_Said_b_0.C (N : Nat) : Ctx := { ref_Said_b.C N with may := fun t => ref_Said_b_0.asg.any (Nat.beq t) }
def ref_Said_b_0.code : Code := loopBody (sub ref_Said_b.code [true, true, false, true, false])
theorem ref_Said_b_0.cok (N : Nat) : (ref_Said_b_0.C N).Ok Try.prog := ⟨(ref_Said_b.cok N).U, (ref_Said_b.cok N).Γ, (ref_Said_b.cok N).Y⟩
def ref_Said_b_0.alts : List Alt := [⟨(.exit 0), [3], (.cons (.val (.int .u64)) .nil)⟩]
def ref_Said_b_0.go (N : Nat) : Nat → (List UInt8) → Int → Int → Option ((Int × Unit))
  | 0, _, _, _ => none
  | fuel + 1, b, n_, i =>
    bif decide (i < (b.length : Int)) then
      bif inB i b.length then
        ref_Said_b_0.go N fuel b (IntKind.u64.wrap ((IntKind.u64.wrap ((256 : Int) * n_)) + (IntKind.u64.wrap ((b.getD i.toNat (0 : UInt8)).toNat : Int)))) (IntKind.i64.wrap (i + (1 : Int)))
      else none
    else some (n_, ())
def ref_Said_b_0.g (N n : Nat) (x : Sh.den ref_Said_b_0.ins) : Option (altsDen ref_Said_b_0.alts) := ref_Said_b_0.go N n x.1 x.2.1 x.2.2.1
def ref_Said_b_0.P (N : Nat) : Ps := ⟨ref_Said_b_0.ts, ref_Said_b_0.ins, ref_Said_b_0.asg, ref_Said_b_0.alts, ref_Said_b_0.g N N⟩
def ref_Said_b_0.lam (N : Nat) : Pcs := pcs []
theorem ref_Said_b_0.pok (N : Nat) : (ref_Said_b_0.lam N).Ok Try.prog (ref_Said_b_0.C N) ref_Said_b_0.code := pcsOk_nil
theorem ref_Said_b_0.ev (N n : Nat) (x : Sh.den ref_Said_b_0.ins) : evC (ref_Said_b_0.C N) ref_Said_b_0.code (ref_Said_b_0.lam N) ((ref_Said_b_0.P N).canon 1000 x) (loopK (ref_Said_b_0.P N) (ref_Said_b_0.g N n)) = ref_Said_b_0.g N (n + 1) x := by kernel_rfl
theorem ref_Said_b_0.ok (N : Nat) : ((ref_Said_b_0.P N).pc (ref_Said_b.C N)).Ok Try.prog (ref_Said_b.C N) (.loop ref_Said_b_0.code) := loop_ok (F := ref_Said_b_0.P N) (n0 := 1000) (N := N) (ref_Said_b.cok N) mix (ref_Said_b_0.pok N) (ref_Said_b_0.g N) (fun x => by rfl) rfl (fun n x y h => (ref_Said_b_0.ev N n x).trans h)
def ref_Said_b.outs : Sh := (.cons (.val (.int .u64)) .nil)
def ref_Said_b.run (N : Nat) (b : (List UInt8)) : Option (Int × Unit) :=
  obind (ref_Said_b_0.go N N b (0 : Int) (0 : Int)) fun (n_, _) =>
    some (n_, ())
def ref_Said_b.fn (N : Nat) (x : Sh.den ref_Said_b.ins) : Option (Sh.den ref_Said_b.outs) := ref_Said_b.run N x.1
def ref_Said_b.S (N : Nat) : Fs := ⟨ref_Said_b.ins, ref_Said_b.outs, ref_Said_b.fn N⟩
def ref_Said_b.lam (N : Nat) : Pcs := pcs [([true, true, false, true, false], (ref_Said_b_0.P N).pc (ref_Said_b.C N))]
theorem ref_Said_b.pok (N : Nat) : (ref_Said_b.lam N).Ok Try.prog (ref_Said_b.C N) ref_Said_b.code := pcsOk_cons (c1 := .loop ref_Said_b_0.code) (by kernel_rfl) (ref_Said_b_0.ok N) (pcsOk_nil)
theorem ref_Said_b.ev (N : Nat) (x : Sh.den ref_Said_b.ins) : evC (ref_Said_b.C N) ref_Said_b.code (ref_Said_b.lam N) ⟨envOf 0 (bld (fun k => k) ref_Said_b.ins x 0).1, (bld (fun k => k) ref_Said_b.ins x 0).2.1, 1000⟩ (endF U ref_Said_b.outs Try.f65.results.toList []) = ref_Said_b.fn N x := by kernel_rfl
theorem ref_Said_b.ok (N : Nat) : (ref_Said_b.S N).con.Ok Try.prog 65 := fn_ok (F := ref_Said_b.S N) (n0 := 1000) Try.func65 (by kernel_rfl) (show Try.f65.body = some ref_Said_b.code by rfl) mix (ref_Said_b.cok N) (fun _ => rfl) (fun _ => rfl) (ref_Said_b.pok N) (fun x y h => (ref_Said_b.ev N x).trans h)
/-- hayloft/hayloftref01.Unframe -/
def ref_Unframe.ins : Sh := (.cons (.val (.slice .byte)) .nil)
def ref_Unframe.C (N : Nat) : Ctx := ⟨U, 48, fun _ => true, gam [(65, (ref_Said_b.S N).con), (38, (ref_Sum.S N).con)], gamY []⟩
theorem ref_Unframe.cok (N : Nat) : (ref_Unframe.C N).Ok Try.prog := ⟨U_ok, GamOk.cons (ref_Said_b.ok N) (GamOk.cons (ref_Sum.ok N) (GamOk.nil)), GamYOk.nil⟩
def ref_Unframe.code : Code := Try.f43.body.getD .skip
def ref_Unframe.outs : Sh := (.cons (.val (.slice .byte)) (.cons (.val (.int .i64)) (.cons (.val (.int .i64)) .nil)))
def ref_Unframe.run (N : Nat) (b : (List UInt8)) : Option ((List UInt8) × Int × Int × Unit) :=
  bif decide ((b.length : Int) < (8 : Int)) then
    some (([] : List UInt8), (0 : Int), (10 : Int), ())
  else
    bif okB (0 : Int) (4 : Int) b.length then
      obind (ref_Said_b.run N (b.take 4)) fun (n_, _) =>
        bif okB (4 : Int) (8 : Int) b.length then
          obind (ref_Said_b.run N ((b.take 8).drop 4)) fun (n1, _) =>
            bif okB (0 : Int) (4 : Int) b.length then
              obind (ref_Sum.run N (b.take 4)) fun (n2, _) =>
                bif !(decide (n1 = (IntKind.u64.wrap n2))) then
                  some (([] : List UInt8), (0 : Int), (14 : Int), ())
                else
                  bif decide ((IntKind.i64.wrap n_) > (16777216 : Int)) then
                    some (([] : List UInt8), (0 : Int), (12 : Int), ())
                  else
                    bif decide ((IntKind.i64.wrap ((b.length : Int) - (12 : Int))) < (IntKind.i64.wrap n_)) then
                      some (([] : List UInt8), (0 : Int), (10 : Int), ())
                    else
                      bif okB (IntKind.i64.wrap ((8 : Int) + (IntKind.i64.wrap n_))) (IntKind.i64.wrap ((12 : Int) + (IntKind.i64.wrap n_))) b.length then
                        obind (ref_Said_b.run N ((b.take (IntKind.i64.wrap ((12 : Int) + (IntKind.i64.wrap n_))).toNat).drop (IntKind.i64.wrap ((8 : Int) + (IntKind.i64.wrap n_))).toNat)) fun (n3, _) =>
                          bif okB (8 : Int) (IntKind.i64.wrap ((8 : Int) + (IntKind.i64.wrap n_))) b.length then
                            obind (ref_Sum.run N ((b.take (IntKind.i64.wrap ((8 : Int) + (IntKind.i64.wrap n_))).toNat).drop 8)) fun (n4, _) =>
                              bif !(decide (n3 = (IntKind.u64.wrap n4))) then
                                some (([] : List UInt8), (0 : Int), (14 : Int), ())
                              else
                                bif okB (8 : Int) (IntKind.i64.wrap ((8 : Int) + (IntKind.i64.wrap n_))) b.length then
                                  some ((b.take (IntKind.i64.wrap ((8 : Int) + (IntKind.i64.wrap n_))).toNat).drop 8, IntKind.i64.wrap ((IntKind.i64.wrap n_) + (12 : Int)), (0 : Int), ())
                                else none
                          else none
                      else none
            else none
        else none
    else none
def ref_Unframe.fn (N : Nat) (x : Sh.den ref_Unframe.ins) : Option (Sh.den ref_Unframe.outs) := ref_Unframe.run N x.1
def ref_Unframe.S (N : Nat) : Fs := ⟨ref_Unframe.ins, ref_Unframe.outs, ref_Unframe.fn N⟩
def ref_Unframe.lam (N : Nat) : Pcs := pcs []
theorem ref_Unframe.pok (N : Nat) : (ref_Unframe.lam N).Ok Try.prog (ref_Unframe.C N) ref_Unframe.code := pcsOk_nil
theorem ref_Unframe.ev (N : Nat) (x : Sh.den ref_Unframe.ins) : evC (ref_Unframe.C N) ref_Unframe.code (ref_Unframe.lam N) ⟨envOf 0 (bld (fun k => k) ref_Unframe.ins x 0).1, (bld (fun k => k) ref_Unframe.ins x 0).2.1, 1000⟩ (endF U ref_Unframe.outs Try.f43.results.toList []) = ref_Unframe.fn N x := by kernel_rfl
theorem ref_Unframe.ok (N : Nat) : (ref_Unframe.S N).con.Ok Try.prog 43 := fn_ok (F := ref_Unframe.S N) (n0 := 1000) Try.func43 (by kernel_rfl) (show Try.f43.body = some ref_Unframe.code by rfl) mix (ref_Unframe.cok N) (fun _ => rfl) (fun _ => rfl) (ref_Unframe.pok N) (fun x y h => (ref_Unframe.ev N x).trans h)
/-- hayloft/hayloftlaw01.CodecFrames -/
def law_CodecFrames.ins : Sh := (.cons (.val (.slice .byte)) (.cons (.val (.slice .byte)) .nil))
def law_CodecFrames.C (N : Nat) : Ctx := ⟨U, 63, fun _ => true, gam [(40, (codec_Frame.S N).con), (41, (ref_Frame.S N).con), (42, (codec_Unframe.S N).con), (43, (ref_Unframe.S N).con), (16, (law_alive.S N).con), (21, (((law_same.S N).con).or (law_same_b.S N).con))], gamY []⟩
theorem law_CodecFrames.cok (N : Nat) : (law_CodecFrames.C N).Ok Try.prog := ⟨U_ok, GamOk.cons (codec_Frame.ok N) (GamOk.cons (ref_Frame.ok N) (GamOk.cons (codec_Unframe.ok N) (GamOk.cons (ref_Unframe.ok N) (GamOk.cons (law_alive.ok N) (GamOk.cons (Con.or_ok (law_same.ok N) (law_same_b.ok N)) (GamOk.nil)))))), GamYOk.nil⟩
def law_CodecFrames.code : Code := Try.f11.body.getD .skip
def law_CodecFrames.outs : Sh := (.cons (.val .bool) .nil)
def law_CodecFrames.run (N : Nat) (b : (List UInt8)) (raw : (List UInt8)) : Option (Bool × Unit) :=
  obind (codec_Frame.run N b) fun (l, n_, _) =>
    obind (ref_Frame.run N b) fun (l1, n1, _) =>
      obind (codec_Unframe.run N raw) fun (l2, n2, n3, _) =>
        obind (ref_Unframe.run N raw) fun (l3, n4, n5, _) =>
          obind (law_alive.run N) fun (b1, _) =>
            bif b1 then
              obind (law_same.run N l l1) fun (b2, _) =>
                bif b2 then
                  bif decide (n_ = n1) then
                    obind (law_same_b.run N l2 l3) fun (b3, _) =>
                      bif b3 then
                        bif decide (n2 = n4) then
                          some (decide (n3 = n5), ())
                        else some (false, ())
                      else some (false, ())
                  else some (false, ())
                else some (false, ())
            else some (false, ())
def law_CodecFrames.fn (N : Nat) (x : Sh.den law_CodecFrames.ins) : Option (Sh.den law_CodecFrames.outs) := law_CodecFrames.run N x.1 x.2.1
def law_CodecFrames.S (N : Nat) : Fs := ⟨law_CodecFrames.ins, law_CodecFrames.outs, law_CodecFrames.fn N⟩
def law_CodecFrames.lam (N : Nat) : Pcs := pcs []
theorem law_CodecFrames.pok (N : Nat) : (law_CodecFrames.lam N).Ok Try.prog (law_CodecFrames.C N) law_CodecFrames.code := pcsOk_nil
theorem law_CodecFrames.ev (N : Nat) (x : Sh.den law_CodecFrames.ins) : evC (law_CodecFrames.C N) law_CodecFrames.code (law_CodecFrames.lam N) ⟨envOf 0 (bld (fun k => k) law_CodecFrames.ins x 0).1, (bld (fun k => k) law_CodecFrames.ins x 0).2.1, 1000⟩ (endF U law_CodecFrames.outs Try.f11.results.toList []) = law_CodecFrames.fn N x := by kernel_rfl
theorem law_CodecFrames.ok (N : Nat) : (law_CodecFrames.S N).con.Ok Try.prog 11 := fn_ok (F := law_CodecFrames.S N) (n0 := 1000) Try.func11 (by kernel_rfl) (show Try.f11.body = some law_CodecFrames.code by rfl) mix (law_CodecFrames.cok N) (fun _ => rfl) (fun _ => rfl) (law_CodecFrames.pok N) (fun x y h => (law_CodecFrames.ev N x).trans h)
/-- hayloft/hayloftlaw01.CodecStream -/
def law_CodecStream.ins : Sh := (.cons (.val (.slice (.slice .byte))) (.cons (.val (.int .i64)) .nil))
def law_CodecStream.C (N : Nat) : Ctx := ⟨U, 106, fun _ => true, gam [(40, (codec_Frame.S N).con), (16, (law_alive.S N).con), (42, (codec_Unframe.S N).con), (21, (law_same_b.S N).con)], gamY []⟩
theorem law_CodecStream.cok (N : Nat) : (law_CodecStream.C N).Ok Try.prog := ⟨U_ok, GamOk.cons (codec_Frame.ok N) (GamOk.cons (law_alive.ok N) (GamOk.cons (codec_Unframe.ok N) (GamOk.cons (law_same_b.ok N) (GamOk.nil)))), GamYOk.nil⟩
def law_CodecStream.code : Code := Try.f13.body.getD .skip
def law_CodecStream_0.ins : Sh := (.cons (.val (.int .i64)) (.cons (.own 5 .byte) (.cons (.val (.int .i64)) (.cons (.val (.int .i64)) (.cons (.val (.slice (.slice .byte))) (.cons (.val (.int .i64)) (.cons (.val (.int .i64)) .nil)))))))
def law_CodecStream_0.ts : List Tmp := [1, 5, 6, 7, 20, 21, 22]
def law_CodecStream_0.asg : List Tmp := [4, 5, 6, 7, 9, 10, 11, 22, 23, 24, 25, 26, 27, 28, 29, 30, 31, 32, 33, 34, 35, 36, 37, 38, 39, 40, 41, 42, 43, 44, 45, 46, 47, 48, 49]
def law_CodecStream_0.C (N : Nat) : Ctx := { law_CodecStream.C N with may := fun t => law_CodecStream_0.asg.any (Nat.beq t) }
def law_CodecStream_0.code : Code := loopBody (sub law_CodecStream.code [true, true, true, false, true, false])
theorem law_CodecStream_0.cok (N : Nat) : (law_CodecStream_0.C N).Ok Try.prog := ⟨(law_CodecStream.cok N).U, (law_CodecStream.cok N).Γ, (law_CodecStream.cok N).Y⟩
def law_CodecStream_0.alts : List Alt := [⟨.ret, [4], (.cons (.val .bool) .nil)⟩, ⟨(.exit 0), [5, 6, 7], (.cons (.own 5 .byte) (.cons (.val (.int .i64)) (.cons (.val (.int .i64)) .nil)))⟩]
def law_CodecStream_0.go (N : Nat) : Nat → Int → (List UInt8) → Int → Int → (List (List UInt8)) → Int → Int → Option ((Bool × Unit) ⊕ ((List UInt8) × Int × Int × Unit))
  | 0, _, _, _, _, _, _, _ => none
  | fuel + 1, cut, all, whole, end_, t20, t21, t22 =>
    bif decide (t22 < t21) then
      bif inB t22 t20.length then
        obind (codec_Frame.run N (t20.getD t22.toNat ([] : List UInt8))) fun (l, n_, _) =>
          bif !(decide (n_ = (0 : Int))) then
            obind (law_alive.run N) fun (b, _) =>
              bif b then
                some (.inl (decide (n_ = (12 : Int)), ()))
              else some (.inl (false, ()))
          else
            bif room (all.length + l.length) 1 then
              bif decide (cut ≥ ((all ++ l).length : Int)) then
                law_CodecStream_0.go N fuel cut (all ++ l) (IntKind.i64.wrap (whole + (1 : Int))) ((all ++ l).length : Int) t20 t21 (IntKind.i64.wrap (t22 + (1 : Int)))
              else law_CodecStream_0.go N fuel cut (all ++ l) whole end_ t20 t21 (IntKind.i64.wrap (t22 + (1 : Int)))
            else none
      else none
    else some (.inr (all, whole, end_, ()))
def law_CodecStream_0.g (N n : Nat) (x : Sh.den law_CodecStream_0.ins) : Option (altsDen law_CodecStream_0.alts) := law_CodecStream_0.go N n x.1 x.2.1 x.2.2.1 x.2.2.2.1 x.2.2.2.2.1 x.2.2.2.2.2.1 x.2.2.2.2.2.2.1
def law_CodecStream_0.P (N : Nat) : Ps := ⟨law_CodecStream_0.ts, law_CodecStream_0.ins, law_CodecStream_0.asg, law_CodecStream_0.alts, law_CodecStream_0.g N N⟩
def law_CodecStream_0.lam (N : Nat) : Pcs := pcs []
theorem law_CodecStream_0.pok (N : Nat) : (law_CodecStream_0.lam N).Ok Try.prog (law_CodecStream_0.C N) law_CodecStream_0.code := pcsOk_nil
theorem law_CodecStream_0.ev (N n : Nat) (x : Sh.den law_CodecStream_0.ins) : evC (law_CodecStream_0.C N) law_CodecStream_0.code (law_CodecStream_0.lam N) ((law_CodecStream_0.P N).canon 1000 x) (loopK (law_CodecStream_0.P N) (law_CodecStream_0.g N n)) = law_CodecStream_0.g N (n + 1) x := by kernel_rfl
theorem law_CodecStream_0.ok (N : Nat) : ((law_CodecStream_0.P N).pc (law_CodecStream.C N)).Ok Try.prog (law_CodecStream.C N) (.loop law_CodecStream_0.code) := loop_ok (F := law_CodecStream_0.P N) (n0 := 1000) (N := N) (law_CodecStream.cok N) mix (law_CodecStream_0.pok N) (law_CodecStream_0.g N) (fun x => by rfl) rfl (fun n x y h => (law_CodecStream_0.ev N n x).trans h)
def law_CodecStream_1.ins : Sh := (.cons (.val (.slice (.slice .byte))) (.cons (.val (.int .i64)) (.cons (.val (.slice .byte)) (.cons (.val (.int .i64)) (.cons (.val (.int .i64)) (.cons (.val (.int .i64)) .nil))))))
def law_CodecStream_1.ts : List Tmp := [0, 1, 5, 12, 59, 60]
def law_CodecStream_1.asg : List Tmp := [4, 12, 13, 14, 15, 16, 60, 61, 62, 63, 64, 65, 66, 67, 68, 69, 70, 71, 72, 73, 74, 75, 76, 77, 78, 79, 80, 81, 82, 83, 84, 85, 86]
def law_CodecStream_1.C (N : Nat) : Ctx := { law_CodecStream.C N with may := fun t => law_CodecStream_1.asg.any (Nat.beq t) }
def law_CodecStream_1.code : Code := loopBody (sub law_CodecStream.code [true, true, true, true, true, true, false, true, false])
theorem law_CodecStream_1.cok (N : Nat) : (law_CodecStream_1.C N).Ok Try.prog := ⟨(law_CodecStream.cok N).U, (law_CodecStream.cok N).Γ, (law_CodecStream.cok N).Y⟩
def law_CodecStream_1.alts : List Alt := [⟨.ret, [4], (.cons (.val .bool) .nil)⟩, ⟨(.exit 2), [12], (.cons (.val (.int .i64)) .nil)⟩]
def law_CodecStream_1.go (N : Nat) : Nat → (List (List UInt8)) → Int → (List UInt8) → Int → Int → Int → Option ((Bool × Unit) ⊕ (Int × Unit))
  | 0, _, _, _, _, _, _ => none
  | fuel + 1, l, cut, all, at_, t59, t60 =>
    bif decide (t60 < t59) then
      bif okB at_ cut all.length then
        obind (codec_Unframe.run N ((all.take cut.toNat).drop at_.toNat)) fun (l1, n_, n1, _) =>
          bif !(decide (n1 = (0 : Int))) then
            some (.inl (false, ()))
          else
            bif inB t60 l.length then
              obind (law_same_b.run N l1 (l.getD t60.toNat ([] : List UInt8))) fun (b, _) =>
                bif !b then
                  some (.inl (false, ()))
                else law_CodecStream_1.go N fuel l cut all (IntKind.i64.wrap (at_ + n_)) t59 (IntKind.i64.wrap (t60 + (1 : Int)))
            else none
      else none
    else some (.inr (at_, ()))
def law_CodecStream_1.g (N n : Nat) (x : Sh.den law_CodecStream_1.ins) : Option (altsDen law_CodecStream_1.alts) := law_CodecStream_1.go N n x.1 x.2.1 x.2.2.1 x.2.2.2.1 x.2.2.2.2.1 x.2.2.2.2.2.1
def law_CodecStream_1.P (N : Nat) : Ps := ⟨law_CodecStream_1.ts, law_CodecStream_1.ins, law_CodecStream_1.asg, law_CodecStream_1.alts, law_CodecStream_1.g N N⟩
def law_CodecStream_1.lam (N : Nat) : Pcs := pcs []
theorem law_CodecStream_1.pok (N : Nat) : (law_CodecStream_1.lam N).Ok Try.prog (law_CodecStream_1.C N) law_CodecStream_1.code := pcsOk_nil
theorem law_CodecStream_1.ev (N n : Nat) (x : Sh.den law_CodecStream_1.ins) : evC (law_CodecStream_1.C N) law_CodecStream_1.code (law_CodecStream_1.lam N) ((law_CodecStream_1.P N).canon 1000 x) (loopK (law_CodecStream_1.P N) (law_CodecStream_1.g N n)) = law_CodecStream_1.g N (n + 1) x := by kernel_rfl
theorem law_CodecStream_1.ok (N : Nat) : ((law_CodecStream_1.P N).pc (law_CodecStream.C N)).Ok Try.prog (law_CodecStream.C N) (.loop law_CodecStream_1.code) := loop_ok (F := law_CodecStream_1.P N) (n0 := 1000) (N := N) (law_CodecStream.cok N) mix (law_CodecStream_1.pok N) (law_CodecStream_1.g N) (fun x => by rfl) rfl (fun n x y h => (law_CodecStream_1.ev N n x).trans h)
def law_CodecStream.outs : Sh := (.cons (.val .bool) .nil)
def law_CodecStream.run (N : Nat) (l : (List (List UInt8))) (cut : Int) : Option (Bool × Unit) :=
  obind (law_CodecStream_0.go N N cut ([] : List UInt8) (0 : Int) (0 : Int) l (l.length : Int) (0 : Int)) fun y => match y with
  | .inl (t4, _) =>
      some (t4, ())
  | .inr (all, whole, end_, _) =>
      bif decide (cut < (0 : Int)) then
        obind (law_alive.run N) fun (b, _) =>
          some (b, ())
      else
        bif decide (cut > (all.length : Int)) then
          obind (law_alive.run N) fun (b1, _) =>
            some (b1, ())
        else
          obind (law_CodecStream_1.go N N l cut all (0 : Int) whole (0 : Int)) fun y => match y with
          | .inl (t41, _) =>
              some (t41, ())
          | .inr (at_, _) =>
              bif okB at_ cut all.length then
                obind (codec_Unframe.run N ((all.take cut.toNat).drop at_.toNat)) fun (l1, n_, n1, _) =>
                  obind (law_alive.run N) fun (b2, _) =>
                    bif b2 then
                      bif decide (at_ = end_) then
                        some (decide (n1 = (10 : Int)), ())
                      else some (false, ())
                    else some (false, ())
              else none
def law_CodecStream.fn (N : Nat) (x : Sh.den law_CodecStream.ins) : Option (Sh.den law_CodecStream.outs) := law_CodecStream.run N x.1 x.2.1
def law_CodecStream.S (N : Nat) : Fs := ⟨law_CodecStream.ins, law_CodecStream.outs, law_CodecStream.fn N⟩
def law_CodecStream.lam (N : Nat) : Pcs := pcs [([true, true, true, false, true, false], (law_CodecStream_0.P N).pc (law_CodecStream.C N)), ([true, true, true, true, true, true, false, true, false], (law_CodecStream_1.P N).pc (law_CodecStream.C N))]
theorem law_CodecStream.pok (N : Nat) : (law_CodecStream.lam N).Ok Try.prog (law_CodecStream.C N) law_CodecStream.code := pcsOk_cons (c1 := .loop law_CodecStream_0.code) (by kernel_rfl) (law_CodecStream_0.ok N) (pcsOk_cons (c1 := .loop law_CodecStream_1.code) (by kernel_rfl) (law_CodecStream_1.ok N) (pcsOk_nil))
theorem law_CodecStream.ev (N : Nat) (x : Sh.den law_CodecStream.ins) : evC (law_CodecStream.C N) law_CodecStream.code (law_CodecStream.lam N) ⟨envOf 0 (bld (fun k => k) law_CodecStream.ins x 0).1, (bld (fun k => k) law_CodecStream.ins x 0).2.1, 1000⟩ (endF U law_CodecStream.outs Try.f13.results.toList []) = law_CodecStream.fn N x := by kernel_rfl
theorem law_CodecStream.ok (N : Nat) : (law_CodecStream.S N).con.Ok Try.prog 13 := fn_ok (F := law_CodecStream.S N) (n0 := 1000) Try.func13 (by kernel_rfl) (show Try.f13.body = some law_CodecStream.code by rfl) mix (law_CodecStream.cok N) (fun _ => rfl) (fun _ => rfl) (law_CodecStream.pok N) (fun x y h => (law_CodecStream.ev N x).trans h)
/-- hayloft/hayloftlaw01.CodecUnframes -/
def law_CodecUnframes.ins : Sh := (.cons (.val (.slice .byte)) (.cons (.val (.slice .byte)) (.cons (.val (.int .i64)) .nil)))
def law_CodecUnframes.C (N : Nat) : Ctx := ⟨U, 116, fun _ => true, gam [(40, (codec_Frame.S N).con), (16, (law_alive.S N).con), (42, ((((codec_Unframe.S N).con.lend 0 false)).or (codec_Unframe.S N).con)), (21, (law_same_b.S N).con)], gamY []⟩
theorem law_CodecUnframes.cok (N : Nat) : (law_CodecUnframes.C N).Ok Try.prog := ⟨U_ok, GamOk.cons (codec_Frame.ok N) (GamOk.cons (law_alive.ok N) (GamOk.cons (Con.or_ok (Con.lend_ok (q := 0) (own := false) (codec_Unframe.ok N)) (codec_Unframe.ok N)) (GamOk.cons (law_same_b.ok N) (GamOk.nil)))), GamYOk.nil⟩
def law_CodecUnframes.code : Code := Try.f12.body.getD .skip
def law_CodecUnframes.outs : Sh := (.cons (.val .bool) .nil)
def law_CodecUnframes.run (N : Nat) (b : (List UInt8)) (more : (List UInt8)) (at_ : Int) : Option (Bool × Unit) :=
  obind (codec_Frame.run N b) fun (l, n_, _) =>
    bif !(decide (n_ = (0 : Int))) then
      obind (law_alive.run N) fun (b1, _) =>
        bif b1 then
          bif decide (n_ = (12 : Int)) then
            some (decide ((l.length : Int) = (0 : Int)), ())
          else some (false, ())
        else some (false, ())
    else
      bif room l.length 1 then
        bif room (l.length + more.length) 1 then
          obind (codec_Unframe.run N (l ++ more)) fun (l1, n1, n2, _) =>
            obind (law_alive.run N) fun (b2, _) =>
              bif !b2 then
                some (false, ())
              else
                bif !(decide (n2 = (0 : Int))) then
                  some (false, ())
                else
                  bif !(decide (n1 = (l.length : Int))) then
                    some (false, ())
                  else
                    obind (law_same_b.run N l1 b) fun (b3, _) =>
                      bif !b3 then
                        some (false, ())
                      else
                        bif decide (at_ < (0 : Int)) then
                          some (true, ())
                        else
                          bif decide ((IntKind.i64.wrap (at_.tdiv (8 : Int))) ≥ (l.length : Int)) then
                            some (true, ())
                          else
                            bif okB (0 : Int) (IntKind.i64.wrap (at_.tdiv (8 : Int))) l.length then
                              obind (codec_Unframe.run N ((l.drop 0).take ((IntKind.i64.wrap (at_.tdiv (8 : Int))) - (0 : Int)).toNat)) fun (l2, n3, n4, _) =>
                                bif !(decide (n4 = (10 : Int))) then
                                  some (false, ())
                                else
                                  bif !(decide (n3 = (0 : Int))) then
                                    some (false, ())
                                  else
                                    bif inB (IntKind.i64.wrap (at_.tdiv (8 : Int))) l.length then
                                      bif decide ((IntKind.i64.wrap (at_.tdiv (8 : Int))).toNat < l.length) then
                                        bif decide ((0 : Int) ≤ (at_.tmod (8 : Int))) then
                                          bif inB (IntKind.i64.wrap (at_.tdiv (8 : Int))) l.length then
                                            bif decide ((IntKind.i64.wrap (at_.tdiv (8 : Int))).toNat < l.length) then
                                              obind (codec_Unframe.run N (l.set (IntKind.i64.wrap (at_.tdiv (8 : Int))).toNat (Hay.u8 (IntKind.u8.wrap ((BitVec.ofInt 8 ((l.getD (IntKind.i64.wrap (at_.tdiv (8 : Int))).toNat (0 : UInt8)).toNat : Int) ^^^ BitVec.ofInt 8 (IntKind.u8.wrap ((1 : Int) * (2 ^ (min (at_.tmod (8 : Int)).toNat 8))))).toNat : Int))))) fun (l3, n5, n6, _) =>
                                                bif decide (n6 = (14 : Int)) then
                                                  bif decide (n5 = (0 : Int)) then
                                                    some (decide ((l3.length : Int) = (0 : Int)), ())
                                                  else some (false, ())
                                                else some (false, ())
                                            else none
                                          else none
                                        else none
                                      else none
                                    else none
                            else none
        else none
      else none
def law_CodecUnframes.fn (N : Nat) (x : Sh.den law_CodecUnframes.ins) : Option (Sh.den law_CodecUnframes.outs) := law_CodecUnframes.run N x.1 x.2.1 x.2.2.1
def law_CodecUnframes.S (N : Nat) : Fs := ⟨law_CodecUnframes.ins, law_CodecUnframes.outs, law_CodecUnframes.fn N⟩
def law_CodecUnframes.lam (N : Nat) : Pcs := pcs []
theorem law_CodecUnframes.pok (N : Nat) : (law_CodecUnframes.lam N).Ok Try.prog (law_CodecUnframes.C N) law_CodecUnframes.code := pcsOk_nil
theorem law_CodecUnframes.ev (N : Nat) (x : Sh.den law_CodecUnframes.ins) : evC (law_CodecUnframes.C N) law_CodecUnframes.code (law_CodecUnframes.lam N) ⟨envOf 0 (bld (fun k => k) law_CodecUnframes.ins x 0).1, (bld (fun k => k) law_CodecUnframes.ins x 0).2.1, 1000⟩ (endF U law_CodecUnframes.outs Try.f12.results.toList []) = law_CodecUnframes.fn N x := by kernel_rfl
theorem law_CodecUnframes.ok (N : Nat) : (law_CodecUnframes.S N).con.Ok Try.prog 12 := fn_ok (F := law_CodecUnframes.S N) (n0 := 1000) Try.func12 (by kernel_rfl) (show Try.f12.body = some law_CodecUnframes.code by rfl) mix (law_CodecUnframes.cok N) (fun _ => rfl) (fun _ => rfl) (law_CodecUnframes.pok N) (fun x y h => (law_CodecUnframes.ev N x).trans h)
/-- hayloft/hayloftlaw01.bytes -/
def law_bytes.ins : Sh := (.cons (.val (.pair (.int .i64) (.pair (.int .u64) (.pair (.int .u64) (.slice .byte))))) .nil)
def law_bytes.C (N : Nat) : Ctx := ⟨U, 36, fun _ => true, gam [(54, (ref_Number.S N).con), (32, (ref_Var.S N).con), (33, (ref_Text.S N).con)], gamY []⟩
theorem law_bytes.cok (N : Nat) : (law_bytes.C N).Ok Try.prog := ⟨U_ok, GamOk.cons (ref_Number.ok N) (GamOk.cons (ref_Var.ok N) (GamOk.cons (ref_Text.ok N) (GamOk.nil))), GamYOk.nil⟩
def law_bytes.code : Code := Try.f24.body.getD .skip
def law_bytes.outs : Sh := (.cons (.val (.slice .byte)) .nil)
def law_bytes.run (N : Nat) (t : (Int × (Int × (Int × (List UInt8))))) : Option ((List UInt8) × Unit) :=
  bif decide (t.1 = (0 : Int)) then
    obind (ref_Number.run N (t.2.1.tmod (256 : Int)) (1 : Int)) fun (l, _) =>
      some (l, ())
  else
    bif decide (t.1 = (1 : Int)) then
      obind (ref_Number.run N (t.2.1.tmod (4294967296 : Int)) (4 : Int)) fun (l1, _) =>
        some (l1, ())
    else
      bif decide (t.1 = (2 : Int)) then
        obind (ref_Number.run N t.2.1 (8 : Int)) fun (l2, _) =>
          some (l2, ())
      else
        bif decide (t.1 = (3 : Int)) then
          obind (ref_Var.run N t.2.1) fun (l3, _) =>
            some (l3, ())
        else
          bif decide (t.1 = (4 : Int)) then
            some (t.2.2.2, ())
          else
            bif decide (t.1 = (5 : Int)) then
              obind (ref_Text.run N t.2.2.2) fun (l4, _) =>
                some (l4, ())
            else some (([] : List UInt8), ())
def law_bytes.fn (N : Nat) (x : Sh.den law_bytes.ins) : Option (Sh.den law_bytes.outs) := law_bytes.run N x.1
def law_bytes.S (N : Nat) : Fs := ⟨law_bytes.ins, law_bytes.outs, law_bytes.fn N⟩
def law_bytes.lam (N : Nat) : Pcs := pcs []
theorem law_bytes.pok (N : Nat) : (law_bytes.lam N).Ok Try.prog (law_bytes.C N) law_bytes.code := pcsOk_nil
theorem law_bytes.ev (N : Nat) (x : Sh.den law_bytes.ins) : evC (law_bytes.C N) law_bytes.code (law_bytes.lam N) ⟨envOf 0 (bld (fun k => k) law_bytes.ins x 0).1, (bld (fun k => k) law_bytes.ins x 0).2.1, 1000⟩ (endF U law_bytes.outs Try.f24.results.toList []) = law_bytes.fn N x := by kernel_rfl
theorem law_bytes.ok (N : Nat) : (law_bytes.S N).con.Ok Try.prog 24 := fn_ok (F := law_bytes.S N) (n0 := 1000) Try.func24 (by kernel_rfl) (show Try.f24.body = some law_bytes.code by rfl) mix (law_bytes.cok N) (fun _ => rfl) (fun _ => rfl) (law_bytes.pok N) (fun x y h => (law_bytes.ev N x).trans h)
/-- hayloft/hayloftlaw01.CodecWrites -/
def law_CodecWrites.ins : Sh := (.cons (.val (.slice (.pair (.int .i64) (.pair (.int .u64) (.pair (.int .u64) (.slice .byte)))))) .nil)
def law_CodecWrites.C (N : Nat) : Ctx := ⟨U, 81, fun _ => true, gam [(15, (codec_New.S N).con), (16, (law_alive.S N).con), (23, ((law_write.S N).con.lend 1 false)), (24, (law_bytes.S N).con), (25, (codec_Writer_Len.S N).con), (22, (codec_Writer_Bytes.S N).con), (21, (law_same.S N).con)], gamY []⟩
theorem law_CodecWrites.cok (N : Nat) : (law_CodecWrites.C N).Ok Try.prog := ⟨U_ok, GamOk.cons (codec_New.ok N) (GamOk.cons (law_alive.ok N) (GamOk.cons (Con.lend_ok (q := 1) (own := false) (law_write.ok N)) (GamOk.cons (law_bytes.ok N) (GamOk.cons (codec_Writer_Len.ok N) (GamOk.cons (codec_Writer_Bytes.ok N) (GamOk.cons (law_same.ok N) (GamOk.nil))))))), GamYOk.nil⟩
def law_CodecWrites.code : Code := Try.f4.body.getD .skip
def law_CodecWrites_0.ins : Sh := (.cons (.box 77 (.cons (.own 5 .byte) .nil)) (.cons (.own 5 .byte) (.cons (.val (.slice (.pair (.int .i64) (.pair (.int .u64) (.pair (.int .u64) (.slice .byte)))))) (.cons (.val (.int .i64)) (.cons (.val (.int .i64)) .nil)))))
def law_CodecWrites_0.ts : List Tmp := [3, 4, 19, 20, 21]
def law_CodecWrites_0.asg : List Tmp := [2, 4, 6, 7, 8, 21, 22, 23, 24, 25, 26, 27, 28, 29, 30, 31, 32, 33, 34, 35, 36, 37, 38, 39, 40, 41, 42, 43, 44, 45, 46, 47, 48, 49, 50, 51, 52, 53, 54, 55, 56]
def law_CodecWrites_0.C (N : Nat) : Ctx := { law_CodecWrites.C N with may := fun t => law_CodecWrites_0.asg.any (Nat.beq t) }
def law_CodecWrites_0.code : Code := loopBody (sub law_CodecWrites.code [true, true, true, true, false, true, false])
theorem law_CodecWrites_0.cok (N : Nat) : (law_CodecWrites_0.C N).Ok Try.prog := ⟨(law_CodecWrites.cok N).U, (law_CodecWrites.cok N).Γ, (law_CodecWrites.cok N).Y⟩
def law_CodecWrites_0_0.ins : Sh := (.cons (.rbox 39 (.cons (.val (.int .i64)) (.cons (.val (.int .u64)) (.cons (.val (.int .u64)) (.cons (.own 5 .byte) .nil))))) (.cons (.val (.int .i64)) (.cons (.val (.int .i64)) .nil)))
def law_CodecWrites_0_0.ts : List Tmp := [7, 35, 36]
def law_CodecWrites_0_0.asg : List Tmp := [8, 36, 37, 38, 39, 40, 41, 42, 43, 44, 45, 46]
def law_CodecWrites_0_0.C (N : Nat) : Ctx := { law_CodecWrites_0.C N with may := fun t => law_CodecWrites_0_0.asg.any (Nat.beq t) }
def law_CodecWrites_0_0.code : Code := loopBody (sub law_CodecWrites_0.code [true, true, false, false, true, true, true, true, false, true, false])
theorem law_CodecWrites_0_0.cok (N : Nat) : (law_CodecWrites_0_0.C N).Ok Try.prog := ⟨(law_CodecWrites_0.cok N).U, (law_CodecWrites_0.cok N).Γ, (law_CodecWrites_0.cok N).Y⟩
def law_CodecWrites_0_0.alts : List Alt := [⟨(.exit 2), [], .nil⟩]
def law_CodecWrites_0_0.go (N : Nat) : Nat → Int → Int → Int → (List UInt8) → Int → Int → Option (Unit)
  | 0, _, _, _, _, _, _ => none
  | fuel + 1, kind, n_, m, b, t35, t36 =>
    bif decide (t36 < t35) then
      bif inB t36 b.length then
        bif decide (t36.toNat < b.length) then
          bif inB t36 b.length then
            bif decide (t36.toNat < b.length) then
              law_CodecWrites_0_0.go N fuel kind n_ m (b.set t36.toNat (Hay.u8 (IntKind.u8.wrap (((b.getD t36.toNat (0 : UInt8)).toNat : Int) + (1 : Int))))) t35 (IntKind.i64.wrap (t36 + (1 : Int)))
            else none
          else none
        else none
      else none
    else some ()
def law_CodecWrites_0_0.g (N n : Nat) (x : Sh.den law_CodecWrites_0_0.ins) : Option (altsDen law_CodecWrites_0_0.alts) := law_CodecWrites_0_0.go N n x.1.1 x.1.2.1 x.1.2.2.1 x.1.2.2.2.1 x.2.1 x.2.2.1
def law_CodecWrites_0_0.P (N : Nat) : Ps := ⟨law_CodecWrites_0_0.ts, law_CodecWrites_0_0.ins, law_CodecWrites_0_0.asg, law_CodecWrites_0_0.alts, law_CodecWrites_0_0.g N N⟩
def law_CodecWrites_0_0.lam (N : Nat) : Pcs := pcs []
theorem law_CodecWrites_0_0.pok (N : Nat) : (law_CodecWrites_0_0.lam N).Ok Try.prog (law_CodecWrites_0_0.C N) law_CodecWrites_0_0.code := pcsOk_nil
theorem law_CodecWrites_0_0.ev (N n : Nat) (x : Sh.den law_CodecWrites_0_0.ins) : evC (law_CodecWrites_0_0.C N) law_CodecWrites_0_0.code (law_CodecWrites_0_0.lam N) ((law_CodecWrites_0_0.P N).canon 1000 x) (loopK (law_CodecWrites_0_0.P N) (law_CodecWrites_0_0.g N n)) = law_CodecWrites_0_0.g N (n + 1) x := by kernel_rfl
theorem law_CodecWrites_0_0.ok (N : Nat) : ((law_CodecWrites_0_0.P N).pc (law_CodecWrites_0.C N)).Ok Try.prog (law_CodecWrites_0.C N) (.loop law_CodecWrites_0_0.code) := loop_ok (F := law_CodecWrites_0_0.P N) (n0 := 1000) (N := N) (law_CodecWrites_0.cok N) mix (law_CodecWrites_0_0.pok N) (law_CodecWrites_0_0.g N) (fun x => by rfl) rfl (fun n x y h => (law_CodecWrites_0_0.ev N n x).trans h)
def law_CodecWrites_0.alts : List Alt := [⟨.ret, [2], (.cons (.upd 0 77 (.cons (.own 5 .byte) .nil)) (.cons (.val .bool) .nil))⟩, ⟨(.exit 0), [4], (.cons (.upd 0 77 (.cons (.own 5 .byte) .nil)) (.cons (.own 5 .byte) .nil))⟩]
def law_CodecWrites_0.go (N : Nat) : Nat → (List UInt8) → (List UInt8) → (List (Int × (Int × (Int × (List UInt8))))) → Int → Int → Option ((((List UInt8) × Unit) × Bool × Unit) ⊕ (((List UInt8) × Unit) × (List UInt8) × Unit))
  | 0, _, _, _, _, _ => none
  | fuel + 1, b, want, t19, t20, t21 =>
    bif decide (t21 < t20) then
      bif inB t21 t19.length then
        bif room (t19.getD t21.toNat ((0 : Int), (0 : Int), (0 : Int), ([] : List UInt8))).2.2.2.length 1 then
          obind (law_write.run N b (t19.getD t21.toNat ((0 : Int), (0 : Int), (0 : Int), ([] : List UInt8)))) fun ((b1, _), _) =>
            obind (law_CodecWrites_0_0.go N N (t19.getD t21.toNat ((0 : Int), (0 : Int), (0 : Int), ([] : List UInt8))).1 (t19.getD t21.toNat ((0 : Int), (0 : Int), (0 : Int), ([] : List UInt8))).2.1 (t19.getD t21.toNat ((0 : Int), (0 : Int), (0 : Int), ([] : List UInt8))).2.2.1 (t19.getD t21.toNat ((0 : Int), (0 : Int), (0 : Int), ([] : List UInt8))).2.2.2 ((t19.getD t21.toNat ((0 : Int), (0 : Int), (0 : Int), ([] : List UInt8))).2.2.2.length : Int) (0 : Int)) fun _ =>
              obind (law_bytes.run N (t19.getD t21.toNat ((0 : Int), (0 : Int), (0 : Int), ([] : List UInt8)))) fun (l, _) =>
                bif room (want.length + l.length) 1 then
                  obind (codec_Writer_Len.run N b1) fun (n_, _) =>
                    bif !(decide (n_ = ((want ++ l).length : Int))) then
                      some (.inl ((b1, ()), false, ()))
                    else law_CodecWrites_0.go N fuel b1 (want ++ l) t19 t20 (IntKind.i64.wrap (t21 + (1 : Int)))
                else none
        else none
      else none
    else some (.inr ((b, ()), want, ()))
def law_CodecWrites_0.g (N n : Nat) (x : Sh.den law_CodecWrites_0.ins) : Option (altsDen law_CodecWrites_0.alts) := law_CodecWrites_0.go N n x.1.1 x.2.1 x.2.2.1 x.2.2.2.1 x.2.2.2.2.1
def law_CodecWrites_0.P (N : Nat) : Ps := ⟨law_CodecWrites_0.ts, law_CodecWrites_0.ins, law_CodecWrites_0.asg, law_CodecWrites_0.alts, law_CodecWrites_0.g N N⟩
def law_CodecWrites_0.lam (N : Nat) : Pcs := pcs [([true, true, false, false, true, true, true, true, false, true, false], (law_CodecWrites_0_0.P N).pc (law_CodecWrites_0.C N))]
theorem law_CodecWrites_0.pok (N : Nat) : (law_CodecWrites_0.lam N).Ok Try.prog (law_CodecWrites_0.C N) law_CodecWrites_0.code := pcsOk_cons (c1 := .loop law_CodecWrites_0_0.code) (by kernel_rfl) (law_CodecWrites_0_0.ok N) (pcsOk_nil)
theorem law_CodecWrites_0.ev (N n : Nat) (x : Sh.den law_CodecWrites_0.ins) : evC (law_CodecWrites_0.C N) law_CodecWrites_0.code (law_CodecWrites_0.lam N) ((law_CodecWrites_0.P N).canon 1000 x) (loopK (law_CodecWrites_0.P N) (law_CodecWrites_0.g N n)) = law_CodecWrites_0.g N (n + 1) x := by kernel_rfl
theorem law_CodecWrites_0.ok (N : Nat) : ((law_CodecWrites_0.P N).pc (law_CodecWrites.C N)).Ok Try.prog (law_CodecWrites.C N) (.loop law_CodecWrites_0.code) := loop_ok (F := law_CodecWrites_0.P N) (n0 := 1000) (N := N) (law_CodecWrites.cok N) mix (law_CodecWrites_0.pok N) (law_CodecWrites_0.g N) (fun x => by rfl) rfl (fun n x y h => (law_CodecWrites_0.ev N n x).trans h)
def law_CodecWrites_1.ins : Sh := (.cons (.own 5 .byte) (.cons (.val (.int .i64)) (.cons (.val (.int .i64)) .nil)))
def law_CodecWrites_1.ts : List Tmp := [9, 63, 64]
def law_CodecWrites_1.asg : List Tmp := [11, 64, 65, 66, 67, 68, 69, 70, 71, 72, 73]
def law_CodecWrites_1.C (N : Nat) : Ctx := { law_CodecWrites.C N with may := fun t => law_CodecWrites_1.asg.any (Nat.beq t) }
def law_CodecWrites_1.code : Code := loopBody (sub law_CodecWrites.code [true, true, true, true, true, true, true, false, true, false])
theorem law_CodecWrites_1.cok (N : Nat) : (law_CodecWrites_1.C N).Ok Try.prog := ⟨(law_CodecWrites.cok N).U, (law_CodecWrites.cok N).Γ, (law_CodecWrites.cok N).Y⟩
def law_CodecWrites_1.alts : List Alt := [⟨(.exit 4), [], .nil⟩]
def law_CodecWrites_1.go (N : Nat) : Nat → (List UInt8) → Int → Int → Option (Unit)
  | 0, _, _, _ => none
  | fuel + 1, b, t63, t64 =>
    bif decide (t64 < t63) then
      bif inB t64 b.length then
        bif decide (t64.toNat < b.length) then
          bif inB t64 b.length then
            bif decide (t64.toNat < b.length) then
              law_CodecWrites_1.go N fuel (b.set t64.toNat (Hay.u8 (IntKind.u8.wrap (((b.getD t64.toNat (0 : UInt8)).toNat : Int) + (1 : Int))))) t63 (IntKind.i64.wrap (t64 + (1 : Int)))
            else none
          else none
        else none
      else none
    else some ()
def law_CodecWrites_1.g (N n : Nat) (x : Sh.den law_CodecWrites_1.ins) : Option (altsDen law_CodecWrites_1.alts) := law_CodecWrites_1.go N n x.1 x.2.1 x.2.2.1
def law_CodecWrites_1.P (N : Nat) : Ps := ⟨law_CodecWrites_1.ts, law_CodecWrites_1.ins, law_CodecWrites_1.asg, law_CodecWrites_1.alts, law_CodecWrites_1.g N N⟩
def law_CodecWrites_1.lam (N : Nat) : Pcs := pcs []
theorem law_CodecWrites_1.pok (N : Nat) : (law_CodecWrites_1.lam N).Ok Try.prog (law_CodecWrites_1.C N) law_CodecWrites_1.code := pcsOk_nil
theorem law_CodecWrites_1.ev (N n : Nat) (x : Sh.den law_CodecWrites_1.ins) : evC (law_CodecWrites_1.C N) law_CodecWrites_1.code (law_CodecWrites_1.lam N) ((law_CodecWrites_1.P N).canon 1000 x) (loopK (law_CodecWrites_1.P N) (law_CodecWrites_1.g N n)) = law_CodecWrites_1.g N (n + 1) x := by kernel_rfl
theorem law_CodecWrites_1.ok (N : Nat) : ((law_CodecWrites_1.P N).pc (law_CodecWrites.C N)).Ok Try.prog (law_CodecWrites.C N) (.loop law_CodecWrites_1.code) := loop_ok (F := law_CodecWrites_1.P N) (n0 := 1000) (N := N) (law_CodecWrites.cok N) mix (law_CodecWrites_1.pok N) (law_CodecWrites_1.g N) (fun x => by rfl) rfl (fun n x y h => (law_CodecWrites_1.ev N n x).trans h)
def law_CodecWrites.outs : Sh := (.cons (.val .bool) .nil)
def law_CodecWrites.run (N : Nat) (l : (List (Int × (Int × (Int × (List UInt8)))))) : Option (Bool × Unit) :=
  obind (codec_New.run N) fun ((b, _), _) =>
    obind (law_alive.run N) fun (b1, _) =>
      bif !b1 then
        some (false, ())
      else
        obind (law_CodecWrites_0.go N N b ([] : List UInt8) l (l.length : Int) (0 : Int)) fun y => match y with
        | .inl ((b2, _), t2, _) =>
            some (t2, ())
        | .inr ((b3, _), want, _) =>
            obind (codec_Writer_Bytes.run N b3) fun (l1, _) =>
              obind (law_same.run N l1 want) fun (b4, _) =>
                obind (law_CodecWrites_1.go N N l1 (l1.length : Int) (0 : Int)) fun _ =>
                  bif b4 then
                    obind (codec_Writer_Bytes.run N b3) fun (l2, _) =>
                      obind (law_same.run N l2 want) fun (b5, _) =>
                        some (b5, ())
                  else some (false, ())
def law_CodecWrites.fn (N : Nat) (x : Sh.den law_CodecWrites.ins) : Option (Sh.den law_CodecWrites.outs) := law_CodecWrites.run N x.1
def law_CodecWrites.S (N : Nat) : Fs := ⟨law_CodecWrites.ins, law_CodecWrites.outs, law_CodecWrites.fn N⟩
def law_CodecWrites.lam (N : Nat) : Pcs := pcs [([true, true, true, true, false, true, false], (law_CodecWrites_0.P N).pc (law_CodecWrites.C N)), ([true, true, true, true, true, true, true, false, true, false], (law_CodecWrites_1.P N).pc (law_CodecWrites.C N))]
theorem law_CodecWrites.pok (N : Nat) : (law_CodecWrites.lam N).Ok Try.prog (law_CodecWrites.C N) law_CodecWrites.code := pcsOk_cons (c1 := .loop law_CodecWrites_0.code) (by kernel_rfl) (law_CodecWrites_0.ok N) (pcsOk_cons (c1 := .loop law_CodecWrites_1.code) (by kernel_rfl) (law_CodecWrites_1.ok N) (pcsOk_nil))
theorem law_CodecWrites.ev (N : Nat) (x : Sh.den law_CodecWrites.ins) : evC (law_CodecWrites.C N) law_CodecWrites.code (law_CodecWrites.lam N) ⟨envOf 0 (bld (fun k => k) law_CodecWrites.ins x 0).1, (bld (fun k => k) law_CodecWrites.ins x 0).2.1, 1000⟩ (endF U law_CodecWrites.outs Try.f4.results.toList []) = law_CodecWrites.fn N x := by kernel_rfl
theorem law_CodecWrites.ok (N : Nat) : (law_CodecWrites.S N).con.Ok Try.prog 4 := fn_ok (F := law_CodecWrites.S N) (n0 := 1000) Try.func4 (by kernel_rfl) (show Try.f4.body = some law_CodecWrites.code by rfl) mix (law_CodecWrites.cok N) (fun _ => rfl) (fun _ => rfl) (law_CodecWrites.pok N) (fun x y h => (law_CodecWrites.ev N x).trans h)
end
end Go.Hay.Ytebejjfgibkhbaa
