import Derived.Test.YtfbbfjjmbelfdaaU
set_option linter.unusedVariables false
namespace Go.Hay.Ytfbbfjjmbelfdaa
open Go Go.Hay Go.Proofs
noncomputable section
set_option maxRecDepth 100000
def F23.ins : Sh := (.cons (.val (.int .i64)) .nil)
def F23.C (N : Nat) : Ctx := ⟨U, 7, fun _ => true, gam []⟩
def F23.code : Code := Try.f23.body.getD .skip
theorem F23.cok (N : Nat) : (F23.C N).Ok Try.prog := ⟨U_ok, GamOk.nil⟩
def F23.outs : Sh := (.cons (.box 65 (.cons (.val (.int .i64)) (.cons (.own 62 (.pair (.int .i64) (.slice .byte))) .nil))) .nil)
def F23.fn (N : Nat) (x : Sh.den F23.ins) : Option (Sh.den F23.outs) :=
  some ((max x.fst (0 : Int), ([] : List (Int × List UInt8)), PUnit.unit), PUnit.unit)
def F23.S (N : Nat) : Fs := ⟨F23.ins, F23.outs, F23.fn N⟩
def F23.lam (N : Nat) : Pcs := pcs []
theorem F23.pok (N : Nat) : (F23.lam N).Ok Try.prog (F23.C N) F23.code := pcsOk_nil
theorem F23.ev (N : Nat) (x : Sh.den F23.ins) : evC (F23.C N) F23.code (F23.lam N) ⟨envOf 0 (bld (fun k => k) F23.ins x 0).1, (bld (fun k => k) F23.ins x 0).2.1, 1000⟩ (endF U F23.outs Try.f23.results.toList []) = F23.fn N x := by kernel_rfl
theorem F23.ok (N : Nat) : (F23.S N).con.Ok Try.prog 23 := fn_ok (F := F23.S N) (n0 := 1000) Try.func23 (by kernel_rfl) (show Try.f23.body = some F23.code by rfl) mix (F23.cok N) (fun _ => rfl) (fun _ => rfl) (F23.pok N) (fun x y h => (F23.ev N x).trans h)
def F25.ins : Sh := (.cons (.rown 5 .byte) .nil)
def F25.C (N : Nat) : Ctx := ⟨U, 8, fun _ => true, gam []⟩
def F25.code : Code := Try.f25.body.getD .skip
theorem F25.cok (N : Nat) : (F25.C N).Ok Try.prog := ⟨U_ok, GamOk.nil⟩
def F25.outs : Sh := (.cons (.own 5 .byte) .nil)
def F25.fn (N : Nat) (x : Sh.den F25.ins) : Option (Sh.den F25.outs) :=
  pick2 (x.fst.length.beq (0 : Nat)) (some (([] : List UInt8), PUnit.unit)) (bif room ((0 : Nat) + x.fst.length) (1 : Nat) then some (x.fst, PUnit.unit) else none)
def F25.S (N : Nat) : Fs := ⟨F25.ins, F25.outs, F25.fn N⟩
def F25.lam (N : Nat) : Pcs := pcs []
theorem F25.pok (N : Nat) : (F25.lam N).Ok Try.prog (F25.C N) F25.code := pcsOk_nil
theorem F25.ev (N : Nat) (x : Sh.den F25.ins) : evC (F25.C N) F25.code (F25.lam N) ⟨envOf 0 (bld (fun k => k) F25.ins x 0).1, (bld (fun k => k) F25.ins x 0).2.1, 1000⟩ (endF U F25.outs Try.f25.results.toList []) = F25.fn N x := by kernel_rfl
theorem F25.ok (N : Nat) : (F25.S N).con.Ok Try.prog 25 := fn_ok (F := F25.S N) (n0 := 1000) Try.func25 (by kernel_rfl) (show Try.f25.body = some F25.code by rfl) mix (F25.cok N) (fun _ => rfl) (fun _ => rfl) (F25.pok N) (fun x y h => (F25.ev N x).trans h)
def F11.ins : Sh := (.cons (.box 65 (.cons (.val (.int .i64)) (.cons (.own 62 (.pair (.int .i64) (.slice .byte))) .nil))) (.cons (.val (.int .i64)) (.cons (.rown 5 .byte) .nil)))
def F11.C (N : Nat) : Ctx := ⟨U, 30, fun _ => true, gam [(25, (F25.S N).con)]⟩
def F11.code : Code := Try.f11.body.getD .skip
theorem F11.cok (N : Nat) : (F11.C N).Ok Try.prog := ⟨U_ok, GamOk.cons (F25.ok N) (GamOk.nil)⟩
def F11.outs : Sh := (.cons (.upd 0 65 (.cons (.val (.int .i64)) (.cons (.own 62 (.pair (.int .i64) (.slice .byte))) .nil))) (.cons (.val (.int .i64)) .nil))
def F11.fn (N : Nat) (x : Sh.den F11.ins) : Option (Sh.den F11.outs) :=
  bif decide ((↑x.fst.snd.fst.length : Int) = x.fst.fst) then some ((x.fst.fst, x.fst.snd.fst, PUnit.unit), (50 : Int), PUnit.unit)
  else
  obind (F25.fn N (x.snd.snd.fst, PUnit.unit)) fun y =>
    bif room (x.fst.snd.fst.length + ((x.snd.fst, y.fst) :: ([] : List (Int × List UInt8))).length) (32 : Nat) then
      some ((x.fst.fst, x.fst.snd.fst ++ (x.snd.fst, y.fst) :: ([] : List (Int × List UInt8)), PUnit.unit), (0 : Int), PUnit.unit)
    else none
def F11.S (N : Nat) : Fs := ⟨F11.ins, F11.outs, F11.fn N⟩
def F11.lam (N : Nat) : Pcs := pcs []
theorem F11.pok (N : Nat) : (F11.lam N).Ok Try.prog (F11.C N) F11.code := pcsOk_nil
theorem F11.ev (N : Nat) (x : Sh.den F11.ins) : evC (F11.C N) F11.code (F11.lam N) ⟨envOf 0 (bld (fun k => k) F11.ins x 0).1, (bld (fun k => k) F11.ins x 0).2.1, 1000⟩ (endF U F11.outs Try.f11.results.toList []) = F11.fn N x := by kernel_rfl
theorem F11.ok (N : Nat) : (F11.S N).con.Ok Try.prog 11 := fn_ok (F := F11.S N) (n0 := 1000) Try.func11 (by kernel_rfl) (show Try.f11.body = some F11.code by rfl) mix (F11.cok N) (fun _ => rfl) (fun _ => rfl) (F11.pok N) (fun x y h => (F11.ev N x).trans h)
def F24.ins : Sh := (.cons (.rbox 65 (.cons (.val (.int .i64)) (.cons (.rown 62 (.pair (.int .i64) (.slice .byte))) .nil))) (.cons (.val (.int .i64)) .nil))
def F24.C (N : Nat) : Ctx := ⟨U, 16, fun _ => true, gam []⟩
def F24.code : Code := Try.f24.body.getD .skip
theorem F24.cok (N : Nat) : (F24.C N).Ok Try.prog := ⟨U_ok, GamOk.nil⟩
def F24.outs : Sh := (.cons (.val .bool) .nil)
def F24.fn (N : Nat) (x : Sh.den F24.ins) : Option (Sh.den F24.outs) :=
  bif decide (x.snd.fst ≥ (0 : Int)) then some (decide (x.snd.fst < (↑x.fst.snd.fst.length : Int)), PUnit.unit) else some (false, PUnit.unit)
def F24.S (N : Nat) : Fs := ⟨F24.ins, F24.outs, F24.fn N⟩
def F24.lam (N : Nat) : Pcs := pcs []
theorem F24.pok (N : Nat) : (F24.lam N).Ok Try.prog (F24.C N) F24.code := pcsOk_nil
theorem F24.ev (N : Nat) (x : Sh.den F24.ins) : evC (F24.C N) F24.code (F24.lam N) ⟨envOf 0 (bld (fun k => k) F24.ins x 0).1, (bld (fun k => k) F24.ins x 0).2.1, 1000⟩ (endF U F24.outs Try.f24.results.toList []) = F24.fn N x := by kernel_rfl
theorem F24.ok (N : Nat) : (F24.S N).con.Ok Try.prog 24 := fn_ok (F := F24.S N) (n0 := 1000) Try.func24 (by kernel_rfl) (show Try.f24.body = some F24.code by rfl) mix (F24.cok N) (fun _ => rfl) (fun _ => rfl) (F24.pok N) (fun x y h => (F24.ev N x).trans h)
def F25b.ins : Sh := (.cons (.val (.slice .byte)) .nil)
def F25b.C (N : Nat) : Ctx := ⟨U, 8, fun _ => true, gam []⟩
def F25b.code : Code := Try.f25.body.getD .skip
theorem F25b.cok (N : Nat) : (F25b.C N).Ok Try.prog := ⟨U_ok, GamOk.nil⟩
def F25b.outs : Sh := (.cons (.own 5 .byte) .nil)
def F25b.fn (N : Nat) (x : Sh.den F25b.ins) : Option (Sh.den F25b.outs) :=
  pick2 (x.fst.length.beq (0 : Nat)) (some (([] : List UInt8), PUnit.unit)) (bif room ((0 : Nat) + x.fst.length) (1 : Nat) then some (x.fst, PUnit.unit) else none)
def F25b.S (N : Nat) : Fs := ⟨F25b.ins, F25b.outs, F25b.fn N⟩
def F25b.lam (N : Nat) : Pcs := pcs []
theorem F25b.pok (N : Nat) : (F25b.lam N).Ok Try.prog (F25b.C N) F25b.code := pcsOk_nil
theorem F25b.ev (N : Nat) (x : Sh.den F25b.ins) : evC (F25b.C N) F25b.code (F25b.lam N) ⟨envOf 0 (bld (fun k => k) F25b.ins x 0).1, (bld (fun k => k) F25b.ins x 0).2.1, 1000⟩ (endF U F25b.outs Try.f25.results.toList []) = F25b.fn N x := by kernel_rfl
theorem F25b.ok (N : Nat) : (F25b.S N).con.Ok Try.prog 25 := fn_ok (F := F25b.S N) (n0 := 1000) Try.func25 (by kernel_rfl) (show Try.f25.body = some F25b.code by rfl) mix (F25b.cok N) (fun _ => rfl) (fun _ => rfl) (F25b.pok N) (fun x y h => (F25b.ev N x).trans h)
def F11b.ins : Sh := (.cons (.box 65 (.cons (.val (.int .i64)) (.cons (.own 62 (.pair (.int .i64) (.slice .byte))) .nil))) (.cons (.val (.int .i64)) (.cons (.val (.slice .byte)) .nil)))
def F11b.C (N : Nat) : Ctx := ⟨U, 30, fun _ => true, gam [(25, (((F25.S N).con).or (F25b.S N).con))]⟩
def F11b.code : Code := Try.f11.body.getD .skip
theorem F11b.cok (N : Nat) : (F11b.C N).Ok Try.prog := ⟨U_ok, GamOk.cons (Con.or_ok (F25.ok N) (F25b.ok N)) (GamOk.nil)⟩
def F11b.outs : Sh := (.cons (.upd 0 65 (.cons (.val (.int .i64)) (.cons (.own 62 (.pair (.int .i64) (.slice .byte))) .nil))) (.cons (.val (.int .i64)) .nil))
def F11b.fn (N : Nat) (x : Sh.den F11b.ins) : Option (Sh.den F11b.outs) :=
  bif decide ((↑x.fst.snd.fst.length : Int) = x.fst.fst) then some ((x.fst.fst, x.fst.snd.fst, PUnit.unit), (50 : Int), PUnit.unit)
  else
  obind (F25b.fn N (x.snd.snd.fst, PUnit.unit)) fun y =>
    bif room (x.fst.snd.fst.length + ((x.snd.fst, y.fst) :: ([] : List (Int × List UInt8))).length) (32 : Nat) then
      some ((x.fst.fst, x.fst.snd.fst ++ (x.snd.fst, y.fst) :: ([] : List (Int × List UInt8)), PUnit.unit), (0 : Int), PUnit.unit)
    else none
def F11b.S (N : Nat) : Fs := ⟨F11b.ins, F11b.outs, F11b.fn N⟩
def F11b.lam (N : Nat) : Pcs := pcs []
theorem F11b.pok (N : Nat) : (F11b.lam N).Ok Try.prog (F11b.C N) F11b.code := pcsOk_nil
theorem F11b.ev (N : Nat) (x : Sh.den F11b.ins) : evC (F11b.C N) F11b.code (F11b.lam N) ⟨envOf 0 (bld (fun k => k) F11b.ins x 0).1, (bld (fun k => k) F11b.ins x 0).2.1, 1000⟩ (endF U F11b.outs Try.f11.results.toList []) = F11b.fn N x := by kernel_rfl
theorem F11b.ok (N : Nat) : (F11b.S N).con.Ok Try.prog 11 := fn_ok (F := F11b.S N) (n0 := 1000) Try.func11 (by kernel_rfl) (show Try.f11.body = some F11b.code by rfl) mix (F11b.cok N) (fun _ => rfl) (fun _ => rfl) (F11b.pok N) (fun x y h => (F11b.ev N x).trans h)
def F14.ins : Sh := (.cons (.box 65 (.cons (.val (.int .i64)) (.cons (.own 62 (.pair (.int .i64) (.slice .byte))) .nil))) (.cons (.val (.int .i64)) .nil))
def F14.C (N : Nat) : Ctx := ⟨U, 27, fun _ => true, gam [(24, (F24.S N).con), (11, (((F11.S N).con).or (F11b.S N).con))]⟩
def F14.code : Code := Try.f14.body.getD .skip
theorem F14.cok (N : Nat) : (F14.C N).Ok Try.prog := ⟨U_ok, GamOk.cons (F24.ok N) (GamOk.cons (Con.or_ok (F11.ok N) (F11b.ok N)) (GamOk.nil))⟩
def F14.outs : Sh := (.cons (.upd 0 65 (.cons (.val (.int .i64)) (.cons (.own 62 (.pair (.int .i64) (.slice .byte))) .nil))) (.cons (.val (.int .i64)) .nil))
def F14.fn (N : Nat) (x : Sh.den F14.ins) : Option (Sh.den F14.outs) :=
  obind (F24.fn N ((x.fst.fst, x.fst.snd.fst, PUnit.unit), x.snd.fst, PUnit.unit)) fun y =>
  bif !y.fst then some ((x.fst.fst, x.fst.snd.fst, PUnit.unit), (51 : Int), PUnit.unit)
  else
    bif inB x.snd.fst x.fst.snd.fst.length then
      bif decide (x.snd.fst.toNat < x.fst.snd.fst.length) then
        bif inB x.snd.fst x.fst.snd.fst.length then
          bif decide (x.snd.fst.toNat < x.fst.snd.fst.length) then
            obind
              (F11b.fn N
                ((x.fst.fst, x.fst.snd.fst, PUnit.unit), (x.fst.snd.fst.getD x.snd.fst.toNat ((0 : Int), ([] : List UInt8))).fst,
                  (x.fst.snd.fst.getD x.snd.fst.toNat ((0 : Int), ([] : List UInt8))).snd, PUnit.unit))
              fun y => some ((y.fst.fst, y.fst.snd.fst, PUnit.unit), y.snd.fst, PUnit.unit)
          else none
        else none
      else none
    else none
def F14.S (N : Nat) : Fs := ⟨F14.ins, F14.outs, F14.fn N⟩
def F14.lam (N : Nat) : Pcs := pcs []
theorem F14.pok (N : Nat) : (F14.lam N).Ok Try.prog (F14.C N) F14.code := pcsOk_nil
theorem F14.ev (N : Nat) (x : Sh.den F14.ins) : evC (F14.C N) F14.code (F14.lam N) ⟨envOf 0 (bld (fun k => k) F14.ins x 0).1, (bld (fun k => k) F14.ins x 0).2.1, 1000⟩ (endF U F14.outs Try.f14.results.toList []) = F14.fn N x := by kernel_rfl
theorem F14.ok (N : Nat) : (F14.S N).con.Ok Try.prog 14 := fn_ok (F := F14.S N) (n0 := 1000) Try.func14 (by kernel_rfl) (show Try.f14.body = some F14.code by rfl) mix (F14.cok N) (fun _ => rfl) (fun _ => rfl) (F14.pok N) (fun x y h => (F14.ev N x).trans h)
def F10.ins : Sh := (.cons (.rbox 65 (.cons (.val (.int .i64)) (.cons (.rown 62 (.pair (.int .i64) (.slice .byte))) .nil))) (.cons (.val (.int .i64)) .nil))
def F10.C (N : Nat) : Ctx := ⟨U, 28, fun _ => true, gam [(24, (F24.S N).con), (25, (((F25.S N).con).or (F25b.S N).con))]⟩
def F10.code : Code := Try.f10.body.getD .skip
theorem F10.cok (N : Nat) : (F10.C N).Ok Try.prog := ⟨U_ok, GamOk.cons (F24.ok N) (GamOk.cons (Con.or_ok (F25.ok N) (F25b.ok N)) (GamOk.nil))⟩
def F10.outs : Sh := (.cons (.val (.int .i64)) (.cons (.own 5 .byte) (.cons (.val .bool) .nil)))
def F10.fn (N : Nat) (x : Sh.den F10.ins) : Option (Sh.den F10.outs) :=
  obind (F24.fn N ((x.fst.fst, x.fst.snd.fst, PUnit.unit), x.snd.fst, PUnit.unit)) fun y =>
  bif !y.fst then some ((0 : Int), ([] : List UInt8), false, PUnit.unit)
  else
    bif inB x.snd.fst x.fst.snd.fst.length then
      bif decide (x.snd.fst.toNat < x.fst.snd.fst.length) then
        bif inB x.snd.fst x.fst.snd.fst.length then
          bif decide (x.snd.fst.toNat < x.fst.snd.fst.length) then
            obind (F25b.fn N ((x.fst.snd.fst.getD x.snd.fst.toNat ((0 : Int), ([] : List UInt8))).snd, PUnit.unit)) fun y =>
              some ((x.fst.snd.fst.getD x.snd.fst.toNat ((0 : Int), ([] : List UInt8))).fst, y.fst, true, PUnit.unit)
          else none
        else none
      else none
    else none
def F10.S (N : Nat) : Fs := ⟨F10.ins, F10.outs, F10.fn N⟩
def F10.lam (N : Nat) : Pcs := pcs []
theorem F10.pok (N : Nat) : (F10.lam N).Ok Try.prog (F10.C N) F10.code := pcsOk_nil
theorem F10.ev (N : Nat) (x : Sh.den F10.ins) : evC (F10.C N) F10.code (F10.lam N) ⟨envOf 0 (bld (fun k => k) F10.ins x 0).1, (bld (fun k => k) F10.ins x 0).2.1, 1000⟩ (endF U F10.outs Try.f10.results.toList []) = F10.fn N x := by kernel_rfl
theorem F10.ok (N : Nat) : (F10.S N).con.Ok Try.prog 10 := fn_ok (F := F10.S N) (n0 := 1000) Try.func10 (by kernel_rfl) (show Try.f10.body = some F10.code by rfl) mix (F10.cok N) (fun _ => rfl) (fun _ => rfl) (F10.pok N) (fun x y h => (F10.ev N x).trans h)
def F36.ins : Sh := (.cons (.nils) (.cons (.val (.int .i64)) .nil))
def F36.C (N : Nat) : Ctx := ⟨U, 27, fun _ => true, gam []⟩
def F36.code : Code := Try.f36.body.getD .skip
theorem F36.cok (N : Nat) : (F36.C N).Ok Try.prog := ⟨U_ok, GamOk.nil⟩
def F36.outs : Sh := (.cons (.own 62 (.pair (.int .i64) (.slice .byte))) .nil)
def F36.fn (N : Nat) (x : Sh.den F36.ins) : Option (Sh.den F36.outs) :=
  bif decide (x.snd.fst < (0 : Int)) then none
  else
  bif decide (IntKind.i64.wrap (x.snd.fst - IntKind.i64.wrap ((↑(0 : Nat) : Int) - (↑(0 : Nat) : Int))) > (0 : Int)) then
    bif okB (0 : Int) (↑(0 : Nat) : Int) (0 : Nat) then
      bif
          decide ((0 : Int) ≤ IntKind.i64.wrap (x.snd.fst - IntKind.i64.wrap ((↑(0 : Nat) : Int) - (↑(0 : Nat) : Int)))) &&
            room (IntKind.i64.wrap (x.snd.fst - IntKind.i64.wrap ((↑(0 : Nat) : Int) - (↑(0 : Nat) : Int)))).toNat (32 : Nat) then
        bif
            okB (0 : Int) (↑(0 : Nat) : Int)
              (List.replicate (IntKind.i64.wrap (x.snd.fst - IntKind.i64.wrap ((↑(0 : Nat) : Int) - (↑(0 : Nat) : Int)))).toNat ((0 : Int), ([] : List UInt8))).length then
          some
            (List.take ((↑(0 : Nat) : Int) - (0 : Int)).toNat
                (List.replicate (IntKind.i64.wrap (x.snd.fst - IntKind.i64.wrap ((↑(0 : Nat) : Int) - (↑(0 : Nat) : Int)))).toNat ((0 : Int), ([] : List UInt8))),
              PUnit.unit)
        else none
      else none
    else none
  else some (([] : List (Int × List UInt8)), PUnit.unit)
def F36.S (N : Nat) : Fs := ⟨F36.ins, F36.outs, F36.fn N⟩
def F36.lam (N : Nat) : Pcs := pcs []
theorem F36.pok (N : Nat) : (F36.lam N).Ok Try.prog (F36.C N) F36.code := pcsOk_nil
theorem F36.ev (N : Nat) (x : Sh.den F36.ins) : evC (F36.C N) F36.code (F36.lam N) ⟨envOf 0 (bld (fun k => k) F36.ins x 0).1, (bld (fun k => k) F36.ins x 0).2.1, 1000⟩ (endF U F36.outs Try.f36.results.toList [4]) = F36.fn N x := by kernel_rfl
theorem F36.ok (N : Nat) : (F36.S N).con.Ok Try.prog 36 := fn_ok (F := F36.S N) (n0 := 1000) Try.func36 (by kernel_rfl) (show Try.f36.body = some F36.code by rfl) mix (F36.cok N) (fun _ => rfl) (fun _ => rfl) (F36.pok N) (fun x y h => (F36.ev N x).trans h)
def F26.ins : Sh := (.cons (.rown 63 (.slice (.pair (.int .i64) (.slice .byte)))) .nil)
def F26.C (N : Nat) : Ctx := ⟨U, 36, fun _ => true, gam [(36, (F36.S N).con)]⟩
def F26.code : Code := Try.f26.body.getD .skip
theorem F26.cok (N : Nat) : (F26.C N).Ok Try.prog := ⟨U_ok, GamOk.cons (F36.ok N) (GamOk.nil)⟩
def F26_0.ins : Sh := (.cons (.rown 63 (.slice (.pair (.int .i64) (.slice .byte)))) (.cons (.val (.int .i64)) (.cons (.refr 0) (.cons (.val (.int .i64)) (.cons (.val (.int .i64)) .nil)))))
def F26_0.ts : List Tmp := [0, 3, 9, 10, 11]
def F26_0.asg : List Tmp := [3, 5, 11, 12, 13, 14, 15, 16, 17, 18, 19, 20, 21, 22]
def F26_0.C (N : Nat) : Ctx := { F26.C N with may := fun t => F26_0.asg.any (Nat.beq t) }
def F26_0.code : Code := loopBody (sub F26.code [true, true, false, true, false])
def F26_0.alts : List Alt := [⟨(.exit 0), [3], (.cons (.val (.int .i64)) .nil)⟩]
def F26_0.g (N : Nat) : Nat → Sh.den F26_0.ins → Option (altsDen F26_0.alts)
  | 0, _ => none
  | n + 1, x => bif decide (x.snd.snd.snd.snd.fst < x.snd.snd.snd.fst) then
  bif inB x.snd.snd.snd.snd.fst x.fst.length then
    bif decide (x.snd.snd.snd.snd.fst.toNat < x.fst.length) then
      bif decide (IntKind.i64.wrap (x.snd.fst + (↑(x.fst.getD x.snd.snd.snd.snd.fst.toNat ([] : List (Int × List UInt8))).length : Int)) < (0 : Int)) then none
      else
        F26_0.g N n
          (x.fst, IntKind.i64.wrap (x.snd.fst + (↑(x.fst.getD x.snd.snd.snd.snd.fst.toNat ([] : List (Int × List UInt8))).length : Int)), PUnit.unit, x.snd.snd.snd.fst,
            IntKind.i64.wrap (x.snd.snd.snd.snd.fst + (1 : Int)), PUnit.unit)
    else none
  else none
  else some (x.snd.fst, PUnit.unit)
def F26_0.P (N : Nat) : Ps := ⟨F26_0.ts, F26_0.ins, F26_0.asg, F26_0.alts, F26_0.g N N⟩
theorem F26_0.cok (N : Nat) : (F26_0.C N).Ok Try.prog := ⟨(F26.cok N).U, (F26.cok N).Γ⟩
def F26_0.lam (N : Nat) : Pcs := pcs []
theorem F26_0.pok (N : Nat) : (F26_0.lam N).Ok Try.prog (F26_0.C N) F26_0.code := pcsOk_nil
theorem F26_0.ev (N n : Nat) (x : Sh.den F26_0.ins) : evC (F26_0.C N) F26_0.code (F26_0.lam N) ((F26_0.P N).canon 1000 x) (loopK (F26_0.P N) (F26_0.g N n)) = F26_0.g N (n + 1) x := by kernel_rfl
theorem F26_0.ok (N : Nat) : ((F26_0.P N).pc (F26.C N)).Ok Try.prog (F26.C N) (.loop F26_0.code) := loop_ok (F := F26_0.P N) (n0 := 1000) (N := N) (F26.cok N) mix (F26_0.pok N) (F26_0.g N) (fun _ => rfl) rfl (fun n x y h => (F26_0.ev N n x).trans h)
def F26_1.ins : Sh := (.cons (.own 62 (.pair (.int .i64) (.slice .byte))) (.cons (.rown 63 (.slice (.pair (.int .i64) (.slice .byte)))) (.cons (.val (.int .i64)) (.cons (.val (.int .i64)) .nil))))
def F26_1.ts : List Tmp := [6, 25, 26, 27]
def F26_1.asg : List Tmp := [6, 8, 27, 28, 29, 30, 31, 32, 33, 34]
def F26_1.C (N : Nat) : Ctx := { F26.C N with may := fun t => F26_1.asg.any (Nat.beq t) }
def F26_1.code : Code := loopBody (sub F26.code [true, true, true, true, false, true, false])
def F26_1.alts : List Alt := [⟨(.exit 2), [6], (.cons (.own 62 (.pair (.int .i64) (.slice .byte))) .nil)⟩]
def F26_1.g (N : Nat) : Nat → Sh.den F26_1.ins → Option (altsDen F26_1.alts)
  | 0, _ => none
  | n + 1, x => bif decide (x.snd.snd.snd.fst < x.snd.snd.fst) then
  bif inB x.snd.snd.snd.fst x.snd.fst.length then
    bif decide (x.snd.snd.snd.fst.toNat < x.snd.fst.length) then
      bif room (x.fst.length + (x.snd.fst.getD x.snd.snd.snd.fst.toNat ([] : List (Int × List UInt8))).length) (32 : Nat) then
        F26_1.g N n (x.fst ++ x.snd.fst.getD x.snd.snd.snd.fst.toNat ([] : List (Int × List UInt8)), x.snd.fst, x.snd.snd.fst, IntKind.i64.wrap (x.snd.snd.snd.fst + (1 : Int)), PUnit.unit)
      else none
    else none
  else none
  else some (x.fst, PUnit.unit)
def F26_1.P (N : Nat) : Ps := ⟨F26_1.ts, F26_1.ins, F26_1.asg, F26_1.alts, F26_1.g N N⟩
theorem F26_1.cok (N : Nat) : (F26_1.C N).Ok Try.prog := ⟨(F26.cok N).U, (F26.cok N).Γ⟩
def F26_1.lam (N : Nat) : Pcs := pcs []
theorem F26_1.pok (N : Nat) : (F26_1.lam N).Ok Try.prog (F26_1.C N) F26_1.code := pcsOk_nil
theorem F26_1.ev (N n : Nat) (x : Sh.den F26_1.ins) : evC (F26_1.C N) F26_1.code (F26_1.lam N) ((F26_1.P N).canon 1000 x) (loopK (F26_1.P N) (F26_1.g N n)) = F26_1.g N (n + 1) x := by kernel_rfl
theorem F26_1.ok (N : Nat) : ((F26_1.P N).pc (F26.C N)).Ok Try.prog (F26.C N) (.loop F26_1.code) := loop_ok (F := F26_1.P N) (n0 := 1000) (N := N) (F26.cok N) mix (F26_1.pok N) (F26_1.g N) (fun _ => rfl) rfl (fun n x y h => (F26_1.ev N n x).trans h)
def F26.outs : Sh := (.cons (.own 62 (.pair (.int .i64) (.slice .byte))) .nil)
def F26.fn (N : Nat) (x : Sh.den F26.ins) : Option (Sh.den F26.outs) :=
  obind (F26_0.g N N (x.fst, (0 : Int), PUnit.unit, (↑x.fst.length : Int), (0 : Int), PUnit.unit)) fun y =>
  obind (F36.fn N (PUnit.unit, y.fst, PUnit.unit)) fun y => obind (F26_1.g N N (y.fst, x.fst, (↑x.fst.length : Int), (0 : Int), PUnit.unit)) fun y => some (y.fst, PUnit.unit)
def F26.S (N : Nat) : Fs := ⟨F26.ins, F26.outs, F26.fn N⟩
def F26.lam (N : Nat) : Pcs := pcs [([true, true, false, true, false], (F26_0.P N).pc (F26.C N)), ([true, true, true, true, false, true, false], (F26_1.P N).pc (F26.C N))]
theorem F26.pok (N : Nat) : (F26.lam N).Ok Try.prog (F26.C N) F26.code := pcsOk_cons (c1 := .loop F26_0.code) rfl (F26_0.ok N) (pcsOk_cons (c1 := .loop F26_1.code) rfl (F26_1.ok N) (pcsOk_nil))
theorem F26.ev (N : Nat) (x : Sh.den F26.ins) : evC (F26.C N) F26.code (F26.lam N) ⟨envOf 0 (bld (fun k => k) F26.ins x 0).1, (bld (fun k => k) F26.ins x 0).2.1, 1000⟩ (endF U F26.outs Try.f26.results.toList []) = F26.fn N x := by kernel_rfl
theorem F26.ok (N : Nat) : (F26.S N).con.Ok Try.prog 26 := fn_ok (F := F26.S N) (n0 := 1000) Try.func26 (by kernel_rfl) (show Try.f26.body = some F26.code by rfl) mix (F26.cok N) (fun _ => rfl) (fun _ => rfl) (F26.pok N) (fun x y h => (F26.ev N x).trans h)
def F13.ins : Sh := (.cons (.box 65 (.cons (.val (.int .i64)) (.cons (.own 62 (.pair (.int .i64) (.slice .byte))) .nil))) (.cons (.val (.int .i64)) .nil))
def F13.C (N : Nat) : Ctx := ⟨U, 27, fun _ => true, gam [(24, (F24.S N).con), (26, (F26.S N).con)]⟩
def F13.code : Code := Try.f13.body.getD .skip
theorem F13.cok (N : Nat) : (F13.C N).Ok Try.prog := ⟨U_ok, GamOk.cons (F24.ok N) (GamOk.cons (F26.ok N) (GamOk.nil))⟩
def F13.outs : Sh := (.cons (.upd 0 65 (.cons (.val (.int .i64)) (.cons (.own 62 (.pair (.int .i64) (.slice .byte))) .nil))) (.cons (.val .bool) .nil))
def F13.fn (N : Nat) (x : Sh.den F13.ins) : Option (Sh.den F13.outs) :=
  obind (F24.fn N ((x.fst.fst, x.fst.snd.fst, PUnit.unit), x.snd.fst, PUnit.unit)) fun y =>
  bif !y.fst then some ((x.fst.fst, x.fst.snd.fst, PUnit.unit), false, PUnit.unit)
  else
    bif okB (0 : Int) x.snd.fst x.fst.snd.fst.length then
      bif okB (IntKind.i64.wrap (x.snd.fst + (1 : Int))) (↑x.fst.snd.fst.length : Int) x.fst.snd.fst.length then
        obind
          (F26.fn N
            (List.take (x.snd.fst - (0 : Int)).toNat (List.drop (Int.toNat (0 : Int)) x.fst.snd.fst) ::
                List.take ((↑x.fst.snd.fst.length : Int) - IntKind.i64.wrap (x.snd.fst + (1 : Int))).toNat (List.drop (IntKind.i64.wrap (x.snd.fst + (1 : Int))).toNat x.fst.snd.fst) ::
                  ([] : List (List (Int × List UInt8))),
              PUnit.unit))
          fun y => some ((x.fst.fst, y.fst, PUnit.unit), true, PUnit.unit)
      else none
    else none
def F13.S (N : Nat) : Fs := ⟨F13.ins, F13.outs, F13.fn N⟩
def F13.lam (N : Nat) : Pcs := pcs []
theorem F13.pok (N : Nat) : (F13.lam N).Ok Try.prog (F13.C N) F13.code := pcsOk_nil
theorem F13.ev (N : Nat) (x : Sh.den F13.ins) : evC (F13.C N) F13.code (F13.lam N) ⟨envOf 0 (bld (fun k => k) F13.ins x 0).1, (bld (fun k => k) F13.ins x 0).2.1, 1000⟩ (endF U F13.outs Try.f13.results.toList []) = F13.fn N x := by kernel_rfl
theorem F13.ok (N : Nat) : (F13.S N).con.Ok Try.prog 13 := fn_ok (F := F13.S N) (n0 := 1000) Try.func13 (by kernel_rfl) (show Try.f13.body = some F13.code by rfl) mix (F13.cok N) (fun _ => rfl) (fun _ => rfl) (F13.pok N) (fun x y h => (F13.ev N x).trans h)
def F12.ins : Sh := (.cons (.box 65 (.cons (.val (.int .i64)) (.cons (.own 62 (.pair (.int .i64) (.slice .byte))) .nil))) (.cons (.val (.int .i64)) .nil))
def F12.C (N : Nat) : Ctx := ⟨U, 23, fun _ => true, gam [(10, (F10.S N).con), (13, (F13.S N).con)]⟩
def F12.code : Code := Try.f12.body.getD .skip
theorem F12.cok (N : Nat) : (F12.C N).Ok Try.prog := ⟨U_ok, GamOk.cons (F10.ok N) (GamOk.cons (F13.ok N) (GamOk.nil))⟩
def F12.outs : Sh := (.cons (.upd 0 65 (.cons (.val (.int .i64)) (.cons (.own 62 (.pair (.int .i64) (.slice .byte))) .nil))) (.cons (.val (.int .i64)) (.cons (.own 5 .byte) (.cons (.val .bool) .nil))))
def F12.fn (N : Nat) (x : Sh.den F12.ins) : Option (Sh.den F12.outs) :=
  obind (F10.fn N ((x.fst.fst, x.fst.snd.fst, PUnit.unit), x.snd.fst, PUnit.unit)) fun y =>
  obind (F13.fn N ((x.fst.fst, x.fst.snd.fst, PUnit.unit), x.snd.fst, PUnit.unit)) fun y_1 => some ((y_1.fst.fst, y_1.fst.snd.fst, PUnit.unit), y.fst, y.snd.fst, y.snd.snd.fst, PUnit.unit)
def F12.S (N : Nat) : Fs := ⟨F12.ins, F12.outs, F12.fn N⟩
def F12.lam (N : Nat) : Pcs := pcs []
theorem F12.pok (N : Nat) : (F12.lam N).Ok Try.prog (F12.C N) F12.code := pcsOk_nil
theorem F12.ev (N : Nat) (x : Sh.den F12.ins) : evC (F12.C N) F12.code (F12.lam N) ⟨envOf 0 (bld (fun k => k) F12.ins x 0).1, (bld (fun k => k) F12.ins x 0).2.1, 1000⟩ (endF U F12.outs Try.f12.results.toList []) = F12.fn N x := by kernel_rfl
theorem F12.ok (N : Nat) : (F12.S N).con.Ok Try.prog 12 := fn_ok (F := F12.S N) (n0 := 1000) Try.func12 (by kernel_rfl) (show Try.f12.body = some F12.code by rfl) mix (F12.cok N) (fun _ => rfl) (fun _ => rfl) (F12.pok N) (fun x y h => (F12.ev N x).trans h)
def F15.ins : Sh := (.cons (.rbox 65 (.cons (.val (.int .i64)) (.cons (.rown 62 (.pair (.int .i64) (.slice .byte))) .nil))) .nil)
def F15.C (N : Nat) : Ctx := ⟨U, 8, fun _ => true, gam []⟩
def F15.code : Code := Try.f15.body.getD .skip
theorem F15.cok (N : Nat) : (F15.C N).Ok Try.prog := ⟨U_ok, GamOk.nil⟩
def F15.outs : Sh := (.cons (.val (.int .i64)) .nil)
def F15.fn (N : Nat) (x : Sh.den F15.ins) : Option (Sh.den F15.outs) :=
  some ((↑x.fst.snd.fst.length : Int), PUnit.unit)
def F15.S (N : Nat) : Fs := ⟨F15.ins, F15.outs, F15.fn N⟩
def F15.lam (N : Nat) : Pcs := pcs []
theorem F15.pok (N : Nat) : (F15.lam N).Ok Try.prog (F15.C N) F15.code := pcsOk_nil
theorem F15.ev (N : Nat) (x : Sh.den F15.ins) : evC (F15.C N) F15.code (F15.lam N) ⟨envOf 0 (bld (fun k => k) F15.ins x 0).1, (bld (fun k => k) F15.ins x 0).2.1, 1000⟩ (endF U F15.outs Try.f15.results.toList []) = F15.fn N x := by kernel_rfl
theorem F15.ok (N : Nat) : (F15.S N).con.Ok Try.prog 15 := fn_ok (F := F15.S N) (n0 := 1000) Try.func15 (by kernel_rfl) (show Try.f15.body = some F15.code by rfl) mix (F15.cok N) (fun _ => rfl) (fun _ => rfl) (F15.pok N) (fun x y h => (F15.ev N x).trans h)
def F9.ins : Sh := (.cons (.val (.int .i64)) .nil)
def F9.C (N : Nat) : Ctx := ⟨U, 62, fun _ => true, gam [(23, (F23.S N).con), (11, (((F11.S N).con).or (F11b.S N).con)), (14, (F14.S N).con), (12, (F12.S N).con), (15, (F15.S N).con)]⟩
def F9.code : Code := Try.f9.body.getD .skip
theorem F9.cok (N : Nat) : (F9.C N).Ok Try.prog := ⟨U_ok, GamOk.cons (F23.ok N) (GamOk.cons (Con.or_ok (F11.ok N) (F11b.ok N)) (GamOk.cons (F14.ok N) (GamOk.cons (F12.ok N) (GamOk.cons (F15.ok N) (GamOk.nil)))))⟩
def F9.outs : Sh := (.cons (.box 65 (.cons (.val (.int .i64)) (.cons (.own 62 (.pair (.int .i64) (.slice .byte))) .nil))) (.cons (.val .bool) .nil))
def F9.fn (N : Nat) (x : Sh.den F9.ins) : Option (Sh.den F9.outs) :=
  obind (F23.fn N ((2 : Int), PUnit.unit)) fun y =>
  obind (F11.fn N ((y.fst.fst, y.fst.snd.fst, PUnit.unit), (3 : Int), Hay.u8 (7 : Int) :: ([] : List UInt8), PUnit.unit)) fun y =>
    bif !decide (y.snd.fst = (0 : Int)) then none
    else
      obind (F14.fn N ((y.fst.fst, y.fst.snd.fst, PUnit.unit), (0 : Int), PUnit.unit)) fun y =>
        bif !decide (y.snd.fst = (0 : Int)) then none
        else
          obind (F11.fn N ((y.fst.fst, y.fst.snd.fst, PUnit.unit), (3 : Int), ([] : List UInt8), PUnit.unit)) fun y =>
            bif !decide (y.snd.fst = (50 : Int)) then none
            else
              obind (F12.fn N ((y.fst.fst, y.fst.snd.fst, PUnit.unit), (1 : Int), PUnit.unit)) fun y =>
                obind (F23.fn N (x.fst, PUnit.unit)) fun y_1 =>
                  bif y.snd.snd.snd.fst then
                    bif decide (y.snd.fst = (3 : Int)) then
                      bif decide ((↑y.snd.snd.fst.length : Int) = (1 : Int)) then
                        bif inB (0 : Int) y.snd.snd.fst.length then
                          bif decide (Int.toNat (0 : Int) < y.snd.snd.fst.length) then
                            bif decide ((↑(y.snd.snd.fst.getD (Int.toNat (0 : Int)) (0 : UInt8)).toNat : Int) = (7 : Int)) then
                              obind (F15.fn N ((y.fst.fst, y.fst.snd.fst, PUnit.unit), PUnit.unit)) fun y => some ((y_1.fst.fst, y_1.fst.snd.fst, PUnit.unit), decide (y.fst = (1 : Int)), PUnit.unit)
                            else some ((y_1.fst.fst, y_1.fst.snd.fst, PUnit.unit), false, PUnit.unit)
                          else none
                        else none
                      else some ((y_1.fst.fst, y_1.fst.snd.fst, PUnit.unit), false, PUnit.unit)
                    else some ((y_1.fst.fst, y_1.fst.snd.fst, PUnit.unit), false, PUnit.unit)
                  else some ((y_1.fst.fst, y_1.fst.snd.fst, PUnit.unit), false, PUnit.unit)
def F9.S (N : Nat) : Fs := ⟨F9.ins, F9.outs, F9.fn N⟩
def F9.lam (N : Nat) : Pcs := pcs []
theorem F9.pok (N : Nat) : (F9.lam N).Ok Try.prog (F9.C N) F9.code := pcsOk_nil
theorem F9.ev (N : Nat) (x : Sh.den F9.ins) : evC (F9.C N) F9.code (F9.lam N) ⟨envOf 0 (bld (fun k => k) F9.ins x 0).1, (bld (fun k => k) F9.ins x 0).2.1, 1000⟩ (endF U F9.outs Try.f9.results.toList []) = F9.fn N x := by kernel_rfl
theorem F9.ok (N : Nat) : (F9.S N).con.Ok Try.prog 9 := fn_ok (F := F9.S N) (n0 := 1000) Try.func9 (by kernel_rfl) (show Try.f9.body = some F9.code by rfl) mix (F9.cok N) (fun _ => rfl) (fun _ => rfl) (F9.pok N) (fun x y h => (F9.ev N x).trans h)
def F4.ins : Sh := (.cons (.val (.slice (.slice .byte))) (.cons (.val (.slice .bool)) .nil))
def F4.C (N : Nat) : Ctx := ⟨U, 104, fun _ => true, gam [(9, (F9.S N).con), (11, (((F11.S N).con).or (F11b.S N).con)), (12, (F12.S N).con), (15, (F15.S N).con)]⟩
def F4.code : Code := Try.f4.body.getD .skip
theorem F4.cok (N : Nat) : (F4.C N).Ok Try.prog := ⟨U_ok, GamOk.cons (F9.ok N) (GamOk.cons (Con.or_ok (F11.ok N) (F11b.ok N)) (GamOk.cons (F12.ok N) (GamOk.cons (F15.ok N) (GamOk.nil))))⟩
def F4_0.ins : Sh := (.cons (.val (.slice (.slice .byte))) (.cons (.val (.slice .bool)) (.cons (.box 65 (.cons (.val (.int .i64)) (.cons (.own 62 (.pair (.int .i64) (.slice .byte))) .nil))) (.cons (.val (.int .i64)) (.cons (.val (.slice (.slice .byte))) (.cons (.val (.int .i64)) (.cons (.val (.int .i64)) .nil)))))))
def F4_0.ts : List Tmp := [0, 1, 5, 7, 24, 25, 26]
def F4_0.asg : List Tmp := [4, 7, 8, 9, 10, 11, 12, 26, 27, 28, 29, 30, 31, 32, 33, 34, 35, 36, 37, 38, 39, 40, 41, 42, 43, 44, 45, 46, 47, 48, 49, 50, 51, 52, 53, 54, 55, 56, 57, 58, 59, 60, 61, 62, 63, 64, 65, 66, 67, 68, 69, 70, 71]
def F4_0.C (N : Nat) : Ctx := { F4.C N with may := fun t => F4_0.asg.any (Nat.beq t) }
def F4_0.code : Code := loopBody (sub F4.code [true, true, true, true, false, true, false])
def F4_0.alts : List Alt := [⟨.ret, [4], (.cons (.upd 0 65 (.cons (.val (.int .i64)) (.cons (.own 62 (.pair (.int .i64) (.slice .byte))) .nil))) (.cons (.val .bool) .nil))⟩, ⟨(.exit 0), [7], (.cons (.upd 0 65 (.cons (.val (.int .i64)) (.cons (.own 62 (.pair (.int .i64) (.slice .byte))) .nil))) (.cons (.val (.int .i64)) .nil))⟩]
def F4_0.g (N : Nat) : Nat → Sh.den F4_0.ins → Option (altsDen F4_0.alts)
  | 0, _ => none
  | n + 1, x => bif decide (x.snd.snd.snd.snd.snd.snd.fst < x.snd.snd.snd.snd.snd.fst) then
  bif inB x.snd.snd.snd.snd.snd.snd.fst x.snd.snd.snd.snd.fst.length then
    obind
      (F11b.fn N ((x.snd.snd.fst.fst, x.snd.snd.fst.snd.fst, PUnit.unit), x.snd.snd.snd.snd.snd.snd.fst, x.snd.snd.snd.snd.fst.getD x.snd.snd.snd.snd.snd.snd.fst.toNat ([] : List UInt8), PUnit.unit))
      fun y =>
      bif !decide (y.snd.fst = (0 : Int)) then some (Sum.inl ((y.fst.fst, y.fst.snd.fst, PUnit.unit), false, PUnit.unit))
      else
        bif decide (x.snd.snd.snd.snd.snd.snd.fst < (↑x.snd.fst.length : Int)) then
          bif inB x.snd.snd.snd.snd.snd.snd.fst x.snd.fst.length then
            bif x.snd.fst.getD x.snd.snd.snd.snd.snd.snd.fst.toNat false then
              obind (F12.fn N ((y.fst.fst, y.fst.snd.fst, PUnit.unit), (0 : Int), PUnit.unit)) fun y =>
                bif !decide (y.snd.fst = x.snd.snd.snd.fst) then some (Sum.inl ((y.fst.fst, y.fst.snd.fst, PUnit.unit), false, PUnit.unit))
                else
                  bif !y.snd.snd.snd.fst then some (Sum.inl ((y.fst.fst, y.fst.snd.fst, PUnit.unit), false, PUnit.unit))
                  else
                    bif inB x.snd.snd.snd.fst x.fst.length then
                      bif !decide (y.snd.snd.fst = x.fst.getD x.snd.snd.snd.fst.toNat ([] : List UInt8)) then some (Sum.inl ((y.fst.fst, y.fst.snd.fst, PUnit.unit), false, PUnit.unit))
                      else
                        F4_0.g N n
                          (x.fst, x.snd.fst, (y.fst.fst, y.fst.snd.fst, PUnit.unit), IntKind.i64.wrap (x.snd.snd.snd.fst + (1 : Int)), x.snd.snd.snd.snd.fst, x.snd.snd.snd.snd.snd.fst,
                            IntKind.i64.wrap (x.snd.snd.snd.snd.snd.snd.fst + (1 : Int)), PUnit.unit)
                    else none
            else
              F4_0.g N n
                (x.fst, x.snd.fst, (y.fst.fst, y.fst.snd.fst, PUnit.unit), x.snd.snd.snd.fst, x.snd.snd.snd.snd.fst, x.snd.snd.snd.snd.snd.fst,
                  IntKind.i64.wrap (x.snd.snd.snd.snd.snd.snd.fst + (1 : Int)), PUnit.unit)
          else none
        else
          F4_0.g N n
            (x.fst, x.snd.fst, (y.fst.fst, y.fst.snd.fst, PUnit.unit), x.snd.snd.snd.fst, x.snd.snd.snd.snd.fst, x.snd.snd.snd.snd.snd.fst,
              IntKind.i64.wrap (x.snd.snd.snd.snd.snd.snd.fst + (1 : Int)), PUnit.unit)
  else none
  else some (Sum.inr ((x.snd.snd.fst.fst, x.snd.snd.fst.snd.fst, PUnit.unit), x.snd.snd.snd.fst, PUnit.unit))
def F4_0.P (N : Nat) : Ps := ⟨F4_0.ts, F4_0.ins, F4_0.asg, F4_0.alts, F4_0.g N N⟩
theorem F4_0.cok (N : Nat) : (F4_0.C N).Ok Try.prog := ⟨(F4.cok N).U, (F4.cok N).Γ⟩
def F4_0.lam (N : Nat) : Pcs := pcs []
theorem F4_0.pok (N : Nat) : (F4_0.lam N).Ok Try.prog (F4_0.C N) F4_0.code := pcsOk_nil
theorem F4_0.ev (N n : Nat) (x : Sh.den F4_0.ins) : evC (F4_0.C N) F4_0.code (F4_0.lam N) ((F4_0.P N).canon 1000 x) (loopK (F4_0.P N) (F4_0.g N n)) = F4_0.g N (n + 1) x := by kernel_rfl
theorem F4_0.ok (N : Nat) : ((F4_0.P N).pc (F4.C N)).Ok Try.prog (F4.C N) (.loop F4_0.code) := loop_ok (F := F4_0.P N) (n0 := 1000) (N := N) (F4.cok N) mix (F4_0.pok N) (F4_0.g N) (fun _ => rfl) rfl (fun n x y h => (F4_0.ev N n x).trans h)
def F4_1.ins : Sh := (.cons (.val (.slice (.slice .byte))) (.cons (.box 65 (.cons (.val (.int .i64)) (.cons (.own 62 (.pair (.int .i64) (.slice .byte))) .nil))) (.cons (.val (.int .i64)) .nil)))
def F4_1.ts : List Tmp := [0, 5, 7]
def F4_1.asg : List Tmp := [4, 7, 13, 14, 15, 72, 73, 74, 75, 76, 77, 78, 79, 80, 81, 82, 83, 84, 85, 86, 87, 88, 89, 90, 91, 92, 93, 94, 95, 96, 97, 98, 99, 100]
def F4_1.C (N : Nat) : Ctx := { F4.C N with may := fun t => F4_1.asg.any (Nat.beq t) }
def F4_1.code : Code := loopBody (sub F4.code [true, true, true, true, true, false, false])
def F4_1.alts : List Alt := [⟨.ret, [4], (.cons (.upd 0 65 (.cons (.val (.int .i64)) (.cons (.own 62 (.pair (.int .i64) (.slice .byte))) .nil))) (.cons (.val .bool) .nil))⟩, ⟨(.exit 2), [], (.cons (.upd 0 65 (.cons (.val (.int .i64)) (.cons (.own 62 (.pair (.int .i64) (.slice .byte))) .nil))) .nil)⟩]
def F4_1.g (N : Nat) : Nat → Sh.den F4_1.ins → Option (altsDen F4_1.alts)
  | 0, _ => none
  | n + 1, x => bif decide (x.snd.snd.fst < (↑x.fst.length : Int)) then
  obind (F12.fn N ((x.snd.fst.fst, x.snd.fst.snd.fst, PUnit.unit), (0 : Int), PUnit.unit)) fun y =>
    bif !decide (y.snd.fst = x.snd.snd.fst) then some (Sum.inl ((y.fst.fst, y.fst.snd.fst, PUnit.unit), false, PUnit.unit))
    else
      bif !y.snd.snd.snd.fst then some (Sum.inl ((y.fst.fst, y.fst.snd.fst, PUnit.unit), false, PUnit.unit))
      else
        bif inB x.snd.snd.fst x.fst.length then
          bif !decide (y.snd.snd.fst = x.fst.getD x.snd.snd.fst.toNat ([] : List UInt8)) then some (Sum.inl ((y.fst.fst, y.fst.snd.fst, PUnit.unit), false, PUnit.unit))
          else F4_1.g N n (x.fst, (y.fst.fst, y.fst.snd.fst, PUnit.unit), IntKind.i64.wrap (x.snd.snd.fst + (1 : Int)), PUnit.unit)
        else none
  else some (Sum.inr ((x.snd.fst.fst, x.snd.fst.snd.fst, PUnit.unit), PUnit.unit))
def F4_1.P (N : Nat) : Ps := ⟨F4_1.ts, F4_1.ins, F4_1.asg, F4_1.alts, F4_1.g N N⟩
theorem F4_1.cok (N : Nat) : (F4_1.C N).Ok Try.prog := ⟨(F4.cok N).U, (F4.cok N).Γ⟩
def F4_1.lam (N : Nat) : Pcs := pcs []
theorem F4_1.pok (N : Nat) : (F4_1.lam N).Ok Try.prog (F4_1.C N) F4_1.code := pcsOk_nil
theorem F4_1.ev (N n : Nat) (x : Sh.den F4_1.ins) : evC (F4_1.C N) F4_1.code (F4_1.lam N) ((F4_1.P N).canon 1000 x) (loopK (F4_1.P N) (F4_1.g N n)) = F4_1.g N (n + 1) x := by kernel_rfl
theorem F4_1.ok (N : Nat) : ((F4_1.P N).pc (F4.C N)).Ok Try.prog (F4.C N) (.loop F4_1.code) := loop_ok (F := F4_1.P N) (n0 := 1000) (N := N) (F4.cok N) mix (F4_1.pok N) (F4_1.g N) (fun _ => rfl) rfl (fun n x y h => (F4_1.ev N n x).trans h)
def F4.outs : Sh := (.cons (.val .bool) .nil)
def F4.fn (N : Nat) (x : Sh.den F4.ins) : Option (Sh.den F4.outs) :=
  obind (F9.fn N ((↑x.fst.length : Int), PUnit.unit)) fun y =>
  bif !y.snd.fst then some (false, PUnit.unit)
  else
    obind (F4_0.g N N (x.fst, x.snd.fst, (y.fst.fst, y.fst.snd.fst, PUnit.unit), (0 : Int), x.fst, (↑x.fst.length : Int), (0 : Int), PUnit.unit)) fun y =>
      Sum.elim (fun a => some (a.snd.fst, PUnit.unit))
        (fun b =>
          obind (F4_1.g N N (x.fst, (b.fst.fst, b.fst.snd.fst, PUnit.unit), b.snd.fst, PUnit.unit)) fun y =>
            Sum.elim (fun a => some (a.snd.fst, PUnit.unit)) (fun b => obind (F15.fn N ((b.fst.fst, b.fst.snd.fst, PUnit.unit), PUnit.unit)) fun y => some (decide (y.fst = (0 : Int)), PUnit.unit)) y)
        y
def F4.S (N : Nat) : Fs := ⟨F4.ins, F4.outs, F4.fn N⟩
def F4.lam (N : Nat) : Pcs := pcs [([true, true, true, true, false, true, false], (F4_0.P N).pc (F4.C N)), ([true, true, true, true, true, false, false], (F4_1.P N).pc (F4.C N))]
theorem F4.pok (N : Nat) : (F4.lam N).Ok Try.prog (F4.C N) F4.code := pcsOk_cons (c1 := .loop F4_0.code) rfl (F4_0.ok N) (pcsOk_cons (c1 := .loop F4_1.code) rfl (F4_1.ok N) (pcsOk_nil))
theorem F4.ev (N : Nat) (x : Sh.den F4.ins) : evC (F4.C N) F4.code (F4.lam N) ⟨envOf 0 (bld (fun k => k) F4.ins x 0).1, (bld (fun k => k) F4.ins x 0).2.1, 1000⟩ (endF U F4.outs Try.f4.results.toList []) = F4.fn N x := by kernel_rfl
theorem F4.ok (N : Nat) : (F4.S N).con.Ok Try.prog 4 := fn_ok (F := F4.S N) (n0 := 1000) Try.func4 (by kernel_rfl) (show Try.f4.body = some F4.code by rfl) mix (F4.cok N) (fun _ => rfl) (fun _ => rfl) (F4.pok N) (fun x y h => (F4.ev N x).trans h)
end
end Go.Hay.Ytfbbfjjmbelfdaa
