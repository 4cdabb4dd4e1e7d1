/- Functions of the program as functions of Lean, and that they are what the program computes. Conditions: none. -/
import Derived.Test.YthlojpcjafefjaaFa
set_option linter.unusedVariables false
namespace Go.Hay.Ythlojpcjafefjaa
open Go Go.Hay Go.Proofs
noncomputable section
set_option maxRecDepth 100000
def disk_Disk_Sync_f1.C (N : Nat) : Ctx := ⟨U, 13, fun _ => true, gam [(58, (disk_Disk_lay.S N).con)], gamY []⟩
theorem disk_Disk_Sync_f1.cok (N : Nat) : (disk_Disk_Sync_f1.C N).Ok Try.prog := ⟨U_ok, GamOk.cons (disk_Disk_lay.ok N) (GamOk.nil), GamYOk.nil⟩
def disk_Disk_Sync_f1.code : Code := Try.f82.body.getD .skip
def disk_Disk_Sync_f1.outs : Sh := (.cons (.upd 1 75 (.cons (.val (.int .i64)) (.cons (.val (.int .i64)) (.cons (.own 3000000 (.pair .str (.pair (.slice .byte) (.int .i64)))) (.cons (.val (.int .i64)) (.cons (.val (.int .i64)) (.cons (.val .bool) .nil))))))) .nil)
def disk_Disk_Sync_f1.run (N : Nat) (f : ((List UInt8) × Int)) (room_ : Int) (used : Int) (files : (List ((List UInt8) × ((List UInt8) × Int)))) (steps : Int) (left : Int) (dead : Bool) (t2 : (List UInt8)) : Option ((Int × Int × (List ((List UInt8) × ((List UInt8) × Int))) × Int × Int × Bool × Unit) × Unit) :=
  obind (disk_Disk_lay.run N room_ used files steps left dead t2 (f.1, (f.1.length : Int))) fun ((room1, used1, files1, steps1, left1, dead1, _), _) =>
    some ((room1, used1, files1, steps1, left1, dead1, ()), ())
def disk_Disk_Sync_f1.fn (N : Nat) (x : Sh.den disk_Disk_Sync_f1.ins) : Option (Sh.den disk_Disk_Sync_f1.outs) := disk_Disk_Sync_f1.run N x.1 x.2.1.1.1 x.2.1.1.2.1 x.2.1.1.2.2.1 x.2.1.1.2.2.2.1 x.2.1.1.2.2.2.2.1 x.2.1.1.2.2.2.2.2.1 x.2.2.1.1
def disk_Disk_Sync_f1.S (N : Nat) : Fs := ⟨disk_Disk_Sync_f1.ins, disk_Disk_Sync_f1.outs, disk_Disk_Sync_f1.fn N⟩
def disk_Disk_Sync_f1.lam (N : Nat) : Pcs := pcs []
theorem disk_Disk_Sync_f1.pok (N : Nat) : (disk_Disk_Sync_f1.lam N).Ok Try.prog (disk_Disk_Sync_f1.C N) disk_Disk_Sync_f1.code := pcsOk_nil
theorem disk_Disk_Sync_f1.ev (N : Nat) (x : Sh.den disk_Disk_Sync_f1.ins) : evC (disk_Disk_Sync_f1.C N) disk_Disk_Sync_f1.code (disk_Disk_Sync_f1.lam N) ⟨envOf 0 (bld (fun k => k) disk_Disk_Sync_f1.ins x 0).1, (bld (fun k => k) disk_Disk_Sync_f1.ins x 0).2.1, 1000⟩ (endF U disk_Disk_Sync_f1.outs Try.f82.results.toList []) = disk_Disk_Sync_f1.fn N x := by kernel_rfl
theorem disk_Disk_Sync_f1.ok (N : Nat) : (disk_Disk_Sync_f1.S N).con.Ok Try.prog 82 := fn_ok (F := disk_Disk_Sync_f1.S N) (n0 := 1000) Try.func82 (by kernel_rfl) (show Try.f82.body = some disk_Disk_Sync_f1.code by rfl) mix (disk_Disk_Sync_f1.cok N) (fun _ => rfl) (fun _ => rfl) (disk_Disk_Sync_f1.pok N) (fun x y h => (disk_Disk_Sync_f1.ev N x).trans h)
/-- (*hayloft/disk.Disk).do -/
def disk_Disk_do_b.ins : Sh := (.cons (.box 75 (.cons (.val (.int .i64)) (.cons (.val (.int .i64)) (.cons (.own 3000000 (.pair .str (.pair (.slice .byte) (.int .i64)))) (.cons (.val (.int .i64)) (.cons (.val (.int .i64)) (.cons (.val .bool) .nil))))))) (.cons (.val .str) (.cons (.fn 75 .nil) (.cons (.fn 82 (.cons (.rbox 34 (.cons (.ref 0) .nil)) (.cons (.rbox 9 (.cons (.val .str) .nil)) .nil))) .nil))))
def disk_Disk_do_b.C (N : Nat) : Ctx := ⟨U, 40, fun _ => true, gam [(75, (disk_fine.S N).con), (81, (disk_Disk_step.S N).con), (82, (disk_Disk_Sync_f1.S N).con)], gamY []⟩
theorem disk_Disk_do_b.cok (N : Nat) : (disk_Disk_do_b.C N).Ok Try.prog := ⟨U_ok, GamOk.cons (disk_fine.ok N) (GamOk.cons (disk_Disk_step.ok N) (GamOk.cons (disk_Disk_Sync_f1.ok N) (GamOk.nil))), GamYOk.nil⟩
def disk_Disk_do_b.code : Code := Try.f74.body.getD .skip
def disk_Disk_do_b.outs : Sh := (.cons (.upd 0 75 (.cons (.val (.int .i64)) (.cons (.val (.int .i64)) (.cons (.own 3000000 (.pair .str (.pair (.slice .byte) (.int .i64)))) (.cons (.val (.int .i64)) (.cons (.val (.int .i64)) (.cons (.val .bool) .nil))))))) (.cons (.val (.int .i64)) .nil))
def disk_Disk_do_b.run (N : Nat) (room_ : Int) (used : Int) (files : (List ((List UInt8) × ((List UInt8) × Int)))) (steps : Int) (left : Int) (dead : Bool) (name : (List UInt8)) (done : (List UInt8)) : Option ((Int × Int × (List ((List UInt8) × ((List UInt8) × Int))) × Int × Int × Bool × Unit) × Int × Unit) :=
  bif dead then
    some ((room_, used, files, steps, left, dead, ()), (44 : Int), ())
  else
    bif !(mapHas files name) then
      some ((room_, used, files, steps, left, dead, ()), (42 : Int), ())
    else
      obind (disk_fine.run N (mapGet files name (([] : List UInt8), (0 : Int)))) fun (n_, _) =>
        bif !(decide (n_ = (0 : Int))) then
          some ((room_, used, files, steps, left, dead, ()), n_, ())
        else
          obind (disk_Disk_step.run N room_ used files steps left dead) fun ((room1, used1, files1, steps1, left1, dead1, _), b, _) =>
            bif b then
              some ((room1, used1, files1, steps1, left1, dead1, ()), (44 : Int), ())
            else
              obind (disk_Disk_Sync_f1.run N (mapGet files name (([] : List UInt8), (0 : Int))) room1 used1 files1 steps1 left1 dead1 done) fun ((room2, used2, files2, steps2, left2, dead2, _), _) =>
                some ((room2, used2, files2, steps2, left2, dead2, ()), (0 : Int), ())
def disk_Disk_do_b.fn (N : Nat) (x : Sh.den disk_Disk_do_b.ins) : Option (Sh.den disk_Disk_do_b.outs) := disk_Disk_do_b.run N x.1.1 x.1.2.1 x.1.2.2.1 x.1.2.2.2.1 x.1.2.2.2.2.1 x.1.2.2.2.2.2.1 x.2.1 x.2.2.2.1.2.1.1
def disk_Disk_do_b.S (N : Nat) : Fs := ⟨disk_Disk_do_b.ins, disk_Disk_do_b.outs, disk_Disk_do_b.fn N⟩
def disk_Disk_do_b.lam (N : Nat) : Pcs := pcs []
theorem disk_Disk_do_b.pok (N : Nat) : (disk_Disk_do_b.lam N).Ok Try.prog (disk_Disk_do_b.C N) disk_Disk_do_b.code := pcsOk_nil
theorem disk_Disk_do_b.ev (N : Nat) (x : Sh.den disk_Disk_do_b.ins) : evC (disk_Disk_do_b.C N) disk_Disk_do_b.code (disk_Disk_do_b.lam N) ⟨envOf 0 (bld (fun k => k) disk_Disk_do_b.ins x 0).1, (bld (fun k => k) disk_Disk_do_b.ins x 0).2.1, 1000⟩ (endF U disk_Disk_do_b.outs Try.f74.results.toList []) = disk_Disk_do_b.fn N x := by kernel_rfl
theorem disk_Disk_do_b.ok (N : Nat) : (disk_Disk_do_b.S N).con.Ok Try.prog 74 := fn_ok (F := disk_Disk_do_b.S N) (n0 := 1000) Try.func74 (by kernel_rfl) (show Try.f74.body = some disk_Disk_do_b.code by rfl) mix (disk_Disk_do_b.cok N) (fun _ => rfl) (fun _ => rfl) (disk_Disk_do_b.pok N) (fun x y h => (disk_Disk_do_b.ev N x).trans h)
/-- (*hayloft/disk.Disk).Sync -/
def disk_Disk_Sync.ins : Sh := (.cons (.box 75 (.cons (.val (.int .i64)) (.cons (.val (.int .i64)) (.cons (.own 3000000 (.pair .str (.pair (.slice .byte) (.int .i64)))) (.cons (.val (.int .i64)) (.cons (.val (.int .i64)) (.cons (.val .bool) .nil))))))) (.cons (.val .str) .nil))
def disk_Disk_Sync.C (N : Nat) : Ctx := ⟨U, 9, fun _ => true, gam [(74, (disk_Disk_do_b.S N).con)], gamY []⟩
theorem disk_Disk_Sync.cok (N : Nat) : (disk_Disk_Sync.C N).Ok Try.prog := ⟨U_ok, GamOk.cons (disk_Disk_do_b.ok N) (GamOk.nil), GamYOk.nil⟩
def disk_Disk_Sync.code : Code := Try.f49.body.getD .skip
def disk_Disk_Sync.outs : Sh := (.cons (.upd 0 75 (.cons (.val (.int .i64)) (.cons (.val (.int .i64)) (.cons (.own 3000000 (.pair .str (.pair (.slice .byte) (.int .i64)))) (.cons (.val (.int .i64)) (.cons (.val (.int .i64)) (.cons (.val .bool) .nil))))))) (.cons (.val (.int .i64)) .nil))
def disk_Disk_Sync.run (N : Nat) (room_ : Int) (used : Int) (files : (List ((List UInt8) × ((List UInt8) × Int)))) (steps : Int) (left : Int) (dead : Bool) (name : (List UInt8)) : Option ((Int × Int × (List ((List UInt8) × ((List UInt8) × Int))) × Int × Int × Bool × Unit) × Int × Unit) :=
  obind (disk_Disk_do_b.run N room_ used files steps left dead name name) fun ((room1, used1, files1, steps1, left1, dead1, _), n_, _) =>
    some ((room1, used1, files1, steps1, left1, dead1, ()), n_, ())
def disk_Disk_Sync.fn (N : Nat) (x : Sh.den disk_Disk_Sync.ins) : Option (Sh.den disk_Disk_Sync.outs) := disk_Disk_Sync.run N x.1.1 x.1.2.1 x.1.2.2.1 x.1.2.2.2.1 x.1.2.2.2.2.1 x.1.2.2.2.2.2.1 x.2.1
def disk_Disk_Sync.S (N : Nat) : Fs := ⟨disk_Disk_Sync.ins, disk_Disk_Sync.outs, disk_Disk_Sync.fn N⟩
def disk_Disk_Sync.lam (N : Nat) : Pcs := pcs []
theorem disk_Disk_Sync.pok (N : Nat) : (disk_Disk_Sync.lam N).Ok Try.prog (disk_Disk_Sync.C N) disk_Disk_Sync.code := pcsOk_nil
theorem disk_Disk_Sync.ev (N : Nat) (x : Sh.den disk_Disk_Sync.ins) : evC (disk_Disk_Sync.C N) disk_Disk_Sync.code (disk_Disk_Sync.lam N) ⟨envOf 0 (bld (fun k => k) disk_Disk_Sync.ins x 0).1, (bld (fun k => k) disk_Disk_Sync.ins x 0).2.1, 1000⟩ (endF U disk_Disk_Sync.outs Try.f49.results.toList []) = disk_Disk_Sync.fn N x := by kernel_rfl
theorem disk_Disk_Sync.ok (N : Nat) : (disk_Disk_Sync.S N).con.Ok Try.prog 49 := fn_ok (F := disk_Disk_Sync.S N) (n0 := 1000) Try.func49 (by kernel_rfl) (show Try.f49.body = some disk_Disk_Sync.code by rfl) mix (disk_Disk_Sync.cok N) (fun _ => rfl) (fun _ => rfl) (disk_Disk_Sync.pok N) (fun x y h => (disk_Disk_Sync.ev N x).trans h)
/-- hayloft/redo.Create$3 -/
def redo_Create_f3.ins : Sh := (.cons (.rbox 34 (.cons (.box 75 (.cons (.val (.int .i64)) (.cons (.val (.int .i64)) (.cons (.own 3000000 (.pair .str (.pair (.slice .byte) (.int .i64)))) (.cons (.val (.int .i64)) (.cons (.val (.int .i64)) (.cons (.val .bool) .nil))))))) .nil)) (.cons (.rbox 9 (.cons (.val .str) .nil)) .nil))
def redo_Create_f3.C (N : Nat) : Ctx := ⟨U, 6, fun _ => true, gam [(49, (disk_Disk_Sync.S N).con)], gamY []⟩
theorem redo_Create_f3.cok (N : Nat) : (redo_Create_f3.C N).Ok Try.prog := ⟨U_ok, GamOk.cons (disk_Disk_Sync.ok N) (GamOk.nil), GamYOk.nil⟩
def redo_Create_f3.code : Code := Try.f48.body.getD .skip
def redo_Create_f3.outs : Sh := (.cons (.upd 1 75 (.cons (.val (.int .i64)) (.cons (.val (.int .i64)) (.cons (.own 3000000 (.pair .str (.pair (.slice .byte) (.int .i64)))) (.cons (.val (.int .i64)) (.cons (.val (.int .i64)) (.cons (.val .bool) .nil))))))) (.cons (.val (.int .i64)) .nil))
def redo_Create_f3.run (N : Nat) (room_ : Int) (used : Int) (files : (List ((List UInt8) × ((List UInt8) × Int)))) (steps : Int) (left : Int) (dead : Bool) (t1 : (List UInt8)) : Option ((Int × Int × (List ((List UInt8) × ((List UInt8) × Int))) × Int × Int × Bool × Unit) × Int × Unit) :=
  obind (disk_Disk_Sync.run N room_ used files steps left dead t1) fun ((room1, used1, files1, steps1, left1, dead1, _), n_, _) =>
    some ((room1, used1, files1, steps1, left1, dead1, ()), n_, ())
def redo_Create_f3.fn (N : Nat) (x : Sh.den redo_Create_f3.ins) : Option (Sh.den redo_Create_f3.outs) := redo_Create_f3.run N x.1.1.1 x.1.1.2.1 x.1.1.2.2.1 x.1.1.2.2.2.1 x.1.1.2.2.2.2.1 x.1.1.2.2.2.2.2.1 x.2.1.1
def redo_Create_f3.S (N : Nat) : Fs := ⟨redo_Create_f3.ins, redo_Create_f3.outs, redo_Create_f3.fn N⟩
def redo_Create_f3.lam (N : Nat) : Pcs := pcs []
theorem redo_Create_f3.pok (N : Nat) : (redo_Create_f3.lam N).Ok Try.prog (redo_Create_f3.C N) redo_Create_f3.code := pcsOk_nil
theorem redo_Create_f3.ev (N : Nat) (x : Sh.den redo_Create_f3.ins) : evC (redo_Create_f3.C N) redo_Create_f3.code (redo_Create_f3.lam N) ⟨envOf 0 (bld (fun k => k) redo_Create_f3.ins x 0).1, (bld (fun k => k) redo_Create_f3.ins x 0).2.1, 1000⟩ (endF U redo_Create_f3.outs Try.f48.results.toList []) = redo_Create_f3.fn N x := by kernel_rfl
theorem redo_Create_f3.ok (N : Nat) : (redo_Create_f3.S N).con.Ok Try.prog 48 := fn_ok (F := redo_Create_f3.S N) (n0 := 1000) Try.func48 (by kernel_rfl) (show Try.f48.body = some redo_Create_f3.code by rfl) mix (redo_Create_f3.cok N) (fun _ => rfl) (fun _ => rfl) (redo_Create_f3.pok N) (fun x y h => (redo_Create_f3.ev N x).trans h)
/-- hayloft/redo.row -/
def redo_row.ins : Sh := (.cons (.els 1 3 (.cons (.fn 44 (.cons (.rbox 34 (.cons (.box 75 (.cons (.val (.int .i64)) (.cons (.val (.int .i64)) (.cons (.own 3000000 (.pair .str (.pair (.slice .byte) (.int .i64)))) (.cons (.val (.int .i64)) (.cons (.val (.int .i64)) (.cons (.val .bool) .nil))))))) .nil)) (.cons (.rbox 9 (.cons (.val .str) .nil)) .nil))) (.cons (.fn 46 (.cons (.ref 0) (.cons (.ref 3) .nil))) (.cons (.fn 48 (.cons (.ref 0) (.cons (.ref 3) .nil))) .nil)))) .nil)
def redo_row.C (N : Nat) : Ctx := ⟨U, 18, fun _ => true, gam [(44, (redo_Create_f1.S N).con), (46, (redo_Create_f2.S N).con), (48, (redo_Create_f3.S N).con)], gamY []⟩
theorem redo_row.cok (N : Nat) : (redo_row.C N).Ok Try.prog := ⟨U_ok, GamOk.cons (redo_Create_f1.ok N) (GamOk.cons (redo_Create_f2.ok N) (GamOk.cons (redo_Create_f3.ok N) (GamOk.nil))), GamYOk.nil⟩
def redo_row.code : Code := Try.f43.body.getD .skip
def redo_row.outs : Sh := (.cons (.upd 1 75 (.cons (.val (.int .i64)) (.cons (.val (.int .i64)) (.cons (.own 3000000 (.pair .str (.pair (.slice .byte) (.int .i64)))) (.cons (.val (.int .i64)) (.cons (.val (.int .i64)) (.cons (.val .bool) .nil))))))) (.cons (.val (.int .i64)) .nil))
def redo_row.run (N : Nat) (room_ : Int) (used : Int) (files : (List ((List UInt8) × ((List UInt8) × Int)))) (steps : Int) (left : Int) (dead : Bool) (steps1 : (List UInt8)) : Option ((Int × Int × (List ((List UInt8) × ((List UInt8) × Int))) × Int × Int × Bool × Unit) × Int × Unit) :=
  obind (redo_Create_f1.run N room_ used files steps left dead steps1) fun ((room1, used1, files1, steps2, left1, dead1, _), n_, _) =>
    bif !(decide (n_ = (0 : Int))) then
      some ((room1, used1, files1, steps2, left1, dead1, ()), n_, ())
    else
      obind (redo_Create_f2.run N room1 used1 files1 steps2 left1 dead1 steps1) fun ((room2, used2, files2, steps3, left2, dead2, _), n1, _) =>
        bif !(decide (n1 = (0 : Int))) then
          some ((room2, used2, files2, steps3, left2, dead2, ()), n1, ())
        else
          obind (redo_Create_f3.run N room2 used2 files2 steps3 left2 dead2 steps1) fun ((room3, used3, files3, steps4, left3, dead3, _), n2, _) =>
            bif !(decide (n2 = (0 : Int))) then
              some ((room3, used3, files3, steps4, left3, dead3, ()), n2, ())
            else some ((room3, used3, files3, steps4, left3, dead3, ()), (0 : Int), ())
def redo_row.fn (N : Nat) (x : Sh.den redo_row.ins) : Option (Sh.den redo_row.outs) := redo_row.run N x.1.1.1.1.1 x.1.1.1.1.2.1 x.1.1.1.1.2.2.1 x.1.1.1.1.2.2.2.1 x.1.1.1.1.2.2.2.2.1 x.1.1.1.1.2.2.2.2.2.1 x.1.1.2.1.1
def redo_row.S (N : Nat) : Fs := ⟨redo_row.ins, redo_row.outs, redo_row.fn N⟩
def redo_row.lam (N : Nat) : Pcs := pcs [([true, false, true, false], (Pc.unroll (redo_row.C N) (loopBody (sub redo_row.code [true, false, true, false])) (pcs []) 4))]
theorem redo_row.pok (N : Nat) : (redo_row.lam N).Ok Try.prog (redo_row.C N) redo_row.code := pcsOk_cons (c1 := .loop (loopBody (sub redo_row.code [true, false, true, false]))) (by kernel_rfl) (unroll_ok (redo_row.cok N) mix pcsOk_nil 4) (pcsOk_nil)
theorem redo_row.ev (N : Nat) (x : Sh.den redo_row.ins) : evC (redo_row.C N) redo_row.code (redo_row.lam N) ⟨envOf 0 (bld (fun k => k) redo_row.ins x 0).1, (bld (fun k => k) redo_row.ins x 0).2.1, 1000⟩ (endF U redo_row.outs Try.f43.results.toList []) = redo_row.fn N x := by kernel_rfl
theorem redo_row.ok (N : Nat) : (redo_row.S N).con.Ok Try.prog 43 := fn_ok (F := redo_row.S N) (n0 := 1000) Try.func43 (by kernel_rfl) (show Try.f43.body = some redo_row.code by rfl) mix (redo_row.cok N) (fun _ => rfl) (fun _ => rfl) (redo_row.pok N) (fun x y h => (redo_row.ev N x).trans h)
/-- hayloft/redo.Create -/
def redo_Create.ins : Sh := (.cons (.box 75 (.cons (.val (.int .i64)) (.cons (.val (.int .i64)) (.cons (.own 3000000 (.pair .str (.pair (.slice .byte) (.int .i64)))) (.cons (.val (.int .i64)) (.cons (.val (.int .i64)) (.cons (.val .bool) .nil))))))) (.cons (.val .str) .nil))
def redo_Create.C (N : Nat) : Ctx := ⟨U, 19, fun _ => true, gam [(43, (redo_row.S N).con)], gamY []⟩
theorem redo_Create.cok (N : Nat) : (redo_Create.C N).Ok Try.prog := ⟨U_ok, GamOk.cons (redo_row.ok N) (GamOk.nil), GamYOk.nil⟩
def redo_Create.code : Code := Try.f16.body.getD .skip
def redo_Create.outs : List Sh := [(.cons (.upd 0 75 (.cons (.val (.int .i64)) (.cons (.val (.int .i64)) (.cons (.own 3000000 (.pair .str (.pair (.slice .byte) (.int .i64)))) (.cons (.val (.int .i64)) (.cons (.val (.int .i64)) (.cons (.val .bool) .nil))))))) (.cons (.nilp) (.cons (.val (.int .i64)) .nil))), (.cons (.upd 0 75 (.cons (.val (.int .i64)) (.cons (.val (.int .i64)) (.cons (.own 3000000 (.pair .str (.pair (.slice .byte) (.int .i64)))) (.cons (.val (.int .i64)) (.cons (.val (.int .i64)) (.cons (.val .bool) .nil))))))) (.cons (.box 80 (.cons (.ref 0) (.cons (.val .str) (.cons (.own 22 (.slice .byte)) (.cons (.val (.int .i64)) .nil))))) (.cons (.val (.int .i64)) .nil)))]
def redo_Create.run (N : Nat) (room_ : Int) (used : Int) (files : (List ((List UInt8) × ((List UInt8) × Int)))) (steps : Int) (left : Int) (dead : Bool) (name : (List UInt8)) : Option (((Int × Int × (List ((List UInt8) × ((List UInt8) × Int))) × Int × Int × Bool × Unit) × Unit × Int × Unit) ⊕ ((Int × Int × (List ((List UInt8) × ((List UInt8) × Int))) × Int × Int × Bool × Unit) × (Unit × (List UInt8) × (List (List UInt8)) × Int × Unit) × Int × Unit)) :=
  obind (redo_row.run N room_ used files steps left dead name) fun ((room1, used1, files1, steps1, left1, dead1, _), n_, _) =>
    bif !(decide (n_ = (0 : Int))) then
      some (.inl ((room1, used1, files1, steps1, left1, dead1, ()), (), n_, ()))
    else some (.inr ((room1, used1, files1, steps1, left1, dead1, ()), ((), name, ([] : List (List UInt8)), (0 : Int), ()), (0 : Int), ()))
def redo_Create.fn (N : Nat) (x : Sh.den redo_Create.ins) : Option (shsDen redo_Create.outs) := redo_Create.run N x.1.1 x.1.2.1 x.1.2.2.1 x.1.2.2.2.1 x.1.2.2.2.2.1 x.1.2.2.2.2.2.1 x.2.1
def redo_Create.S (N : Nat) : Fm := ⟨redo_Create.ins, redo_Create.outs, redo_Create.fn N⟩
def redo_Create.lam (N : Nat) : Pcs := pcs []
theorem redo_Create.pok (N : Nat) : (redo_Create.lam N).Ok Try.prog (redo_Create.C N) redo_Create.code := pcsOk_nil
theorem redo_Create.ev (N : Nat) (x : Sh.den redo_Create.ins) : evC (redo_Create.C N) redo_Create.code (redo_Create.lam N) ⟨envOf 0 (bld (fun k => k) redo_Create.ins x 0).1, (bld (fun k => k) redo_Create.ins x 0).2.1, 1000⟩ (endM U redo_Create.outs Try.f16.results.toList []) = redo_Create.fn N x := by kernel_rfl
theorem redo_Create.ok (N : Nat) : (redo_Create.S N).con.Ok Try.prog 16 := fm_ok (F := redo_Create.S N) (n0 := 1000) Try.func16 (by kernel_rfl) (show Try.f16.body = some redo_Create.code by rfl) mix (redo_Create.cok N) (fun _ => rfl) (fun _ => rfl) (redo_Create.pok N) (fun x y h => (redo_Create.ev N x).trans h)
/-- hayloft/codec.Put[[]byte] -/
def codec_Put_byte_b.ins : Sh := (.cons (.box 106 (.cons (.own 5 .byte) .nil)) (.cons (.rown 22 (.slice .byte)) (.cons (.fn 36 .nil) .nil)))
def codec_Put_byte_b.C (N : Nat) : Ctx := ⟨U, 24, fun _ => true, gam [(69, (codec_Writer_Var.S N).con), (36, (redo_text.S N).con)], gamY []⟩
theorem codec_Put_byte_b.cok (N : Nat) : (codec_Put_byte_b.C N).Ok Try.prog := ⟨U_ok, GamOk.cons (codec_Writer_Var.ok N) (GamOk.cons (redo_text.ok N) (GamOk.nil)), GamYOk.nil⟩
def codec_Put_byte_b.code : Code := Try.f35.body.getD .skip
def codec_Put_byte_b_0.ins : Sh := (.cons (.box 106 (.cons (.own 5 .byte) .nil)) (.cons (.fn 36 .nil) (.cons (.rown 22 (.slice .byte)) (.cons (.val (.int .i64)) (.cons (.val (.int .i64)) .nil)))))
def codec_Put_byte_b_0.ts : List Tmp := [0, 2, 13, 14, 15]
def codec_Put_byte_b_0.asg : List Tmp := [7, 15, 16, 17, 18, 19, 20, 21, 22, 23]
def codec_Put_byte_b_0.C (N : Nat) : Ctx := { codec_Put_byte_b.C N with may := fun t => codec_Put_byte_b_0.asg.any (Nat.beq t) }
def codec_Put_byte_b_0.code : Code := loopBody (sub codec_Put_byte_b.code [true, true, false])
theorem codec_Put_byte_b_0.cok (N : Nat) : (codec_Put_byte_b_0.C N).Ok Try.prog := ⟨(codec_Put_byte_b.cok N).U, (codec_Put_byte_b.cok N).Γ, (codec_Put_byte_b.cok N).Y⟩
def codec_Put_byte_b_0.alts : List Alt := [⟨(.exit 0), [], (.cons (.upd 0 106 (.cons (.own 5 .byte) .nil)) .nil)⟩]
def codec_Put_byte_b_0.go (N : Nat) : Nat → (List UInt8) → (List (List UInt8)) → Int → Int → Option ((((List UInt8) × Unit) × Unit))
  | 0, _, _, _, _ => none
  | fuel + 1, b, t13, t14, t15 =>
    bif decide (t15 < t14) then
      bif inB t15 t13.length then
        bif decide (t15.toNat < t13.length) then
          obind (redo_text.run N b (t13.getD t15.toNat ([] : List UInt8))) fun ((b1, _), _) =>
            codec_Put_byte_b_0.go N fuel b1 t13 t14 (IntKind.i64.wrap (t15 + (1 : Int)))
        else none
      else none
    else some ((b, ()), ())
def codec_Put_byte_b_0.g (N n : Nat) (x : Sh.den codec_Put_byte_b_0.ins) : Option (altsDen codec_Put_byte_b_0.alts) := codec_Put_byte_b_0.go N n x.1.1 x.2.2.1 x.2.2.2.1 x.2.2.2.2.1
def codec_Put_byte_b_0.P (N : Nat) : Ps := ⟨codec_Put_byte_b_0.ts, codec_Put_byte_b_0.ins, codec_Put_byte_b_0.asg, codec_Put_byte_b_0.alts, codec_Put_byte_b_0.g N N⟩
def codec_Put_byte_b_0.lam (N : Nat) : Pcs := pcs []
theorem codec_Put_byte_b_0.pok (N : Nat) : (codec_Put_byte_b_0.lam N).Ok Try.prog (codec_Put_byte_b_0.C N) codec_Put_byte_b_0.code := pcsOk_nil
theorem codec_Put_byte_b_0.ev (N n : Nat) (x : Sh.den codec_Put_byte_b_0.ins) : evC (codec_Put_byte_b_0.C N) codec_Put_byte_b_0.code (codec_Put_byte_b_0.lam N) ((codec_Put_byte_b_0.P N).canon 1000 x) (loopK (codec_Put_byte_b_0.P N) (codec_Put_byte_b_0.g N n)) = codec_Put_byte_b_0.g N (n + 1) x := by kernel_rfl
theorem codec_Put_byte_b_0.ok (N : Nat) : ((codec_Put_byte_b_0.P N).pc (codec_Put_byte_b.C N)).Ok Try.prog (codec_Put_byte_b.C N) (.loop codec_Put_byte_b_0.code) := loop_ok (F := codec_Put_byte_b_0.P N) (n0 := 1000) (N := N) (codec_Put_byte_b.cok N) mix (codec_Put_byte_b_0.pok N) (codec_Put_byte_b_0.g N) (fun x => by rfl) rfl (fun n x y h => (codec_Put_byte_b_0.ev N n x).trans h)
def codec_Put_byte_b.outs : Sh := (.cons (.upd 0 106 (.cons (.own 5 .byte) .nil)) .nil)
def codec_Put_byte_b.run (N : Nat) (b : (List UInt8)) (l : (List (List UInt8))) : Option (((List UInt8) × Unit) × Unit) :=
  obind (codec_Writer_Var.run N b (IntKind.u64.wrap (l.length : Int))) fun ((b1, _), _) =>
    obind (codec_Put_byte_b_0.go N N b1 l (l.length : Int) (0 : Int)) fun ((b2, _), _) =>
      some ((b2, ()), ())
def codec_Put_byte_b.fn (N : Nat) (x : Sh.den codec_Put_byte_b.ins) : Option (Sh.den codec_Put_byte_b.outs) := codec_Put_byte_b.run N x.1.1 x.2.1
def codec_Put_byte_b.S (N : Nat) : Fs := ⟨codec_Put_byte_b.ins, codec_Put_byte_b.outs, codec_Put_byte_b.fn N⟩
def codec_Put_byte_b.lam (N : Nat) : Pcs := pcs [([true, true, false], (codec_Put_byte_b_0.P N).pc (codec_Put_byte_b.C N))]
theorem codec_Put_byte_b.pok (N : Nat) : (codec_Put_byte_b.lam N).Ok Try.prog (codec_Put_byte_b.C N) codec_Put_byte_b.code := pcsOk_cons (c1 := .loop codec_Put_byte_b_0.code) (by kernel_rfl) (codec_Put_byte_b_0.ok N) (pcsOk_nil)
theorem codec_Put_byte_b.ev (N : Nat) (x : Sh.den codec_Put_byte_b.ins) : evC (codec_Put_byte_b.C N) codec_Put_byte_b.code (codec_Put_byte_b.lam N) ⟨envOf 0 (bld (fun k => k) codec_Put_byte_b.ins x 0).1, (bld (fun k => k) codec_Put_byte_b.ins x 0).2.1, 1000⟩ (endF U codec_Put_byte_b.outs Try.f35.results.toList []) = codec_Put_byte_b.fn N x := by kernel_rfl
theorem codec_Put_byte_b.ok (N : Nat) : (codec_Put_byte_b.S N).con.Ok Try.prog 35 := fn_ok (F := codec_Put_byte_b.S N) (n0 := 1000) Try.func35 (by kernel_rfl) (show Try.f35.body = some codec_Put_byte_b.code by rfl) mix (codec_Put_byte_b.cok N) (fun _ => rfl) (fun _ => rfl) (codec_Put_byte_b.pok N) (fun x y h => (codec_Put_byte_b.ev N x).trans h)
/-- hayloft/redo.Frames -/
def redo_Frames_b.ins : Sh := (.cons (.rown 22 (.slice .byte)) .nil)
def redo_Frames_b.C (N : Nat) : Ctx := ⟨U, 36, fun _ => true, gam [(34, (codec_New.S N).con), (35, (codec_Put_byte_b.S N).con), (38, (codec_Writer_Bytes.S N).con), (37, (codec_Frame.S N).con)], gamY []⟩
theorem redo_Frames_b.cok (N : Nat) : (redo_Frames_b.C N).Ok Try.prog := ⟨U_ok, GamOk.cons (codec_New.ok N) (GamOk.cons (codec_Put_byte_b.ok N) (GamOk.cons (codec_Writer_Bytes.ok N) (GamOk.cons (codec_Frame.ok N) (GamOk.nil)))), GamYOk.nil⟩
def redo_Frames_b.code : Code := Try.f11.body.getD .skip
def redo_Frames_b_0.ins : Sh := (.cons (.val (.int .i64)) (.cons (.rown 22 (.slice .byte)) (.cons (.val (.int .i64)) (.cons (.val (.int .i64)) .nil))))
def redo_Frames_b_0.ts : List Tmp := [4, 10, 11, 12]
def redo_Frames_b_0.asg : List Tmp := [2, 3, 4, 6, 12, 13, 14, 15, 16, 17, 18, 19, 20, 21, 22]
def redo_Frames_b_0.C (N : Nat) : Ctx := { redo_Frames_b.C N with may := fun t => redo_Frames_b_0.asg.any (Nat.beq t) }
def redo_Frames_b_0.code : Code := loopBody (sub redo_Frames_b.code [true, true, false, true, false])
theorem redo_Frames_b_0.cok (N : Nat) : (redo_Frames_b_0.C N).Ok Try.prog := ⟨(redo_Frames_b.cok N).U, (redo_Frames_b.cok N).Γ, (redo_Frames_b.cok N).Y⟩
def redo_Frames_b_0.alts : List Alt := [⟨.ret, [2, 3], (.cons (.own 5 .byte) (.cons (.val (.int .i64)) .nil))⟩, ⟨(.exit 0), [], .nil⟩]
def redo_Frames_b_0.go (N : Nat) : Nat → Int → (List (List UInt8)) → Int → Int → Option (((List UInt8) × Int × Unit) ⊕ Unit)
  | 0, _, _, _, _ => none
  | fuel + 1, many, t10, t11, t12 =>
    bif decide (t12 < t11) then
      bif inB t12 t10.length then
        bif decide (t12.toNat < t10.length) then
          bif decide ((IntKind.i64.wrap (many + ((t10.getD t12.toNat ([] : List UInt8)).length : Int))) > (16777216 : Int)) then
            some (.inl (([] : List UInt8), (90 : Int), ()))
          else redo_Frames_b_0.go N fuel (IntKind.i64.wrap (many + ((t10.getD t12.toNat ([] : List UInt8)).length : Int))) t10 t11 (IntKind.i64.wrap (t12 + (1 : Int)))
        else none
      else none
    else some (.inr ())
def redo_Frames_b_0.g (N n : Nat) (x : Sh.den redo_Frames_b_0.ins) : Option (altsDen redo_Frames_b_0.alts) := redo_Frames_b_0.go N n x.1 x.2.1 x.2.2.1 x.2.2.2.1
def redo_Frames_b_0.P (N : Nat) : Ps := ⟨redo_Frames_b_0.ts, redo_Frames_b_0.ins, redo_Frames_b_0.asg, redo_Frames_b_0.alts, redo_Frames_b_0.g N N⟩
def redo_Frames_b_0.lam (N : Nat) : Pcs := pcs []
theorem redo_Frames_b_0.pok (N : Nat) : (redo_Frames_b_0.lam N).Ok Try.prog (redo_Frames_b_0.C N) redo_Frames_b_0.code := pcsOk_nil
theorem redo_Frames_b_0.ev (N n : Nat) (x : Sh.den redo_Frames_b_0.ins) : evC (redo_Frames_b_0.C N) redo_Frames_b_0.code (redo_Frames_b_0.lam N) ((redo_Frames_b_0.P N).canon 1000 x) (loopK (redo_Frames_b_0.P N) (redo_Frames_b_0.g N n)) = redo_Frames_b_0.g N (n + 1) x := by kernel_rfl
theorem redo_Frames_b_0.ok (N : Nat) : ((redo_Frames_b_0.P N).pc (redo_Frames_b.C N)).Ok Try.prog (redo_Frames_b.C N) (.loop redo_Frames_b_0.code) := loop_ok (F := redo_Frames_b_0.P N) (n0 := 1000) (N := N) (redo_Frames_b.cok N) mix (redo_Frames_b_0.pok N) (redo_Frames_b_0.g N) (fun x => by rfl) rfl (fun n x y h => (redo_Frames_b_0.ev N n x).trans h)
def redo_Frames_b.outs : Sh := (.cons (.own 5 .byte) (.cons (.val (.int .i64)) .nil))
def redo_Frames_b.run (N : Nat) (records : (List (List UInt8))) : Option ((List UInt8) × Int × Unit) :=
  obind (redo_Frames_b_0.go N N (0 : Int) records (records.length : Int) (0 : Int)) fun y => match y with
  | .inl (t2, t3, _) =>
      some (t2, t3, ())
  | .inr (_) =>
      obind (codec_New.run N) fun ((b, _), _) =>
        obind (codec_Put_byte_b.run N b records) fun ((b1, _), _) =>
          obind (codec_Writer_Bytes.run N b1) fun (l, _) =>
            obind (codec_Frame.run N l) fun (l1, n_, _) =>
              bif !(decide (n_ = (0 : Int))) then
                some (([] : List UInt8), (90 : Int), ())
              else some (l1, (0 : Int), ())
def redo_Frames_b.fn (N : Nat) (x : Sh.den redo_Frames_b.ins) : Option (Sh.den redo_Frames_b.outs) := redo_Frames_b.run N x.1
def redo_Frames_b.S (N : Nat) : Fs := ⟨redo_Frames_b.ins, redo_Frames_b.outs, redo_Frames_b.fn N⟩
def redo_Frames_b.lam (N : Nat) : Pcs := pcs [([true, true, false, true, false], (redo_Frames_b_0.P N).pc (redo_Frames_b.C N))]
theorem redo_Frames_b.pok (N : Nat) : (redo_Frames_b.lam N).Ok Try.prog (redo_Frames_b.C N) redo_Frames_b.code := pcsOk_cons (c1 := .loop redo_Frames_b_0.code) (by kernel_rfl) (redo_Frames_b_0.ok N) (pcsOk_nil)
theorem redo_Frames_b.ev (N : Nat) (x : Sh.den redo_Frames_b.ins) : evC (redo_Frames_b.C N) redo_Frames_b.code (redo_Frames_b.lam N) ⟨envOf 0 (bld (fun k => k) redo_Frames_b.ins x 0).1, (bld (fun k => k) redo_Frames_b.ins x 0).2.1, 1000⟩ (endF U redo_Frames_b.outs Try.f11.results.toList []) = redo_Frames_b.fn N x := by kernel_rfl
theorem redo_Frames_b.ok (N : Nat) : (redo_Frames_b.S N).con.Ok Try.prog 11 := fn_ok (F := redo_Frames_b.S N) (n0 := 1000) Try.func11 (by kernel_rfl) (show Try.f11.body = some redo_Frames_b.code by rfl) mix (redo_Frames_b.cok N) (fun _ => rfl) (fun _ => rfl) (redo_Frames_b.pok N) (fun x y h => (redo_Frames_b.ev N x).trans h)
/-- (*hayloft/redo.Log).Append$1 -/
def redo_Log_Append_f1.ins : Sh := (.cons (.rbox 36 (.cons (.rbox 80 (.cons (.box 75 (.cons (.val (.int .i64)) (.cons (.val (.int .i64)) (.cons (.own 3000000 (.pair .str (.pair (.slice .byte) (.int .i64)))) (.cons (.val (.int .i64)) (.cons (.val (.int .i64)) (.cons (.val .bool) .nil))))))) (.cons (.val .str) (.cons (.rown 22 (.slice .byte)) (.cons (.val (.int .i64)) .nil))))) .nil)) (.cons (.rbox 22 (.cons (.val (.slice .byte)) .nil)) .nil))
def redo_Log_Append_f1.C (N : Nat) : Ctx := ⟨U, 13, fun _ => true, gam [(47, (disk_Disk_Append.S N).con)], gamY []⟩
theorem redo_Log_Append_f1.cok (N : Nat) : (redo_Log_Append_f1.C N).Ok Try.prog := ⟨U_ok, GamOk.cons (disk_Disk_Append.ok N) (GamOk.nil), GamYOk.nil⟩
def redo_Log_Append_f1.code : Code := Try.f50.body.getD .skip
def redo_Log_Append_f1.outs : Sh := (.cons (.upd 2 75 (.cons (.val (.int .i64)) (.cons (.val (.int .i64)) (.cons (.own 3000000 (.pair .str (.pair (.slice .byte) (.int .i64)))) (.cons (.val (.int .i64)) (.cons (.val (.int .i64)) (.cons (.val .bool) .nil))))))) (.cons (.val (.int .i64)) .nil))
def redo_Log_Append_f1.run (N : Nat) (room_ : Int) (used : Int) (files : (List ((List UInt8) × ((List UInt8) × Int)))) (steps : Int) (left : Int) (dead : Bool) (name : (List UInt8)) (l : (List (List UInt8))) (size : Int) (t1 : (List UInt8)) : Option ((Int × Int × (List ((List UInt8) × ((List UInt8) × Int))) × Int × Int × Bool × Unit) × Int × Unit) :=
  obind (disk_Disk_Append.run N room_ used files steps left dead name t1) fun ((room1, used1, files1, steps1, left1, dead1, _), n_, _) =>
    some ((room1, used1, files1, steps1, left1, dead1, ()), n_, ())
def redo_Log_Append_f1.fn (N : Nat) (x : Sh.den redo_Log_Append_f1.ins) : Option (Sh.den redo_Log_Append_f1.outs) := redo_Log_Append_f1.run N x.1.1.1.1 x.1.1.1.2.1 x.1.1.1.2.2.1 x.1.1.1.2.2.2.1 x.1.1.1.2.2.2.2.1 x.1.1.1.2.2.2.2.2.1 x.1.1.2.1 x.1.1.2.2.1 x.1.1.2.2.2.1 x.2.1.1
def redo_Log_Append_f1.S (N : Nat) : Fs := ⟨redo_Log_Append_f1.ins, redo_Log_Append_f1.outs, redo_Log_Append_f1.fn N⟩
def redo_Log_Append_f1.lam (N : Nat) : Pcs := pcs []
theorem redo_Log_Append_f1.pok (N : Nat) : (redo_Log_Append_f1.lam N).Ok Try.prog (redo_Log_Append_f1.C N) redo_Log_Append_f1.code := pcsOk_nil
theorem redo_Log_Append_f1.ev (N : Nat) (x : Sh.den redo_Log_Append_f1.ins) : evC (redo_Log_Append_f1.C N) redo_Log_Append_f1.code (redo_Log_Append_f1.lam N) ⟨envOf 0 (bld (fun k => k) redo_Log_Append_f1.ins x 0).1, (bld (fun k => k) redo_Log_Append_f1.ins x 0).2.1, 1000⟩ (endF U redo_Log_Append_f1.outs Try.f50.results.toList []) = redo_Log_Append_f1.fn N x := by kernel_rfl
theorem redo_Log_Append_f1.ok (N : Nat) : (redo_Log_Append_f1.S N).con.Ok Try.prog 50 := fn_ok (F := redo_Log_Append_f1.S N) (n0 := 1000) Try.func50 (by kernel_rfl) (show Try.f50.body = some redo_Log_Append_f1.code by rfl) mix (redo_Log_Append_f1.cok N) (fun _ => rfl) (fun _ => rfl) (redo_Log_Append_f1.pok N) (fun x y h => (redo_Log_Append_f1.ev N x).trans h)
/-- (*hayloft/redo.Log).Append$2 -/
def redo_Log_Append_f2.ins : Sh := (.cons (.rbox 36 (.cons (.rbox 80 (.cons (.box 75 (.cons (.val (.int .i64)) (.cons (.val (.int .i64)) (.cons (.own 3000000 (.pair .str (.pair (.slice .byte) (.int .i64)))) (.cons (.val (.int .i64)) (.cons (.val (.int .i64)) (.cons (.val .bool) .nil))))))) (.cons (.val .str) (.cons (.rown 22 (.slice .byte)) (.cons (.val (.int .i64)) .nil))))) .nil)) .nil)
def redo_Log_Append_f2.C (N : Nat) : Ctx := ⟨U, 11, fun _ => true, gam [(49, (disk_Disk_Sync.S N).con)], gamY []⟩
theorem redo_Log_Append_f2.cok (N : Nat) : (redo_Log_Append_f2.C N).Ok Try.prog := ⟨U_ok, GamOk.cons (disk_Disk_Sync.ok N) (GamOk.nil), GamYOk.nil⟩
def redo_Log_Append_f2.code : Code := Try.f51.body.getD .skip
def redo_Log_Append_f2.outs : Sh := (.cons (.upd 2 75 (.cons (.val (.int .i64)) (.cons (.val (.int .i64)) (.cons (.own 3000000 (.pair .str (.pair (.slice .byte) (.int .i64)))) (.cons (.val (.int .i64)) (.cons (.val (.int .i64)) (.cons (.val .bool) .nil))))))) (.cons (.val (.int .i64)) .nil))
def redo_Log_Append_f2.run (N : Nat) (room_ : Int) (used : Int) (files : (List ((List UInt8) × ((List UInt8) × Int)))) (steps : Int) (left : Int) (dead : Bool) (name : (List UInt8)) (l : (List (List UInt8))) (size : Int) : Option ((Int × Int × (List ((List UInt8) × ((List UInt8) × Int))) × Int × Int × Bool × Unit) × Int × Unit) :=
  obind (disk_Disk_Sync.run N room_ used files steps left dead name) fun ((room1, used1, files1, steps1, left1, dead1, _), n_, _) =>
    some ((room1, used1, files1, steps1, left1, dead1, ()), n_, ())
def redo_Log_Append_f2.fn (N : Nat) (x : Sh.den redo_Log_Append_f2.ins) : Option (Sh.den redo_Log_Append_f2.outs) := redo_Log_Append_f2.run N x.1.1.1.1 x.1.1.1.2.1 x.1.1.1.2.2.1 x.1.1.1.2.2.2.1 x.1.1.1.2.2.2.2.1 x.1.1.1.2.2.2.2.2.1 x.1.1.2.1 x.1.1.2.2.1 x.1.1.2.2.2.1
def redo_Log_Append_f2.S (N : Nat) : Fs := ⟨redo_Log_Append_f2.ins, redo_Log_Append_f2.outs, redo_Log_Append_f2.fn N⟩
def redo_Log_Append_f2.lam (N : Nat) : Pcs := pcs []
theorem redo_Log_Append_f2.pok (N : Nat) : (redo_Log_Append_f2.lam N).Ok Try.prog (redo_Log_Append_f2.C N) redo_Log_Append_f2.code := pcsOk_nil
theorem redo_Log_Append_f2.ev (N : Nat) (x : Sh.den redo_Log_Append_f2.ins) : evC (redo_Log_Append_f2.C N) redo_Log_Append_f2.code (redo_Log_Append_f2.lam N) ⟨envOf 0 (bld (fun k => k) redo_Log_Append_f2.ins x 0).1, (bld (fun k => k) redo_Log_Append_f2.ins x 0).2.1, 1000⟩ (endF U redo_Log_Append_f2.outs Try.f51.results.toList []) = redo_Log_Append_f2.fn N x := by kernel_rfl
theorem redo_Log_Append_f2.ok (N : Nat) : (redo_Log_Append_f2.S N).con.Ok Try.prog 51 := fn_ok (F := redo_Log_Append_f2.S N) (n0 := 1000) Try.func51 (by kernel_rfl) (show Try.f51.body = some redo_Log_Append_f2.code by rfl) mix (redo_Log_Append_f2.cok N) (fun _ => rfl) (fun _ => rfl) (redo_Log_Append_f2.pok N) (fun x y h => (redo_Log_Append_f2.ev N x).trans h)
/-- hayloft/redo.row -/
def redo_row_b.ins : Sh := (.cons (.els 1 2 (.cons (.fn 50 (.cons (.rbox 36 (.cons (.rbox 80 (.cons (.box 75 (.cons (.val (.int .i64)) (.cons (.val (.int .i64)) (.cons (.own 3000000 (.pair .str (.pair (.slice .byte) (.int .i64)))) (.cons (.val (.int .i64)) (.cons (.val (.int .i64)) (.cons (.val .bool) .nil))))))) (.cons (.val .str) (.cons (.rown 22 (.slice .byte)) (.cons (.val (.int .i64)) .nil))))) .nil)) (.cons (.rbox 22 (.cons (.val (.slice .byte)) .nil)) .nil))) (.cons (.fn 51 (.cons (.ref 0) .nil)) .nil))) .nil)
def redo_row_b.C (N : Nat) : Ctx := ⟨U, 18, fun _ => true, gam [(50, (redo_Log_Append_f1.S N).con), (51, (redo_Log_Append_f2.S N).con)], gamY []⟩
theorem redo_row_b.cok (N : Nat) : (redo_row_b.C N).Ok Try.prog := ⟨U_ok, GamOk.cons (redo_Log_Append_f1.ok N) (GamOk.cons (redo_Log_Append_f2.ok N) (GamOk.nil)), GamYOk.nil⟩
def redo_row_b.code : Code := Try.f43.body.getD .skip
def redo_row_b.outs : Sh := (.cons (.upd 2 75 (.cons (.val (.int .i64)) (.cons (.val (.int .i64)) (.cons (.own 3000000 (.pair .str (.pair (.slice .byte) (.int .i64)))) (.cons (.val (.int .i64)) (.cons (.val (.int .i64)) (.cons (.val .bool) .nil))))))) (.cons (.val (.int .i64)) .nil))
def redo_row_b.run (N : Nat) (room_ : Int) (used : Int) (files : (List ((List UInt8) × ((List UInt8) × Int)))) (steps : Int) (left : Int) (dead : Bool) (name : (List UInt8)) (l : (List (List UInt8))) (size : Int) (steps1 : (List UInt8)) : Option ((Int × Int × (List ((List UInt8) × ((List UInt8) × Int))) × Int × Int × Bool × Unit) × Int × Unit) :=
  obind (redo_Log_Append_f1.run N room_ used files steps left dead name l size steps1) fun ((room1, used1, files1, steps2, left1, dead1, _), n_, _) =>
    bif !(decide (n_ = (0 : Int))) then
      some ((room1, used1, files1, steps2, left1, dead1, ()), n_, ())
    else
      obind (redo_Log_Append_f2.run N room1 used1 files1 steps2 left1 dead1 name l size) fun ((room2, used2, files2, steps3, left2, dead2, _), n1, _) =>
        bif !(decide (n1 = (0 : Int))) then
          some ((room2, used2, files2, steps3, left2, dead2, ()), n1, ())
        else some ((room2, used2, files2, steps3, left2, dead2, ()), (0 : Int), ())
def redo_row_b.fn (N : Nat) (x : Sh.den redo_row_b.ins) : Option (Sh.den redo_row_b.outs) := redo_row_b.run N x.1.1.1.1.1.1 x.1.1.1.1.1.2.1 x.1.1.1.1.1.2.2.1 x.1.1.1.1.1.2.2.2.1 x.1.1.1.1.1.2.2.2.2.1 x.1.1.1.1.1.2.2.2.2.2.1 x.1.1.1.1.2.1 x.1.1.1.1.2.2.1 x.1.1.1.1.2.2.2.1 x.1.1.2.1.1
def redo_row_b.S (N : Nat) : Fs := ⟨redo_row_b.ins, redo_row_b.outs, redo_row_b.fn N⟩
def redo_row_b.lam (N : Nat) : Pcs := pcs [([true, false, true, false], (Pc.unroll (redo_row_b.C N) (loopBody (sub redo_row_b.code [true, false, true, false])) (pcs []) 3))]
theorem redo_row_b.pok (N : Nat) : (redo_row_b.lam N).Ok Try.prog (redo_row_b.C N) redo_row_b.code := pcsOk_cons (c1 := .loop (loopBody (sub redo_row_b.code [true, false, true, false]))) (by kernel_rfl) (unroll_ok (redo_row_b.cok N) mix pcsOk_nil 3) (pcsOk_nil)
theorem redo_row_b.ev (N : Nat) (x : Sh.den redo_row_b.ins) : evC (redo_row_b.C N) redo_row_b.code (redo_row_b.lam N) ⟨envOf 0 (bld (fun k => k) redo_row_b.ins x 0).1, (bld (fun k => k) redo_row_b.ins x 0).2.1, 1000⟩ (endF U redo_row_b.outs Try.f43.results.toList []) = redo_row_b.fn N x := by kernel_rfl
theorem redo_row_b.ok (N : Nat) : (redo_row_b.S N).con.Ok Try.prog 43 := fn_ok (F := redo_row_b.S N) (n0 := 1000) Try.func43 (by kernel_rfl) (show Try.f43.body = some redo_row_b.code by rfl) mix (redo_row_b.cok N) (fun _ => rfl) (fun _ => rfl) (redo_row_b.pok N) (fun x y h => (redo_row_b.ev N x).trans h)
/-- (*hayloft/redo.Log).Append -/
def redo_Log_Append.ins : Sh := (.cons (.box 80 (.cons (.box 75 (.cons (.val (.int .i64)) (.cons (.val (.int .i64)) (.cons (.own 3000000 (.pair .str (.pair (.slice .byte) (.int .i64)))) (.cons (.val (.int .i64)) (.cons (.val (.int .i64)) (.cons (.val .bool) .nil))))))) (.cons (.val .str) (.cons (.own 22 (.slice .byte)) (.cons (.val (.int .i64)) .nil))))) (.cons (.rown 22 (.slice .byte)) .nil))
def redo_Log_Append.C (N : Nat) : Ctx := ⟨U, 54, fun _ => true, gam [(11, (redo_Frames_b.S N).con), (43, (redo_row_b.S N).con), (52, (slices_Clone_byte_byte.S N).con)], gamY []⟩
theorem redo_Log_Append.cok (N : Nat) : (redo_Log_Append.C N).Ok Try.prog := ⟨U_ok, GamOk.cons (redo_Frames_b.ok N) (GamOk.cons (redo_row_b.ok N) (GamOk.cons (slices_Clone_byte_byte.ok N) (GamOk.nil))), GamYOk.nil⟩
def redo_Log_Append.code : Code := Try.f17.body.getD .skip
def redo_Log_Append_0.ins : Sh := (.cons (.rbox 36 (.cons (.box 80 (.cons (.box 75 (.cons (.val (.int .i64)) (.cons (.val (.int .i64)) (.cons (.rown 3000000 (.pair .str (.pair (.slice .byte) (.int .i64)))) (.cons (.val (.int .i64)) (.cons (.val (.int .i64)) (.cons (.val .bool) .nil))))))) (.cons (.val .str) (.cons (.own 22 (.slice .byte)) (.cons (.val (.int .i64)) .nil))))) .nil)) (.cons (.rown 22 (.slice .byte)) (.cons (.val (.int .i64)) (.cons (.val (.int .i64)) .nil))))
def redo_Log_Append_0.ts : List Tmp := [2, 26, 27, 28]
def redo_Log_Append_0.asg : List Tmp := [8, 28, 29, 30, 31, 32, 33, 34, 35, 36, 37, 38, 39, 40, 41, 42, 43]
def redo_Log_Append_0.C (N : Nat) : Ctx := { redo_Log_Append.C N with may := fun t => redo_Log_Append_0.asg.any (Nat.beq t) }
def redo_Log_Append_0.code : Code := loopBody (sub redo_Log_Append.code [true, true, true, true, true, false, true, false, false, true, false])
theorem redo_Log_Append_0.cok (N : Nat) : (redo_Log_Append_0.C N).Ok Try.prog := ⟨(redo_Log_Append.cok N).U, (redo_Log_Append.cok N).Γ, (redo_Log_Append.cok N).Y⟩
def redo_Log_Append_0.alts : List Alt := [⟨(.exit 0), [], (.cons (.upd 2 75 (.cons (.val (.int .i64)) (.cons (.val (.int .i64)) (.cons (.keep 2000000 3) (.cons (.val (.int .i64)) (.cons (.val (.int .i64)) (.cons (.val .bool) .nil))))))) (.cons (.upd 1 80 (.cons (.ref 0) (.cons (.val .str) (.cons (.own 22 (.slice .byte)) (.cons (.val (.int .i64)) .nil))))) .nil))⟩]
def redo_Log_Append_0.go (N : Nat) : Nat → Int → Int → (List ((List UInt8) × ((List UInt8) × Int))) → Int → Int → Bool → (List UInt8) → (List (List UInt8)) → Int → (List (List UInt8)) → Int → Int → Option (((Int × Int × Unit × Int × Int × Bool × Unit) × (Unit × (List UInt8) × (List (List UInt8)) × Int × Unit) × Unit))
  | 0, _, _, _, _, _, _, _, _, _, _, _, _ => none
  | fuel + 1, room_, used, files, steps, left, dead, name, l, size, t26, t27, t28 =>
    bif decide (t28 < t27) then
      bif inB t28 t26.length then
        bif decide (t28.toNat < t26.length) then
          obind (slices_Clone_byte_byte.run N (t26.getD t28.toNat ([] : List UInt8))) fun (l1, _) =>
            bif room (l.length + 1) 24 then
              redo_Log_Append_0.go N fuel room_ used files steps left dead name (l ++ ([l1] : List (List UInt8))) size t26 t27 (IntKind.i64.wrap (t28 + (1 : Int)))
            else none
        else none
      else none
    else some ((room_, used, (), steps, left, dead, ()), ((), name, l, size, ()), ())
def redo_Log_Append_0.g (N n : Nat) (x : Sh.den redo_Log_Append_0.ins) : Option (altsDen redo_Log_Append_0.alts) := redo_Log_Append_0.go N n x.1.1.1.1 x.1.1.1.2.1 x.1.1.1.2.2.1 x.1.1.1.2.2.2.1 x.1.1.1.2.2.2.2.1 x.1.1.1.2.2.2.2.2.1 x.1.1.2.1 x.1.1.2.2.1 x.1.1.2.2.2.1 x.2.1 x.2.2.1 x.2.2.2.1
def redo_Log_Append_0.P (N : Nat) : Ps := ⟨redo_Log_Append_0.ts, redo_Log_Append_0.ins, redo_Log_Append_0.asg, redo_Log_Append_0.alts, redo_Log_Append_0.g N N⟩
def redo_Log_Append_0.lam (N : Nat) : Pcs := pcs []
theorem redo_Log_Append_0.pok (N : Nat) : (redo_Log_Append_0.lam N).Ok Try.prog (redo_Log_Append_0.C N) redo_Log_Append_0.code := pcsOk_nil
theorem redo_Log_Append_0.ev (N n : Nat) (x : Sh.den redo_Log_Append_0.ins) : evC (redo_Log_Append_0.C N) redo_Log_Append_0.code (redo_Log_Append_0.lam N) ((redo_Log_Append_0.P N).canon 1000 x) (loopK (redo_Log_Append_0.P N) (redo_Log_Append_0.g N n)) = redo_Log_Append_0.g N (n + 1) x := by kernel_rfl
theorem redo_Log_Append_0.ok (N : Nat) : ((redo_Log_Append_0.P N).pc (redo_Log_Append.C N)).Ok Try.prog (redo_Log_Append.C N) (.loop redo_Log_Append_0.code) := loop_ok (F := redo_Log_Append_0.P N) (n0 := 1000) (N := N) (redo_Log_Append.cok N) mix (redo_Log_Append_0.pok N) (redo_Log_Append_0.g N) (fun x => by rfl) rfl (fun n x y h => (redo_Log_Append_0.ev N n x).trans h)
def redo_Log_Append.outs : Sh := (.cons (.upd 1 75 (.cons (.val (.int .i64)) (.cons (.val (.int .i64)) (.cons (.own 3000000 (.pair .str (.pair (.slice .byte) (.int .i64)))) (.cons (.val (.int .i64)) (.cons (.val (.int .i64)) (.cons (.val .bool) .nil))))))) (.cons (.upd 0 80 (.cons (.ref 0) (.cons (.val .str) (.cons (.own 22 (.slice .byte)) (.cons (.val (.int .i64)) .nil))))) (.cons (.val (.int .i64)) .nil)))
def redo_Log_Append.run (N : Nat) (room_ : Int) (used : Int) (files : (List ((List UInt8) × ((List UInt8) × Int)))) (steps : Int) (left : Int) (dead : Bool) (name : (List UInt8)) (l : (List (List UInt8))) (size : Int) (records : (List (List UInt8))) : Option ((Int × Int × (List ((List UInt8) × ((List UInt8) × Int))) × Int × Int × Bool × Unit) × (Unit × (List UInt8) × (List (List UInt8)) × Int × Unit) × Int × Unit) :=
  bif decide ((records.length : Int) = (0 : Int)) then
    some ((room_, used, files, steps, left, dead, ()), ((), name, l, size, ()), (0 : Int), ())
  else
    obind (redo_Frames_b.run N records) fun (l1, n_, _) =>
      bif !(decide (n_ = (0 : Int))) then
        some ((room_, used, files, steps, left, dead, ()), ((), name, l, size, ()), n_, ())
      else
        obind (redo_row_b.run N room_ used files steps left dead name l size l1) fun ((room1, used1, files1, steps1, left1, dead1, _), n1, _) =>
          bif decide (n1 = (0 : Int)) then
            obind (redo_Log_Append_0.go N N room1 used1 files1 steps1 left1 dead1 name l size records (records.length : Int) (0 : Int)) fun ((room2, used2, _, steps2, left2, dead2, _), (_, name1, l2, size1, _), _) =>
              some ((room2, used2, files1, steps2, left2, dead2, ()), ((), name1, l2, IntKind.i64.wrap (size1 + (l1.length : Int)), ()), n1, ())
          else some ((room1, used1, files1, steps1, left1, dead1, ()), ((), name, l, size, ()), n1, ())
def redo_Log_Append.fn (N : Nat) (x : Sh.den redo_Log_Append.ins) : Option (Sh.den redo_Log_Append.outs) := redo_Log_Append.run N x.1.1.1 x.1.1.2.1 x.1.1.2.2.1 x.1.1.2.2.2.1 x.1.1.2.2.2.2.1 x.1.1.2.2.2.2.2.1 x.1.2.1 x.1.2.2.1 x.1.2.2.2.1 x.2.1
def redo_Log_Append.S (N : Nat) : Fs := ⟨redo_Log_Append.ins, redo_Log_Append.outs, redo_Log_Append.fn N⟩
def redo_Log_Append.lam (N : Nat) : Pcs := pcs [([true, true, true, true, true, false, true, false, false, true, false], (redo_Log_Append_0.P N).pc (redo_Log_Append.C N))]
theorem redo_Log_Append.pok (N : Nat) : (redo_Log_Append.lam N).Ok Try.prog (redo_Log_Append.C N) redo_Log_Append.code := pcsOk_cons (c1 := .loop redo_Log_Append_0.code) (by kernel_rfl) (redo_Log_Append_0.ok N) (pcsOk_nil)
theorem redo_Log_Append.ev (N : Nat) (x : Sh.den redo_Log_Append.ins) : evC (redo_Log_Append.C N) redo_Log_Append.code (redo_Log_Append.lam N) ⟨envOf 0 (bld (fun k => k) redo_Log_Append.ins x 0).1, (bld (fun k => k) redo_Log_Append.ins x 0).2.1, 1000⟩ (endF U redo_Log_Append.outs Try.f17.results.toList []) = redo_Log_Append.fn N x := by kernel_rfl
theorem redo_Log_Append.ok (N : Nat) : (redo_Log_Append.S N).con.Ok Try.prog 17 := fn_ok (F := redo_Log_Append.S N) (n0 := 1000) Try.func17 (by kernel_rfl) (show Try.f17.body = some redo_Log_Append.code by rfl) mix (redo_Log_Append.cok N) (fun _ => rfl) (fun _ => rfl) (redo_Log_Append.pok N) (fun x y h => (redo_Log_Append.ev N x).trans h)
/-- (*hayloft/disk.Disk).Dead -/
def disk_Disk_Dead.ins : Sh := (.cons (.rbox 75 (.cons (.val (.int .i64)) (.cons (.val (.int .i64)) (.cons (.rown 3000000 (.pair .str (.pair (.slice .byte) (.int .i64)))) (.cons (.val (.int .i64)) (.cons (.val (.int .i64)) (.cons (.val .bool) .nil))))))) .nil)
def disk_Disk_Dead.C (N : Nat) : Ctx := ⟨U, 7, fun _ => true, gam [], gamY []⟩
theorem disk_Disk_Dead.cok (N : Nat) : (disk_Disk_Dead.C N).Ok Try.prog := ⟨U_ok, GamOk.nil, GamYOk.nil⟩
def disk_Disk_Dead.code : Code := Try.f25.body.getD .skip
def disk_Disk_Dead.outs : Sh := (.cons (.val .bool) .nil)
def disk_Disk_Dead.run (N : Nat) (room_ : Int) (used : Int) (files : (List ((List UInt8) × ((List UInt8) × Int)))) (steps : Int) (left : Int) (dead : Bool) : Option (Bool × Unit) :=
  some (dead, ())
def disk_Disk_Dead.fn (N : Nat) (x : Sh.den disk_Disk_Dead.ins) : Option (Sh.den disk_Disk_Dead.outs) := disk_Disk_Dead.run N x.1.1 x.1.2.1 x.1.2.2.1 x.1.2.2.2.1 x.1.2.2.2.2.1 x.1.2.2.2.2.2.1
def disk_Disk_Dead.S (N : Nat) : Fs := ⟨disk_Disk_Dead.ins, disk_Disk_Dead.outs, disk_Disk_Dead.fn N⟩
def disk_Disk_Dead.lam (N : Nat) : Pcs := pcs []
theorem disk_Disk_Dead.pok (N : Nat) : (disk_Disk_Dead.lam N).Ok Try.prog (disk_Disk_Dead.C N) disk_Disk_Dead.code := pcsOk_nil
theorem disk_Disk_Dead.ev (N : Nat) (x : Sh.den disk_Disk_Dead.ins) : evC (disk_Disk_Dead.C N) disk_Disk_Dead.code (disk_Disk_Dead.lam N) ⟨envOf 0 (bld (fun k => k) disk_Disk_Dead.ins x 0).1, (bld (fun k => k) disk_Disk_Dead.ins x 0).2.1, 1000⟩ (endF U disk_Disk_Dead.outs Try.f25.results.toList []) = disk_Disk_Dead.fn N x := by kernel_rfl
theorem disk_Disk_Dead.ok (N : Nat) : (disk_Disk_Dead.S N).con.Ok Try.prog 25 := fn_ok (F := disk_Disk_Dead.S N) (n0 := 1000) Try.func25 (by kernel_rfl) (show Try.f25.body = some disk_Disk_Dead.code by rfl) mix (disk_Disk_Dead.cok N) (fun _ => rfl) (fun _ => rfl) (disk_Disk_Dead.pok N) (fun x y h => (disk_Disk_Dead.ev N x).trans h)
/-- (*hayloft/disk.Disk).Truncate$1 -/
def disk_Disk_Truncate_f1.ins : Sh := (.cons (.val (.pair (.slice .byte) (.int .i64))) (.cons (.rbox 3 (.cons (.val (.int .i64)) .nil)) .nil))
def disk_Disk_Truncate_f1.C (N : Nat) : Ctx := ⟨U, 13, fun _ => true, gam [], gamY []⟩
theorem disk_Disk_Truncate_f1.cok (N : Nat) : (disk_Disk_Truncate_f1.C N).Ok Try.prog := ⟨U_ok, GamOk.nil, GamYOk.nil⟩
def disk_Disk_Truncate_f1.code : Code := Try.f83.body.getD .skip
def disk_Disk_Truncate_f1.outs : Sh := (.cons (.val (.int .i64)) .nil)
def disk_Disk_Truncate_f1.run (N : Nat) (f : ((List UInt8) × Int)) (t1 : Int) : Option (Int × Unit) :=
  bif decide (t1 < (0 : Int)) then
    some ((43 : Int), ())
  else
    bif decide (t1 > (f.1.length : Int)) then
      some ((43 : Int), ())
    else some ((0 : Int), ())
def disk_Disk_Truncate_f1.fn (N : Nat) (x : Sh.den disk_Disk_Truncate_f1.ins) : Option (Sh.den disk_Disk_Truncate_f1.outs) := disk_Disk_Truncate_f1.run N x.1 x.2.1.1
def disk_Disk_Truncate_f1.S (N : Nat) : Fs := ⟨disk_Disk_Truncate_f1.ins, disk_Disk_Truncate_f1.outs, disk_Disk_Truncate_f1.fn N⟩
def disk_Disk_Truncate_f1.lam (N : Nat) : Pcs := pcs []
theorem disk_Disk_Truncate_f1.pok (N : Nat) : (disk_Disk_Truncate_f1.lam N).Ok Try.prog (disk_Disk_Truncate_f1.C N) disk_Disk_Truncate_f1.code := pcsOk_nil
theorem disk_Disk_Truncate_f1.ev (N : Nat) (x : Sh.den disk_Disk_Truncate_f1.ins) : evC (disk_Disk_Truncate_f1.C N) disk_Disk_Truncate_f1.code (disk_Disk_Truncate_f1.lam N) ⟨envOf 0 (bld (fun k => k) disk_Disk_Truncate_f1.ins x 0).1, (bld (fun k => k) disk_Disk_Truncate_f1.ins x 0).2.1, 1000⟩ (endF U disk_Disk_Truncate_f1.outs Try.f83.results.toList []) = disk_Disk_Truncate_f1.fn N x := by kernel_rfl
theorem disk_Disk_Truncate_f1.ok (N : Nat) : (disk_Disk_Truncate_f1.S N).con.Ok Try.prog 83 := fn_ok (F := disk_Disk_Truncate_f1.S N) (n0 := 1000) Try.func83 (by kernel_rfl) (show Try.f83.body = some disk_Disk_Truncate_f1.code by rfl) mix (disk_Disk_Truncate_f1.cok N) (fun _ => rfl) (fun _ => rfl) (disk_Disk_Truncate_f1.pok N) (fun x y h => (disk_Disk_Truncate_f1.ev N x).trans h)
/-- (*hayloft/disk.Disk).Truncate$2 -/
def disk_Disk_Truncate_f2.ins : Sh := (.cons (.val (.pair (.slice .byte) (.int .i64))) (.cons (.rbox 34 (.cons (.box 75 (.cons (.val (.int .i64)) (.cons (.val (.int .i64)) (.cons (.own 3000000 (.pair .str (.pair (.slice .byte) (.int .i64)))) (.cons (.val (.int .i64)) (.cons (.val (.int .i64)) (.cons (.val .bool) .nil))))))) .nil)) (.cons (.rbox 9 (.cons (.val .str) .nil)) (.cons (.rbox 3 (.cons (.val (.int .i64)) .nil)) .nil))))
def disk_Disk_Truncate_f2.C (N : Nat) : Ctx := ⟨U, 18, fun _ => true, gam [(52, (slices_Clone_byte_byte.S N).con), (58, (disk_Disk_lay.S N).con)], gamY []⟩
theorem disk_Disk_Truncate_f2.cok (N : Nat) : (disk_Disk_Truncate_f2.C N).Ok Try.prog := ⟨U_ok, GamOk.cons (slices_Clone_byte_byte.ok N) (GamOk.cons (disk_Disk_lay.ok N) (GamOk.nil)), GamYOk.nil⟩
def disk_Disk_Truncate_f2.code : Code := Try.f84.body.getD .skip
def disk_Disk_Truncate_f2.outs : Sh := (.cons (.upd 1 75 (.cons (.val (.int .i64)) (.cons (.val (.int .i64)) (.cons (.own 3000000 (.pair .str (.pair (.slice .byte) (.int .i64)))) (.cons (.val (.int .i64)) (.cons (.val (.int .i64)) (.cons (.val .bool) .nil))))))) .nil)
def disk_Disk_Truncate_f2.run (N : Nat) (f : ((List UInt8) × Int)) (room_ : Int) (used : Int) (files : (List ((List UInt8) × ((List UInt8) × Int)))) (steps : Int) (left : Int) (dead : Bool) (t2 : (List UInt8)) (t3 : Int) : Option ((Int × Int × (List ((List UInt8) × ((List UInt8) × Int))) × Int × Int × Bool × Unit) × Unit) :=
  bif okB (0 : Int) t3 f.1.length then
    obind (slices_Clone_byte_byte.run N (f.1.take t3.toNat)) fun (l, _) =>
      obind (disk_Disk_lay.run N room_ used files steps left dead t2 (l, min f.2 t3)) fun ((room1, used1, files1, steps1, left1, dead1, _), _) =>
        some ((room1, used1, files1, steps1, left1, dead1, ()), ())
  else none
def disk_Disk_Truncate_f2.fn (N : Nat) (x : Sh.den disk_Disk_Truncate_f2.ins) : Option (Sh.den disk_Disk_Truncate_f2.outs) := disk_Disk_Truncate_f2.run N x.1 x.2.1.1.1 x.2.1.1.2.1 x.2.1.1.2.2.1 x.2.1.1.2.2.2.1 x.2.1.1.2.2.2.2.1 x.2.1.1.2.2.2.2.2.1 x.2.2.1.1 x.2.2.2.1.1
def disk_Disk_Truncate_f2.S (N : Nat) : Fs := ⟨disk_Disk_Truncate_f2.ins, disk_Disk_Truncate_f2.outs, disk_Disk_Truncate_f2.fn N⟩
def disk_Disk_Truncate_f2.lam (N : Nat) : Pcs := pcs []
theorem disk_Disk_Truncate_f2.pok (N : Nat) : (disk_Disk_Truncate_f2.lam N).Ok Try.prog (disk_Disk_Truncate_f2.C N) disk_Disk_Truncate_f2.code := pcsOk_nil
theorem disk_Disk_Truncate_f2.ev (N : Nat) (x : Sh.den disk_Disk_Truncate_f2.ins) : evC (disk_Disk_Truncate_f2.C N) disk_Disk_Truncate_f2.code (disk_Disk_Truncate_f2.lam N) ⟨envOf 0 (bld (fun k => k) disk_Disk_Truncate_f2.ins x 0).1, (bld (fun k => k) disk_Disk_Truncate_f2.ins x 0).2.1, 1000⟩ (endF U disk_Disk_Truncate_f2.outs Try.f84.results.toList []) = disk_Disk_Truncate_f2.fn N x := by kernel_rfl
theorem disk_Disk_Truncate_f2.ok (N : Nat) : (disk_Disk_Truncate_f2.S N).con.Ok Try.prog 84 := fn_ok (F := disk_Disk_Truncate_f2.S N) (n0 := 1000) Try.func84 (by kernel_rfl) (show Try.f84.body = some disk_Disk_Truncate_f2.code by rfl) mix (disk_Disk_Truncate_f2.cok N) (fun _ => rfl) (fun _ => rfl) (disk_Disk_Truncate_f2.pok N) (fun x y h => (disk_Disk_Truncate_f2.ev N x).trans h)
/-- (*hayloft/disk.Disk).do -/
def disk_Disk_do_c.ins : Sh := (.cons (.box 75 (.cons (.val (.int .i64)) (.cons (.val (.int .i64)) (.cons (.own 3000000 (.pair .str (.pair (.slice .byte) (.int .i64)))) (.cons (.val (.int .i64)) (.cons (.val (.int .i64)) (.cons (.val .bool) .nil))))))) (.cons (.val .str) (.cons (.fn 83 (.cons (.rbox 3 (.cons (.val (.int .i64)) .nil)) .nil)) (.cons (.fn 84 (.cons (.rbox 34 (.cons (.ref 0) .nil)) (.cons (.rbox 9 (.cons (.val .str) .nil)) (.cons (.ref 2) .nil)))) .nil))))
def disk_Disk_do_c.C (N : Nat) : Ctx := ⟨U, 40, fun _ => true, gam [(83, (disk_Disk_Truncate_f1.S N).con), (81, (disk_Disk_step.S N).con), (84, (disk_Disk_Truncate_f2.S N).con)], gamY []⟩
theorem disk_Disk_do_c.cok (N : Nat) : (disk_Disk_do_c.C N).Ok Try.prog := ⟨U_ok, GamOk.cons (disk_Disk_Truncate_f1.ok N) (GamOk.cons (disk_Disk_step.ok N) (GamOk.cons (disk_Disk_Truncate_f2.ok N) (GamOk.nil))), GamYOk.nil⟩
def disk_Disk_do_c.code : Code := Try.f74.body.getD .skip
def disk_Disk_do_c.outs : Sh := (.cons (.upd 0 75 (.cons (.val (.int .i64)) (.cons (.val (.int .i64)) (.cons (.own 3000000 (.pair .str (.pair (.slice .byte) (.int .i64)))) (.cons (.val (.int .i64)) (.cons (.val (.int .i64)) (.cons (.val .bool) .nil))))))) (.cons (.val (.int .i64)) .nil))
def disk_Disk_do_c.run (N : Nat) (room_ : Int) (used : Int) (files : (List ((List UInt8) × ((List UInt8) × Int)))) (steps : Int) (left : Int) (dead : Bool) (name : (List UInt8)) (why : Int) (done : (List UInt8)) : Option ((Int × Int × (List ((List UInt8) × ((List UInt8) × Int))) × Int × Int × Bool × Unit) × Int × Unit) :=
  bif dead then
    some ((room_, used, files, steps, left, dead, ()), (44 : Int), ())
  else
    bif !(mapHas files name) then
      some ((room_, used, files, steps, left, dead, ()), (42 : Int), ())
    else
      obind (disk_Disk_Truncate_f1.run N (mapGet files name (([] : List UInt8), (0 : Int))) why) fun (n_, _) =>
        bif !(decide (n_ = (0 : Int))) then
          some ((room_, used, files, steps, left, dead, ()), n_, ())
        else
          obind (disk_Disk_step.run N room_ used files steps left dead) fun ((room1, used1, files1, steps1, left1, dead1, _), b, _) =>
            bif b then
              some ((room1, used1, files1, steps1, left1, dead1, ()), (44 : Int), ())
            else
              obind (disk_Disk_Truncate_f2.run N (mapGet files name (([] : List UInt8), (0 : Int))) room1 used1 files1 steps1 left1 dead1 done why) fun ((room2, used2, files2, steps2, left2, dead2, _), _) =>
                some ((room2, used2, files2, steps2, left2, dead2, ()), (0 : Int), ())
def disk_Disk_do_c.fn (N : Nat) (x : Sh.den disk_Disk_do_c.ins) : Option (Sh.den disk_Disk_do_c.outs) := disk_Disk_do_c.run N x.1.1 x.1.2.1 x.1.2.2.1 x.1.2.2.2.1 x.1.2.2.2.2.1 x.1.2.2.2.2.2.1 x.2.1 x.2.2.1.1.1 x.2.2.2.1.2.1.1
def disk_Disk_do_c.S (N : Nat) : Fs := ⟨disk_Disk_do_c.ins, disk_Disk_do_c.outs, disk_Disk_do_c.fn N⟩
def disk_Disk_do_c.lam (N : Nat) : Pcs := pcs []
theorem disk_Disk_do_c.pok (N : Nat) : (disk_Disk_do_c.lam N).Ok Try.prog (disk_Disk_do_c.C N) disk_Disk_do_c.code := pcsOk_nil
theorem disk_Disk_do_c.ev (N : Nat) (x : Sh.den disk_Disk_do_c.ins) : evC (disk_Disk_do_c.C N) disk_Disk_do_c.code (disk_Disk_do_c.lam N) ⟨envOf 0 (bld (fun k => k) disk_Disk_do_c.ins x 0).1, (bld (fun k => k) disk_Disk_do_c.ins x 0).2.1, 1000⟩ (endF U disk_Disk_do_c.outs Try.f74.results.toList []) = disk_Disk_do_c.fn N x := by kernel_rfl
theorem disk_Disk_do_c.ok (N : Nat) : (disk_Disk_do_c.S N).con.Ok Try.prog 74 := fn_ok (F := disk_Disk_do_c.S N) (n0 := 1000) Try.func74 (by kernel_rfl) (show Try.f74.body = some disk_Disk_do_c.code by rfl) mix (disk_Disk_do_c.cok N) (fun _ => rfl) (fun _ => rfl) (disk_Disk_do_c.pok N) (fun x y h => (disk_Disk_do_c.ev N x).trans h)
/-- (*hayloft/disk.Disk).Truncate -/
def disk_Disk_Truncate.ins : Sh := (.cons (.box 75 (.cons (.val (.int .i64)) (.cons (.val (.int .i64)) (.cons (.own 3000000 (.pair .str (.pair (.slice .byte) (.int .i64)))) (.cons (.val (.int .i64)) (.cons (.val (.int .i64)) (.cons (.val .bool) .nil))))))) (.cons (.val .str) (.cons (.val (.int .i64)) .nil)))
def disk_Disk_Truncate.C (N : Nat) : Ctx := ⟨U, 12, fun _ => true, gam [(74, (disk_Disk_do_c.S N).con)], gamY []⟩
theorem disk_Disk_Truncate.cok (N : Nat) : (disk_Disk_Truncate.C N).Ok Try.prog := ⟨U_ok, GamOk.cons (disk_Disk_do_c.ok N) (GamOk.nil), GamYOk.nil⟩
def disk_Disk_Truncate.code : Code := Try.f55.body.getD .skip
def disk_Disk_Truncate.outs : Sh := (.cons (.upd 0 75 (.cons (.val (.int .i64)) (.cons (.val (.int .i64)) (.cons (.own 3000000 (.pair .str (.pair (.slice .byte) (.int .i64)))) (.cons (.val (.int .i64)) (.cons (.val (.int .i64)) (.cons (.val .bool) .nil))))))) (.cons (.val (.int .i64)) .nil))
def disk_Disk_Truncate.run (N : Nat) (room_ : Int) (used : Int) (files : (List ((List UInt8) × ((List UInt8) × Int)))) (steps : Int) (left : Int) (dead : Bool) (name : (List UInt8)) (n_ : Int) : Option ((Int × Int × (List ((List UInt8) × ((List UInt8) × Int))) × Int × Int × Bool × Unit) × Int × Unit) :=
  obind (disk_Disk_do_c.run N room_ used files steps left dead name n_ name) fun ((room1, used1, files1, steps1, left1, dead1, _), n1, _) =>
    some ((room1, used1, files1, steps1, left1, dead1, ()), n1, ())
def disk_Disk_Truncate.fn (N : Nat) (x : Sh.den disk_Disk_Truncate.ins) : Option (Sh.den disk_Disk_Truncate.outs) := disk_Disk_Truncate.run N x.1.1 x.1.2.1 x.1.2.2.1 x.1.2.2.2.1 x.1.2.2.2.2.1 x.1.2.2.2.2.2.1 x.2.1 x.2.2.1
def disk_Disk_Truncate.S (N : Nat) : Fs := ⟨disk_Disk_Truncate.ins, disk_Disk_Truncate.outs, disk_Disk_Truncate.fn N⟩
def disk_Disk_Truncate.lam (N : Nat) : Pcs := pcs []
theorem disk_Disk_Truncate.pok (N : Nat) : (disk_Disk_Truncate.lam N).Ok Try.prog (disk_Disk_Truncate.C N) disk_Disk_Truncate.code := pcsOk_nil
theorem disk_Disk_Truncate.ev (N : Nat) (x : Sh.den disk_Disk_Truncate.ins) : evC (disk_Disk_Truncate.C N) disk_Disk_Truncate.code (disk_Disk_Truncate.lam N) ⟨envOf 0 (bld (fun k => k) disk_Disk_Truncate.ins x 0).1, (bld (fun k => k) disk_Disk_Truncate.ins x 0).2.1, 1000⟩ (endF U disk_Disk_Truncate.outs Try.f55.results.toList []) = disk_Disk_Truncate.fn N x := by kernel_rfl
theorem disk_Disk_Truncate.ok (N : Nat) : (disk_Disk_Truncate.S N).con.Ok Try.prog 55 := fn_ok (F := disk_Disk_Truncate.S N) (n0 := 1000) Try.func55 (by kernel_rfl) (show Try.f55.body = some disk_Disk_Truncate.code by rfl) mix (disk_Disk_Truncate.cok N) (fun _ => rfl) (fun _ => rfl) (disk_Disk_Truncate.pok N) (fun x y h => (disk_Disk_Truncate.ev N x).trans h)
/-- hayloft/redo.Open$1 -/
def redo_Open_f1.ins : Sh := (.cons (.rbox 3 (.cons (.val (.int .i64)) .nil)) (.cons (.rbox 22 (.cons (.val (.slice .byte)) .nil)) (.cons (.rbox 34 (.cons (.box 75 (.cons (.val (.int .i64)) (.cons (.val (.int .i64)) (.cons (.own 3000000 (.pair .str (.pair (.slice .byte) (.int .i64)))) (.cons (.val (.int .i64)) (.cons (.val (.int .i64)) (.cons (.val .bool) .nil))))))) .nil)) (.cons (.rbox 9 (.cons (.val .str) .nil)) .nil))))
def redo_Open_f1.C (N : Nat) : Ctx := ⟨U, 13, fun _ => true, gam [(55, (disk_Disk_Truncate.S N).con)], gamY []⟩
theorem redo_Open_f1.cok (N : Nat) : (redo_Open_f1.C N).Ok Try.prog := ⟨U_ok, GamOk.cons (disk_Disk_Truncate.ok N) (GamOk.nil), GamYOk.nil⟩
def redo_Open_f1.code : Code := Try.f54.body.getD .skip
def redo_Open_f1.outs : Sh := (.cons (.upd 3 75 (.cons (.val (.int .i64)) (.cons (.val (.int .i64)) (.cons (.own 3000000 (.pair .str (.pair (.slice .byte) (.int .i64)))) (.cons (.val (.int .i64)) (.cons (.val (.int .i64)) (.cons (.val .bool) .nil))))))) (.cons (.val (.int .i64)) .nil))
def redo_Open_f1.run (N : Nat) (t0 : Int) (t1 : (List UInt8)) (room_ : Int) (used : Int) (files : (List ((List UInt8) × ((List UInt8) × Int)))) (steps : Int) (left : Int) (dead : Bool) (t3 : (List UInt8)) : Option ((Int × Int × (List ((List UInt8) × ((List UInt8) × Int))) × Int × Int × Bool × Unit) × Int × Unit) :=
  bif decide (t0 < (t1.length : Int)) then
    obind (disk_Disk_Truncate.run N room_ used files steps left dead t3 t0) fun ((room1, used1, files1, steps1, left1, dead1, _), n_, _) =>
      some ((room1, used1, files1, steps1, left1, dead1, ()), n_, ())
  else some ((room_, used, files, steps, left, dead, ()), (0 : Int), ())
def redo_Open_f1.fn (N : Nat) (x : Sh.den redo_Open_f1.ins) : Option (Sh.den redo_Open_f1.outs) := redo_Open_f1.run N x.1.1 x.2.1.1 x.2.2.1.1.1 x.2.2.1.1.2.1 x.2.2.1.1.2.2.1 x.2.2.1.1.2.2.2.1 x.2.2.1.1.2.2.2.2.1 x.2.2.1.1.2.2.2.2.2.1 x.2.2.2.1.1
def redo_Open_f1.S (N : Nat) : Fs := ⟨redo_Open_f1.ins, redo_Open_f1.outs, redo_Open_f1.fn N⟩
def redo_Open_f1.lam (N : Nat) : Pcs := pcs []
theorem redo_Open_f1.pok (N : Nat) : (redo_Open_f1.lam N).Ok Try.prog (redo_Open_f1.C N) redo_Open_f1.code := pcsOk_nil
theorem redo_Open_f1.ev (N : Nat) (x : Sh.den redo_Open_f1.ins) : evC (redo_Open_f1.C N) redo_Open_f1.code (redo_Open_f1.lam N) ⟨envOf 0 (bld (fun k => k) redo_Open_f1.ins x 0).1, (bld (fun k => k) redo_Open_f1.ins x 0).2.1, 1000⟩ (endF U redo_Open_f1.outs Try.f54.results.toList []) = redo_Open_f1.fn N x := by kernel_rfl
theorem redo_Open_f1.ok (N : Nat) : (redo_Open_f1.S N).con.Ok Try.prog 54 := fn_ok (F := redo_Open_f1.S N) (n0 := 1000) Try.func54 (by kernel_rfl) (show Try.f54.body = some redo_Open_f1.code by rfl) mix (redo_Open_f1.cok N) (fun _ => rfl) (fun _ => rfl) (redo_Open_f1.pok N) (fun x y h => (redo_Open_f1.ev N x).trans h)
/-- hayloft/redo.Open$2 -/
def redo_Open_f2.ins : Sh := (.cons (.rbox 34 (.cons (.box 75 (.cons (.val (.int .i64)) (.cons (.val (.int .i64)) (.cons (.own 3000000 (.pair .str (.pair (.slice .byte) (.int .i64)))) (.cons (.val (.int .i64)) (.cons (.val (.int .i64)) (.cons (.val .bool) .nil))))))) .nil)) (.cons (.rbox 9 (.cons (.val .str) .nil)) .nil))
def redo_Open_f2.C (N : Nat) : Ctx := ⟨U, 6, fun _ => true, gam [(49, (disk_Disk_Sync.S N).con)], gamY []⟩
theorem redo_Open_f2.cok (N : Nat) : (redo_Open_f2.C N).Ok Try.prog := ⟨U_ok, GamOk.cons (disk_Disk_Sync.ok N) (GamOk.nil), GamYOk.nil⟩
def redo_Open_f2.code : Code := Try.f56.body.getD .skip
def redo_Open_f2.outs : Sh := (.cons (.upd 1 75 (.cons (.val (.int .i64)) (.cons (.val (.int .i64)) (.cons (.own 3000000 (.pair .str (.pair (.slice .byte) (.int .i64)))) (.cons (.val (.int .i64)) (.cons (.val (.int .i64)) (.cons (.val .bool) .nil))))))) (.cons (.val (.int .i64)) .nil))
def redo_Open_f2.run (N : Nat) (room_ : Int) (used : Int) (files : (List ((List UInt8) × ((List UInt8) × Int)))) (steps : Int) (left : Int) (dead : Bool) (t1 : (List UInt8)) : Option ((Int × Int × (List ((List UInt8) × ((List UInt8) × Int))) × Int × Int × Bool × Unit) × Int × Unit) :=
  obind (disk_Disk_Sync.run N room_ used files steps left dead t1) fun ((room1, used1, files1, steps1, left1, dead1, _), n_, _) =>
    some ((room1, used1, files1, steps1, left1, dead1, ()), n_, ())
def redo_Open_f2.fn (N : Nat) (x : Sh.den redo_Open_f2.ins) : Option (Sh.den redo_Open_f2.outs) := redo_Open_f2.run N x.1.1.1 x.1.1.2.1 x.1.1.2.2.1 x.1.1.2.2.2.1 x.1.1.2.2.2.2.1 x.1.1.2.2.2.2.2.1 x.2.1.1
def redo_Open_f2.S (N : Nat) : Fs := ⟨redo_Open_f2.ins, redo_Open_f2.outs, redo_Open_f2.fn N⟩
def redo_Open_f2.lam (N : Nat) : Pcs := pcs []
theorem redo_Open_f2.pok (N : Nat) : (redo_Open_f2.lam N).Ok Try.prog (redo_Open_f2.C N) redo_Open_f2.code := pcsOk_nil
theorem redo_Open_f2.ev (N : Nat) (x : Sh.den redo_Open_f2.ins) : evC (redo_Open_f2.C N) redo_Open_f2.code (redo_Open_f2.lam N) ⟨envOf 0 (bld (fun k => k) redo_Open_f2.ins x 0).1, (bld (fun k => k) redo_Open_f2.ins x 0).2.1, 1000⟩ (endF U redo_Open_f2.outs Try.f56.results.toList []) = redo_Open_f2.fn N x := by kernel_rfl
theorem redo_Open_f2.ok (N : Nat) : (redo_Open_f2.S N).con.Ok Try.prog 56 := fn_ok (F := redo_Open_f2.S N) (n0 := 1000) Try.func56 (by kernel_rfl) (show Try.f56.body = some redo_Open_f2.code by rfl) mix (redo_Open_f2.cok N) (fun _ => rfl) (fun _ => rfl) (redo_Open_f2.pok N) (fun x y h => (redo_Open_f2.ev N x).trans h)
/-- hayloft/redo.row -/
def redo_row_c.ins : Sh := (.cons (.els 1 2 (.cons (.fn 54 (.cons (.rbox 3 (.cons (.val (.int .i64)) .nil)) (.cons (.rbox 22 (.cons (.val (.slice .byte)) .nil)) (.cons (.rbox 34 (.cons (.box 75 (.cons (.val (.int .i64)) (.cons (.val (.int .i64)) (.cons (.own 3000000 (.pair .str (.pair (.slice .byte) (.int .i64)))) (.cons (.val (.int .i64)) (.cons (.val (.int .i64)) (.cons (.val .bool) .nil))))))) .nil)) (.cons (.rbox 9 (.cons (.val .str) .nil)) .nil))))) (.cons (.fn 56 (.cons (.ref 2) (.cons (.ref 5) .nil))) .nil))) .nil)
def redo_row_c.C (N : Nat) : Ctx := ⟨U, 18, fun _ => true, gam [(54, (redo_Open_f1.S N).con), (56, (redo_Open_f2.S N).con)], gamY []⟩
theorem redo_row_c.cok (N : Nat) : (redo_row_c.C N).Ok Try.prog := ⟨U_ok, GamOk.cons (redo_Open_f1.ok N) (GamOk.cons (redo_Open_f2.ok N) (GamOk.nil)), GamYOk.nil⟩
def redo_row_c.code : Code := Try.f43.body.getD .skip
def redo_row_c.outs : Sh := (.cons (.upd 3 75 (.cons (.val (.int .i64)) (.cons (.val (.int .i64)) (.cons (.own 3000000 (.pair .str (.pair (.slice .byte) (.int .i64)))) (.cons (.val (.int .i64)) (.cons (.val (.int .i64)) (.cons (.val .bool) .nil))))))) (.cons (.val (.int .i64)) .nil))
def redo_row_c.run (N : Nat) (steps : Int) (steps1 : (List UInt8)) (room_ : Int) (used : Int) (files : (List ((List UInt8) × ((List UInt8) × Int)))) (steps2 : Int) (left : Int) (dead : Bool) (steps3 : (List UInt8)) : Option ((Int × Int × (List ((List UInt8) × ((List UInt8) × Int))) × Int × Int × Bool × Unit) × Int × Unit) :=
  obind (redo_Open_f1.run N steps steps1 room_ used files steps2 left dead steps3) fun ((room1, used1, files1, steps4, left1, dead1, _), n_, _) =>
    bif !(decide (n_ = (0 : Int))) then
      some ((room1, used1, files1, steps4, left1, dead1, ()), n_, ())
    else
      obind (redo_Open_f2.run N room1 used1 files1 steps4 left1 dead1 steps3) fun ((room2, used2, files2, steps5, left2, dead2, _), n1, _) =>
        bif !(decide (n1 = (0 : Int))) then
          some ((room2, used2, files2, steps5, left2, dead2, ()), n1, ())
        else some ((room2, used2, files2, steps5, left2, dead2, ()), (0 : Int), ())
def redo_row_c.fn (N : Nat) (x : Sh.den redo_row_c.ins) : Option (Sh.den redo_row_c.outs) := redo_row_c.run N x.1.1.1.1 x.1.1.2.1.1 x.1.1.2.2.1.1.1 x.1.1.2.2.1.1.2.1 x.1.1.2.2.1.1.2.2.1 x.1.1.2.2.1.1.2.2.2.1 x.1.1.2.2.1.1.2.2.2.2.1 x.1.1.2.2.1.1.2.2.2.2.2.1 x.1.1.2.2.2.1.1
def redo_row_c.S (N : Nat) : Fs := ⟨redo_row_c.ins, redo_row_c.outs, redo_row_c.fn N⟩
def redo_row_c.lam (N : Nat) : Pcs := pcs [([true, false, true, false], (Pc.unroll (redo_row_c.C N) (loopBody (sub redo_row_c.code [true, false, true, false])) (pcs []) 3))]
theorem redo_row_c.pok (N : Nat) : (redo_row_c.lam N).Ok Try.prog (redo_row_c.C N) redo_row_c.code := pcsOk_cons (c1 := .loop (loopBody (sub redo_row_c.code [true, false, true, false]))) (by kernel_rfl) (unroll_ok (redo_row_c.cok N) mix pcsOk_nil 3) (pcsOk_nil)
theorem redo_row_c.ev (N : Nat) (x : Sh.den redo_row_c.ins) : evC (redo_row_c.C N) redo_row_c.code (redo_row_c.lam N) ⟨envOf 0 (bld (fun k => k) redo_row_c.ins x 0).1, (bld (fun k => k) redo_row_c.ins x 0).2.1, 1000⟩ (endF U redo_row_c.outs Try.f43.results.toList []) = redo_row_c.fn N x := by kernel_rfl
theorem redo_row_c.ok (N : Nat) : (redo_row_c.S N).con.Ok Try.prog 43 := fn_ok (F := redo_row_c.S N) (n0 := 1000) Try.func43 (by kernel_rfl) (show Try.f43.body = some redo_row_c.code by rfl) mix (redo_row_c.cok N) (fun _ => rfl) (fun _ => rfl) (redo_row_c.pok N) (fun x y h => (redo_row_c.ev N x).trans h)
/-- hayloft/redo.Open -/
def redo_Open.ins : Sh := (.cons (.box 75 (.cons (.val (.int .i64)) (.cons (.val (.int .i64)) (.cons (.own 3000000 (.pair .str (.pair (.slice .byte) (.int .i64)))) (.cons (.val (.int .i64)) (.cons (.val (.int .i64)) (.cons (.val .bool) .nil))))))) (.cons (.val .str) .nil))
def redo_Open.C (N : Nat) : Ctx := ⟨U, 45, fun _ => true, gam [(21, (disk_Disk_Read.S N).con), (25, (disk_Disk_Dead.S N).con), (9, (redo_Read.S N).con), (43, (redo_row_c.S N).con)], gamY []⟩
theorem redo_Open.cok (N : Nat) : (redo_Open.C N).Ok Try.prog := ⟨U_ok, GamOk.cons (disk_Disk_Read.ok N) (GamOk.cons (disk_Disk_Dead.ok N) (GamOk.cons (redo_Read.ok N) (GamOk.cons (redo_row_c.ok N) (GamOk.nil)))), GamYOk.nil⟩
def redo_Open.code : Code := Try.f20.body.getD .skip
def redo_Open.outs : List Sh := [(.cons (.upd 0 75 (.cons (.val (.int .i64)) (.cons (.val (.int .i64)) (.cons (.own 3000000 (.pair .str (.pair (.slice .byte) (.int .i64)))) (.cons (.val (.int .i64)) (.cons (.val (.int .i64)) (.cons (.val .bool) .nil))))))) (.cons (.nilp) (.cons (.val (.int .i64)) .nil))), (.cons (.upd 0 75 (.cons (.val (.int .i64)) (.cons (.val (.int .i64)) (.cons (.own 3000000 (.pair .str (.pair (.slice .byte) (.int .i64)))) (.cons (.val (.int .i64)) (.cons (.val (.int .i64)) (.cons (.val .bool) .nil))))))) (.cons (.box 80 (.cons (.ref 0) (.cons (.val .str) (.cons (.own 22 (.slice .byte)) (.cons (.val (.int .i64)) .nil))))) (.cons (.val (.int .i64)) .nil)))]
def redo_Open.run (N : Nat) (room_ : Int) (used : Int) (files : (List ((List UInt8) × ((List UInt8) × Int)))) (steps : Int) (left : Int) (dead : Bool) (name : (List UInt8)) : Option (((Int × Int × (List ((List UInt8) × ((List UInt8) × Int))) × Int × Int × Bool × Unit) × Unit × Int × Unit) ⊕ ((Int × Int × (List ((List UInt8) × ((List UInt8) × Int))) × Int × Int × Bool × Unit) × (Unit × (List UInt8) × (List (List UInt8)) × Int × Unit) × Int × Unit)) :=
  obind (disk_Disk_Read.run N room_ used files steps left dead name) fun (l, b, _) =>
    obind (disk_Disk_Dead.run N room_ used files steps left dead) fun (b1, _) =>
      bif b1 then
        some (.inl ((room_, used, files, steps, left, dead, ()), (), (44 : Int), ()))
      else
        bif !b then
          some (.inl ((room_, used, files, steps, left, dead, ()), (), (42 : Int), ()))
        else
          obind (redo_Read.run N l) fun (l1, n_, n1, _) =>
            bif !(decide (n1 = (0 : Int))) then
              some (.inl ((room_, used, files, steps, left, dead, ()), (), n1, ()))
            else
              obind (redo_row_c.run N n_ l room_ used files steps left dead name) fun ((room1, used1, files1, steps1, left1, dead1, _), n2, _) =>
                bif !(decide (n2 = (0 : Int))) then
                  some (.inl ((room1, used1, files1, steps1, left1, dead1, ()), (), n2, ()))
                else some (.inr ((room1, used1, files1, steps1, left1, dead1, ()), ((), name, l1, n_, ()), (0 : Int), ()))
def redo_Open.fn (N : Nat) (x : Sh.den redo_Open.ins) : Option (shsDen redo_Open.outs) := redo_Open.run N x.1.1 x.1.2.1 x.1.2.2.1 x.1.2.2.2.1 x.1.2.2.2.2.1 x.1.2.2.2.2.2.1 x.2.1
def redo_Open.S (N : Nat) : Fm := ⟨redo_Open.ins, redo_Open.outs, redo_Open.fn N⟩
def redo_Open.lam (N : Nat) : Pcs := pcs []
theorem redo_Open.pok (N : Nat) : (redo_Open.lam N).Ok Try.prog (redo_Open.C N) redo_Open.code := pcsOk_nil
theorem redo_Open.ev (N : Nat) (x : Sh.den redo_Open.ins) : evC (redo_Open.C N) redo_Open.code (redo_Open.lam N) ⟨envOf 0 (bld (fun k => k) redo_Open.ins x 0).1, (bld (fun k => k) redo_Open.ins x 0).2.1, 1000⟩ (endM U redo_Open.outs Try.f20.results.toList []) = redo_Open.fn N x := by kernel_rfl
theorem redo_Open.ok (N : Nat) : (redo_Open.S N).con.Ok Try.prog 20 := fm_ok (F := redo_Open.S N) (n0 := 1000) Try.func20 (by kernel_rfl) (show Try.f20.body = some redo_Open.code by rfl) mix (redo_Open.cok N) (fun _ => rfl) (fun _ => rfl) (redo_Open.pok N) (fun x y h => (redo_Open.ev N x).trans h)
/-- (*hayloft/redo.Log).Len -/
def redo_Log_Len.ins : Sh := (.cons (.rbox 80 (.cons (.rbox 75 (.cons (.val (.int .i64)) (.cons (.val (.int .i64)) (.cons (.rown 3000000 (.pair .str (.pair (.slice .byte) (.int .i64)))) (.cons (.val (.int .i64)) (.cons (.val (.int .i64)) (.cons (.val .bool) .nil))))))) (.cons (.val .str) (.cons (.rown 22 (.slice .byte)) (.cons (.val (.int .i64)) .nil))))) .nil)
def redo_Log_Len.C (N : Nat) : Ctx := ⟨U, 8, fun _ => true, gam [], gamY []⟩
theorem redo_Log_Len.cok (N : Nat) : (redo_Log_Len.C N).Ok Try.prog := ⟨U_ok, GamOk.nil, GamYOk.nil⟩
def redo_Log_Len.code : Code := Try.f42.body.getD .skip
def redo_Log_Len.outs : Sh := (.cons (.val (.int .i64)) .nil)
def redo_Log_Len.run (N : Nat) (room_ : Int) (used : Int) (files : (List ((List UInt8) × ((List UInt8) × Int)))) (steps : Int) (left : Int) (dead : Bool) (name : (List UInt8)) (l : (List (List UInt8))) (size : Int) : Option (Int × Unit) :=
  some ((l.length : Int), ())
def redo_Log_Len.fn (N : Nat) (x : Sh.den redo_Log_Len.ins) : Option (Sh.den redo_Log_Len.outs) := redo_Log_Len.run N x.1.1.1 x.1.1.2.1 x.1.1.2.2.1 x.1.1.2.2.2.1 x.1.1.2.2.2.2.1 x.1.1.2.2.2.2.2.1 x.1.2.1 x.1.2.2.1 x.1.2.2.2.1
def redo_Log_Len.S (N : Nat) : Fs := ⟨redo_Log_Len.ins, redo_Log_Len.outs, redo_Log_Len.fn N⟩
def redo_Log_Len.lam (N : Nat) : Pcs := pcs []
theorem redo_Log_Len.pok (N : Nat) : (redo_Log_Len.lam N).Ok Try.prog (redo_Log_Len.C N) redo_Log_Len.code := pcsOk_nil
theorem redo_Log_Len.ev (N : Nat) (x : Sh.den redo_Log_Len.ins) : evC (redo_Log_Len.C N) redo_Log_Len.code (redo_Log_Len.lam N) ⟨envOf 0 (bld (fun k => k) redo_Log_Len.ins x 0).1, (bld (fun k => k) redo_Log_Len.ins x 0).2.1, 1000⟩ (endF U redo_Log_Len.outs Try.f42.results.toList []) = redo_Log_Len.fn N x := by kernel_rfl
theorem redo_Log_Len.ok (N : Nat) : (redo_Log_Len.S N).con.Ok Try.prog 42 := fn_ok (F := redo_Log_Len.S N) (n0 := 1000) Try.func42 (by kernel_rfl) (show Try.f42.body = some redo_Log_Len.code by rfl) mix (redo_Log_Len.cok N) (fun _ => rfl) (fun _ => rfl) (redo_Log_Len.pok N) (fun x y h => (redo_Log_Len.ev N x).trans h)
/-- (*hayloft/redo.Log).Size -/
def redo_Log_Size.ins : Sh := (.cons (.rbox 80 (.cons (.rbox 75 (.cons (.val (.int .i64)) (.cons (.val (.int .i64)) (.cons (.rown 3000000 (.pair .str (.pair (.slice .byte) (.int .i64)))) (.cons (.val (.int .i64)) (.cons (.val (.int .i64)) (.cons (.val .bool) .nil))))))) (.cons (.val .str) (.cons (.rown 22 (.slice .byte)) (.cons (.val (.int .i64)) .nil))))) .nil)
def redo_Log_Size.C (N : Nat) : Ctx := ⟨U, 7, fun _ => true, gam [], gamY []⟩
theorem redo_Log_Size.cok (N : Nat) : (redo_Log_Size.C N).Ok Try.prog := ⟨U_ok, GamOk.nil, GamYOk.nil⟩
def redo_Log_Size.code : Code := Try.f22.body.getD .skip
def redo_Log_Size.outs : Sh := (.cons (.val (.int .i64)) .nil)
def redo_Log_Size.run (N : Nat) (room_ : Int) (used : Int) (files : (List ((List UInt8) × ((List UInt8) × Int)))) (steps : Int) (left : Int) (dead : Bool) (name : (List UInt8)) (l : (List (List UInt8))) (size : Int) : Option (Int × Unit) :=
  some (size, ())
def redo_Log_Size.fn (N : Nat) (x : Sh.den redo_Log_Size.ins) : Option (Sh.den redo_Log_Size.outs) := redo_Log_Size.run N x.1.1.1 x.1.1.2.1 x.1.1.2.2.1 x.1.1.2.2.2.1 x.1.1.2.2.2.2.1 x.1.1.2.2.2.2.2.1 x.1.2.1 x.1.2.2.1 x.1.2.2.2.1
def redo_Log_Size.S (N : Nat) : Fs := ⟨redo_Log_Size.ins, redo_Log_Size.outs, redo_Log_Size.fn N⟩
def redo_Log_Size.lam (N : Nat) : Pcs := pcs []
theorem redo_Log_Size.pok (N : Nat) : (redo_Log_Size.lam N).Ok Try.prog (redo_Log_Size.C N) redo_Log_Size.code := pcsOk_nil
theorem redo_Log_Size.ev (N : Nat) (x : Sh.den redo_Log_Size.ins) : evC (redo_Log_Size.C N) redo_Log_Size.code (redo_Log_Size.lam N) ⟨envOf 0 (bld (fun k => k) redo_Log_Size.ins x 0).1, (bld (fun k => k) redo_Log_Size.ins x 0).2.1, 1000⟩ (endF U redo_Log_Size.outs Try.f22.results.toList []) = redo_Log_Size.fn N x := by kernel_rfl
theorem redo_Log_Size.ok (N : Nat) : (redo_Log_Size.S N).con.Ok Try.prog 22 := fn_ok (F := redo_Log_Size.S N) (n0 := 1000) Try.func22 (by kernel_rfl) (show Try.f22.body = some redo_Log_Size.code by rfl) mix (redo_Log_Size.cok N) (fun _ => rfl) (fun _ => rfl) (redo_Log_Size.pok N) (fun x y h => (redo_Log_Size.ev N x).trans h)
/-- (*hayloft/redo.Log).All -/
def redo_Log_All.ins : Sh := (.cons (.box 80 (.cons (.box 75 (.cons (.val (.int .i64)) (.cons (.val (.int .i64)) (.cons (.own 3000000 (.pair .str (.pair (.slice .byte) (.int .i64)))) (.cons (.val (.int .i64)) (.cons (.val (.int .i64)) (.cons (.val .bool) .nil))))))) (.cons (.val .str) (.cons (.own 22 (.slice .byte)) (.cons (.val (.int .i64)) .nil))))) .nil)
def redo_Log_All.C (N : Nat) : Ctx := ⟨U, 4, fun _ => true, gam [], gamY []⟩
theorem redo_Log_All.cok (N : Nat) : (redo_Log_All.C N).Ok Try.prog := ⟨U_ok, GamOk.nil, GamYOk.nil⟩
def redo_Log_All.code : Code := Try.f18.body.getD .skip
def redo_Log_All.outs : Sh := (.cons (.upd 1 75 (.cons (.val (.int .i64)) (.cons (.val (.int .i64)) (.cons (.own 3000000 (.pair .str (.pair (.slice .byte) (.int .i64)))) (.cons (.val (.int .i64)) (.cons (.val (.int .i64)) (.cons (.val .bool) .nil))))))) (.cons (.upd 0 80 (.cons (.ref 0) (.cons (.val .str) (.cons (.own 22 (.slice .byte)) (.cons (.val (.int .i64)) .nil))))) (.cons (.fn 53 (.cons (.box 36 (.cons (.ref 2) .nil)) .nil)) .nil)))
def redo_Log_All.run (N : Nat) (room_ : Int) (used : Int) (files : (List ((List UInt8) × ((List UInt8) × Int)))) (steps : Int) (left : Int) (dead : Bool) (name : (List UInt8)) (l : (List (List UInt8))) (size : Int) : Option ((Int × Int × (List ((List UInt8) × ((List UInt8) × Int))) × Int × Int × Bool × Unit) × (Unit × (List UInt8) × (List (List UInt8)) × Int × Unit) × ((Unit × Unit) × Unit) × Unit) :=
  some ((room_, used, files, steps, left, dead, ()), ((), name, l, size, ()), (((), ()), ()), ())
def redo_Log_All.fn (N : Nat) (x : Sh.den redo_Log_All.ins) : Option (Sh.den redo_Log_All.outs) := redo_Log_All.run N x.1.1.1 x.1.1.2.1 x.1.1.2.2.1 x.1.1.2.2.2.1 x.1.1.2.2.2.2.1 x.1.1.2.2.2.2.2.1 x.1.2.1 x.1.2.2.1 x.1.2.2.2.1
def redo_Log_All.S (N : Nat) : Fs := ⟨redo_Log_All.ins, redo_Log_All.outs, redo_Log_All.fn N⟩
def redo_Log_All.lam (N : Nat) : Pcs := pcs []
theorem redo_Log_All.pok (N : Nat) : (redo_Log_All.lam N).Ok Try.prog (redo_Log_All.C N) redo_Log_All.code := pcsOk_nil
theorem redo_Log_All.ev (N : Nat) (x : Sh.den redo_Log_All.ins) : evC (redo_Log_All.C N) redo_Log_All.code (redo_Log_All.lam N) ⟨envOf 0 (bld (fun k => k) redo_Log_All.ins x 0).1, (bld (fun k => k) redo_Log_All.ins x 0).2.1, 1000⟩ (endF U redo_Log_All.outs Try.f18.results.toList []) = redo_Log_All.fn N x := by kernel_rfl
theorem redo_Log_All.ok (N : Nat) : (redo_Log_All.S N).con.Ok Try.prog 18 := fn_ok (F := redo_Log_All.S N) (n0 := 1000) Try.func18 (by kernel_rfl) (show Try.f18.body = some redo_Log_All.code by rfl) mix (redo_Log_All.cok N) (fun _ => rfl) (fun _ => rfl) (redo_Log_All.pok N) (fun x y h => (redo_Log_All.ev N x).trans h)
def Y1.ins : Sh := (.cons (.box 23 (.cons (.own 22 (.slice .byte)) .nil)) (.cons (.val (.int .i64)) (.cons (.own 5 .byte) .nil)))
def Y1.C (N : Nat) : Ctx := ⟨U, 15, fun _ => true, gam [], gamY []⟩
theorem Y1.cok (N : Nat) : (Y1.C N).Ok Try.prog := ⟨U_ok, GamOk.nil, GamYOk.nil⟩
def Y1.code : Code := site1.body
def Y1.alts : List Alt := [⟨.normal, [], (.cons (.upd 0 23 (.cons (.own 22 (.slice .byte)) .nil)) .nil)⟩]
def Y1.run (N : Nat) (out : (List (List UInt8))) (t8 : Int) (t9 : (List UInt8)) : Option ((((List (List UInt8)) × Unit) × Unit)) :=
  bif room (out.length + 1) 24 then
    some ((out ++ ([t9] : List (List UInt8)), ()), ())
  else none
def Y1.fn (N : Nat) (x : Sh.den Y1.ins) : Option (altsDen Y1.alts) := Y1.run N x.1.1 x.2.1 x.2.2.1
def Y1.F (N : Nat) : Ys := ⟨[3], [8, 9], Y1.ins, Y1.alts, Y1.fn N⟩
def Y1.yc (N : Nat) : Yc := (Y1.F N).yc
def Y1.lam (N : Nat) : Pcs := pcs []
theorem Y1.pok (N : Nat) : (Y1.lam N).Ok Try.prog (Y1.C N) site1.body := pcsOk_nil
theorem Y1.ev (N : Nat) (x : Sh.den Y1.ins) : evC (Y1.C N) site1.assign (pcs []) ⟨addT [3, 8, 9] (bld (fun k => k) Y1.ins x 0).1 [], (bld (fun k => k) Y1.ins x 0).2.1, 1000⟩ (thenC fun s => evC (Y1.C N) site1.body (Y1.lam N) s (altK Y1.alts)) = Y1.fn N x := by kernel_rfl
theorem Y1.ok (N : Nat) : (Y1.yc N).Ok Try.prog 1000001 := ys_ok (σ := site1) (k := 1) (C := Y1.C N) (F := Y1.F N) (n0 := 1000) (fun _ => rfl) (Y1.cok N) mix (fun _ => rfl) (show site1.ps.toList = [8, 9] by kernel_rfl) (show site1.ts = [3] by kernel_rfl) (show site1.nt = 15 by kernel_rfl) rfl rfl rfl rfl rfl pcsOk_nil (Y1.pok N) (fun x y h => (Y1.ev N x).trans h)
/-- (*hayloft/redo.Log).All$1 -/
def redo_Log_All_f1.ins : Sh := (.cons (.box 1000001 (.cons (.val (.int .i64)) (.cons (.junk) (.cons (.junk) (.cons (.junk) (.cons (.box 23 (.cons (.own 22 (.slice .byte)) .nil)) .nil)))))) (.cons (.rbox 36 (.cons (.rbox 80 (.cons (.rbox 75 (.cons (.val (.int .i64)) (.cons (.val (.int .i64)) (.cons (.rown 3000000 (.pair .str (.pair (.slice .byte) (.int .i64)))) (.cons (.val (.int .i64)) (.cons (.val (.int .i64)) (.cons (.val .bool) .nil))))))) (.cons (.val .str) (.cons (.rown 22 (.slice .byte)) (.cons (.val (.int .i64)) .nil))))) .nil)) .nil))
def redo_Log_All_f1.C (N : Nat) : Ctx := ⟨U, 22, fun _ => true, gam [(52, (slices_Clone_byte_byte.S N).con)], gamY [(1000001, Y1.yc N)]⟩
theorem redo_Log_All_f1.cok (N : Nat) : (redo_Log_All_f1.C N).Ok Try.prog := ⟨U_ok, GamOk.cons (slices_Clone_byte_byte.ok N) (GamOk.nil), GamYOk.cons (Y1.ok N) (GamYOk.nil)⟩
def redo_Log_All_f1.code : Code := Try.f53.body.getD .skip
def redo_Log_All_f1_0.ins : Sh := (.cons (.box 1000001 (.cons (.val (.int .i64)) (.cons (.junk) (.cons (.junk) (.cons (.junk) (.cons (.box 23 (.cons (.own 22 (.slice .byte)) .nil)) .nil)))))) (.cons (.rown 22 (.slice .byte)) (.cons (.val (.int .i64)) (.cons (.val (.int .i64)) .nil))))
def redo_Log_All_f1_0.ts : List Tmp := [0, 8, 9, 10]
def redo_Log_All_f1_0.asg : List Tmp := [3, 4, 10, 11, 12, 13, 14, 15, 16, 17, 18, 19, 20, 21]
def redo_Log_All_f1_0.C (N : Nat) : Ctx := { redo_Log_All_f1.C N with may := fun t => redo_Log_All_f1_0.asg.any (Nat.beq t) }
def redo_Log_All_f1_0.code : Code := loopBody (sub redo_Log_All_f1.code [true, false])
theorem redo_Log_All_f1_0.cok (N : Nat) : (redo_Log_All_f1_0.C N).Ok Try.prog := ⟨(redo_Log_All_f1.cok N).U, (redo_Log_All_f1.cok N).Γ, (redo_Log_All_f1.cok N).Y⟩
def redo_Log_All_f1_0.alts : List Alt := [⟨(.exit 0), [], (.cons (.upd 1 23 (.cons (.own 22 (.slice .byte)) .nil)) (.cons (.upd 0 1000001 (.cons (.val (.int .i64)) (.cons (.junk) (.cons (.junk) (.cons (.junk) (.cons (.ref 0) .nil)))))) .nil))⟩]
def redo_Log_All_f1_0.go (N : Nat) : Nat → Int → (List (List UInt8)) → (List (List UInt8)) → Int → Int → Option ((((List (List UInt8)) × Unit) × (Int × Unit × Unit × Unit × Unit × Unit) × Unit))
  | 0, _, _, _, _, _ => none
  | fuel + 1, yield, yield1, t8, t9, t10 =>
    bif decide (t10 < t9) then
      bif inB t10 t8.length then
        bif decide (t10.toNat < t8.length) then
          obind (slices_Clone_byte_byte.run N (t8.getD t10.toNat ([] : List UInt8))) fun (l, _) =>
            bif decide (yield = (0 : Int)) then
              obind (Y1.run N yield1 t10 l) fun ((v, _), _) =>
                redo_Log_All_f1_0.go N fuel (0 : Int) v t8 t9 (IntKind.i64.wrap (t10 + (1 : Int)))
            else none
        else none
      else none
    else some ((yield1, ()), (yield, (), (), (), (), ()), ())
def redo_Log_All_f1_0.g (N n : Nat) (x : Sh.den redo_Log_All_f1_0.ins) : Option (altsDen redo_Log_All_f1_0.alts) := redo_Log_All_f1_0.go N n x.1.1 x.1.2.2.2.2.1.1 x.2.1 x.2.2.1 x.2.2.2.1
def redo_Log_All_f1_0.P (N : Nat) : Ps := ⟨redo_Log_All_f1_0.ts, redo_Log_All_f1_0.ins, redo_Log_All_f1_0.asg, redo_Log_All_f1_0.alts, redo_Log_All_f1_0.g N N⟩
def redo_Log_All_f1_0.lam (N : Nat) : Pcs := pcs []
theorem redo_Log_All_f1_0.pok (N : Nat) : (redo_Log_All_f1_0.lam N).Ok Try.prog (redo_Log_All_f1_0.C N) redo_Log_All_f1_0.code := pcsOk_nil
theorem redo_Log_All_f1_0.ev (N n : Nat) (x : Sh.den redo_Log_All_f1_0.ins) : evC (redo_Log_All_f1_0.C N) redo_Log_All_f1_0.code (redo_Log_All_f1_0.lam N) ((redo_Log_All_f1_0.P N).canon 1000 x) (loopK (redo_Log_All_f1_0.P N) (redo_Log_All_f1_0.g N n)) = redo_Log_All_f1_0.g N (n + 1) x := by kernel_rfl
theorem redo_Log_All_f1_0.ok (N : Nat) : ((redo_Log_All_f1_0.P N).pc (redo_Log_All_f1.C N)).Ok Try.prog (redo_Log_All_f1.C N) (.loop redo_Log_All_f1_0.code) := loop_ok (F := redo_Log_All_f1_0.P N) (n0 := 1000) (N := N) (redo_Log_All_f1.cok N) mix (redo_Log_All_f1_0.pok N) (redo_Log_All_f1_0.g N) (fun x => by rfl) rfl (fun n x y h => (redo_Log_All_f1_0.ev N n x).trans h)
def redo_Log_All_f1.outs : Sh := (.cons (.upd 1 23 (.cons (.own 22 (.slice .byte)) .nil)) (.cons (.upd 0 1000001 (.cons (.val (.int .i64)) (.cons (.junk) (.cons (.junk) (.cons (.junk) (.cons (.ref 0) .nil)))))) .nil))
def redo_Log_All_f1.run (N : Nat) (yield : Int) (yield1 : (List (List UInt8))) (room_ : Int) (used : Int) (files : (List ((List UInt8) × ((List UInt8) × Int)))) (steps : Int) (left : Int) (dead : Bool) (name : (List UInt8)) (l : (List (List UInt8))) (size : Int) : Option (((List (List UInt8)) × Unit) × (Int × Unit × Unit × Unit × Unit × Unit) × Unit) :=
  obind (redo_Log_All_f1_0.go N N yield yield1 l (l.length : Int) (0 : Int)) fun ((v, _), (v1, _, _, _, _, _), _) =>
    some ((v, ()), (v1, (), (), (), (), ()), ())
def redo_Log_All_f1.fn (N : Nat) (x : Sh.den redo_Log_All_f1.ins) : Option (Sh.den redo_Log_All_f1.outs) := redo_Log_All_f1.run N x.1.1 x.1.2.2.2.2.1.1 x.2.1.1.1.1 x.2.1.1.1.2.1 x.2.1.1.1.2.2.1 x.2.1.1.1.2.2.2.1 x.2.1.1.1.2.2.2.2.1 x.2.1.1.1.2.2.2.2.2.1 x.2.1.1.2.1 x.2.1.1.2.2.1 x.2.1.1.2.2.2.1
def redo_Log_All_f1.S (N : Nat) : Fs := ⟨redo_Log_All_f1.ins, redo_Log_All_f1.outs, redo_Log_All_f1.fn N⟩
def redo_Log_All_f1.lam (N : Nat) : Pcs := pcs [([true, false], (redo_Log_All_f1_0.P N).pc (redo_Log_All_f1.C N))]
theorem redo_Log_All_f1.pok (N : Nat) : (redo_Log_All_f1.lam N).Ok Try.prog (redo_Log_All_f1.C N) redo_Log_All_f1.code := pcsOk_cons (c1 := .loop redo_Log_All_f1_0.code) (by kernel_rfl) (redo_Log_All_f1_0.ok N) (pcsOk_nil)
theorem redo_Log_All_f1.ev (N : Nat) (x : Sh.den redo_Log_All_f1.ins) : evC (redo_Log_All_f1.C N) redo_Log_All_f1.code (redo_Log_All_f1.lam N) ⟨envOf 0 (bld (fun k => k) redo_Log_All_f1.ins x 0).1, (bld (fun k => k) redo_Log_All_f1.ins x 0).2.1, 1000⟩ (endF U redo_Log_All_f1.outs Try.f53.results.toList []) = redo_Log_All_f1.fn N x := by kernel_rfl
theorem redo_Log_All_f1.ok (N : Nat) : (redo_Log_All_f1.S N).con.Ok Try.prog 53 := fn_ok (F := redo_Log_All_f1.S N) (n0 := 1000) Try.func53 (by kernel_rfl) (show Try.f53.body = some redo_Log_All_f1.code by rfl) mix (redo_Log_All_f1.cok N) (fun _ => rfl) (fun _ => rfl) (redo_Log_All_f1.pok N) (fun x y h => (redo_Log_All_f1.ev N x).trans h)
/-- hayloft/hayloftlaw09.gone -/
def law_gone.ins : Sh := (.cons (.box 80 (.cons (.box 75 (.cons (.val (.int .i64)) (.cons (.val (.int .i64)) (.cons (.own 3000000 (.pair .str (.pair (.slice .byte) (.int .i64)))) (.cons (.val (.int .i64)) (.cons (.val (.int .i64)) (.cons (.val .bool) .nil))))))) (.cons (.val .str) (.cons (.own 22 (.slice .byte)) (.cons (.val (.int .i64)) .nil))))) .nil)
def law_gone.C (N : Nat) : Ctx := ⟨U, 15, fun _ => true, gam [(18, (redo_Log_All.S N).con), (53, (redo_Log_All_f1.S N).con)], gamY []⟩
theorem law_gone.cok (N : Nat) : (law_gone.C N).Ok Try.prog := ⟨U_ok, GamOk.cons (redo_Log_All.ok N) (GamOk.cons (redo_Log_All_f1.ok N) (GamOk.nil)), GamYOk.nil⟩
def law_gone.code : Code := Try.f19.body.getD .skip
def law_gone.outs : Sh := (.cons (.upd 1 75 (.cons (.val (.int .i64)) (.cons (.val (.int .i64)) (.cons (.own 3000000 (.pair .str (.pair (.slice .byte) (.int .i64)))) (.cons (.val (.int .i64)) (.cons (.val (.int .i64)) (.cons (.val .bool) .nil))))))) (.cons (.upd 0 80 (.cons (.ref 0) (.cons (.val .str) (.cons (.own 22 (.slice .byte)) (.cons (.val (.int .i64)) .nil))))) (.cons (.own 22 (.slice .byte)) .nil)))
def law_gone.run (N : Nat) (room_ : Int) (used : Int) (files : (List ((List UInt8) × ((List UInt8) × Int)))) (steps : Int) (left : Int) (dead : Bool) (name : (List UInt8)) (l : (List (List UInt8))) (size : Int) : Option ((Int × Int × (List ((List UInt8) × ((List UInt8) × Int))) × Int × Int × Bool × Unit) × (Unit × (List UInt8) × (List (List UInt8)) × Int × Unit) × (List (List UInt8)) × Unit) :=
  obind (redo_Log_All.run N room_ used files steps left dead name l size) fun ((room1, used1, files1, steps1, left1, dead1, _), (_, name1, l1, size1, _), ((_, _), _), _) =>
    obind (redo_Log_All_f1.run N (0 : Int) ([] : List (List UInt8)) room1 used1 files1 steps1 left1 dead1 name1 l1 size1) fun ((v, _), (v1, _, _, _, _, _), _) =>
      bif decide (v1 = (0 : Int)) then
        some ((room1, used1, files1, steps1, left1, dead1, ()), ((), name1, l1, size1, ()), v, ())
      else none
def law_gone.fn (N : Nat) (x : Sh.den law_gone.ins) : Option (Sh.den law_gone.outs) := law_gone.run N x.1.1.1 x.1.1.2.1 x.1.1.2.2.1 x.1.1.2.2.2.1 x.1.1.2.2.2.2.1 x.1.1.2.2.2.2.2.1 x.1.2.1 x.1.2.2.1 x.1.2.2.2.1
def law_gone.S (N : Nat) : Fs := ⟨law_gone.ins, law_gone.outs, law_gone.fn N⟩
def law_gone.lam (N : Nat) : Pcs := pcs [([true, true, false, true, false], rfPc (law_gone.C N) 1000001 (.tmp 7) [3] [.normal])]
theorem law_gone.pok (N : Nat) : (law_gone.lam N).Ok Try.prog (law_gone.C N) law_gone.code := pcsOk_cons (c1 := .rangeFunc (.tmp 7) site1.ps site1.assign site1.body) (by kernel_rfl) (rf_ok (k := 1) (fun _ => rfl) (law_gone.cok N)) (pcsOk_nil)
theorem law_gone.ev (N : Nat) (x : Sh.den law_gone.ins) : evC (law_gone.C N) law_gone.code (law_gone.lam N) ⟨envOf 0 (bld (fun k => k) law_gone.ins x 0).1, (bld (fun k => k) law_gone.ins x 0).2.1, 1000⟩ (endF U law_gone.outs Try.f19.results.toList []) = law_gone.fn N x := by kernel_rfl
theorem law_gone.ok (N : Nat) : (law_gone.S N).con.Ok Try.prog 19 := fn_ok (F := law_gone.S N) (n0 := 1000) Try.func19 (by kernel_rfl) (show Try.f19.body = some law_gone.code by rfl) mix (law_gone.cok N) (fun _ => rfl) (fun _ => rfl) (law_gone.pok N) (fun x y h => (law_gone.ev N x).trans h)
/-- hayloft/hayloftref09.Same -/
def ref_Same.ins : Sh := (.cons (.rown 22 (.slice .byte)) (.cons (.rown 22 (.slice .byte)) .nil))
def ref_Same.C (N : Nat) : Ctx := ⟨U, 28, fun _ => true, gam [], gamY []⟩
theorem ref_Same.cok (N : Nat) : (ref_Same.C N).Ok Try.prog := ⟨U_ok, GamOk.nil, GamYOk.nil⟩
def ref_Same.code : Code := Try.f14.body.getD .skip
def ref_Same_0.ins : Sh := (.cons (.rown 22 (.slice .byte)) (.cons (.rown 22 (.slice .byte)) (.cons (.val (.int .i64)) .nil)))
def ref_Same_0.ts : List Tmp := [0, 1, 5]
def ref_Same_0.asg : List Tmp := [4, 5, 11, 12, 13, 14, 15, 16, 17, 18, 19, 20, 21, 22, 23, 24, 25, 26, 27]
def ref_Same_0.C (N : Nat) : Ctx := { ref_Same.C N with may := fun t => ref_Same_0.asg.any (Nat.beq t) }
def ref_Same_0.code : Code := loopBody (sub ref_Same.code [true, true, false, true, false])
theorem ref_Same_0.cok (N : Nat) : (ref_Same_0.C N).Ok Try.prog := ⟨(ref_Same.cok N).U, (ref_Same.cok N).Γ, (ref_Same.cok N).Y⟩
def ref_Same_0.alts : List Alt := [⟨.ret, [4], (.cons (.val .bool) .nil)⟩, ⟨(.exit 0), [], .nil⟩]
def ref_Same_0.go (N : Nat) : Nat → (List (List UInt8)) → (List (List UInt8)) → Int → Option ((Bool × Unit) ⊕ Unit)
  | 0, _, _, _ => none
  | fuel + 1, a, b, i =>
    bif decide (i < (a.length : Int)) then
      bif inB i a.length then
        bif decide (i.toNat < a.length) then
          bif inB i b.length then
            bif decide (i.toNat < b.length) then
              bif !(decide ((a.getD i.toNat ([] : List UInt8)) = (b.getD i.toNat ([] : List UInt8)))) then
                some (.inl (false, ()))
              else ref_Same_0.go N fuel a b (IntKind.i64.wrap (i + (1 : Int)))
            else none
          else none
        else none
      else none
    else some (.inr ())
def ref_Same_0.g (N n : Nat) (x : Sh.den ref_Same_0.ins) : Option (altsDen ref_Same_0.alts) := ref_Same_0.go N n x.1 x.2.1 x.2.2.1
def ref_Same_0.P (N : Nat) : Ps := ⟨ref_Same_0.ts, ref_Same_0.ins, ref_Same_0.asg, ref_Same_0.alts, ref_Same_0.g N N⟩
def ref_Same_0.lam (N : Nat) : Pcs := pcs []
theorem ref_Same_0.pok (N : Nat) : (ref_Same_0.lam N).Ok Try.prog (ref_Same_0.C N) ref_Same_0.code := pcsOk_nil
theorem ref_Same_0.ev (N n : Nat) (x : Sh.den ref_Same_0.ins) : evC (ref_Same_0.C N) ref_Same_0.code (ref_Same_0.lam N) ((ref_Same_0.P N).canon 1000 x) (loopK (ref_Same_0.P N) (ref_Same_0.g N n)) = ref_Same_0.g N (n + 1) x := by kernel_rfl
theorem ref_Same_0.ok (N : Nat) : ((ref_Same_0.P N).pc (ref_Same.C N)).Ok Try.prog (ref_Same.C N) (.loop ref_Same_0.code) := loop_ok (F := ref_Same_0.P N) (n0 := 1000) (N := N) (ref_Same.cok N) mix (ref_Same_0.pok N) (ref_Same_0.g N) (fun x => by rfl) rfl (fun n x y h => (ref_Same_0.ev N n x).trans h)
def ref_Same.outs : Sh := (.cons (.val .bool) .nil)
def ref_Same.run (N : Nat) (a : (List (List UInt8))) (b : (List (List UInt8))) : Option (Bool × Unit) :=
  bif !(decide ((a.length : Int) = (b.length : Int))) then
    some (false, ())
  else
    obind (ref_Same_0.go N N a b (0 : Int)) fun y => match y with
    | .inl (t4, _) =>
        some (t4, ())
    | .inr (_) =>
        some (true, ())
def ref_Same.fn (N : Nat) (x : Sh.den ref_Same.ins) : Option (Sh.den ref_Same.outs) := ref_Same.run N x.1 x.2.1
def ref_Same.S (N : Nat) : Fs := ⟨ref_Same.ins, ref_Same.outs, ref_Same.fn N⟩
def ref_Same.lam (N : Nat) : Pcs := pcs [([true, true, false, true, false], (ref_Same_0.P N).pc (ref_Same.C N))]
theorem ref_Same.pok (N : Nat) : (ref_Same.lam N).Ok Try.prog (ref_Same.C N) ref_Same.code := pcsOk_cons (c1 := .loop ref_Same_0.code) (by kernel_rfl) (ref_Same_0.ok N) (pcsOk_nil)
theorem ref_Same.ev (N : Nat) (x : Sh.den ref_Same.ins) : evC (ref_Same.C N) ref_Same.code (ref_Same.lam N) ⟨envOf 0 (bld (fun k => k) ref_Same.ins x 0).1, (bld (fun k => k) ref_Same.ins x 0).2.1, 1000⟩ (endF U ref_Same.outs Try.f14.results.toList []) = ref_Same.fn N x := by kernel_rfl
theorem ref_Same.ok (N : Nat) : (ref_Same.S N).con.Ok Try.prog 14 := fn_ok (F := ref_Same.S N) (n0 := 1000) Try.func14 (by kernel_rfl) (show Try.f14.body = some ref_Same.code by rfl) mix (ref_Same.cok N) (fun _ => rfl) (fun _ => rfl) (ref_Same.pok N) (fun x y h => (ref_Same.ev N x).trans h)
/-- hayloft/hayloftlaw09.alive -/
def law_alive.ins : Sh := .nil
def law_alive.C (N : Nat) : Ctx := ⟨U, 67, fun _ => true, gam [(15, (disk_New.S N).con), (16, (redo_Create.S N).con), (17, (redo_Log_Append.S N).con), (20, (redo_Open.S N).con), (42, (redo_Log_Len.S N).con), (22, (redo_Log_Size.S N).con), (19, (law_gone.S N).con), (14, (ref_Same.S N).con)], gamY []⟩
theorem law_alive.cok (N : Nat) : (law_alive.C N).Ok Try.prog := ⟨U_ok, GamOk.cons (disk_New.ok N) (GamOk.cons (redo_Create.ok N) (GamOk.cons (redo_Log_Append.ok N) (GamOk.cons (redo_Open.ok N) (GamOk.cons (redo_Log_Len.ok N) (GamOk.cons (redo_Log_Size.ok N) (GamOk.cons (law_gone.ok N) (GamOk.cons (ref_Same.ok N) (GamOk.nil)))))))), GamYOk.nil⟩
def law_alive.code : Code := Try.f13.body.getD .skip
def law_alive_0.ins : Sh := (.cons (.box 75 (.cons (.val (.int .i64)) (.cons (.val (.int .i64)) (.cons (.own 3000000 (.pair .str (.pair (.slice .byte) (.int .i64)))) (.cons (.val (.int .i64)) (.cons (.val (.int .i64)) (.cons (.val .bool) .nil))))))) .nil)
def law_alive_0.ts : List Tmp := [1]
def law_alive_0.asg : List Tmp := [2, 3, 8, 9, 10, 11, 12]
def law_alive_0.C (N : Nat) : Ctx := { law_alive.C N with may := fun t => law_alive_0.asg.any (Nat.beq t) }
def law_alive_0.code : Code := (sub law_alive.code [true, true, true, false]).getD .skip
theorem law_alive_0.cok (N : Nat) : (law_alive_0.C N).Ok Try.prog := ⟨(law_alive.cok N).U, (law_alive.cok N).Γ, (law_alive.cok N).Y⟩
def law_alive_0.alts : List Alt := [⟨.normal, [2, 3], (.cons (.upd 0 75 (.cons (.val (.int .i64)) (.cons (.val (.int .i64)) (.cons (.own 3000000 (.pair .str (.pair (.slice .byte) (.int .i64)))) (.cons (.val (.int .i64)) (.cons (.val (.int .i64)) (.cons (.val .bool) .nil))))))) (.cons (.nilp) (.cons (.val (.int .i64)) .nil)))⟩, ⟨.normal, [2, 3], (.cons (.upd 0 75 (.cons (.val (.int .i64)) (.cons (.val (.int .i64)) (.cons (.own 3000000 (.pair .str (.pair (.slice .byte) (.int .i64)))) (.cons (.val (.int .i64)) (.cons (.val (.int .i64)) (.cons (.val .bool) .nil))))))) (.cons (.box 80 (.cons (.ref 0) (.cons (.val .str) (.cons (.own 22 (.slice .byte)) (.cons (.val (.int .i64)) .nil))))) (.cons (.val (.int .i64)) .nil)))⟩]
def law_alive_0.run (N : Nat) (room_ : Int) (used : Int) (files : (List ((List UInt8) × ((List UInt8) × Int)))) (steps : Int) (left : Int) (dead : Bool) : Option (((Int × Int × (List ((List UInt8) × ((List UInt8) × Int))) × Int × Int × Bool × Unit) × Unit × Int × Unit) ⊕ ((Int × Int × (List ((List UInt8) × ((List UInt8) × Int))) × Int × Int × Bool × Unit) × (Unit × (List UInt8) × (List (List UInt8)) × Int × Unit) × Int × Unit)) :=
  obind (redo_Create.run N room_ used files steps left dead ([(114 : UInt8)] : List UInt8)) fun y => match y with
  | .inl ((room1, used1, files1, steps1, left1, dead1, _), _, n_, _) =>
      some (.inl ((room1, used1, files1, steps1, left1, dead1, ()), (), n_, ()))
  | .inr ((room2, used2, files2, steps2, left2, dead2, _), (_, name, l, size, _), n1, _) =>
      some (.inr ((room2, used2, files2, steps2, left2, dead2, ()), ((), name, l, size, ()), n1, ()))
def law_alive_0.fn (N : Nat) (x : Sh.den law_alive_0.ins) : Option (altsDen law_alive_0.alts) := law_alive_0.run N x.1.1 x.1.2.1 x.1.2.2.1 x.1.2.2.2.1 x.1.2.2.2.2.1 x.1.2.2.2.2.2.1
def law_alive_0.P (N : Nat) : Ps := ⟨law_alive_0.ts, law_alive_0.ins, law_alive_0.asg, law_alive_0.alts, law_alive_0.fn N⟩
def law_alive_0.lam (N : Nat) : Pcs := pcs []
theorem law_alive_0.pok (N : Nat) : (law_alive_0.lam N).Ok Try.prog (law_alive_0.C N) law_alive_0.code := pcsOk_nil
theorem law_alive_0.ev (N : Nat) (x : Sh.den law_alive_0.ins) : evC (law_alive_0.C N) law_alive_0.code (law_alive_0.lam N) ((law_alive_0.P N).canon 1000 x) (altK (law_alive_0.P N).alts) = law_alive_0.fn N x := by kernel_rfl
theorem law_alive_0.ok (N : Nat) : ((law_alive_0.P N).pc (law_alive.C N)).Ok Try.prog (law_alive.C N) law_alive_0.code := ps_ok (F := law_alive_0.P N) (n0 := 1000) (law_alive.cok N) mix (law_alive_0.pok N) (fun x y h => (law_alive_0.ev N x).trans h)
def law_alive_1.ins : Sh := (.cons (.box 75 (.cons (.val (.int .i64)) (.cons (.val (.int .i64)) (.cons (.own 3000000 (.pair .str (.pair (.slice .byte) (.int .i64)))) (.cons (.val (.int .i64)) (.cons (.val (.int .i64)) (.cons (.val .bool) .nil))))))) .nil)
def law_alive_1.ts : List Tmp := [1]
def law_alive_1.asg : List Tmp := [3, 4, 33, 34, 35, 36, 37]
def law_alive_1.C (N : Nat) : Ctx := { law_alive.C N with may := fun t => law_alive_1.asg.any (Nat.beq t) }
def law_alive_1.code : Code := (sub law_alive.code [true, true, true, true, true, false]).getD .skip
theorem law_alive_1.cok (N : Nat) : (law_alive_1.C N).Ok Try.prog := ⟨(law_alive.cok N).U, (law_alive.cok N).Γ, (law_alive.cok N).Y⟩
def law_alive_1.alts : List Alt := [⟨.normal, [3, 4], (.cons (.upd 0 75 (.cons (.val (.int .i64)) (.cons (.val (.int .i64)) (.cons (.own 3000000 (.pair .str (.pair (.slice .byte) (.int .i64)))) (.cons (.val (.int .i64)) (.cons (.val (.int .i64)) (.cons (.val .bool) .nil))))))) (.cons (.val (.int .i64)) (.cons (.nilp) .nil)))⟩, ⟨.normal, [3, 4], (.cons (.upd 0 75 (.cons (.val (.int .i64)) (.cons (.val (.int .i64)) (.cons (.own 3000000 (.pair .str (.pair (.slice .byte) (.int .i64)))) (.cons (.val (.int .i64)) (.cons (.val (.int .i64)) (.cons (.val .bool) .nil))))))) (.cons (.val (.int .i64)) (.cons (.box 80 (.cons (.ref 0) (.cons (.val .str) (.cons (.own 22 (.slice .byte)) (.cons (.val (.int .i64)) .nil))))) .nil)))⟩]
def law_alive_1.run (N : Nat) (room_ : Int) (used : Int) (files : (List ((List UInt8) × ((List UInt8) × Int)))) (steps : Int) (left : Int) (dead : Bool) : Option (((Int × Int × (List ((List UInt8) × ((List UInt8) × Int))) × Int × Int × Bool × Unit) × Int × Unit × Unit) ⊕ ((Int × Int × (List ((List UInt8) × ((List UInt8) × Int))) × Int × Int × Bool × Unit) × Int × (Unit × (List UInt8) × (List (List UInt8)) × Int × Unit) × Unit)) :=
  obind (redo_Open.run N room_ used files steps left dead ([(114 : UInt8)] : List UInt8)) fun y => match y with
  | .inl ((room1, used1, files1, steps1, left1, dead1, _), _, n_, _) =>
      some (.inl ((room1, used1, files1, steps1, left1, dead1, ()), n_, (), ()))
  | .inr ((room2, used2, files2, steps2, left2, dead2, _), (_, name, l, size, _), n1, _) =>
      some (.inr ((room2, used2, files2, steps2, left2, dead2, ()), n1, ((), name, l, size, ()), ()))
def law_alive_1.fn (N : Nat) (x : Sh.den law_alive_1.ins) : Option (altsDen law_alive_1.alts) := law_alive_1.run N x.1.1 x.1.2.1 x.1.2.2.1 x.1.2.2.2.1 x.1.2.2.2.2.1 x.1.2.2.2.2.2.1
def law_alive_1.P (N : Nat) : Ps := ⟨law_alive_1.ts, law_alive_1.ins, law_alive_1.asg, law_alive_1.alts, law_alive_1.fn N⟩
def law_alive_1.lam (N : Nat) : Pcs := pcs []
theorem law_alive_1.pok (N : Nat) : (law_alive_1.lam N).Ok Try.prog (law_alive_1.C N) law_alive_1.code := pcsOk_nil
theorem law_alive_1.ev (N : Nat) (x : Sh.den law_alive_1.ins) : evC (law_alive_1.C N) law_alive_1.code (law_alive_1.lam N) ((law_alive_1.P N).canon 1000 x) (altK (law_alive_1.P N).alts) = law_alive_1.fn N x := by kernel_rfl
theorem law_alive_1.ok (N : Nat) : ((law_alive_1.P N).pc (law_alive.C N)).Ok Try.prog (law_alive.C N) law_alive_1.code := ps_ok (F := law_alive_1.P N) (n0 := 1000) (law_alive.cok N) mix (law_alive_1.pok N) (fun x y h => (law_alive_1.ev N x).trans h)
def law_alive.outs : Sh := (.cons (.val .bool) .nil)
def law_alive.run (N : Nat)  : Option (Bool × Unit) :=
  obind (disk_New.run N (1000 : Int)) fun ((room_, used, files, steps, left, dead, _), _) =>
    obind (law_alive_0.run N room_ used files steps left dead) fun y => match y with
    | .inl ((room3, used3, files3, steps3, left3, dead3, _), _, e, _) =>
        bif !(decide (e = (0 : Int))) then
          some (false, ())
        else some (false, ())
    | .inr ((room4, used4, files4, steps4, left4, dead4, _), (_, name1, l1, size1, _), e1, _) =>
        bif !(decide (e1 = (0 : Int))) then
          some (false, ())
        else
          obind (redo_Log_Append.run N room4 used4 files4 steps4 left4 dead4 name1 l1 size1 ([([(7 : UInt8)] : List UInt8)] : List (List UInt8))) fun ((room5, used5, files5, steps5, left5, dead5, _), (_, name2, l2, size2, _), n2, _) =>
            bif !(decide (n2 = (0 : Int))) then
              some (false, ())
            else
              obind (redo_Log_Append.run N room5 used5 files5 steps5 left5 dead5 name2 l2 size2 ([([(8 : UInt8)] : List UInt8), ([] : List UInt8)] : List (List UInt8))) fun ((room6, used6, files6, steps6, left6, dead6, _), (_, name3, l3, size3, _), n3, _) =>
                bif !(decide (n3 = (0 : Int))) then
                  some (false, ())
                else
                  obind (law_alive_1.run N room6 used6 files6 steps6 left6 dead6) fun y => match y with
                  | .inl ((room9, used9, files9, steps9, left9, dead9, _), e2, _, _) =>
                      bif decide (e2 = (0 : Int)) then
                        some (false, ())
                      else some (false, ())
                  | .inr ((room10, used10, files10, steps10, left10, dead10, _), e3, (_, name5, l5, size5, _), _) =>
                      bif decide (e3 = (0 : Int)) then
                        obind (redo_Log_Len.run N room10 used10 files10 steps10 left10 dead10 name5 l5 size5) fun (n6, _) =>
                          bif decide (n6 = (3 : Int)) then
                            obind (redo_Log_Size.run N room10 used10 files10 steps10 left10 dead10 name5 l5 size5) fun (n7, _) =>
                              bif decide (n7 = (31 : Int)) then
                                obind (redo_Log_Len.run N room10 used10 files10 steps10 left10 dead10 name3 l3 size3) fun (n8, _) =>
                                  bif decide (n8 = (3 : Int)) then
                                    obind (law_gone.run N room10 used10 files10 steps10 left10 dead10 name5 l5 size5) fun ((room11, used11, files11, steps11, left11, dead11, _), (_, name6, l6, size6, _), l7, _) =>
                                      obind (ref_Same.run N l7 ([([(7 : UInt8)] : List UInt8), ([(8 : UInt8)] : List UInt8), ([] : List UInt8)] : List (List UInt8))) fun (b, _) =>
                                        some (b, ())
                                  else some (false, ())
                              else some (false, ())
                          else some (false, ())
                      else some (false, ())
def law_alive.fn (N : Nat) (x : Sh.den law_alive.ins) : Option (Sh.den law_alive.outs) := law_alive.run N 
def law_alive.S (N : Nat) : Fs := ⟨law_alive.ins, law_alive.outs, law_alive.fn N⟩
def law_alive.lam (N : Nat) : Pcs := pcs [([true, true, true, false], (law_alive_0.P N).pc (law_alive.C N)), ([true, true, true, true, true, false], (law_alive_1.P N).pc (law_alive.C N))]
theorem law_alive.pok (N : Nat) : (law_alive.lam N).Ok Try.prog (law_alive.C N) law_alive.code := pcsOk_cons (c1 := law_alive_0.code) (by kernel_rfl) (law_alive_0.ok N) (pcsOk_cons (c1 := law_alive_1.code) (by kernel_rfl) (law_alive_1.ok N) (pcsOk_nil))
theorem law_alive.ev (N : Nat) (x : Sh.den law_alive.ins) : evC (law_alive.C N) law_alive.code (law_alive.lam N) ⟨envOf 0 (bld (fun k => k) law_alive.ins x 0).1, (bld (fun k => k) law_alive.ins x 0).2.1, 1000⟩ (endF U law_alive.outs Try.f13.results.toList []) = law_alive.fn N x := by kernel_rfl
theorem law_alive.ok (N : Nat) : (law_alive.S N).con.Ok Try.prog 13 := fn_ok (F := law_alive.S N) (n0 := 1000) Try.func13 (by kernel_rfl) (show Try.f13.body = some law_alive.code by rfl) mix (law_alive.cok N) (fun _ => rfl) (fun _ => rfl) (law_alive.pok N) (fun x y h => (law_alive.ev N x).trans h)
/-- (*hayloft/redo.Log).Append -/
def redo_Log_Append_b.ins : Sh := (.cons (.box 80 (.cons (.box 75 (.cons (.val (.int .i64)) (.cons (.val (.int .i64)) (.cons (.own 3000000 (.pair .str (.pair (.slice .byte) (.int .i64)))) (.cons (.val (.int .i64)) (.cons (.val (.int .i64)) (.cons (.val .bool) .nil))))))) (.cons (.val .str) (.cons (.own 22 (.slice .byte)) (.cons (.val (.int .i64)) .nil))))) (.cons (.val (.slice (.slice .byte))) .nil))
def redo_Log_Append_b.C (N : Nat) : Ctx := ⟨U, 54, fun _ => true, gam [(11, (redo_Frames.S N).con), (43, (redo_row_b.S N).con), (52, (slices_Clone_byte_byte.S N).con)], gamY []⟩
theorem redo_Log_Append_b.cok (N : Nat) : (redo_Log_Append_b.C N).Ok Try.prog := ⟨U_ok, GamOk.cons (redo_Frames.ok N) (GamOk.cons (redo_row_b.ok N) (GamOk.cons (slices_Clone_byte_byte.ok N) (GamOk.nil))), GamYOk.nil⟩
def redo_Log_Append_b.code : Code := Try.f17.body.getD .skip
def redo_Log_Append_b_0.ins : Sh := (.cons (.rbox 36 (.cons (.box 80 (.cons (.box 75 (.cons (.val (.int .i64)) (.cons (.val (.int .i64)) (.cons (.rown 3000000 (.pair .str (.pair (.slice .byte) (.int .i64)))) (.cons (.val (.int .i64)) (.cons (.val (.int .i64)) (.cons (.val .bool) .nil))))))) (.cons (.val .str) (.cons (.own 22 (.slice .byte)) (.cons (.val (.int .i64)) .nil))))) .nil)) (.cons (.val (.slice (.slice .byte))) (.cons (.val (.int .i64)) (.cons (.val (.int .i64)) .nil))))
def redo_Log_Append_b_0.ts : List Tmp := [2, 26, 27, 28]
def redo_Log_Append_b_0.asg : List Tmp := [8, 28, 29, 30, 31, 32, 33, 34, 35, 36, 37, 38, 39, 40, 41, 42, 43]
def redo_Log_Append_b_0.C (N : Nat) : Ctx := { redo_Log_Append_b.C N with may := fun t => redo_Log_Append_b_0.asg.any (Nat.beq t) }
def redo_Log_Append_b_0.code : Code := loopBody (sub redo_Log_Append_b.code [true, true, true, true, true, false, true, false, false, true, false])
theorem redo_Log_Append_b_0.cok (N : Nat) : (redo_Log_Append_b_0.C N).Ok Try.prog := ⟨(redo_Log_Append_b.cok N).U, (redo_Log_Append_b.cok N).Γ, (redo_Log_Append_b.cok N).Y⟩
def redo_Log_Append_b_0.alts : List Alt := [⟨(.exit 0), [], (.cons (.upd 2 75 (.cons (.val (.int .i64)) (.cons (.val (.int .i64)) (.cons (.keep 2000000 3) (.cons (.val (.int .i64)) (.cons (.val (.int .i64)) (.cons (.val .bool) .nil))))))) (.cons (.upd 1 80 (.cons (.ref 0) (.cons (.val .str) (.cons (.own 22 (.slice .byte)) (.cons (.val (.int .i64)) .nil))))) .nil))⟩]
def redo_Log_Append_b_0.go (N : Nat) : Nat → Int → Int → (List ((List UInt8) × ((List UInt8) × Int))) → Int → Int → Bool → (List UInt8) → (List (List UInt8)) → Int → (List (List UInt8)) → Int → Int → Option (((Int × Int × Unit × Int × Int × Bool × Unit) × (Unit × (List UInt8) × (List (List UInt8)) × Int × Unit) × Unit))
  | 0, _, _, _, _, _, _, _, _, _, _, _, _ => none
  | fuel + 1, room_, used, files, steps, left, dead, name, l, size, t26, t27, t28 =>
    bif decide (t28 < t27) then
      bif inB t28 t26.length then
        obind (slices_Clone_byte_byte.run N (t26.getD t28.toNat ([] : List UInt8))) fun (l1, _) =>
          bif room (l.length + 1) 24 then
            redo_Log_Append_b_0.go N fuel room_ used files steps left dead name (l ++ ([l1] : List (List UInt8))) size t26 t27 (IntKind.i64.wrap (t28 + (1 : Int)))
          else none
      else none
    else some ((room_, used, (), steps, left, dead, ()), ((), name, l, size, ()), ())
def redo_Log_Append_b_0.g (N n : Nat) (x : Sh.den redo_Log_Append_b_0.ins) : Option (altsDen redo_Log_Append_b_0.alts) := redo_Log_Append_b_0.go N n x.1.1.1.1 x.1.1.1.2.1 x.1.1.1.2.2.1 x.1.1.1.2.2.2.1 x.1.1.1.2.2.2.2.1 x.1.1.1.2.2.2.2.2.1 x.1.1.2.1 x.1.1.2.2.1 x.1.1.2.2.2.1 x.2.1 x.2.2.1 x.2.2.2.1
def redo_Log_Append_b_0.P (N : Nat) : Ps := ⟨redo_Log_Append_b_0.ts, redo_Log_Append_b_0.ins, redo_Log_Append_b_0.asg, redo_Log_Append_b_0.alts, redo_Log_Append_b_0.g N N⟩
def redo_Log_Append_b_0.lam (N : Nat) : Pcs := pcs []
theorem redo_Log_Append_b_0.pok (N : Nat) : (redo_Log_Append_b_0.lam N).Ok Try.prog (redo_Log_Append_b_0.C N) redo_Log_Append_b_0.code := pcsOk_nil
theorem redo_Log_Append_b_0.ev (N n : Nat) (x : Sh.den redo_Log_Append_b_0.ins) : evC (redo_Log_Append_b_0.C N) redo_Log_Append_b_0.code (redo_Log_Append_b_0.lam N) ((redo_Log_Append_b_0.P N).canon 1000 x) (loopK (redo_Log_Append_b_0.P N) (redo_Log_Append_b_0.g N n)) = redo_Log_Append_b_0.g N (n + 1) x := by kernel_rfl
theorem redo_Log_Append_b_0.ok (N : Nat) : ((redo_Log_Append_b_0.P N).pc (redo_Log_Append_b.C N)).Ok Try.prog (redo_Log_Append_b.C N) (.loop redo_Log_Append_b_0.code) := loop_ok (F := redo_Log_Append_b_0.P N) (n0 := 1000) (N := N) (redo_Log_Append_b.cok N) mix (redo_Log_Append_b_0.pok N) (redo_Log_Append_b_0.g N) (fun x => by rfl) rfl (fun n x y h => (redo_Log_Append_b_0.ev N n x).trans h)
def redo_Log_Append_b.outs : Sh := (.cons (.upd 1 75 (.cons (.val (.int .i64)) (.cons (.val (.int .i64)) (.cons (.own 3000000 (.pair .str (.pair (.slice .byte) (.int .i64)))) (.cons (.val (.int .i64)) (.cons (.val (.int .i64)) (.cons (.val .bool) .nil))))))) (.cons (.upd 0 80 (.cons (.ref 0) (.cons (.val .str) (.cons (.own 22 (.slice .byte)) (.cons (.val (.int .i64)) .nil))))) (.cons (.val (.int .i64)) .nil)))
def redo_Log_Append_b.run (N : Nat) (room_ : Int) (used : Int) (files : (List ((List UInt8) × ((List UInt8) × Int)))) (steps : Int) (left : Int) (dead : Bool) (name : (List UInt8)) (l : (List (List UInt8))) (size : Int) (records : (List (List UInt8))) : Option ((Int × Int × (List ((List UInt8) × ((List UInt8) × Int))) × Int × Int × Bool × Unit) × (Unit × (List UInt8) × (List (List UInt8)) × Int × Unit) × Int × Unit) :=
  bif decide ((records.length : Int) = (0 : Int)) then
    some ((room_, used, files, steps, left, dead, ()), ((), name, l, size, ()), (0 : Int), ())
  else
    obind (redo_Frames.run N records) fun (l1, n_, _) =>
      bif !(decide (n_ = (0 : Int))) then
        some ((room_, used, files, steps, left, dead, ()), ((), name, l, size, ()), n_, ())
      else
        obind (redo_row_b.run N room_ used files steps left dead name l size l1) fun ((room1, used1, files1, steps1, left1, dead1, _), n1, _) =>
          bif decide (n1 = (0 : Int)) then
            obind (redo_Log_Append_b_0.go N N room1 used1 files1 steps1 left1 dead1 name l size records (records.length : Int) (0 : Int)) fun ((room2, used2, _, steps2, left2, dead2, _), (_, name1, l2, size1, _), _) =>
              some ((room2, used2, files1, steps2, left2, dead2, ()), ((), name1, l2, IntKind.i64.wrap (size1 + (l1.length : Int)), ()), n1, ())
          else some ((room1, used1, files1, steps1, left1, dead1, ()), ((), name, l, size, ()), n1, ())
def redo_Log_Append_b.fn (N : Nat) (x : Sh.den redo_Log_Append_b.ins) : Option (Sh.den redo_Log_Append_b.outs) := redo_Log_Append_b.run N x.1.1.1 x.1.1.2.1 x.1.1.2.2.1 x.1.1.2.2.2.1 x.1.1.2.2.2.2.1 x.1.1.2.2.2.2.2.1 x.1.2.1 x.1.2.2.1 x.1.2.2.2.1 x.2.1
def redo_Log_Append_b.S (N : Nat) : Fs := ⟨redo_Log_Append_b.ins, redo_Log_Append_b.outs, redo_Log_Append_b.fn N⟩
def redo_Log_Append_b.lam (N : Nat) : Pcs := pcs [([true, true, true, true, true, false, true, false, false, true, false], (redo_Log_Append_b_0.P N).pc (redo_Log_Append_b.C N))]
theorem redo_Log_Append_b.pok (N : Nat) : (redo_Log_Append_b.lam N).Ok Try.prog (redo_Log_Append_b.C N) redo_Log_Append_b.code := pcsOk_cons (c1 := .loop redo_Log_Append_b_0.code) (by kernel_rfl) (redo_Log_Append_b_0.ok N) (pcsOk_nil)
theorem redo_Log_Append_b.ev (N : Nat) (x : Sh.den redo_Log_Append_b.ins) : evC (redo_Log_Append_b.C N) redo_Log_Append_b.code (redo_Log_Append_b.lam N) ⟨envOf 0 (bld (fun k => k) redo_Log_Append_b.ins x 0).1, (bld (fun k => k) redo_Log_Append_b.ins x 0).2.1, 1000⟩ (endF U redo_Log_Append_b.outs Try.f17.results.toList []) = redo_Log_Append_b.fn N x := by kernel_rfl
theorem redo_Log_Append_b.ok (N : Nat) : (redo_Log_Append_b.S N).con.Ok Try.prog 17 := fn_ok (F := redo_Log_Append_b.S N) (n0 := 1000) Try.func17 (by kernel_rfl) (show Try.f17.body = some redo_Log_Append_b.code by rfl) mix (redo_Log_Append_b.cok N) (fun _ => rfl) (fun _ => rfl) (redo_Log_Append_b.pok N) (fun x y h => (redo_Log_Append_b.ev N x).trans h)
/-- (*hayloft/disk.Disk).Arm -/
def disk_Disk_Arm.ins : Sh := (.cons (.box 75 (.cons (.val (.int .i64)) (.cons (.val (.int .i64)) (.cons (.own 3000000 (.pair .str (.pair (.slice .byte) (.int .i64)))) (.cons (.val (.int .i64)) (.cons (.val (.int .i64)) (.cons (.val .bool) .nil))))))) (.cons (.val (.int .i64)) .nil))
def disk_Disk_Arm.C (N : Nat) : Ctx := ⟨U, 14, fun _ => true, gam [], gamY []⟩
theorem disk_Disk_Arm.cok (N : Nat) : (disk_Disk_Arm.C N).Ok Try.prog := ⟨U_ok, GamOk.nil, GamYOk.nil⟩
def disk_Disk_Arm.code : Code := Try.f24.body.getD .skip
def disk_Disk_Arm.outs : Sh := (.cons (.upd 0 75 (.cons (.val (.int .i64)) (.cons (.val (.int .i64)) (.cons (.own 3000000 (.pair .str (.pair (.slice .byte) (.int .i64)))) (.cons (.val (.int .i64)) (.cons (.val (.int .i64)) (.cons (.val .bool) .nil))))))) .nil)
def disk_Disk_Arm.run (N : Nat) (room_ : Int) (used : Int) (files : (List ((List UInt8) × ((List UInt8) × Int)))) (steps : Int) (left : Int) (dead : Bool) (at_ : Int) : Option ((Int × Int × (List ((List UInt8) × ((List UInt8) × Int))) × Int × Int × Bool × Unit) × Unit) :=
  bif !dead then
    some ((room_, used, files, steps, max at_ (-1 : Int), dead, ()), ())
  else some ((room_, used, files, steps, left, dead, ()), ())
def disk_Disk_Arm.fn (N : Nat) (x : Sh.den disk_Disk_Arm.ins) : Option (Sh.den disk_Disk_Arm.outs) := disk_Disk_Arm.run N x.1.1 x.1.2.1 x.1.2.2.1 x.1.2.2.2.1 x.1.2.2.2.2.1 x.1.2.2.2.2.2.1 x.2.1
def disk_Disk_Arm.S (N : Nat) : Fs := ⟨disk_Disk_Arm.ins, disk_Disk_Arm.outs, disk_Disk_Arm.fn N⟩
def disk_Disk_Arm.lam (N : Nat) : Pcs := pcs []
theorem disk_Disk_Arm.pok (N : Nat) : (disk_Disk_Arm.lam N).Ok Try.prog (disk_Disk_Arm.C N) disk_Disk_Arm.code := pcsOk_nil
theorem disk_Disk_Arm.ev (N : Nat) (x : Sh.den disk_Disk_Arm.ins) : evC (disk_Disk_Arm.C N) disk_Disk_Arm.code (disk_Disk_Arm.lam N) ⟨envOf 0 (bld (fun k => k) disk_Disk_Arm.ins x 0).1, (bld (fun k => k) disk_Disk_Arm.ins x 0).2.1, 1000⟩ (endF U disk_Disk_Arm.outs Try.f24.results.toList []) = disk_Disk_Arm.fn N x := by kernel_rfl
theorem disk_Disk_Arm.ok (N : Nat) : (disk_Disk_Arm.S N).con.Ok Try.prog 24 := fn_ok (F := disk_Disk_Arm.S N) (n0 := 1000) Try.func24 (by kernel_rfl) (show Try.f24.body = some disk_Disk_Arm.code by rfl) mix (disk_Disk_Arm.cok N) (fun _ => rfl) (fun _ => rfl) (disk_Disk_Arm.pok N) (fun x y h => (disk_Disk_Arm.ev N x).trans h)
/-- (*hayloft/disk.Disk).names -/
def disk_Disk_names.ins : Sh := (.cons (.box 75 (.cons (.val (.int .i64)) (.cons (.val (.int .i64)) (.cons (.own 3000000 (.pair .str (.pair (.slice .byte) (.int .i64)))) (.cons (.val (.int .i64)) (.cons (.val (.int .i64)) (.cons (.val .bool) .nil))))))) .nil)
def disk_Disk_names.C (N : Nat) : Ctx := ⟨U, 4, fun _ => true, gam [], gamY []⟩
theorem disk_Disk_names.cok (N : Nat) : (disk_Disk_names.C N).Ok Try.prog := ⟨U_ok, GamOk.nil, GamYOk.nil⟩
def disk_Disk_names.code : Code := Try.f57.body.getD .skip
def disk_Disk_names.outs : Sh := (.cons (.upd 0 75 (.cons (.val (.int .i64)) (.cons (.val (.int .i64)) (.cons (.own 3000000 (.pair .str (.pair (.slice .byte) (.int .i64)))) (.cons (.val (.int .i64)) (.cons (.val (.int .i64)) (.cons (.val .bool) .nil))))))) (.cons (.fn 85 (.cons (.box 34 (.cons (.ref 0) .nil)) .nil)) .nil))
def disk_Disk_names.run (N : Nat) (room_ : Int) (used : Int) (files : (List ((List UInt8) × ((List UInt8) × Int)))) (steps : Int) (left : Int) (dead : Bool) : Option ((Int × Int × (List ((List UInt8) × ((List UInt8) × Int))) × Int × Int × Bool × Unit) × ((Unit × Unit) × Unit) × Unit) :=
  some ((room_, used, files, steps, left, dead, ()), (((), ()), ()), ())
def disk_Disk_names.fn (N : Nat) (x : Sh.den disk_Disk_names.ins) : Option (Sh.den disk_Disk_names.outs) := disk_Disk_names.run N x.1.1 x.1.2.1 x.1.2.2.1 x.1.2.2.2.1 x.1.2.2.2.2.1 x.1.2.2.2.2.2.1
def disk_Disk_names.S (N : Nat) : Fs := ⟨disk_Disk_names.ins, disk_Disk_names.outs, disk_Disk_names.fn N⟩
def disk_Disk_names.lam (N : Nat) : Pcs := pcs []
theorem disk_Disk_names.pok (N : Nat) : (disk_Disk_names.lam N).Ok Try.prog (disk_Disk_names.C N) disk_Disk_names.code := pcsOk_nil
theorem disk_Disk_names.ev (N : Nat) (x : Sh.den disk_Disk_names.ins) : evC (disk_Disk_names.C N) disk_Disk_names.code (disk_Disk_names.lam N) ⟨envOf 0 (bld (fun k => k) disk_Disk_names.ins x 0).1, (bld (fun k => k) disk_Disk_names.ins x 0).2.1, 1000⟩ (endF U disk_Disk_names.outs Try.f57.results.toList []) = disk_Disk_names.fn N x := by kernel_rfl
theorem disk_Disk_names.ok (N : Nat) : (disk_Disk_names.S N).con.Ok Try.prog 57 := fn_ok (F := disk_Disk_names.S N) (n0 := 1000) Try.func57 (by kernel_rfl) (show Try.f57.body = some disk_Disk_names.code by rfl) mix (disk_Disk_names.cok N) (fun _ => rfl) (fun _ => rfl) (disk_Disk_names.pok N) (fun x y h => (disk_Disk_names.ev N x).trans h)
/-- maps.Keys[map[string]hayloft/disk.file,string,hayloft/disk.file] -/
def maps_Keys_map_string_disk_file_string_disk_file.ins : Sh := (.cons (.rown 3000000 (.pair .str (.pair (.slice .byte) (.int .i64)))) .nil)
def maps_Keys_map_string_disk_file_string_disk_file.C (N : Nat) : Ctx := ⟨U, 4, fun _ => true, gam [], gamY []⟩
theorem maps_Keys_map_string_disk_file_string_disk_file.cok (N : Nat) : (maps_Keys_map_string_disk_file_string_disk_file.C N).Ok Try.prog := ⟨U_ok, GamOk.nil, GamYOk.nil⟩
def maps_Keys_map_string_disk_file_string_disk_file.code : Code := Try.f87.body.getD .skip
def maps_Keys_map_string_disk_file_string_disk_file.outs : Sh := (.cons (.fn 100 (.cons (.box 73 (.cons (.keep 2000000 0) .nil)) .nil)) .nil)
def maps_Keys_map_string_disk_file_string_disk_file.run (N : Nat) (m : (List ((List UInt8) × ((List UInt8) × Int)))) : Option (((Unit × Unit) × Unit) × Unit) :=
  some ((((), ()), ()), ())
def maps_Keys_map_string_disk_file_string_disk_file.fn (N : Nat) (x : Sh.den maps_Keys_map_string_disk_file_string_disk_file.ins) : Option (Sh.den maps_Keys_map_string_disk_file_string_disk_file.outs) := maps_Keys_map_string_disk_file_string_disk_file.run N x.1
def maps_Keys_map_string_disk_file_string_disk_file.S (N : Nat) : Fs := ⟨maps_Keys_map_string_disk_file_string_disk_file.ins, maps_Keys_map_string_disk_file_string_disk_file.outs, maps_Keys_map_string_disk_file_string_disk_file.fn N⟩
def maps_Keys_map_string_disk_file_string_disk_file.lam (N : Nat) : Pcs := pcs []
theorem maps_Keys_map_string_disk_file_string_disk_file.pok (N : Nat) : (maps_Keys_map_string_disk_file_string_disk_file.lam N).Ok Try.prog (maps_Keys_map_string_disk_file_string_disk_file.C N) maps_Keys_map_string_disk_file_string_disk_file.code := pcsOk_nil
theorem maps_Keys_map_string_disk_file_string_disk_file.ev (N : Nat) (x : Sh.den maps_Keys_map_string_disk_file_string_disk_file.ins) : evC (maps_Keys_map_string_disk_file_string_disk_file.C N) maps_Keys_map_string_disk_file_string_disk_file.code (maps_Keys_map_string_disk_file_string_disk_file.lam N) ⟨envOf 0 (bld (fun k => k) maps_Keys_map_string_disk_file_string_disk_file.ins x 0).1, (bld (fun k => k) maps_Keys_map_string_disk_file_string_disk_file.ins x 0).2.1, 1000⟩ (endF U maps_Keys_map_string_disk_file_string_disk_file.outs Try.f87.results.toList []) = maps_Keys_map_string_disk_file_string_disk_file.fn N x := by kernel_rfl
theorem maps_Keys_map_string_disk_file_string_disk_file.ok (N : Nat) : (maps_Keys_map_string_disk_file_string_disk_file.S N).con.Ok Try.prog 87 := fn_ok (F := maps_Keys_map_string_disk_file_string_disk_file.S N) (n0 := 1000) Try.func87 (by kernel_rfl) (show Try.f87.body = some maps_Keys_map_string_disk_file_string_disk_file.code by rfl) mix (maps_Keys_map_string_disk_file_string_disk_file.cok N) (fun _ => rfl) (fun _ => rfl) (maps_Keys_map_string_disk_file_string_disk_file.pok N) (fun x y h => (maps_Keys_map_string_disk_file_string_disk_file.ev N x).trans h)
def slices_Sorted_keys87.S (N : Nat) : Fs := sortedFs 100 73 9 3000000 (.pair (.slice .byte) (.int .i64))
theorem slices_Sorted_keys87.ok (N : Nat) : (slices_Sorted_keys87.S N).con.Ok Try.prog 86 := kSorted87
def slices_Sorted_keys87.run (N : Nat) (l : List ((List UInt8) × ((List UInt8) × Int))) : Option ((List (List UInt8)) × Unit) := bif room l.length 16 then some (sortKeys l, ()) else none
def Y2.ins : Sh := (.cons (.rbox 34 (.cons (.rbox 75 (.cons (.val (.int .i64)) (.cons (.val (.int .i64)) (.cons (.rown 3000000 (.pair .str (.pair (.slice .byte) (.int .i64)))) (.cons (.val (.int .i64)) (.cons (.val (.int .i64)) (.cons (.val .bool) .nil))))))) .nil)) (.cons (.box 49 (.cons (.val (.slice (.int .i64))) .nil)) (.cons (.rbox 34 (.cons (.box 75 (.cons (.val (.int .i64)) (.cons (.val (.int .i64)) (.cons (.own 3000000 (.pair .str (.pair (.slice .byte) (.int .i64)))) (.cons (.val (.int .i64)) (.cons (.val (.int .i64)) (.cons (.val .bool) .nil))))))) .nil)) (.cons (.val .str) .nil))))
def Y2.C (N : Nat) : Ctx := ⟨U, 54, fun _ => true, gam [(52, (slices_Clone_byte_byte.S N).con), (58, (disk_Disk_lay.S N).con)], gamY []⟩
theorem Y2.cok (N : Nat) : (Y2.C N).Ok Try.prog := ⟨U_ok, GamOk.cons (slices_Clone_byte_byte.ok N) (GamOk.cons (disk_Disk_lay.ok N) (GamOk.nil)), GamYOk.nil⟩
def Y2.code : Code := site2.body
def Y2_0.ins : Sh := (.cons (.box 49 (.cons (.val (.slice (.int .i64))) .nil)) (.cons (.val (.int .i64)) .nil))
def Y2_0.ts : List Tmp := [3, 7]
def Y2_0.asg : List Tmp := [7, 17, 18, 19, 20, 21, 22, 23, 24]
def Y2_0.C (N : Nat) : Ctx := { Y2.C N with may := fun t => Y2_0.asg.any (Nat.beq t) }
def Y2_0.code : Code := (sub Y2.code [false, true, false]).getD .skip
theorem Y2_0.cok (N : Nat) : (Y2_0.C N).Ok Try.prog := ⟨(Y2.cok N).U, (Y2.cok N).Γ, (Y2.cok N).Y⟩
def Y2_0.alts : List Alt := [⟨.normal, [7], (.cons (.upd 0 49 (.cons (.val (.slice (.int .i64))) .nil)) (.cons (.val (.int .i64)) .nil))⟩]
def Y2_0.run (N : Nat) (keep : (List Int)) (n_ : Int) : Option ((((List Int) × Unit) × Int × Unit)) :=
  bif decide ((keep.length : Int) > (0 : Int)) then
    bif inB (0 : Int) keep.length then
      bif okB (1 : Int) (keep.length : Int) keep.length then
        some ((keep.drop 1, ()), keep.getD 0 (0 : Int), ())
      else none
    else none
  else some ((keep, ()), n_, ())
def Y2_0.fn (N : Nat) (x : Sh.den Y2_0.ins) : Option (altsDen Y2_0.alts) := Y2_0.run N x.1.1 x.2.1
def Y2_0.P (N : Nat) : Ps := ⟨Y2_0.ts, Y2_0.ins, Y2_0.asg, Y2_0.alts, Y2_0.fn N⟩
def Y2_0.lam (N : Nat) : Pcs := pcs []
theorem Y2_0.pok (N : Nat) : (Y2_0.lam N).Ok Try.prog (Y2_0.C N) Y2_0.code := pcsOk_nil
theorem Y2_0.ev (N : Nat) (x : Sh.den Y2_0.ins) : evC (Y2_0.C N) Y2_0.code (Y2_0.lam N) ((Y2_0.P N).canon 1000 x) (altK (Y2_0.P N).alts) = Y2_0.fn N x := by kernel_rfl
theorem Y2_0.ok (N : Nat) : ((Y2_0.P N).pc (Y2.C N)).Ok Try.prog (Y2.C N) Y2_0.code := ps_ok (F := Y2_0.P N) (n0 := 1000) (Y2.cok N) mix (Y2_0.pok N) (fun x y h => (Y2_0.ev N x).trans h)
def Y2.alts : List Alt := [⟨.normal, [], (.cons (.upd 3 49 (.cons (.val (.slice (.int .i64))) .nil)) (.cons (.upd 5 75 (.cons (.val (.int .i64)) (.cons (.val (.int .i64)) (.cons (.own 3000000 (.pair .str (.pair (.slice .byte) (.int .i64)))) (.cons (.val (.int .i64)) (.cons (.val (.int .i64)) (.cons (.val .bool) .nil))))))) .nil))⟩]
def Y2.run (N : Nat) (room_ : Int) (used : Int) (files : (List ((List UInt8) × ((List UInt8) × Int)))) (steps : Int) (left : Int) (dead : Bool) (keep : (List Int)) (room1 : Int) (used1 : Int) (files1 : (List ((List UInt8) × ((List UInt8) × Int)))) (steps1 : Int) (left1 : Int) (dead1 : Bool) (t16 : (List UInt8)) : Option ((((List Int) × Unit) × (Int × Int × (List ((List UInt8) × ((List UInt8) × Int))) × Int × Int × Bool × Unit) × Unit)) :=
  obind (Y2_0.run N keep (0 : Int)) fun ((v, _), n_, _) =>
    bif okB (0 : Int) (IntKind.i64.wrap ((mapGet files t16 (([] : List UInt8), (0 : Int))).2 + (min (max n_ (0 : Int)) (IntKind.i64.wrap (((mapGet files t16 (([] : List UInt8), (0 : Int))).1.length : Int) - (mapGet files t16 (([] : List UInt8), (0 : Int))).2))))) (mapGet files t16 (([] : List UInt8), (0 : Int))).1.length then
      obind (slices_Clone_byte_byte.run N ((mapGet files t16 (([] : List UInt8), (0 : Int))).1.take (IntKind.i64.wrap ((mapGet files t16 (([] : List UInt8), (0 : Int))).2 + (min (max n_ (0 : Int)) (IntKind.i64.wrap (((mapGet files t16 (([] : List UInt8), (0 : Int))).1.length : Int) - (mapGet files t16 (([] : List UInt8), (0 : Int))).2))))).toNat)) fun (l, _) =>
        obind (disk_Disk_lay.run N room1 used1 files1 steps1 left1 dead1 t16 (l, IntKind.i64.wrap ((mapGet files t16 (([] : List UInt8), (0 : Int))).2 + (min (max n_ (0 : Int)) (IntKind.i64.wrap (((mapGet files t16 (([] : List UInt8), (0 : Int))).1.length : Int) - (mapGet files t16 (([] : List UInt8), (0 : Int))).2)))))) fun ((room2, used2, files2, steps2, left2, dead2, _), _) =>
          some ((v, ()), (room2, used2, files2, steps2, left2, dead2, ()), ())
    else none
def Y2.fn (N : Nat) (x : Sh.den Y2.ins) : Option (altsDen Y2.alts) := Y2.run N x.1.1.1 x.1.1.2.1 x.1.1.2.2.1 x.1.1.2.2.2.1 x.1.1.2.2.2.2.1 x.1.1.2.2.2.2.2.1 x.2.1.1 x.2.2.1.1.1 x.2.2.1.1.2.1 x.2.2.1.1.2.2.1 x.2.2.1.1.2.2.2.1 x.2.2.1.1.2.2.2.2.1 x.2.2.1.1.2.2.2.2.2.1 x.2.2.2.1
def Y2.F (N : Nat) : Ys := ⟨[2, 3, 5], [16], Y2.ins, Y2.alts, Y2.fn N⟩
def Y2.yc (N : Nat) : Yc := (Y2.F N).yc
def Y2.lam (N : Nat) : Pcs := pcs [([false, true, false], (Y2_0.P N).pc (Y2.C N))]
theorem Y2.pok (N : Nat) : (Y2.lam N).Ok Try.prog (Y2.C N) site2.body := pcsOk_cons (c1 := Y2_0.code) (by kernel_rfl) (Y2_0.ok N) (pcsOk_nil)
theorem Y2.ev (N : Nat) (x : Sh.den Y2.ins) : evC (Y2.C N) site2.assign (pcs []) ⟨addT [2, 3, 5, 16] (bld (fun k => k) Y2.ins x 0).1 [], (bld (fun k => k) Y2.ins x 0).2.1, 1000⟩ (thenC fun s => evC (Y2.C N) site2.body (Y2.lam N) s (altK Y2.alts)) = Y2.fn N x := by kernel_rfl
theorem Y2.ok (N : Nat) : (Y2.yc N).Ok Try.prog 1000002 := ys_ok (σ := site2) (k := 2) (C := Y2.C N) (F := Y2.F N) (n0 := 1000) (fun _ => rfl) (Y2.cok N) mix (fun _ => rfl) (show site2.ps.toList = [16] by kernel_rfl) (show site2.ts = [2, 3, 5] by kernel_rfl) (show site2.nt = 54 by kernel_rfl) rfl rfl rfl rfl rfl pcsOk_nil (Y2.pok N) (fun x y h => (Y2.ev N x).trans h)
/-- (*hayloft/disk.Disk).names$1 -/
def disk_Disk_names_f1.ins : Sh := (.cons (.box 1000002 (.cons (.val (.int .i64)) (.cons (.junk) (.cons (.junk) (.cons (.junk) (.cons (.rbox 34 (.cons (.rbox 75 (.cons (.val (.int .i64)) (.cons (.val (.int .i64)) (.cons (.rown 3000000 (.pair .str (.pair (.slice .byte) (.int .i64)))) (.cons (.val (.int .i64)) (.cons (.val (.int .i64)) (.cons (.val .bool) .nil))))))) .nil)) (.cons (.box 49 (.cons (.val (.slice (.int .i64))) .nil)) (.cons (.rbox 34 (.cons (.box 75 (.cons (.val (.int .i64)) (.cons (.val (.int .i64)) (.cons (.own 3000000 (.pair .str (.pair (.slice .byte) (.int .i64)))) (.cons (.val (.int .i64)) (.cons (.val (.int .i64)) (.cons (.val .bool) .nil))))))) .nil)) .nil)))))))) (.cons (.rbox 34 (.cons (.ref 2) .nil)) .nil))
def disk_Disk_names_f1.C (N : Nat) : Ctx := ⟨U, 21, fun _ => true, gam [(87, (maps_Keys_map_string_disk_file_string_disk_file.S N).con), (86, (slices_Sorted_keys87.S N).con)], gamY [(1000002, Y2.yc N)]⟩
theorem disk_Disk_names_f1.cok (N : Nat) : (disk_Disk_names_f1.C N).Ok Try.prog := ⟨U_ok, GamOk.cons (maps_Keys_map_string_disk_file_string_disk_file.ok N) (GamOk.cons (slices_Sorted_keys87.ok N) (GamOk.nil)), GamYOk.cons (Y2.ok N) (GamYOk.nil)⟩
def disk_Disk_names_f1.code : Code := Try.f85.body.getD .skip
def disk_Disk_names_f1_0.ins : Sh := (.cons (.box 1000002 (.cons (.val (.int .i64)) (.cons (.junk) (.cons (.junk) (.cons (.junk) (.cons (.rbox 34 (.cons (.rbox 75 (.cons (.val (.int .i64)) (.cons (.val (.int .i64)) (.cons (.rown 3000000 (.pair .str (.pair (.slice .byte) (.int .i64)))) (.cons (.val (.int .i64)) (.cons (.val (.int .i64)) (.cons (.val .bool) .nil))))))) .nil)) (.cons (.box 49 (.cons (.val (.slice (.int .i64))) .nil)) (.cons (.rbox 34 (.cons (.box 75 (.cons (.val (.int .i64)) (.cons (.val (.int .i64)) (.cons (.own 3000000 (.pair .str (.pair (.slice .byte) (.int .i64)))) (.cons (.val (.int .i64)) (.cons (.val (.int .i64)) (.cons (.val .bool) .nil))))))) .nil)) .nil)))))))) (.cons (.rown 9 .str) (.cons (.val (.int .i64)) (.cons (.val (.int .i64)) .nil))))
def disk_Disk_names_f1_0.ts : List Tmp := [0, 10, 11, 12]
def disk_Disk_names_f1_0.asg : List Tmp := [4, 12, 13, 14, 15, 16, 17, 18, 19, 20]
def disk_Disk_names_f1_0.C (N : Nat) : Ctx := { disk_Disk_names_f1.C N with may := fun t => disk_Disk_names_f1_0.asg.any (Nat.beq t) }
def disk_Disk_names_f1_0.code : Code := loopBody (sub disk_Disk_names_f1.code [true, false])
theorem disk_Disk_names_f1_0.cok (N : Nat) : (disk_Disk_names_f1_0.C N).Ok Try.prog := ⟨(disk_Disk_names_f1.cok N).U, (disk_Disk_names_f1.cok N).Γ, (disk_Disk_names_f1.cok N).Y⟩
def disk_Disk_names_f1_0.alts : List Alt := [⟨(.exit 0), [], (.cons (.upd 4 49 (.cons (.val (.slice (.int .i64))) .nil)) (.cons (.upd 6 75 (.cons (.val (.int .i64)) (.cons (.val (.int .i64)) (.cons (.own 3000000 (.pair .str (.pair (.slice .byte) (.int .i64)))) (.cons (.val (.int .i64)) (.cons (.val (.int .i64)) (.cons (.val .bool) .nil))))))) (.cons (.upd 0 1000002 (.cons (.val (.int .i64)) (.cons (.junk) (.cons (.junk) (.cons (.junk) (.cons (.keep 0 1) (.cons (.ref 0) (.cons (.keep 0 5) .nil)))))))) .nil)))⟩]
def disk_Disk_names_f1_0.go (N : Nat) : Nat → Int → Int → Int → (List ((List UInt8) × ((List UInt8) × Int))) → Int → Int → Bool → (List Int) → Int → Int → (List ((List UInt8) × ((List UInt8) × Int))) → Int → Int → Bool → (List (List UInt8)) → Int → Int → Option ((((List Int) × Unit) × (Int × Int × (List ((List UInt8) × ((List UInt8) × Int))) × Int × Int × Bool × Unit) × (Int × Unit × Unit × Unit × Unit × Unit × Unit × Unit) × Unit))
  | 0, _, _, _, _, _, _, _, _, _, _, _, _, _, _, _, _, _ => none
  | fuel + 1, yield, room_, used, files, steps, left, dead, yield1, room1, used1, files1, steps1, left1, dead1, t10, t11, t12 =>
    bif decide (t12 < t11) then
      bif inB t12 t10.length then
        bif decide (t12.toNat < t10.length) then
          bif decide (yield = (0 : Int)) then
            obind (Y2.run N room_ used files steps left dead yield1 room1 used1 files1 steps1 left1 dead1 (t10.getD t12.toNat ([] : List UInt8))) fun ((v, _), (room2, used2, files2, steps2, left2, dead2, _), _) =>
              disk_Disk_names_f1_0.go N fuel (0 : Int) room_ used files steps left dead v room2 used2 files2 steps2 left2 dead2 t10 t11 (IntKind.i64.wrap (t12 + (1 : Int)))
          else none
        else none
      else none
    else some ((yield1, ()), (room1, used1, files1, steps1, left1, dead1, ()), (yield, (), (), (), (), (), (), ()), ())
def disk_Disk_names_f1_0.g (N n : Nat) (x : Sh.den disk_Disk_names_f1_0.ins) : Option (altsDen disk_Disk_names_f1_0.alts) := disk_Disk_names_f1_0.go N n x.1.1 x.1.2.2.2.2.1.1.1 x.1.2.2.2.2.1.1.2.1 x.1.2.2.2.2.1.1.2.2.1 x.1.2.2.2.2.1.1.2.2.2.1 x.1.2.2.2.2.1.1.2.2.2.2.1 x.1.2.2.2.2.1.1.2.2.2.2.2.1 x.1.2.2.2.2.2.1.1 x.1.2.2.2.2.2.2.1.1.1 x.1.2.2.2.2.2.2.1.1.2.1 x.1.2.2.2.2.2.2.1.1.2.2.1 x.1.2.2.2.2.2.2.1.1.2.2.2.1 x.1.2.2.2.2.2.2.1.1.2.2.2.2.1 x.1.2.2.2.2.2.2.1.1.2.2.2.2.2.1 x.2.1 x.2.2.1 x.2.2.2.1
def disk_Disk_names_f1_0.P (N : Nat) : Ps := ⟨disk_Disk_names_f1_0.ts, disk_Disk_names_f1_0.ins, disk_Disk_names_f1_0.asg, disk_Disk_names_f1_0.alts, disk_Disk_names_f1_0.g N N⟩
def disk_Disk_names_f1_0.lam (N : Nat) : Pcs := pcs []
theorem disk_Disk_names_f1_0.pok (N : Nat) : (disk_Disk_names_f1_0.lam N).Ok Try.prog (disk_Disk_names_f1_0.C N) disk_Disk_names_f1_0.code := pcsOk_nil
theorem disk_Disk_names_f1_0.ev (N n : Nat) (x : Sh.den disk_Disk_names_f1_0.ins) : evC (disk_Disk_names_f1_0.C N) disk_Disk_names_f1_0.code (disk_Disk_names_f1_0.lam N) ((disk_Disk_names_f1_0.P N).canon 1000 x) (loopK (disk_Disk_names_f1_0.P N) (disk_Disk_names_f1_0.g N n)) = disk_Disk_names_f1_0.g N (n + 1) x := by kernel_rfl
theorem disk_Disk_names_f1_0.ok (N : Nat) : ((disk_Disk_names_f1_0.P N).pc (disk_Disk_names_f1.C N)).Ok Try.prog (disk_Disk_names_f1.C N) (.loop disk_Disk_names_f1_0.code) := loop_ok (F := disk_Disk_names_f1_0.P N) (n0 := 1000) (N := N) (disk_Disk_names_f1.cok N) mix (disk_Disk_names_f1_0.pok N) (disk_Disk_names_f1_0.g N) (fun x => by rfl) rfl (fun n x y h => (disk_Disk_names_f1_0.ev N n x).trans h)
def disk_Disk_names_f1.outs : Sh := (.cons (.upd 4 49 (.cons (.val (.slice (.int .i64))) .nil)) (.cons (.upd 6 75 (.cons (.val (.int .i64)) (.cons (.val (.int .i64)) (.cons (.own 3000000 (.pair .str (.pair (.slice .byte) (.int .i64)))) (.cons (.val (.int .i64)) (.cons (.val (.int .i64)) (.cons (.val .bool) .nil))))))) (.cons (.upd 0 1000002 (.cons (.val (.int .i64)) (.cons (.junk) (.cons (.junk) (.cons (.junk) (.cons (.keep 0 1) (.cons (.ref 0) (.cons (.keep 0 5) .nil)))))))) .nil)))
def disk_Disk_names_f1.run (N : Nat) (yield : Int) (room_ : Int) (used : Int) (files : (List ((List UInt8) × ((List UInt8) × Int)))) (steps : Int) (left : Int) (dead : Bool) (yield1 : (List Int)) (room1 : Int) (used1 : Int) (files1 : (List ((List UInt8) × ((List UInt8) × Int)))) (steps1 : Int) (left1 : Int) (dead1 : Bool) : Option (((List Int) × Unit) × (Int × Int × (List ((List UInt8) × ((List UInt8) × Int))) × Int × Int × Bool × Unit) × (Int × Unit × Unit × Unit × Unit × Unit × Unit × Unit) × Unit) :=
  obind (maps_Keys_map_string_disk_file_string_disk_file.run N files) fun (((_, _), _), _) =>
    obind (slices_Sorted_keys87.run N files) fun (names, _) =>
      obind (disk_Disk_names_f1_0.go N N yield room_ used files steps left dead yield1 room1 used1 files1 steps1 left1 dead1 names (names.length : Int) (0 : Int)) fun ((v, _), (room2, used2, files2, steps2, left2, dead2, _), (v1, _, _, _, _, _, _, _), _) =>
        some ((v, ()), (room2, used2, files2, steps2, left2, dead2, ()), (v1, (), (), (), (), (), (), ()), ())
def disk_Disk_names_f1.fn (N : Nat) (x : Sh.den disk_Disk_names_f1.ins) : Option (Sh.den disk_Disk_names_f1.outs) := disk_Disk_names_f1.run N x.1.1 x.1.2.2.2.2.1.1.1 x.1.2.2.2.2.1.1.2.1 x.1.2.2.2.2.1.1.2.2.1 x.1.2.2.2.2.1.1.2.2.2.1 x.1.2.2.2.2.1.1.2.2.2.2.1 x.1.2.2.2.2.1.1.2.2.2.2.2.1 x.1.2.2.2.2.2.1.1 x.1.2.2.2.2.2.2.1.1.1 x.1.2.2.2.2.2.2.1.1.2.1 x.1.2.2.2.2.2.2.1.1.2.2.1 x.1.2.2.2.2.2.2.1.1.2.2.2.1 x.1.2.2.2.2.2.2.1.1.2.2.2.2.1 x.1.2.2.2.2.2.2.1.1.2.2.2.2.2.1
def disk_Disk_names_f1.S (N : Nat) : Fs := ⟨disk_Disk_names_f1.ins, disk_Disk_names_f1.outs, disk_Disk_names_f1.fn N⟩
def disk_Disk_names_f1.lam (N : Nat) : Pcs := pcs [([true, false], (disk_Disk_names_f1_0.P N).pc (disk_Disk_names_f1.C N))]
theorem disk_Disk_names_f1.pok (N : Nat) : (disk_Disk_names_f1.lam N).Ok Try.prog (disk_Disk_names_f1.C N) disk_Disk_names_f1.code := pcsOk_cons (c1 := .loop disk_Disk_names_f1_0.code) (by kernel_rfl) (disk_Disk_names_f1_0.ok N) (pcsOk_nil)
theorem disk_Disk_names_f1.ev (N : Nat) (x : Sh.den disk_Disk_names_f1.ins) : evC (disk_Disk_names_f1.C N) disk_Disk_names_f1.code (disk_Disk_names_f1.lam N) ⟨envOf 0 (bld (fun k => k) disk_Disk_names_f1.ins x 0).1, (bld (fun k => k) disk_Disk_names_f1.ins x 0).2.1, 1000⟩ (endF U disk_Disk_names_f1.outs Try.f85.results.toList []) = disk_Disk_names_f1.fn N x := by kernel_rfl
theorem disk_Disk_names_f1.ok (N : Nat) : (disk_Disk_names_f1.S N).con.Ok Try.prog 85 := fn_ok (F := disk_Disk_names_f1.S N) (n0 := 1000) Try.func85 (by kernel_rfl) (show Try.f85.body = some disk_Disk_names_f1.code by rfl) mix (disk_Disk_names_f1.cok N) (fun _ => rfl) (fun _ => rfl) (disk_Disk_names_f1.pok N) (fun x y h => (disk_Disk_names_f1.ev N x).trans h)
/-- (*hayloft/disk.Disk).Crash -/
def disk_Disk_Crash.ins : Sh := (.cons (.box 75 (.cons (.val (.int .i64)) (.cons (.val (.int .i64)) (.cons (.own 3000000 (.pair .str (.pair (.slice .byte) (.int .i64)))) (.cons (.val (.int .i64)) (.cons (.val (.int .i64)) (.cons (.val .bool) .nil))))))) (.cons (.val (.slice (.int .i64))) .nil))
def disk_Disk_Crash.C (N : Nat) : Ctx := ⟨U, 54, fun _ => true, gam [(15, (disk_New.S N).con), (57, (disk_Disk_names.S N).con), (85, (disk_Disk_names_f1.S N).con)], gamY []⟩
theorem disk_Disk_Crash.cok (N : Nat) : (disk_Disk_Crash.C N).Ok Try.prog := ⟨U_ok, GamOk.cons (disk_New.ok N) (GamOk.cons (disk_Disk_names.ok N) (GamOk.cons (disk_Disk_names_f1.ok N) (GamOk.nil))), GamYOk.nil⟩
def disk_Disk_Crash.code : Code := Try.f26.body.getD .skip
def disk_Disk_Crash.outs : Sh := (.cons (.upd 0 75 (.cons (.val (.int .i64)) (.cons (.val (.int .i64)) (.cons (.own 3000000 (.pair .str (.pair (.slice .byte) (.int .i64)))) (.cons (.val (.int .i64)) (.cons (.val (.int .i64)) (.cons (.val .bool) .nil))))))) (.cons (.box 75 (.cons (.val (.int .i64)) (.cons (.val (.int .i64)) (.cons (.own 3000000 (.pair .str (.pair (.slice .byte) (.int .i64)))) (.cons (.val (.int .i64)) (.cons (.val (.int .i64)) (.cons (.val .bool) .nil))))))) .nil))
def disk_Disk_Crash.run (N : Nat) (room_ : Int) (used : Int) (files : (List ((List UInt8) × ((List UInt8) × Int)))) (steps : Int) (left : Int) (dead : Bool) (keep : (List Int)) : Option ((Int × Int × (List ((List UInt8) × ((List UInt8) × Int))) × Int × Int × Bool × Unit) × (Int × Int × (List ((List UInt8) × ((List UInt8) × Int))) × Int × Int × Bool × Unit) × Unit) :=
  obind (disk_New.run N room_) fun ((room1, used1, files1, steps1, left1, dead1, _), _) =>
    obind (disk_Disk_names.run N room_ used files steps left dead) fun ((room2, used2, files2, steps2, left2, dead2, _), ((_, _), _), _) =>
      obind (disk_Disk_names_f1.run N (0 : Int) room2 used2 files2 steps2 left2 dead2 keep room1 used1 files1 steps1 left1 dead1) fun ((v, _), (room3, used3, files3, steps3, left3, dead3, _), (v1, _, _, _, _, _, _, _), _) =>
        bif decide (v1 = (0 : Int)) then
          some ((room2, used2, files2, steps2, left2, dead2, ()), (room3, used3, files3, steps3, left3, dead3, ()), ())
        else none
def disk_Disk_Crash.fn (N : Nat) (x : Sh.den disk_Disk_Crash.ins) : Option (Sh.den disk_Disk_Crash.outs) := disk_Disk_Crash.run N x.1.1 x.1.2.1 x.1.2.2.1 x.1.2.2.2.1 x.1.2.2.2.2.1 x.1.2.2.2.2.2.1 x.2.1
def disk_Disk_Crash.S (N : Nat) : Fs := ⟨disk_Disk_Crash.ins, disk_Disk_Crash.outs, disk_Disk_Crash.fn N⟩
def disk_Disk_Crash.lam (N : Nat) : Pcs := pcs [([true, true, false, true, false], rfPc (disk_Disk_Crash.C N) 1000002 (.tmp 15) [2, 3, 5] [.normal])]
theorem disk_Disk_Crash.pok (N : Nat) : (disk_Disk_Crash.lam N).Ok Try.prog (disk_Disk_Crash.C N) disk_Disk_Crash.code := pcsOk_cons (c1 := .rangeFunc (.tmp 15) site2.ps site2.assign site2.body) (by kernel_rfl) (rf_ok (k := 2) (fun _ => rfl) (disk_Disk_Crash.cok N)) (pcsOk_nil)
theorem disk_Disk_Crash.ev (N : Nat) (x : Sh.den disk_Disk_Crash.ins) : evC (disk_Disk_Crash.C N) disk_Disk_Crash.code (disk_Disk_Crash.lam N) ⟨envOf 0 (bld (fun k => k) disk_Disk_Crash.ins x 0).1, (bld (fun k => k) disk_Disk_Crash.ins x 0).2.1, 1000⟩ (endF U disk_Disk_Crash.outs Try.f26.results.toList []) = disk_Disk_Crash.fn N x := by kernel_rfl
theorem disk_Disk_Crash.ok (N : Nat) : (disk_Disk_Crash.S N).con.Ok Try.prog 26 := fn_ok (F := disk_Disk_Crash.S N) (n0 := 1000) Try.func26 (by kernel_rfl) (show Try.f26.body = some disk_Disk_Crash.code by rfl) mix (disk_Disk_Crash.cok N) (fun _ => rfl) (fun _ => rfl) (disk_Disk_Crash.pok N) (fun x y h => (disk_Disk_Crash.ev N x).trans h)
/-- hayloft/hayloftref09.Same -/
def ref_Same_b.ins : Sh := (.cons (.rown 22 (.slice .byte)) (.cons (.val (.slice (.slice .byte))) .nil))
def ref_Same_b.C (N : Nat) : Ctx := ⟨U, 28, fun _ => true, gam [], gamY []⟩
theorem ref_Same_b.cok (N : Nat) : (ref_Same_b.C N).Ok Try.prog := ⟨U_ok, GamOk.nil, GamYOk.nil⟩
def ref_Same_b.code : Code := Try.f14.body.getD .skip
def ref_Same_b_0.ins : Sh := (.cons (.rown 22 (.slice .byte)) (.cons (.val (.slice (.slice .byte))) (.cons (.val (.int .i64)) .nil)))
def ref_Same_b_0.ts : List Tmp := [0, 1, 5]
def ref_Same_b_0.asg : List Tmp := [4, 5, 11, 12, 13, 14, 15, 16, 17, 18, 19, 20, 21, 22, 23, 24, 25, 26, 27]
def ref_Same_b_0.C (N : Nat) : Ctx := { ref_Same_b.C N with may := fun t => ref_Same_b_0.asg.any (Nat.beq t) }
def ref_Same_b_0.code : Code := loopBody (sub ref_Same_b.code [true, true, false, true, false])
theorem ref_Same_b_0.cok (N : Nat) : (ref_Same_b_0.C N).Ok Try.prog := ⟨(ref_Same_b.cok N).U, (ref_Same_b.cok N).Γ, (ref_Same_b.cok N).Y⟩
def ref_Same_b_0.alts : List Alt := [⟨.ret, [4], (.cons (.val .bool) .nil)⟩, ⟨(.exit 0), [], .nil⟩]
def ref_Same_b_0.go (N : Nat) : Nat → (List (List UInt8)) → (List (List UInt8)) → Int → Option ((Bool × Unit) ⊕ Unit)
  | 0, _, _, _ => none
  | fuel + 1, a, b, i =>
    bif decide (i < (a.length : Int)) then
      bif inB i a.length then
        bif decide (i.toNat < a.length) then
          bif inB i b.length then
            bif !(decide ((a.getD i.toNat ([] : List UInt8)) = (b.getD i.toNat ([] : List UInt8)))) then
              some (.inl (false, ()))
            else ref_Same_b_0.go N fuel a b (IntKind.i64.wrap (i + (1 : Int)))
          else none
        else none
      else none
    else some (.inr ())
def ref_Same_b_0.g (N n : Nat) (x : Sh.den ref_Same_b_0.ins) : Option (altsDen ref_Same_b_0.alts) := ref_Same_b_0.go N n x.1 x.2.1 x.2.2.1
def ref_Same_b_0.P (N : Nat) : Ps := ⟨ref_Same_b_0.ts, ref_Same_b_0.ins, ref_Same_b_0.asg, ref_Same_b_0.alts, ref_Same_b_0.g N N⟩
def ref_Same_b_0.lam (N : Nat) : Pcs := pcs []
theorem ref_Same_b_0.pok (N : Nat) : (ref_Same_b_0.lam N).Ok Try.prog (ref_Same_b_0.C N) ref_Same_b_0.code := pcsOk_nil
theorem ref_Same_b_0.ev (N n : Nat) (x : Sh.den ref_Same_b_0.ins) : evC (ref_Same_b_0.C N) ref_Same_b_0.code (ref_Same_b_0.lam N) ((ref_Same_b_0.P N).canon 1000 x) (loopK (ref_Same_b_0.P N) (ref_Same_b_0.g N n)) = ref_Same_b_0.g N (n + 1) x := by kernel_rfl
theorem ref_Same_b_0.ok (N : Nat) : ((ref_Same_b_0.P N).pc (ref_Same_b.C N)).Ok Try.prog (ref_Same_b.C N) (.loop ref_Same_b_0.code) := loop_ok (F := ref_Same_b_0.P N) (n0 := 1000) (N := N) (ref_Same_b.cok N) mix (ref_Same_b_0.pok N) (ref_Same_b_0.g N) (fun x => by rfl) rfl (fun n x y h => (ref_Same_b_0.ev N n x).trans h)
def ref_Same_b.outs : Sh := (.cons (.val .bool) .nil)
def ref_Same_b.run (N : Nat) (a : (List (List UInt8))) (b : (List (List UInt8))) : Option (Bool × Unit) :=
  bif !(decide ((a.length : Int) = (b.length : Int))) then
    some (false, ())
  else
    obind (ref_Same_b_0.go N N a b (0 : Int)) fun y => match y with
    | .inl (t4, _) =>
        some (t4, ())
    | .inr (_) =>
        some (true, ())
def ref_Same_b.fn (N : Nat) (x : Sh.den ref_Same_b.ins) : Option (Sh.den ref_Same_b.outs) := ref_Same_b.run N x.1 x.2.1
def ref_Same_b.S (N : Nat) : Fs := ⟨ref_Same_b.ins, ref_Same_b.outs, ref_Same_b.fn N⟩
def ref_Same_b.lam (N : Nat) : Pcs := pcs [([true, true, false, true, false], (ref_Same_b_0.P N).pc (ref_Same_b.C N))]
theorem ref_Same_b.pok (N : Nat) : (ref_Same_b.lam N).Ok Try.prog (ref_Same_b.C N) ref_Same_b.code := pcsOk_cons (c1 := .loop ref_Same_b_0.code) (by kernel_rfl) (ref_Same_b_0.ok N) (pcsOk_nil)
theorem ref_Same_b.ev (N : Nat) (x : Sh.den ref_Same_b.ins) : evC (ref_Same_b.C N) ref_Same_b.code (ref_Same_b.lam N) ⟨envOf 0 (bld (fun k => k) ref_Same_b.ins x 0).1, (bld (fun k => k) ref_Same_b.ins x 0).2.1, 1000⟩ (endF U ref_Same_b.outs Try.f14.results.toList []) = ref_Same_b.fn N x := by kernel_rfl
theorem ref_Same_b.ok (N : Nat) : (ref_Same_b.S N).con.Ok Try.prog 14 := fn_ok (F := ref_Same_b.S N) (n0 := 1000) Try.func14 (by kernel_rfl) (show Try.f14.body = some ref_Same_b.code by rfl) mix (ref_Same_b.cok N) (fun _ => rfl) (fun _ => rfl) (ref_Same_b.pok N) (fun x y h => (ref_Same_b.ev N x).trans h)
/-- hayloft/hayloftlaw09.RedoCrash -/
def law_RedoCrash.ins : Sh := (.cons (.val (.slice (.slice (.slice .byte)))) (.cons (.val (.pair (.int .i64) (.slice (.int .i64)))) (.cons (.val (.pair (.int .i64) (.slice (.int .i64)))) .nil)))
def law_RedoCrash.C (N : Nat) : Ctx := ⟨U, 118, fun _ => true, gam [(15, (disk_New.S N).con), (13, (law_alive.S N).con), (16, (redo_Create.S N).con), (24, (disk_Disk_Arm.S N).con), (25, (disk_Disk_Dead.S N).con), (17, (redo_Log_Append_b.S N).con), (26, (disk_Disk_Crash.S N).con), (20, (redo_Open.S N).con), (19, (law_gone.S N).con), (14, (ref_Same_b.S N).con)], gamY []⟩
theorem law_RedoCrash.cok (N : Nat) : (law_RedoCrash.C N).Ok Try.prog := ⟨U_ok, GamOk.cons (disk_New.ok N) (GamOk.cons (law_alive.ok N) (GamOk.cons (redo_Create.ok N) (GamOk.cons (disk_Disk_Arm.ok N) (GamOk.cons (disk_Disk_Dead.ok N) (GamOk.cons (redo_Log_Append_b.ok N) (GamOk.cons (disk_Disk_Crash.ok N) (GamOk.cons (redo_Open.ok N) (GamOk.cons (law_gone.ok N) (GamOk.cons (ref_Same_b.ok N) (GamOk.nil)))))))))), GamYOk.nil⟩
def law_RedoCrash.code : Code := Try.f8.body.getD .skip
def law_RedoCrash_0.ins : Sh := (.cons (.box 75 (.cons (.val (.int .i64)) (.cons (.val (.int .i64)) (.cons (.own 3000000 (.pair .str (.pair (.slice .byte) (.int .i64)))) (.cons (.val (.int .i64)) (.cons (.val (.int .i64)) (.cons (.val .bool) .nil))))))) .nil)
def law_RedoCrash_0.ts : List Tmp := [7]
def law_RedoCrash_0.asg : List Tmp := [8, 9, 35, 36, 37, 38, 39]
def law_RedoCrash_0.C (N : Nat) : Ctx := { law_RedoCrash.C N with may := fun t => law_RedoCrash_0.asg.any (Nat.beq t) }
def law_RedoCrash_0.code : Code := (sub law_RedoCrash.code [true, true, true, false]).getD .skip
theorem law_RedoCrash_0.cok (N : Nat) : (law_RedoCrash_0.C N).Ok Try.prog := ⟨(law_RedoCrash.cok N).U, (law_RedoCrash.cok N).Γ, (law_RedoCrash.cok N).Y⟩
def law_RedoCrash_0.alts : List Alt := [⟨.normal, [8, 9], (.cons (.upd 0 75 (.cons (.val (.int .i64)) (.cons (.val (.int .i64)) (.cons (.own 3000000 (.pair .str (.pair (.slice .byte) (.int .i64)))) (.cons (.val (.int .i64)) (.cons (.val (.int .i64)) (.cons (.val .bool) .nil))))))) (.cons (.nilp) (.cons (.val (.int .i64)) .nil)))⟩, ⟨.normal, [8, 9], (.cons (.upd 0 75 (.cons (.val (.int .i64)) (.cons (.val (.int .i64)) (.cons (.own 3000000 (.pair .str (.pair (.slice .byte) (.int .i64)))) (.cons (.val (.int .i64)) (.cons (.val (.int .i64)) (.cons (.val .bool) .nil))))))) (.cons (.box 80 (.cons (.ref 0) (.cons (.val .str) (.cons (.own 22 (.slice .byte)) (.cons (.val (.int .i64)) .nil))))) (.cons (.val (.int .i64)) .nil)))⟩]
def law_RedoCrash_0.run (N : Nat) (room_ : Int) (used : Int) (files : (List ((List UInt8) × ((List UInt8) × Int)))) (steps : Int) (left : Int) (dead : Bool) : Option (((Int × Int × (List ((List UInt8) × ((List UInt8) × Int))) × Int × Int × Bool × Unit) × Unit × Int × Unit) ⊕ ((Int × Int × (List ((List UInt8) × ((List UInt8) × Int))) × Int × Int × Bool × Unit) × (Unit × (List UInt8) × (List (List UInt8)) × Int × Unit) × Int × Unit)) :=
  obind (redo_Create.run N room_ used files steps left dead ([(108 : UInt8), (111 : UInt8), (103 : UInt8)] : List UInt8)) fun y => match y with
  | .inl ((room1, used1, files1, steps1, left1, dead1, _), _, n_, _) =>
      some (.inl ((room1, used1, files1, steps1, left1, dead1, ()), (), n_, ()))
  | .inr ((room2, used2, files2, steps2, left2, dead2, _), (_, name, l, size, _), n1, _) =>
      some (.inr ((room2, used2, files2, steps2, left2, dead2, ()), ((), name, l, size, ()), n1, ()))
def law_RedoCrash_0.fn (N : Nat) (x : Sh.den law_RedoCrash_0.ins) : Option (altsDen law_RedoCrash_0.alts) := law_RedoCrash_0.run N x.1.1 x.1.2.1 x.1.2.2.1 x.1.2.2.2.1 x.1.2.2.2.2.1 x.1.2.2.2.2.2.1
def law_RedoCrash_0.P (N : Nat) : Ps := ⟨law_RedoCrash_0.ts, law_RedoCrash_0.ins, law_RedoCrash_0.asg, law_RedoCrash_0.alts, law_RedoCrash_0.fn N⟩
def law_RedoCrash_0.lam (N : Nat) : Pcs := pcs []
theorem law_RedoCrash_0.pok (N : Nat) : (law_RedoCrash_0.lam N).Ok Try.prog (law_RedoCrash_0.C N) law_RedoCrash_0.code := pcsOk_nil
theorem law_RedoCrash_0.ev (N : Nat) (x : Sh.den law_RedoCrash_0.ins) : evC (law_RedoCrash_0.C N) law_RedoCrash_0.code (law_RedoCrash_0.lam N) ((law_RedoCrash_0.P N).canon 1000 x) (altK (law_RedoCrash_0.P N).alts) = law_RedoCrash_0.fn N x := by kernel_rfl
theorem law_RedoCrash_0.ok (N : Nat) : ((law_RedoCrash_0.P N).pc (law_RedoCrash.C N)).Ok Try.prog (law_RedoCrash.C N) law_RedoCrash_0.code := ps_ok (F := law_RedoCrash_0.P N) (n0 := 1000) (law_RedoCrash.cok N) mix (law_RedoCrash_0.pok N) (fun x y h => (law_RedoCrash_0.ev N x).trans h)
def law_RedoCrash_1.ins : Sh := (.cons (.box 75 (.cons (.val (.int .i64)) (.cons (.val (.int .i64)) (.cons (.own 3000000 (.pair .str (.pair (.slice .byte) (.int .i64)))) (.cons (.val (.int .i64)) (.cons (.val (.int .i64)) (.cons (.val .bool) .nil))))))) (.cons (.box 80 (.cons (.ref 0) (.cons (.val .str) (.cons (.own 22 (.slice .byte)) (.cons (.val (.int .i64)) .nil))))) (.cons (.val (.slice (.slice .byte))) (.cons (.val (.slice (.slice .byte))) (.cons (.val (.slice (.slice (.slice .byte)))) (.cons (.val (.int .i64)) (.cons (.val (.int .i64)) .nil)))))))
def law_RedoCrash_1.ts : List Tmp := [7, 8, 10, 11, 50, 51, 52]
def law_RedoCrash_1.asg : List Tmp := [10, 11, 13, 52, 53, 54, 55, 56, 57, 58, 59, 60, 61, 62, 63, 64, 65, 66, 67, 68, 69, 70, 71]
def law_RedoCrash_1.C (N : Nat) : Ctx := { law_RedoCrash.C N with may := fun t => law_RedoCrash_1.asg.any (Nat.beq t) }
def law_RedoCrash_1.code : Code := loopBody (sub law_RedoCrash.code [true, true, true, true, true, true, true, false, true, false])
theorem law_RedoCrash_1.cok (N : Nat) : (law_RedoCrash_1.C N).Ok Try.prog := ⟨(law_RedoCrash.cok N).U, (law_RedoCrash.cok N).Γ, (law_RedoCrash.cok N).Y⟩
def law_RedoCrash_1.alts : List Alt := [⟨(.exit 0), [10, 11], (.cons (.upd 0 75 (.cons (.val (.int .i64)) (.cons (.val (.int .i64)) (.cons (.own 3000000 (.pair .str (.pair (.slice .byte) (.int .i64)))) (.cons (.val (.int .i64)) (.cons (.val (.int .i64)) (.cons (.val .bool) .nil))))))) (.cons (.upd 2 80 (.cons (.ref 0) (.cons (.val .str) (.cons (.own 22 (.slice .byte)) (.cons (.val (.int .i64)) .nil))))) (.cons (.val (.slice (.slice .byte))) (.cons (.val (.slice (.slice .byte))) .nil))))⟩]
def law_RedoCrash_1.go (N : Nat) : Nat → Int → Int → (List ((List UInt8) × ((List UInt8) × Int))) → Int → Int → Bool → (List UInt8) → (List (List UInt8)) → Int → (List (List UInt8)) → (List (List UInt8)) → (List (List (List UInt8))) → Int → Int → Option (((Int × Int × (List ((List UInt8) × ((List UInt8) × Int))) × Int × Int × Bool × Unit) × (Unit × (List UInt8) × (List (List UInt8)) × Int × Unit) × (List (List UInt8)) × (List (List UInt8)) × Unit))
  | 0, _, _, _, _, _, _, _, _, _, _, _, _, _, _ => none
  | fuel + 1, room_, used, files, steps, left, dead, name, l, size, have_, more, t50, t51, t52 =>
    bif decide (t52 < t51) then
      bif inB t52 t50.length then
        obind (disk_Disk_Dead.run N room_ used files steps left dead) fun (b, _) =>
          bif b then
            some ((room_, used, files, steps, left, dead, ()), ((), name, l, size, ()), have_, more, ())
          else
            bif room have_.length 24 then
              bif room (have_.length + (t50.getD t52.toNat ([] : List (List UInt8))).length) 24 then
                obind (redo_Log_Append_b.run N room_ used files steps left dead name l size (t50.getD t52.toNat ([] : List (List UInt8)))) fun ((room1, used1, files1, steps1, left1, dead1, _), (_, name1, l1, size1, _), n_, _) =>
                  bif decide (n_ = (0 : Int)) then
                    law_RedoCrash_1.go N fuel room1 used1 files1 steps1 left1 dead1 name1 l1 size1 (have_ ++ (t50.getD t52.toNat ([] : List (List UInt8)))) (have_ ++ (t50.getD t52.toNat ([] : List (List UInt8)))) t50 t51 (IntKind.i64.wrap (t52 + (1 : Int)))
                  else
                    obind (disk_Disk_Dead.run N room1 used1 files1 steps1 left1 dead1) fun (b1, _) =>
                      bif !b1 then
                        law_RedoCrash_1.go N fuel room1 used1 files1 steps1 left1 dead1 name1 l1 size1 have_ have_ t50 t51 (IntKind.i64.wrap (t52 + (1 : Int)))
                      else law_RedoCrash_1.go N fuel room1 used1 files1 steps1 left1 dead1 name1 l1 size1 have_ (have_ ++ (t50.getD t52.toNat ([] : List (List UInt8)))) t50 t51 (IntKind.i64.wrap (t52 + (1 : Int)))
              else none
            else none
      else none
    else some ((room_, used, files, steps, left, dead, ()), ((), name, l, size, ()), have_, more, ())
def law_RedoCrash_1.g (N n : Nat) (x : Sh.den law_RedoCrash_1.ins) : Option (altsDen law_RedoCrash_1.alts) := law_RedoCrash_1.go N n x.1.1 x.1.2.1 x.1.2.2.1 x.1.2.2.2.1 x.1.2.2.2.2.1 x.1.2.2.2.2.2.1 x.2.1.2.1 x.2.1.2.2.1 x.2.1.2.2.2.1 x.2.2.1 x.2.2.2.1 x.2.2.2.2.1 x.2.2.2.2.2.1 x.2.2.2.2.2.2.1
def law_RedoCrash_1.P (N : Nat) : Ps := ⟨law_RedoCrash_1.ts, law_RedoCrash_1.ins, law_RedoCrash_1.asg, law_RedoCrash_1.alts, law_RedoCrash_1.g N N⟩
def law_RedoCrash_1.lam (N : Nat) : Pcs := pcs []
theorem law_RedoCrash_1.pok (N : Nat) : (law_RedoCrash_1.lam N).Ok Try.prog (law_RedoCrash_1.C N) law_RedoCrash_1.code := pcsOk_nil
theorem law_RedoCrash_1.ev (N n : Nat) (x : Sh.den law_RedoCrash_1.ins) : evC (law_RedoCrash_1.C N) law_RedoCrash_1.code (law_RedoCrash_1.lam N) ((law_RedoCrash_1.P N).canon 1000 x) (loopK (law_RedoCrash_1.P N) (law_RedoCrash_1.g N n)) = law_RedoCrash_1.g N (n + 1) x := by kernel_rfl
theorem law_RedoCrash_1.ok (N : Nat) : ((law_RedoCrash_1.P N).pc (law_RedoCrash.C N)).Ok Try.prog (law_RedoCrash.C N) (.loop law_RedoCrash_1.code) := loop_ok (F := law_RedoCrash_1.P N) (n0 := 1000) (N := N) (law_RedoCrash.cok N) mix (law_RedoCrash_1.pok N) (law_RedoCrash_1.g N) (fun x => by rfl) rfl (fun n x y h => (law_RedoCrash_1.ev N n x).trans h)
def law_RedoCrash_2.ins : Sh := (.cons (.box 75 (.cons (.val (.int .i64)) (.cons (.val (.int .i64)) (.cons (.own 3000000 (.pair .str (.pair (.slice .byte) (.int .i64)))) (.cons (.val (.int .i64)) (.cons (.val (.int .i64)) (.cons (.val .bool) .nil))))))) .nil)
def law_RedoCrash_2.ts : List Tmp := [14]
def law_RedoCrash_2.asg : List Tmp := [9, 15, 82, 83, 84, 85, 86]
def law_RedoCrash_2.C (N : Nat) : Ctx := { law_RedoCrash.C N with may := fun t => law_RedoCrash_2.asg.any (Nat.beq t) }
def law_RedoCrash_2.code : Code := (sub law_RedoCrash.code [true, true, true, true, true, true, true, true, true, true, true, false]).getD .skip
theorem law_RedoCrash_2.cok (N : Nat) : (law_RedoCrash_2.C N).Ok Try.prog := ⟨(law_RedoCrash.cok N).U, (law_RedoCrash.cok N).Γ, (law_RedoCrash.cok N).Y⟩
def law_RedoCrash_2.alts : List Alt := [⟨.normal, [9, 15], (.cons (.upd 0 75 (.cons (.val (.int .i64)) (.cons (.val (.int .i64)) (.cons (.own 3000000 (.pair .str (.pair (.slice .byte) (.int .i64)))) (.cons (.val (.int .i64)) (.cons (.val (.int .i64)) (.cons (.val .bool) .nil))))))) (.cons (.val (.int .i64)) (.cons (.nilp) .nil)))⟩, ⟨.normal, [9, 15], (.cons (.upd 0 75 (.cons (.val (.int .i64)) (.cons (.val (.int .i64)) (.cons (.own 3000000 (.pair .str (.pair (.slice .byte) (.int .i64)))) (.cons (.val (.int .i64)) (.cons (.val (.int .i64)) (.cons (.val .bool) .nil))))))) (.cons (.val (.int .i64)) (.cons (.box 80 (.cons (.ref 0) (.cons (.val .str) (.cons (.own 22 (.slice .byte)) (.cons (.val (.int .i64)) .nil))))) .nil)))⟩]
def law_RedoCrash_2.run (N : Nat) (room_ : Int) (used : Int) (files : (List ((List UInt8) × ((List UInt8) × Int)))) (steps : Int) (left : Int) (dead : Bool) : Option (((Int × Int × (List ((List UInt8) × ((List UInt8) × Int))) × Int × Int × Bool × Unit) × Int × Unit × Unit) ⊕ ((Int × Int × (List ((List UInt8) × ((List UInt8) × Int))) × Int × Int × Bool × Unit) × Int × (Unit × (List UInt8) × (List (List UInt8)) × Int × Unit) × Unit)) :=
  obind (redo_Open.run N room_ used files steps left dead ([(108 : UInt8), (111 : UInt8), (103 : UInt8)] : List UInt8)) fun y => match y with
  | .inl ((room1, used1, files1, steps1, left1, dead1, _), _, n_, _) =>
      some (.inl ((room1, used1, files1, steps1, left1, dead1, ()), n_, (), ()))
  | .inr ((room2, used2, files2, steps2, left2, dead2, _), (_, name, l, size, _), n1, _) =>
      some (.inr ((room2, used2, files2, steps2, left2, dead2, ()), n1, ((), name, l, size, ()), ()))
def law_RedoCrash_2.fn (N : Nat) (x : Sh.den law_RedoCrash_2.ins) : Option (altsDen law_RedoCrash_2.alts) := law_RedoCrash_2.run N x.1.1 x.1.2.1 x.1.2.2.1 x.1.2.2.2.1 x.1.2.2.2.2.1 x.1.2.2.2.2.2.1
def law_RedoCrash_2.P (N : Nat) : Ps := ⟨law_RedoCrash_2.ts, law_RedoCrash_2.ins, law_RedoCrash_2.asg, law_RedoCrash_2.alts, law_RedoCrash_2.fn N⟩
def law_RedoCrash_2.lam (N : Nat) : Pcs := pcs []
theorem law_RedoCrash_2.pok (N : Nat) : (law_RedoCrash_2.lam N).Ok Try.prog (law_RedoCrash_2.C N) law_RedoCrash_2.code := pcsOk_nil
theorem law_RedoCrash_2.ev (N : Nat) (x : Sh.den law_RedoCrash_2.ins) : evC (law_RedoCrash_2.C N) law_RedoCrash_2.code (law_RedoCrash_2.lam N) ((law_RedoCrash_2.P N).canon 1000 x) (altK (law_RedoCrash_2.P N).alts) = law_RedoCrash_2.fn N x := by kernel_rfl
theorem law_RedoCrash_2.ok (N : Nat) : ((law_RedoCrash_2.P N).pc (law_RedoCrash.C N)).Ok Try.prog (law_RedoCrash.C N) law_RedoCrash_2.code := ps_ok (F := law_RedoCrash_2.P N) (n0 := 1000) (law_RedoCrash.cok N) mix (law_RedoCrash_2.pok N) (fun x y h => (law_RedoCrash_2.ev N x).trans h)
def law_RedoCrash.outs : Sh := (.cons (.val .bool) .nil)
def law_RedoCrash.run (N : Nat) (l : (List (List (List UInt8)))) (c : (Int × (List Int))) (again : (Int × (List Int))) : Option (Bool × Unit) :=
  obind (disk_New.run N (1125899906842624 : Int)) fun ((room_, used, files, steps, left, dead, _), _) =>
    obind (law_alive.run N) fun (b, _) =>
      bif !b then
        obind (law_alive.run N) fun (b1, _) =>
          some (b1, ())
      else
        bif decide (c.1 < (0 : Int)) then
          obind (law_alive.run N) fun (b2, _) =>
            some (b2, ())
        else
          bif decide (again.1 < (0 : Int)) then
            obind (law_alive.run N) fun (b3, _) =>
              some (b3, ())
          else
            obind (law_RedoCrash_0.run N room_ used files steps left dead) fun y => match y with
            | .inl ((room1, used1, files1, steps1, left1, dead1, _), _, e, _) =>
                bif !(decide (e = (0 : Int))) then
                  some (false, ())
                else some (false, ())
            | .inr ((room2, used2, files2, steps2, left2, dead2, _), (_, name, l1, size, _), e1, _) =>
                bif !(decide (e1 = (0 : Int))) then
                  some (false, ())
                else
                  obind (disk_Disk_Arm.run N room2 used2 files2 steps2 left2 dead2 c.1) fun ((room3, used3, files3, steps3, left3, dead3, _), _) =>
                    obind (law_RedoCrash_1.go N N room3 used3 files3 steps3 left3 dead3 name l1 size ([] : List (List UInt8)) ([] : List (List UInt8)) l (l.length : Int) (0 : Int)) fun ((room4, used4, files4, steps4, left4, dead4, _), (_, name1, l2, size1, _), have_, more, _) =>
                      obind (disk_Disk_Crash.run N room4 used4 files4 steps4 left4 dead4 c.2) fun ((room5, used5, files5, steps5, left5, dead5, _), (room6, used6, files6, steps6, left6, dead6, _), _) =>
                        obind (disk_Disk_Arm.run N room6 used6 files6 steps6 left6 dead6 again.1) fun ((room7, used7, files7, steps7, left7, dead7, _), _) =>
                          obind (law_RedoCrash_2.run N room7 used7 files7 steps7 left7 dead7) fun y => match y with
                          | .inl ((room8, used8, files8, steps8, left8, dead8, _), e2, _, _) =>
                              obind (disk_Disk_Dead.run N room8 used8 files8 steps8 left8 dead8) fun (b4, _) =>
                                bif b4 then
                                  bif !(decide (e2 = (44 : Int))) then
                                    some (false, ())
                                  else
                                    obind (disk_Disk_Crash.run N room8 used8 files8 steps8 left8 dead8 again.2) fun ((room10, used10, files10, steps10, left10, dead10, _), (room11, used11, files11, steps11, left11, dead11, _), _) =>
                                      obind (redo_Open.run N room11 used11 files11 steps11 left11 dead11 ([(108 : UInt8), (111 : UInt8), (103 : UInt8)] : List UInt8)) fun y => match y with
                                      | .inl ((room12, used12, files12, steps12, left12, dead12, _), _, n_, _) =>
                                          bif !(decide (n_ = (0 : Int))) then
                                            some (false, ())
                                          else some (false, ())
                                      | .inr ((room13, used13, files13, steps13, left13, dead13, _), (_, name3, l4, size3, _), n1, _) =>
                                          bif !(decide (n1 = (0 : Int))) then
                                            some (false, ())
                                          else
                                            obind (law_gone.run N room13 used13 files13 steps13 left13 dead13 name3 l4 size3) fun ((room14, used14, files14, steps14, left14, dead14, _), (_, name4, l5, size4, _), l6, _) =>
                                              obind (ref_Same_b.run N l6 have_) fun (b5, _) =>
                                                bif b5 then
                                                  some (true, ())
                                                else
                                                  obind (ref_Same_b.run N l6 more) fun (b6, _) =>
                                                    some (b6, ())
                                else
                                  bif !(decide (e2 = (0 : Int))) then
                                    some (false, ())
                                  else some (false, ())
                          | .inr ((room9, used9, files9, steps9, left9, dead9, _), e3, (_, name2, l3, size2, _), _) =>
                              obind (disk_Disk_Dead.run N room9 used9 files9 steps9 left9 dead9) fun (b7, _) =>
                                bif b7 then
                                  bif !(decide (e3 = (44 : Int))) then
                                    some (false, ())
                                  else
                                    obind (disk_Disk_Crash.run N room9 used9 files9 steps9 left9 dead9 again.2) fun ((room15, used15, files15, steps15, left15, dead15, _), (room16, used16, files16, steps16, left16, dead16, _), _) =>
                                      obind (redo_Open.run N room16 used16 files16 steps16 left16 dead16 ([(108 : UInt8), (111 : UInt8), (103 : UInt8)] : List UInt8)) fun y => match y with
                                      | .inl ((room17, used17, files17, steps17, left17, dead17, _), _, n2, _) =>
                                          bif !(decide (n2 = (0 : Int))) then
                                            some (false, ())
                                          else some (false, ())
                                      | .inr ((room18, used18, files18, steps18, left18, dead18, _), (_, name5, l7, size5, _), n3, _) =>
                                          bif !(decide (n3 = (0 : Int))) then
                                            some (false, ())
                                          else
                                            obind (law_gone.run N room18 used18 files18 steps18 left18 dead18 name5 l7 size5) fun ((room19, used19, files19, steps19, left19, dead19, _), (_, name6, l8, size6, _), l9, _) =>
                                              obind (ref_Same_b.run N l9 have_) fun (b8, _) =>
                                                bif b8 then
                                                  some (true, ())
                                                else
                                                  obind (ref_Same_b.run N l9 more) fun (b9, _) =>
                                                    some (b9, ())
                                else
                                  bif !(decide (e3 = (0 : Int))) then
                                    some (false, ())
                                  else
                                    obind (law_gone.run N room9 used9 files9 steps9 left9 dead9 name2 l3 size2) fun ((room20, used20, files20, steps20, left20, dead20, _), (_, name7, l10, size7, _), l11, _) =>
                                      obind (ref_Same_b.run N l11 have_) fun (b10, _) =>
                                        bif b10 then
                                          some (true, ())
                                        else
                                          obind (ref_Same_b.run N l11 more) fun (b11, _) =>
                                            some (b11, ())
def law_RedoCrash.fn (N : Nat) (x : Sh.den law_RedoCrash.ins) : Option (Sh.den law_RedoCrash.outs) := law_RedoCrash.run N x.1 x.2.1 x.2.2.1
def law_RedoCrash.S (N : Nat) : Fs := ⟨law_RedoCrash.ins, law_RedoCrash.outs, law_RedoCrash.fn N⟩
def law_RedoCrash.lam (N : Nat) : Pcs := pcs [([true, true, true, false], (law_RedoCrash_0.P N).pc (law_RedoCrash.C N)), ([true, true, true, true, true, true, true, false, true, false], (law_RedoCrash_1.P N).pc (law_RedoCrash.C N)), ([true, true, true, true, true, true, true, true, true, true, true, false], (law_RedoCrash_2.P N).pc (law_RedoCrash.C N))]
theorem law_RedoCrash.pok (N : Nat) : (law_RedoCrash.lam N).Ok Try.prog (law_RedoCrash.C N) law_RedoCrash.code := pcsOk_cons (c1 := law_RedoCrash_0.code) (by kernel_rfl) (law_RedoCrash_0.ok N) (pcsOk_cons (c1 := .loop law_RedoCrash_1.code) (by kernel_rfl) (law_RedoCrash_1.ok N) (pcsOk_cons (c1 := law_RedoCrash_2.code) (by kernel_rfl) (law_RedoCrash_2.ok N) (pcsOk_nil)))
theorem law_RedoCrash.ev (N : Nat) (x : Sh.den law_RedoCrash.ins) : evC (law_RedoCrash.C N) law_RedoCrash.code (law_RedoCrash.lam N) ⟨envOf 0 (bld (fun k => k) law_RedoCrash.ins x 0).1, (bld (fun k => k) law_RedoCrash.ins x 0).2.1, 1000⟩ (endF U law_RedoCrash.outs Try.f8.results.toList []) = law_RedoCrash.fn N x := by kernel_rfl
theorem law_RedoCrash.ok (N : Nat) : (law_RedoCrash.S N).con.Ok Try.prog 8 := fn_ok (F := law_RedoCrash.S N) (n0 := 1000) Try.func8 (by kernel_rfl) (show Try.f8.body = some law_RedoCrash.code by rfl) mix (law_RedoCrash.cok N) (fun _ => rfl) (fun _ => rfl) (law_RedoCrash.pok N) (fun x y h => (law_RedoCrash.ev N x).trans h)
end
end Go.Hay.Ythlojpcjafefjaa
