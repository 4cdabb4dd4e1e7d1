/- Functions of the program as functions of Lean, and that they are what the program computes. Conditions: none. -/
import Derived.Test.YtccbcmamcdegmaaFa
set_option linter.unusedVariables false
namespace Go.Hay.Ytccbcmamcdegmaa
open Go Go.Hay Go.Proofs
noncomputable section
set_option maxRecDepth 100000
theorem law_step_b.ok (N : Nat) : (law_step_b.S N).con.Ok Try.prog 30 := fn_ok (F := law_step_b.S N) (n0 := 1000) Try.func30 (by kernel_rfl) (show Try.f30.body = some law_step_b.code by rfl) mix (law_step_b.cok N) (fun _ => rfl) (fun _ => rfl) (law_step_b.pok N) (fun x y h => (law_step_b.ev N x).trans h)
/-- hayloft/hayloftlaw04.stepped -/
def law_stepped.ins : Sh := (.cons (.box 67 (.cons (.val (.int .i64)) (.cons (.val (.int .i64)) (.cons (.own 3000000 (.pair .str (.pair (.slice .byte) (.int .i64)))) (.cons (.val (.int .i64)) (.cons (.val (.int .i64)) (.cons (.val .bool) .nil))))))) (.cons (.val (.pair (.int .i64) (.pair (.int .i64) (.pair (.slice (.pair .str (.pair (.slice .byte) (.int .i64)))) (.pair .bool (.pair .bool (.int .i64))))))) (.cons (.val (.pair (.int .i64) (.pair .str (.pair .str (.pair (.slice .byte) (.pair (.int .i64) (.pair (.int .i64) (.slice (.int .i64))))))))) .nil)))
def law_stepped.C (N : Nat) : Ctx := ⟨U, 21, fun _ => true, gam [(30, (law_step_b.S N).con)], gamY []⟩
theorem law_stepped.cok (N : Nat) : (law_stepped.C N).Ok Try.prog := ⟨U_ok, GamOk.cons (law_step_b.ok N) (GamOk.nil), GamYOk.nil⟩
def law_stepped.code : Code := Try.f26.body.getD .skip
def law_stepped.outs : Sh := (.cons (.upd 0 67 (.cons (.val (.int .i64)) (.cons (.val (.int .i64)) (.cons (.own 3000000 (.pair .str (.pair (.slice .byte) (.int .i64)))) (.cons (.val (.int .i64)) (.cons (.val (.int .i64)) (.cons (.val .bool) .nil))))))) (.cons (.val (.pair (.int .i64) (.pair (.int .i64) (.pair (.slice (.pair .str (.pair (.slice .byte) (.int .i64)))) (.pair .bool (.pair .bool (.int .i64))))))) (.cons (.val .bool) .nil)))
def law_stepped.run (N : Nat) (room_ : Int) (used : Int) (files : (List ((List UInt8) × ((List UInt8) × Int)))) (steps : Int) (left : Int) (dead : Bool) (r : (Int × (Int × ((List ((List UInt8) × ((List UInt8) × Int))) × (Bool × (Bool × Int)))))) (o : (Int × ((List UInt8) × ((List UInt8) × ((List UInt8) × (Int × (Int × (List Int)))))))) : Option ((Int × Int × (List ((List UInt8) × ((List UInt8) × Int))) × Int × Int × Bool × Unit) × (Int × (Int × ((List ((List UInt8) × ((List UInt8) × Int))) × (Bool × (Bool × Int))))) × Bool × Unit) :=
  obind (law_step_b.run N room_ used files steps left dead r o) fun ((room1, used1, files1, steps1, left1, dead1, _), _, v, b, _) =>
    some ((room1, used1, files1, steps1, left1, dead1, ()), v, b, ())
def law_stepped.fn (N : Nat) (x : Sh.den law_stepped.ins) : Option (Sh.den law_stepped.outs) := law_stepped.run N x.1.1 x.1.2.1 x.1.2.2.1 x.1.2.2.2.1 x.1.2.2.2.2.1 x.1.2.2.2.2.2.1 x.2.1 x.2.2.1
def law_stepped.S (N : Nat) : Fs := ⟨law_stepped.ins, law_stepped.outs, law_stepped.fn N⟩
def law_stepped.lam (N : Nat) : Pcs := pcs []
theorem law_stepped.pok (N : Nat) : (law_stepped.lam N).Ok Try.prog (law_stepped.C N) law_stepped.code := pcsOk_nil
theorem law_stepped.ev (N : Nat) (x : Sh.den law_stepped.ins) : evC (law_stepped.C N) law_stepped.code (law_stepped.lam N) ⟨envOf 0 (bld (fun k => k) law_stepped.ins x 0).1, (bld (fun k => k) law_stepped.ins x 0).2.1, 1000⟩ (endF U law_stepped.outs Try.f26.results.toList []) = law_stepped.fn N x := by kernel_rfl
theorem law_stepped.ok (N : Nat) : (law_stepped.S N).con.Ok Try.prog 26 := fn_ok (F := law_stepped.S N) (n0 := 1000) Try.func26 (by kernel_rfl) (show Try.f26.body = some law_stepped.code by rfl) mix (law_stepped.cok N) (fun _ => rfl) (fun _ => rfl) (law_stepped.pok N) (fun x y h => (law_stepped.ev N x).trans h)
/-- hayloft/hayloftlaw04.DiskLasts -/
def law_DiskLasts.ins : Sh := (.cons (.val (.int .i64)) (.cons (.val (.slice (.pair (.int .i64) (.pair .str (.pair .str (.pair (.slice .byte) (.pair (.int .i64) (.pair (.int .i64) (.slice (.int .i64)))))))))) (.cons (.val (.slice (.int .i64))) .nil)))
def law_DiskLasts.C (N : Nat) : Ctx := ⟨U, 118, fun _ => true, gam [(11, (law_begun.S N).con), (16, (ref_New.S N).con), (26, (law_stepped.S N).con), (27, (disk_Disk_Crash.S N).con), (22, (disk_Disk_Dead.S N).con), (23, (disk_Disk_Steps.S N).con), (14, (disk_Disk_Names.S N).con), (13, (disk_Disk_Read.S N).con)], gamY []⟩
theorem law_DiskLasts.cok (N : Nat) : (law_DiskLasts.C N).Ok Try.prog := ⟨U_ok, GamOk.cons (law_begun.ok N) (GamOk.cons (ref_New.ok N) (GamOk.cons (law_stepped.ok N) (GamOk.cons (disk_Disk_Crash.ok N) (GamOk.cons (disk_Disk_Dead.ok N) (GamOk.cons (disk_Disk_Steps.ok N) (GamOk.cons (disk_Disk_Names.ok N) (GamOk.cons (disk_Disk_Read.ok N) (GamOk.nil)))))))), GamYOk.nil⟩
def law_DiskLasts.code : Code := Try.f8.body.getD .skip
def law_DiskLasts_0.ins : Sh := (.cons (.val (.slice (.int .i64))) (.cons (.box 67 (.cons (.val (.int .i64)) (.cons (.val (.int .i64)) (.cons (.own 3000000 (.pair .str (.pair (.slice .byte) (.int .i64)))) (.cons (.val (.int .i64)) (.cons (.val (.int .i64)) (.cons (.val .bool) .nil))))))) (.cons (.box 39 (.cons (.val (.int .i64)) (.cons (.val (.int .i64)) (.cons (.val (.slice (.pair .str (.pair (.slice .byte) (.int .i64))))) (.cons (.val .bool) (.cons (.val .bool) (.cons (.val (.int .i64)) .nil))))))) (.cons (.val (.slice (.pair (.int .i64) (.pair .str (.pair .str (.pair (.slice .byte) (.pair (.int .i64) (.pair (.int .i64) (.slice (.int .i64)))))))))) (.cons (.val (.int .i64)) (.cons (.val (.int .i64)) .nil))))))
def law_DiskLasts_0.ts : List Tmp := [2, 7, 9, 26, 27, 28]
def law_DiskLasts_0.asg : List Tmp := [6, 8, 11, 12, 14, 15, 16, 28, 29, 30, 31, 32, 33, 34, 35, 36, 37, 38, 39, 40, 41, 42, 43, 44, 45, 46, 47, 48, 49, 50, 51, 52, 53, 54, 55, 56, 57, 58, 59, 60, 61, 62, 63, 64, 65, 66, 67, 68, 69, 70, 71, 72, 73, 74, 75, 76, 77, 78, 79, 80, 81, 82, 83, 84, 85, 86, 87, 88, 89, 90, 91, 92, 93, 94, 95, 96, 97, 98, 99, 100, 101, 102, 103, 104, 105, 106, 107, 108, 109, 110, 111, 112, 113, 114, 115, 116, 117]
def law_DiskLasts_0.C (N : Nat) : Ctx := { law_DiskLasts.C N with may := fun t => law_DiskLasts_0.asg.any (Nat.beq t) }
def law_DiskLasts_0.code : Code := loopBody (sub law_DiskLasts.code [true, true, true, true, false, true, false])
theorem law_DiskLasts_0.cok (N : Nat) : (law_DiskLasts_0.C N).Ok Try.prog := ⟨(law_DiskLasts.cok N).U, (law_DiskLasts.cok N).Γ, (law_DiskLasts.cok N).Y⟩
def law_DiskLasts_0_0.ins : Sh := (.cons (.rbox 67 (.cons (.val (.int .i64)) (.cons (.val (.int .i64)) (.cons (.rown 3000000 (.pair .str (.pair (.slice .byte) (.int .i64)))) (.cons (.val (.int .i64)) (.cons (.val (.int .i64)) (.cons (.val .bool) .nil))))))) (.cons (.val (.slice (.pair .str (.pair (.slice .byte) (.int .i64))))) (.cons (.val (.int .i64)) (.cons (.val (.int .i64)) .nil))))
def law_DiskLasts_0_0.ts : List Tmp := [12, 75, 76, 77]
def law_DiskLasts_0_0.asg : List Tmp := [6, 14, 15, 16, 77, 78, 79, 80, 81, 82, 83, 84, 85, 86, 87, 88, 89, 90, 91, 92, 93, 94, 95, 96, 97, 98, 99, 100, 101, 102, 103, 104, 105, 106, 107, 108, 109, 110, 111, 112, 113, 114, 115, 116]
def law_DiskLasts_0_0.C (N : Nat) : Ctx := { law_DiskLasts_0.C N with may := fun t => law_DiskLasts_0_0.asg.any (Nat.beq t) }
def law_DiskLasts_0_0.code : Code := loopBody (sub law_DiskLasts_0.code [true, true, false, false, true, true, true, true, true, true, false])
theorem law_DiskLasts_0_0.cok (N : Nat) : (law_DiskLasts_0_0.C N).Ok Try.prog := ⟨(law_DiskLasts_0.cok N).U, (law_DiskLasts_0.cok N).Γ, (law_DiskLasts_0.cok N).Y⟩
def law_DiskLasts_0_0.alts : List Alt := [⟨.ret, [6], (.cons (.val .bool) .nil)⟩, ⟨(.exit 2), [], .nil⟩]
def law_DiskLasts_0_0.go (N : Nat) : Nat → Int → Int → (List ((List UInt8) × ((List UInt8) × Int))) → Int → Int → Bool → (List ((List UInt8) × ((List UInt8) × Int))) → Int → Int → Option ((Bool × Unit) ⊕ Unit)
  | 0, _, _, _, _, _, _, _, _, _ => none
  | fuel + 1, room_, used, files, steps, left, dead, t75, t76, t77 =>
    bif decide (t77 < t76) then
      bif inB t77 t75.length then
        obind (disk_Disk_Read.run N room_ used files steps left dead (t75.getD t77.toNat (([] : List UInt8), ([] : List UInt8), (0 : Int))).1) fun (l, b, _) =>
          bif !b then
            some (.inl (false, ()))
          else
            bif decide ((l.length : Int) < (t75.getD t77.toNat (([] : List UInt8), ([] : List UInt8), (0 : Int))).2.2) then
              some (.inl (false, ()))
            else
              bif decide ((l.length : Int) > ((t75.getD t77.toNat (([] : List UInt8), ([] : List UInt8), (0 : Int))).2.1.length : Int)) then
                some (.inl (false, ()))
              else
                bif okB (0 : Int) (l.length : Int) (t75.getD t77.toNat (([] : List UInt8), ([] : List UInt8), (0 : Int))).2.1.length then
                  bif !(decide (l = ((t75.getD t77.toNat (([] : List UInt8), ([] : List UInt8), (0 : Int))).2.1.take l.length))) then
                    some (.inl (false, ()))
                  else law_DiskLasts_0_0.go N fuel room_ used files steps left dead t75 t76 (IntKind.i64.wrap (t77 + (1 : Int)))
                else none
      else none
    else some (.inr ())
def law_DiskLasts_0_0.g (N n : Nat) (x : Sh.den law_DiskLasts_0_0.ins) : Option (altsDen law_DiskLasts_0_0.alts) := law_DiskLasts_0_0.go N n x.1.1 x.1.2.1 x.1.2.2.1 x.1.2.2.2.1 x.1.2.2.2.2.1 x.1.2.2.2.2.2.1 x.2.1 x.2.2.1 x.2.2.2.1
def law_DiskLasts_0_0.P (N : Nat) : Ps := ⟨law_DiskLasts_0_0.ts, law_DiskLasts_0_0.ins, law_DiskLasts_0_0.asg, law_DiskLasts_0_0.alts, law_DiskLasts_0_0.g N N⟩
def law_DiskLasts_0_0.lam (N : Nat) : Pcs := pcs []
theorem law_DiskLasts_0_0.pok (N : Nat) : (law_DiskLasts_0_0.lam N).Ok Try.prog (law_DiskLasts_0_0.C N) law_DiskLasts_0_0.code := pcsOk_nil
theorem law_DiskLasts_0_0.ev (N n : Nat) (x : Sh.den law_DiskLasts_0_0.ins) : evC (law_DiskLasts_0_0.C N) law_DiskLasts_0_0.code (law_DiskLasts_0_0.lam N) ((law_DiskLasts_0_0.P N).canon 1000 x) (loopK (law_DiskLasts_0_0.P N) (law_DiskLasts_0_0.g N n)) = law_DiskLasts_0_0.g N (n + 1) x := by kernel_rfl
theorem law_DiskLasts_0_0.ok (N : Nat) : ((law_DiskLasts_0_0.P N).pc (law_DiskLasts_0.C N)).Ok Try.prog (law_DiskLasts_0.C N) (.loop law_DiskLasts_0_0.code) := loop_ok (F := law_DiskLasts_0_0.P N) (n0 := 1000) (N := N) (law_DiskLasts_0.cok N) mix (law_DiskLasts_0_0.pok N) (law_DiskLasts_0_0.g N) (fun x => by rfl) rfl (fun n x y h => (law_DiskLasts_0_0.ev N n x).trans h)
def law_DiskLasts_0.alts : List Alt := [⟨.ret, [6], (.cons (.upd 0 67 (.cons (.val (.int .i64)) (.cons (.val (.int .i64)) (.cons (.own 3000000 (.pair .str (.pair (.slice .byte) (.int .i64)))) (.cons (.val (.int .i64)) (.cons (.val (.int .i64)) (.cons (.val .bool) .nil))))))) (.cons (.upd 2 39 (.cons (.val (.int .i64)) (.cons (.val (.int .i64)) (.cons (.val (.slice (.pair .str (.pair (.slice .byte) (.int .i64))))) (.cons (.val .bool) (.cons (.val .bool) (.cons (.val (.int .i64)) .nil))))))) (.cons (.val .bool) .nil)))⟩, ⟨(.exit 0), [], (.cons (.upd 0 67 (.cons (.val (.int .i64)) (.cons (.val (.int .i64)) (.cons (.own 3000000 (.pair .str (.pair (.slice .byte) (.int .i64)))) (.cons (.val (.int .i64)) (.cons (.val (.int .i64)) (.cons (.val .bool) .nil))))))) (.cons (.upd 2 39 (.cons (.val (.int .i64)) (.cons (.val (.int .i64)) (.cons (.val (.slice (.pair .str (.pair (.slice .byte) (.int .i64))))) (.cons (.val .bool) (.cons (.val .bool) (.cons (.val (.int .i64)) .nil))))))) .nil))⟩]
def law_DiskLasts_0.go (N : Nat) : Nat → (List Int) → Int → Int → (List ((List UInt8) × ((List UInt8) × Int))) → Int → Int → Bool → Int → Int → (List ((List UInt8) × ((List UInt8) × Int))) → Bool → Bool → Int → (List (Int × ((List UInt8) × ((List UInt8) × ((List UInt8) × (Int × (Int × (List Int)))))))) → Int → Int → Option (((Int × Int × (List ((List UInt8) × ((List UInt8) × Int))) × Int × Int × Bool × Unit) × (Int × Int × (List ((List UInt8) × ((List UInt8) × Int))) × Bool × Bool × Int × Unit) × Bool × Unit) ⊕ ((Int × Int × (List ((List UInt8) × ((List UInt8) × Int))) × Int × Int × Bool × Unit) × (Int × Int × (List ((List UInt8) × ((List UInt8) × Int))) × Bool × Bool × Int × Unit) × Unit))
  | 0, _, _, _, _, _, _, _, _, _, _, _, _, _, _, _, _ => none
  | fuel + 1, keep, room_, used, files, steps, left, dead, room1, steps1, files1, armed, dead1, left1, t26, t27, t28 =>
    bif decide (t28 < t27) then
      bif inB t28 t26.length then
        bif decide ((t26.getD t28.toNat ((0 : Int), ([] : List UInt8), ([] : List UInt8), ([] : List UInt8), (0 : Int), (0 : Int), ([] : List Int))).1 = (8 : Int)) then
          law_DiskLasts_0.go N fuel keep room_ used files steps left dead room1 steps1 files1 armed dead1 left1 t26 t27 (IntKind.i64.wrap (t28 + (1 : Int)))
        else
          bif decide ((t26.getD t28.toNat ((0 : Int), ([] : List UInt8), ([] : List UInt8), ([] : List UInt8), (0 : Int), (0 : Int), ([] : List Int))).1 > (8 : Int)) then
            law_DiskLasts_0.go N fuel keep room_ used files steps left dead room1 steps1 files1 armed dead1 left1 t26 t27 (IntKind.i64.wrap (t28 + (1 : Int)))
          else
            obind (law_stepped.run N room_ used files steps left dead (room1, steps1, files1, armed, dead1, left1) (t26.getD t28.toNat ((0 : Int), ([] : List UInt8), ([] : List UInt8), ([] : List UInt8), (0 : Int), (0 : Int), ([] : List Int)))) fun ((room2, used1, files2, steps2, left2, dead2, _), v, b, _) =>
              obind (disk_Disk_Crash.run N room2 used1 files2 steps2 left2 dead2 keep) fun ((room3, used2, files3, steps3, left3, dead3, _), (room4, used3, files4, steps4, left4, dead4, _), _) =>
                bif !b then
                  some (.inl ((room3, used2, files3, steps3, left3, dead3, ()), (v.1, v.2.1, v.2.2.1, v.2.2.2.1, v.2.2.2.2.1, v.2.2.2.2.2, ()), false, ()))
                else
                  obind (disk_Disk_Dead.run N room4 used3 files4 steps4 left4 dead4) fun (b1, _) =>
                    bif b1 then
                      some (.inl ((room3, used2, files3, steps3, left3, dead3, ()), (v.1, v.2.1, v.2.2.1, v.2.2.2.1, v.2.2.2.2.1, v.2.2.2.2.2, ()), false, ()))
                    else
                      obind (disk_Disk_Steps.run N room4 used3 files4 steps4 left4 dead4) fun (n_, _) =>
                        bif !(decide (n_ = (0 : Int))) then
                          some (.inl ((room3, used2, files3, steps3, left3, dead3, ()), (v.1, v.2.1, v.2.2.1, v.2.2.2.1, v.2.2.2.2.1, v.2.2.2.2.2, ()), false, ()))
                        else
                          obind (disk_Disk_Names.run N room4 used3 files4 steps4 left4 dead4) fun ((room5, used4, files5, steps5, left5, dead5, _), l, _) =>
                            bif !(decide ((l.length : Int) = (v.2.2.1.length : Int))) then
                              some (.inl ((room3, used2, files3, steps3, left3, dead3, ()), (v.1, v.2.1, v.2.2.1, v.2.2.2.1, v.2.2.2.2.1, v.2.2.2.2.2, ()), false, ()))
                            else
                              obind (law_DiskLasts_0_0.go N N room5 used4 files5 steps5 left5 dead5 v.2.2.1 (v.2.2.1.length : Int) (0 : Int)) fun y => match y with
                              | .inl (t6, _) =>
                                  some (.inl ((room3, used2, files3, steps3, left3, dead3, ()), (v.1, v.2.1, v.2.2.1, v.2.2.2.1, v.2.2.2.2.1, v.2.2.2.2.2, ()), t6, ()))
                              | .inr (_) =>
                                  law_DiskLasts_0.go N fuel keep room3 used2 files3 steps3 left3 dead3 v.1 v.2.1 v.2.2.1 v.2.2.2.1 v.2.2.2.2.1 v.2.2.2.2.2 t26 t27 (IntKind.i64.wrap (t28 + (1 : Int)))
      else none
    else some (.inr ((room_, used, files, steps, left, dead, ()), (room1, steps1, files1, armed, dead1, left1, ()), ()))
def law_DiskLasts_0.g (N n : Nat) (x : Sh.den law_DiskLasts_0.ins) : Option (altsDen law_DiskLasts_0.alts) := law_DiskLasts_0.go N n x.1 x.2.1.1 x.2.1.2.1 x.2.1.2.2.1 x.2.1.2.2.2.1 x.2.1.2.2.2.2.1 x.2.1.2.2.2.2.2.1 x.2.2.1.1 x.2.2.1.2.1 x.2.2.1.2.2.1 x.2.2.1.2.2.2.1 x.2.2.1.2.2.2.2.1 x.2.2.1.2.2.2.2.2.1 x.2.2.2.1 x.2.2.2.2.1 x.2.2.2.2.2.1
def law_DiskLasts_0.P (N : Nat) : Ps := ⟨law_DiskLasts_0.ts, law_DiskLasts_0.ins, law_DiskLasts_0.asg, law_DiskLasts_0.alts, law_DiskLasts_0.g N N⟩
def law_DiskLasts_0.lam (N : Nat) : Pcs := pcs [([true, true, false, false, true, true, true, true, true, true, false], (law_DiskLasts_0_0.P N).pc (law_DiskLasts_0.C N))]
theorem law_DiskLasts_0.pok (N : Nat) : (law_DiskLasts_0.lam N).Ok Try.prog (law_DiskLasts_0.C N) law_DiskLasts_0.code := pcsOk_cons (c1 := .loop law_DiskLasts_0_0.code) (by kernel_rfl) (law_DiskLasts_0_0.ok N) (pcsOk_nil)
theorem law_DiskLasts_0.ev (N n : Nat) (x : Sh.den law_DiskLasts_0.ins) : evC (law_DiskLasts_0.C N) law_DiskLasts_0.code (law_DiskLasts_0.lam N) ((law_DiskLasts_0.P N).canon 1000 x) (loopK (law_DiskLasts_0.P N) (law_DiskLasts_0.g N n)) = law_DiskLasts_0.g N (n + 1) x := by kernel_rfl
theorem law_DiskLasts_0.ok (N : Nat) : ((law_DiskLasts_0.P N).pc (law_DiskLasts.C N)).Ok Try.prog (law_DiskLasts.C N) (.loop law_DiskLasts_0.code) := loop_ok (F := law_DiskLasts_0.P N) (n0 := 1000) (N := N) (law_DiskLasts.cok N) mix (law_DiskLasts_0.pok N) (law_DiskLasts_0.g N) (fun x => by rfl) rfl (fun n x y h => (law_DiskLasts_0.ev N n x).trans h)
def law_DiskLasts.outs : Sh := (.cons (.val .bool) .nil)
def law_DiskLasts.run (N : Nat) (room_ : Int) (script : (List (Int × ((List UInt8) × ((List UInt8) × ((List UInt8) × (Int × (Int × (List Int))))))))) (keep : (List Int)) : Option (Bool × Unit) :=
  obind (law_begun.run N room_) fun ((room1, used, files, steps, left, dead, _), b, _) =>
    bif !b then
      some (false, ())
    else
      obind (ref_New.run N room_) fun (v, _) =>
        obind (law_DiskLasts_0.go N N keep room1 used files steps left dead v.1 v.2.1 v.2.2.1 v.2.2.2.1 v.2.2.2.2.1 v.2.2.2.2.2 script (script.length : Int) (0 : Int)) fun y => match y with
        | .inl ((room2, used1, files1, steps1, left1, dead1, _), (room3, steps2, files2, armed, dead2, left2, _), t6, _) =>
            some (t6, ())
        | .inr ((room4, used2, files3, steps3, left3, dead3, _), (room5, steps4, files4, armed1, dead4, left4, _), _) =>
            some (true, ())
def law_DiskLasts.fn (N : Nat) (x : Sh.den law_DiskLasts.ins) : Option (Sh.den law_DiskLasts.outs) := law_DiskLasts.run N x.1 x.2.1 x.2.2.1
def law_DiskLasts.S (N : Nat) : Fs := ⟨law_DiskLasts.ins, law_DiskLasts.outs, law_DiskLasts.fn N⟩
def law_DiskLasts.lam (N : Nat) : Pcs := pcs [([true, true, true, true, false, true, false], (law_DiskLasts_0.P N).pc (law_DiskLasts.C N))]
theorem law_DiskLasts.pok (N : Nat) : (law_DiskLasts.lam N).Ok Try.prog (law_DiskLasts.C N) law_DiskLasts.code := pcsOk_cons (c1 := .loop law_DiskLasts_0.code) (by kernel_rfl) (law_DiskLasts_0.ok N) (pcsOk_nil)
theorem law_DiskLasts.ev (N : Nat) (x : Sh.den law_DiskLasts.ins) : evC (law_DiskLasts.C N) law_DiskLasts.code (law_DiskLasts.lam N) ⟨envOf 0 (bld (fun k => k) law_DiskLasts.ins x 0).1, (bld (fun k => k) law_DiskLasts.ins x 0).2.1, 1000⟩ (endF U law_DiskLasts.outs Try.f8.results.toList []) = law_DiskLasts.fn N x := by kernel_rfl
theorem law_DiskLasts.ok (N : Nat) : (law_DiskLasts.S N).con.Ok Try.prog 8 := fn_ok (F := law_DiskLasts.S N) (n0 := 1000) Try.func8 (by kernel_rfl) (show Try.f8.body = some law_DiskLasts.code by rfl) mix (law_DiskLasts.cok N) (fun _ => rfl) (fun _ => rfl) (law_DiskLasts.pok N) (fun x y h => (law_DiskLasts.ev N x).trans h)
/-- hayloft/hayloftlaw04.DiskArmed -/
def law_DiskArmed.ins : Sh := (.cons (.val (.int .i64)) (.cons (.val (.slice (.pair (.int .i64) (.pair .str (.pair .str (.pair (.slice .byte) (.pair (.int .i64) (.pair (.int .i64) (.slice (.int .i64)))))))))) (.cons (.val (.int .i64)) .nil)))
def law_DiskArmed.C (N : Nat) : Ctx := ⟨U, 129, fun _ => true, gam [(11, (law_begun.S N).con), (20, (disk_New.S N).con), (21, (disk_Disk_Arm.S N).con), (16, (ref_New.S N).con), (22, (disk_Disk_Dead.S N).con), (14, (disk_Disk_Names.S N).con), (15, (law_change.S N).con), (23, (disk_Disk_Steps.S N).con), (24, (law_stands.S N).con)], gamY []⟩
theorem law_DiskArmed.cok (N : Nat) : (law_DiskArmed.C N).Ok Try.prog := ⟨U_ok, GamOk.cons (law_begun.ok N) (GamOk.cons (disk_New.ok N) (GamOk.cons (disk_Disk_Arm.ok N) (GamOk.cons (ref_New.ok N) (GamOk.cons (disk_Disk_Dead.ok N) (GamOk.cons (disk_Disk_Names.ok N) (GamOk.cons (law_change.ok N) (GamOk.cons (disk_Disk_Steps.ok N) (GamOk.cons (law_stands.ok N) (GamOk.nil))))))))), GamYOk.nil⟩
def law_DiskArmed.code : Code := Try.f6.body.getD .skip
def law_DiskArmed_0.ins : Sh := (.cons (.val (.int .i64)) (.cons (.box 67 (.cons (.val (.int .i64)) (.cons (.val (.int .i64)) (.cons (.own 3000000 (.pair .str (.pair (.slice .byte) (.int .i64)))) (.cons (.val (.int .i64)) (.cons (.val (.int .i64)) (.cons (.val .bool) .nil))))))) (.cons (.box 67 (.cons (.val (.int .i64)) (.cons (.val (.int .i64)) (.cons (.own 3000000 (.pair .str (.pair (.slice .byte) (.int .i64)))) (.cons (.val (.int .i64)) (.cons (.val (.int .i64)) (.cons (.val .bool) .nil))))))) (.cons (.box 39 (.cons (.val (.int .i64)) (.cons (.val (.int .i64)) (.cons (.val (.slice (.pair .str (.pair (.slice .byte) (.int .i64))))) (.cons (.val .bool) (.cons (.val .bool) (.cons (.val (.int .i64)) .nil))))))) (.cons (.box 39 (.cons (.val (.int .i64)) (.cons (.val (.int .i64)) (.cons (.val (.slice (.pair .str (.pair (.slice .byte) (.int .i64))))) (.cons (.val .bool) (.cons (.val .bool) (.cons (.val (.int .i64)) .nil))))))) (.cons (.val (.slice (.pair (.int .i64) (.pair .str (.pair .str (.pair (.slice .byte) (.pair (.int .i64) (.pair (.int .i64) (.slice (.int .i64)))))))))) (.cons (.val (.int .i64)) (.cons (.val (.int .i64)) .nil))))))))
def law_DiskArmed_0.ts : List Tmp := [2, 7, 9, 10, 11, 42, 43, 44]
def law_DiskArmed_0.asg : List Tmp := [6, 8, 13, 14, 15, 16, 44, 45, 46, 47, 48, 49, 50, 51, 52, 53, 54, 55, 56, 57, 58, 59, 60, 61, 62, 63, 64, 65, 66, 67, 68, 69, 70, 71, 72, 73, 74, 75, 76, 77, 78, 79, 80, 81, 82, 83, 84, 85, 86, 87, 88, 89, 90, 91, 92, 93, 94, 95, 96, 97, 98, 99, 100, 101, 102, 103, 104, 105, 106, 107, 108, 109, 110, 111, 112, 113, 114, 115, 116, 117, 118, 119, 120, 121, 122, 123, 124, 125, 126, 127, 128]
def law_DiskArmed_0.C (N : Nat) : Ctx := { law_DiskArmed.C N with may := fun t => law_DiskArmed_0.asg.any (Nat.beq t) }
def law_DiskArmed_0.code : Code := loopBody (sub law_DiskArmed.code [true, true, true, true, true, true, false, true, false])
theorem law_DiskArmed_0.cok (N : Nat) : (law_DiskArmed_0.C N).Ok Try.prog := ⟨(law_DiskArmed.cok N).U, (law_DiskArmed.cok N).Γ, (law_DiskArmed.cok N).Y⟩
def law_DiskArmed_0.alts : List Alt := [⟨.ret, [6], (.cons (.upd 0 67 (.cons (.val (.int .i64)) (.cons (.val (.int .i64)) (.cons (.own 3000000 (.pair .str (.pair (.slice .byte) (.int .i64)))) (.cons (.val (.int .i64)) (.cons (.val (.int .i64)) (.cons (.val .bool) .nil))))))) (.cons (.upd 2 67 (.cons (.val (.int .i64)) (.cons (.val (.int .i64)) (.cons (.own 3000000 (.pair .str (.pair (.slice .byte) (.int .i64)))) (.cons (.val (.int .i64)) (.cons (.val (.int .i64)) (.cons (.val .bool) .nil))))))) (.cons (.upd 4 39 (.cons (.val (.int .i64)) (.cons (.val (.int .i64)) (.cons (.val (.slice (.pair .str (.pair (.slice .byte) (.int .i64))))) (.cons (.val .bool) (.cons (.val .bool) (.cons (.val (.int .i64)) .nil))))))) (.cons (.upd 5 39 (.cons (.val (.int .i64)) (.cons (.val (.int .i64)) (.cons (.val (.slice (.pair .str (.pair (.slice .byte) (.int .i64))))) (.cons (.val .bool) (.cons (.val .bool) (.cons (.val (.int .i64)) .nil))))))) (.cons (.val .bool) .nil)))))⟩, ⟨(.exit 0), [], (.cons (.upd 0 67 (.cons (.val (.int .i64)) (.cons (.val (.int .i64)) (.cons (.own 3000000 (.pair .str (.pair (.slice .byte) (.int .i64)))) (.cons (.val (.int .i64)) (.cons (.val (.int .i64)) (.cons (.val .bool) .nil))))))) (.cons (.upd 2 67 (.cons (.val (.int .i64)) (.cons (.val (.int .i64)) (.cons (.own 3000000 (.pair .str (.pair (.slice .byte) (.int .i64)))) (.cons (.val (.int .i64)) (.cons (.val (.int .i64)) (.cons (.val .bool) .nil))))))) (.cons (.upd 4 39 (.cons (.val (.int .i64)) (.cons (.val (.int .i64)) (.cons (.val (.slice (.pair .str (.pair (.slice .byte) (.int .i64))))) (.cons (.val .bool) (.cons (.val .bool) (.cons (.val (.int .i64)) .nil))))))) (.cons (.upd 5 39 (.cons (.val (.int .i64)) (.cons (.val (.int .i64)) (.cons (.val (.slice (.pair .str (.pair (.slice .byte) (.int .i64))))) (.cons (.val .bool) (.cons (.val .bool) (.cons (.val (.int .i64)) .nil))))))) .nil))))⟩]
def law_DiskArmed_0.go (N : Nat) : Nat → Int → Int → Int → (List ((List UInt8) × ((List UInt8) × Int))) → Int → Int → Bool → Int → Int → (List ((List UInt8) × ((List UInt8) × Int))) → Int → Int → Bool → Int → Int → (List ((List UInt8) × ((List UInt8) × Int))) → Bool → Bool → Int → Int → Int → (List ((List UInt8) × ((List UInt8) × Int))) → Bool → Bool → Int → (List (Int × ((List UInt8) × ((List UInt8) × ((List UInt8) × (Int × (Int × (List Int)))))))) → Int → Int → Option (((Int × Int × (List ((List UInt8) × ((List UInt8) × Int))) × Int × Int × Bool × Unit) × (Int × Int × (List ((List UInt8) × ((List UInt8) × Int))) × Int × Int × Bool × Unit) × (Int × Int × (List ((List UInt8) × ((List UInt8) × Int))) × Bool × Bool × Int × Unit) × (Int × Int × (List ((List UInt8) × ((List UInt8) × Int))) × Bool × Bool × Int × Unit) × Bool × Unit) ⊕ ((Int × Int × (List ((List UInt8) × ((List UInt8) × Int))) × Int × Int × Bool × Unit) × (Int × Int × (List ((List UInt8) × ((List UInt8) × Int))) × Int × Int × Bool × Unit) × (Int × Int × (List ((List UInt8) × ((List UInt8) × Int))) × Bool × Bool × Int × Unit) × (Int × Int × (List ((List UInt8) × ((List UInt8) × Int))) × Bool × Bool × Int × Unit) × Unit))
  | 0, _, _, _, _, _, _, _, _, _, _, _, _, _, _, _, _, _, _, _, _, _, _, _, _, _, _, _, _ => none
  | fuel + 1, at_, room_, used, files, steps, left, dead, room1, used1, files1, steps1, left1, dead1, room2, steps2, files2, armed, dead2, left2, room3, steps3, files3, armed1, dead3, left3, t42, t43, t44 =>
    bif decide (t44 < t43) then
      bif inB t44 t42.length then
        bif decide ((t42.getD t44.toNat ((0 : Int), ([] : List UInt8), ([] : List UInt8), ([] : List UInt8), (0 : Int), (0 : Int), ([] : List Int))).1 > (4 : Int)) then
          law_DiskArmed_0.go N fuel at_ room_ used files steps left dead room1 used1 files1 steps1 left1 dead1 room2 steps2 files2 armed dead2 left2 room3 steps3 files3 armed1 dead3 left3 t42 t43 (IntKind.i64.wrap (t44 + (1 : Int)))
        else
          obind (disk_Disk_Dead.run N room_ used files steps left dead) fun (b, _) =>
            bif b then
              obind (disk_Disk_Names.run N room_ used files steps left dead) fun ((room4, used2, files4, steps4, left4, dead4, _), l, _) =>
                obind (law_change.run N room4 used2 files4 steps4 left4 dead4 (room2, steps2, files2, armed, dead2, left2) (t42.getD t44.toNat ((0 : Int), ([] : List UInt8), ([] : List UInt8), ([] : List UInt8), (0 : Int), (0 : Int), ([] : List Int)))) fun ((room5, used3, files5, steps5, left5, dead5, _), v, b1, _) =>
                  obind (disk_Disk_Dead.run N room5 used3 files5 steps5 left5 dead5) fun (b2, _) =>
                    bif !b2 then
                      some (.inl ((room5, used3, files5, steps5, left5, dead5, ()), (room1, used1, files1, steps1, left1, dead1, ()), (room2, steps2, files2, armed, dead2, left2, ()), (room3, steps3, files3, armed1, dead3, left3, ()), false, ()))
                    else
                      bif !b1 then
                        obind (disk_Disk_Names.run N room5 used3 files5 steps5 left5 dead5) fun ((room6, used4, files6, steps6, left6, dead6, _), l1, _) =>
                          bif !(decide ((l.length : Int) = (l1.length : Int))) then
                            some (.inl ((room6, used4, files6, steps6, left6, dead6, ()), (room1, used1, files1, steps1, left1, dead1, ()), (room2, steps2, files2, armed, dead2, left2, ()), (room3, steps3, files3, armed1, dead3, left3, ()), false, ()))
                          else
                            obind (disk_Disk_Steps.run N room6 used4 files6 steps6 left6 dead6) fun (n_, _) =>
                              bif !(decide (n_ = (IntKind.i64.wrap (at_ + (1 : Int))))) then
                                some (.inl ((room6, used4, files6, steps6, left6, dead6, ()), (room1, used1, files1, steps1, left1, dead1, ()), (room2, steps2, files2, armed, dead2, left2, ()), (room3, steps3, files3, armed1, dead3, left3, ()), false, ()))
                              else law_DiskArmed_0.go N fuel at_ room6 used4 files6 steps6 left6 dead6 room1 used1 files1 steps1 left1 dead1 room2 steps2 files2 armed dead2 left2 room3 steps3 files3 armed1 dead3 left3 t42 t43 (IntKind.i64.wrap (t44 + (1 : Int)))
                      else
                        obind (disk_Disk_Steps.run N room5 used3 files5 steps5 left5 dead5) fun (n1, _) =>
                          bif !(decide (n1 = (IntKind.i64.wrap (at_ + (1 : Int))))) then
                            some (.inl ((room5, used3, files5, steps5, left5, dead5, ()), (room1, used1, files1, steps1, left1, dead1, ()), (room2, steps2, files2, armed, dead2, left2, ()), (room3, steps3, files3, armed1, dead3, left3, ()), false, ()))
                          else law_DiskArmed_0.go N fuel at_ room5 used3 files5 steps5 left5 dead5 room1 used1 files1 steps1 left1 dead1 room2 steps2 files2 armed dead2 left2 room3 steps3 files3 armed1 dead3 left3 t42 t43 (IntKind.i64.wrap (t44 + (1 : Int)))
            else
              obind (law_change.run N room_ used files steps left dead (room2, steps2, files2, armed, dead2, left2) (t42.getD t44.toNat ((0 : Int), ([] : List UInt8), ([] : List UInt8), ([] : List UInt8), (0 : Int), (0 : Int), ([] : List Int)))) fun ((room7, used5, files7, steps7, left7, dead7, _), v1, b3, _) =>
                obind (law_change.run N room1 used1 files1 steps1 left1 dead1 (room3, steps3, files3, armed1, dead3, left3) (t42.getD t44.toNat ((0 : Int), ([] : List UInt8), ([] : List UInt8), ([] : List UInt8), (0 : Int), (0 : Int), ([] : List Int)))) fun ((room8, used6, files8, steps8, left8, dead8, _), v2, b4, _) =>
                  bif !b4 then
                    some (.inl ((room7, used5, files7, steps7, left7, dead7, ()), (room8, used6, files8, steps8, left8, dead8, ()), (v1.1, v1.2.1, v1.2.2.1, v1.2.2.2.1, v1.2.2.2.2.1, v1.2.2.2.2.2, ()), (v2.1, v2.2.1, v2.2.2.1, v2.2.2.2.1, v2.2.2.2.2.1, v2.2.2.2.2.2, ()), false, ()))
                  else
                    obind (disk_Disk_Steps.run N room7 used5 files7 steps7 left7 dead7) fun (n2, _) =>
                      obind (disk_Disk_Steps.run N room8 used6 files8 steps8 left8 dead8) fun (n3, _) =>
                        bif !(decide (n2 = n3)) then
                          some (.inl ((room7, used5, files7, steps7, left7, dead7, ()), (room8, used6, files8, steps8, left8, dead8, ()), (v1.1, v1.2.1, v1.2.2.1, v1.2.2.2.1, v1.2.2.2.2.1, v1.2.2.2.2.2, ()), (v2.1, v2.2.1, v2.2.2.1, v2.2.2.2.1, v2.2.2.2.2.1, v2.2.2.2.2.2, ()), false, ()))
                        else
                          obind (disk_Disk_Dead.run N room7 used5 files7 steps7 left7 dead7) fun (b5, _) =>
                            bif !b5 then
                              obind (law_stands.run N room7 used5 files7 steps7 left7 dead7 v2) fun ((room9, used7, files9, steps9, left9, dead9, _), b6, _) =>
                                bif !b6 then
                                  some (.inl ((room9, used7, files9, steps9, left9, dead9, ()), (room8, used6, files8, steps8, left8, dead8, ()), (v1.1, v1.2.1, v1.2.2.1, v1.2.2.2.1, v1.2.2.2.2.1, v1.2.2.2.2.2, ()), (v2.1, v2.2.1, v2.2.2.1, v2.2.2.2.1, v2.2.2.2.2.1, v2.2.2.2.2.2, ()), false, ()))
                                else
                                  obind (disk_Disk_Dead.run N room9 used7 files9 steps9 left9 dead9) fun (b7, _) =>
                                    obind (disk_Disk_Steps.run N room8 used6 files8 steps8 left8 dead8) fun (n4, _) =>
                                      bif !(b7 == (decide (n4 = (IntKind.i64.wrap (at_ + (1 : Int)))))) then
                                        some (.inl ((room9, used7, files9, steps9, left9, dead9, ()), (room8, used6, files8, steps8, left8, dead8, ()), (v1.1, v1.2.1, v1.2.2.1, v1.2.2.2.1, v1.2.2.2.2.1, v1.2.2.2.2.2, ()), (v2.1, v2.2.1, v2.2.2.1, v2.2.2.2.1, v2.2.2.2.2.1, v2.2.2.2.2.2, ()), false, ()))
                                      else law_DiskArmed_0.go N fuel at_ room9 used7 files9 steps9 left9 dead9 room8 used6 files8 steps8 left8 dead8 v1.1 v1.2.1 v1.2.2.1 v1.2.2.2.1 v1.2.2.2.2.1 v1.2.2.2.2.2 v2.1 v2.2.1 v2.2.2.1 v2.2.2.2.1 v2.2.2.2.2.1 v2.2.2.2.2.2 t42 t43 (IntKind.i64.wrap (t44 + (1 : Int)))
                            else
                              obind (disk_Disk_Dead.run N room7 used5 files7 steps7 left7 dead7) fun (b8, _) =>
                                obind (disk_Disk_Steps.run N room8 used6 files8 steps8 left8 dead8) fun (n5, _) =>
                                  bif !(b8 == (decide (n5 = (IntKind.i64.wrap (at_ + (1 : Int)))))) then
                                    some (.inl ((room7, used5, files7, steps7, left7, dead7, ()), (room8, used6, files8, steps8, left8, dead8, ()), (v1.1, v1.2.1, v1.2.2.1, v1.2.2.2.1, v1.2.2.2.2.1, v1.2.2.2.2.2, ()), (v2.1, v2.2.1, v2.2.2.1, v2.2.2.2.1, v2.2.2.2.2.1, v2.2.2.2.2.2, ()), false, ()))
                                  else law_DiskArmed_0.go N fuel at_ room7 used5 files7 steps7 left7 dead7 room8 used6 files8 steps8 left8 dead8 v1.1 v1.2.1 v1.2.2.1 v1.2.2.2.1 v1.2.2.2.2.1 v1.2.2.2.2.2 v2.1 v2.2.1 v2.2.2.1 v2.2.2.2.1 v2.2.2.2.2.1 v2.2.2.2.2.2 t42 t43 (IntKind.i64.wrap (t44 + (1 : Int)))
      else none
    else some (.inr ((room_, used, files, steps, left, dead, ()), (room1, used1, files1, steps1, left1, dead1, ()), (room2, steps2, files2, armed, dead2, left2, ()), (room3, steps3, files3, armed1, dead3, left3, ()), ()))
def law_DiskArmed_0.g (N n : Nat) (x : Sh.den law_DiskArmed_0.ins) : Option (altsDen law_DiskArmed_0.alts) := law_DiskArmed_0.go N n x.1 x.2.1.1 x.2.1.2.1 x.2.1.2.2.1 x.2.1.2.2.2.1 x.2.1.2.2.2.2.1 x.2.1.2.2.2.2.2.1 x.2.2.1.1 x.2.2.1.2.1 x.2.2.1.2.2.1 x.2.2.1.2.2.2.1 x.2.2.1.2.2.2.2.1 x.2.2.1.2.2.2.2.2.1 x.2.2.2.1.1 x.2.2.2.1.2.1 x.2.2.2.1.2.2.1 x.2.2.2.1.2.2.2.1 x.2.2.2.1.2.2.2.2.1 x.2.2.2.1.2.2.2.2.2.1 x.2.2.2.2.1.1 x.2.2.2.2.1.2.1 x.2.2.2.2.1.2.2.1 x.2.2.2.2.1.2.2.2.1 x.2.2.2.2.1.2.2.2.2.1 x.2.2.2.2.1.2.2.2.2.2.1 x.2.2.2.2.2.1 x.2.2.2.2.2.2.1 x.2.2.2.2.2.2.2.1
def law_DiskArmed_0.P (N : Nat) : Ps := ⟨law_DiskArmed_0.ts, law_DiskArmed_0.ins, law_DiskArmed_0.asg, law_DiskArmed_0.alts, law_DiskArmed_0.g N N⟩
def law_DiskArmed_0.lam (N : Nat) : Pcs := pcs []
theorem law_DiskArmed_0.pok (N : Nat) : (law_DiskArmed_0.lam N).Ok Try.prog (law_DiskArmed_0.C N) law_DiskArmed_0.code := pcsOk_nil
theorem law_DiskArmed_0.ev (N n : Nat) (x : Sh.den law_DiskArmed_0.ins) : evC (law_DiskArmed_0.C N) law_DiskArmed_0.code (law_DiskArmed_0.lam N) ((law_DiskArmed_0.P N).canon 1000 x) (loopK (law_DiskArmed_0.P N) (law_DiskArmed_0.g N n)) = law_DiskArmed_0.g N (n + 1) x := by kernel_rfl
theorem law_DiskArmed_0.ok (N : Nat) : ((law_DiskArmed_0.P N).pc (law_DiskArmed.C N)).Ok Try.prog (law_DiskArmed.C N) (.loop law_DiskArmed_0.code) := loop_ok (F := law_DiskArmed_0.P N) (n0 := 1000) (N := N) (law_DiskArmed.cok N) mix (law_DiskArmed_0.pok N) (law_DiskArmed_0.g N) (fun x => by rfl) rfl (fun n x y h => (law_DiskArmed_0.ev N n x).trans h)
def law_DiskArmed.outs : Sh := (.cons (.val .bool) .nil)
def law_DiskArmed.run (N : Nat) (room_ : Int) (script : (List (Int × ((List UInt8) × ((List UInt8) × ((List UInt8) × (Int × (Int × (List Int))))))))) (at_ : Int) : Option (Bool × Unit) :=
  obind (law_begun.run N room_) fun ((room1, used, files, steps, left, dead, _), b, _) =>
    obind (disk_New.run N room_) fun ((room2, used1, files1, steps1, left1, dead1, _), _) =>
      bif !b then
        some (b, ())
      else
        bif decide (at_ < (0 : Int)) then
          some (b, ())
        else
          obind (disk_Disk_Arm.run N room1 used files steps left dead at_) fun ((room3, used2, files2, steps2, left2, dead2, _), _) =>
            obind (ref_New.run N room_) fun (v, _) =>
              obind (ref_New.run N room_) fun (v1, _) =>
                obind (law_DiskArmed_0.go N N at_ room3 used2 files2 steps2 left2 dead2 room2 used1 files1 steps1 left1 dead1 v.1 v.2.1 v.2.2.1 v.2.2.2.1 v.2.2.2.2.1 v.2.2.2.2.2 v1.1 v1.2.1 v1.2.2.1 v1.2.2.2.1 v1.2.2.2.2.1 v1.2.2.2.2.2 script (script.length : Int) (0 : Int)) fun y => match y with
                | .inl ((room4, used3, files3, steps3, left3, dead3, _), (room5, used4, files4, steps4, left4, dead4, _), (room6, steps5, files5, armed, dead5, left5, _), (room7, steps6, files6, armed1, dead6, left6, _), t6, _) =>
                    some (t6, ())
                | .inr ((room8, used5, files7, steps7, left7, dead7, _), (room9, used6, files8, steps8, left8, dead8, _), (room10, steps9, files9, armed2, dead9, left9, _), (room11, steps10, files10, armed3, dead10, left10, _), _) =>
                    some (true, ())
def law_DiskArmed.fn (N : Nat) (x : Sh.den law_DiskArmed.ins) : Option (Sh.den law_DiskArmed.outs) := law_DiskArmed.run N x.1 x.2.1 x.2.2.1
def law_DiskArmed.S (N : Nat) : Fs := ⟨law_DiskArmed.ins, law_DiskArmed.outs, law_DiskArmed.fn N⟩
def law_DiskArmed.lam (N : Nat) : Pcs := pcs [([true, true, true, true, true, true, false, true, false], (law_DiskArmed_0.P N).pc (law_DiskArmed.C N))]
theorem law_DiskArmed.pok (N : Nat) : (law_DiskArmed.lam N).Ok Try.prog (law_DiskArmed.C N) law_DiskArmed.code := pcsOk_cons (c1 := .loop law_DiskArmed_0.code) (by kernel_rfl) (law_DiskArmed_0.ok N) (pcsOk_nil)
theorem law_DiskArmed.ev (N : Nat) (x : Sh.den law_DiskArmed.ins) : evC (law_DiskArmed.C N) law_DiskArmed.code (law_DiskArmed.lam N) ⟨envOf 0 (bld (fun k => k) law_DiskArmed.ins x 0).1, (bld (fun k => k) law_DiskArmed.ins x 0).2.1, 1000⟩ (endF U law_DiskArmed.outs Try.f6.results.toList []) = law_DiskArmed.fn N x := by kernel_rfl
theorem law_DiskArmed.ok (N : Nat) : (law_DiskArmed.S N).con.Ok Try.prog 6 := fn_ok (F := law_DiskArmed.S N) (n0 := 1000) Try.func6 (by kernel_rfl) (show Try.f6.body = some law_DiskArmed.code by rfl) mix (law_DiskArmed.cok N) (fun _ => rfl) (fun _ => rfl) (law_DiskArmed.pok N) (fun x y h => (law_DiskArmed.ev N x).trans h)
/-- hayloft/hayloftlaw04.DiskFull -/
def law_DiskFull.ins : Sh := (.cons (.val (.int .i64)) (.cons (.val (.slice (.pair (.int .i64) (.pair .str (.pair .str (.pair (.slice .byte) (.pair (.int .i64) (.pair (.int .i64) (.slice (.int .i64)))))))))) .nil))
def law_DiskFull.C (N : Nat) : Ctx := ⟨U, 80, fun _ => true, gam [(11, (law_begun.S N).con), (16, (ref_New.S N).con), (19, (disk_Disk_Free.S N).con), (14, (disk_Disk_Names.S N).con), (26, (law_stepped.S N).con)], gamY []⟩
theorem law_DiskFull.cok (N : Nat) : (law_DiskFull.C N).Ok Try.prog := ⟨U_ok, GamOk.cons (law_begun.ok N) (GamOk.cons (ref_New.ok N) (GamOk.cons (disk_Disk_Free.ok N) (GamOk.cons (disk_Disk_Names.ok N) (GamOk.cons (law_stepped.ok N) (GamOk.nil))))), GamYOk.nil⟩
def law_DiskFull.code : Code := Try.f9.body.getD .skip
def law_DiskFull_0.ins : Sh := (.cons (.val (.int .i64)) (.cons (.box 67 (.cons (.val (.int .i64)) (.cons (.val (.int .i64)) (.cons (.own 3000000 (.pair .str (.pair (.slice .byte) (.int .i64)))) (.cons (.val (.int .i64)) (.cons (.val (.int .i64)) (.cons (.val .bool) .nil))))))) (.cons (.box 39 (.cons (.val (.int .i64)) (.cons (.val (.int .i64)) (.cons (.val (.slice (.pair .str (.pair (.slice .byte) (.int .i64))))) (.cons (.val .bool) (.cons (.val .bool) (.cons (.val (.int .i64)) .nil))))))) (.cons (.val (.slice (.pair (.int .i64) (.pair .str (.pair .str (.pair (.slice .byte) (.pair (.int .i64) (.pair (.int .i64) (.slice (.int .i64)))))))))) (.cons (.val (.int .i64)) (.cons (.val (.int .i64)) .nil))))))
def law_DiskFull_0.ts : List Tmp := [0, 5, 7, 21, 22, 23]
def law_DiskFull_0.asg : List Tmp := [4, 6, 9, 10, 11, 23, 24, 25, 26, 27, 28, 29, 30, 31, 32, 33, 34, 35, 36, 37, 38, 39, 40, 41, 42, 43, 44, 45, 46, 47, 48, 49, 50, 51, 52, 53, 54, 55, 56, 57, 58, 59, 60, 61, 62, 63, 64, 65, 66, 67, 68, 69, 70, 71, 72, 73, 74, 75, 76, 77, 78, 79]
def law_DiskFull_0.C (N : Nat) : Ctx := { law_DiskFull.C N with may := fun t => law_DiskFull_0.asg.any (Nat.beq t) }
def law_DiskFull_0.code : Code := loopBody (sub law_DiskFull.code [true, true, true, true, false, true, false])
theorem law_DiskFull_0.cok (N : Nat) : (law_DiskFull_0.C N).Ok Try.prog := ⟨(law_DiskFull.cok N).U, (law_DiskFull.cok N).Γ, (law_DiskFull.cok N).Y⟩
def law_DiskFull_0.alts : List Alt := [⟨.ret, [4], (.cons (.upd 0 67 (.cons (.val (.int .i64)) (.cons (.val (.int .i64)) (.cons (.own 3000000 (.pair .str (.pair (.slice .byte) (.int .i64)))) (.cons (.val (.int .i64)) (.cons (.val (.int .i64)) (.cons (.val .bool) .nil))))))) (.cons (.upd 2 39 (.cons (.val (.int .i64)) (.cons (.val (.int .i64)) (.cons (.val (.slice (.pair .str (.pair (.slice .byte) (.int .i64))))) (.cons (.val .bool) (.cons (.val .bool) (.cons (.val (.int .i64)) .nil))))))) (.cons (.val .bool) .nil)))⟩, ⟨(.exit 0), [], (.cons (.upd 0 67 (.cons (.val (.int .i64)) (.cons (.val (.int .i64)) (.cons (.own 3000000 (.pair .str (.pair (.slice .byte) (.int .i64)))) (.cons (.val (.int .i64)) (.cons (.val (.int .i64)) (.cons (.val .bool) .nil))))))) (.cons (.upd 2 39 (.cons (.val (.int .i64)) (.cons (.val (.int .i64)) (.cons (.val (.slice (.pair .str (.pair (.slice .byte) (.int .i64))))) (.cons (.val .bool) (.cons (.val .bool) (.cons (.val (.int .i64)) .nil))))))) .nil))⟩]
def law_DiskFull_0.go (N : Nat) : Nat → Int → Int → Int → (List ((List UInt8) × ((List UInt8) × Int))) → Int → Int → Bool → Int → Int → (List ((List UInt8) × ((List UInt8) × Int))) → Bool → Bool → Int → (List (Int × ((List UInt8) × ((List UInt8) × ((List UInt8) × (Int × (Int × (List Int)))))))) → Int → Int → Option (((Int × Int × (List ((List UInt8) × ((List UInt8) × Int))) × Int × Int × Bool × Unit) × (Int × Int × (List ((List UInt8) × ((List UInt8) × Int))) × Bool × Bool × Int × Unit) × Bool × Unit) ⊕ ((Int × Int × (List ((List UInt8) × ((List UInt8) × Int))) × Int × Int × Bool × Unit) × (Int × Int × (List ((List UInt8) × ((List UInt8) × Int))) × Bool × Bool × Int × Unit) × Unit))
  | 0, _, _, _, _, _, _, _, _, _, _, _, _, _, _, _, _ => none
  | fuel + 1, room_, room1, used, files, steps, left, dead, room2, steps1, files1, armed, dead1, left1, t21, t22, t23 =>
    bif decide (t23 < t22) then
      bif inB t23 t21.length then
        bif decide ((t21.getD t23.toNat ((0 : Int), ([] : List UInt8), ([] : List UInt8), ([] : List UInt8), (0 : Int), (0 : Int), ([] : List Int))).1 > (8 : Int)) then
          law_DiskFull_0.go N fuel room_ room1 used files steps left dead room2 steps1 files1 armed dead1 left1 t21 t22 (IntKind.i64.wrap (t23 + (1 : Int)))
        else
          obind (disk_Disk_Free.run N room1 used files steps left dead) fun (n_, _) =>
            obind (disk_Disk_Names.run N room1 used files steps left dead) fun ((room3, used1, files2, steps2, left2, dead2, _), l, _) =>
              obind (law_stepped.run N room3 used1 files2 steps2 left2 dead2 (room2, steps1, files1, armed, dead1, left1) (t21.getD t23.toNat ((0 : Int), ([] : List UInt8), ([] : List UInt8), ([] : List UInt8), (0 : Int), (0 : Int), ([] : List Int)))) fun ((room4, used2, files3, steps3, left3, dead3, _), v, b, _) =>
                bif !b then
                  some (.inl ((room4, used2, files3, steps3, left3, dead3, ()), (v.1, v.2.1, v.2.2.1, v.2.2.2.1, v.2.2.2.2.1, v.2.2.2.2.2, ()), false, ()))
                else
                  obind (disk_Disk_Free.run N room4 used2 files3 steps3 left3 dead3) fun (n1, _) =>
                    bif decide (n1 < (0 : Int)) then
                      some (.inl ((room4, used2, files3, steps3, left3, dead3, ()), (v.1, v.2.1, v.2.2.1, v.2.2.2.1, v.2.2.2.2.1, v.2.2.2.2.2, ()), false, ()))
                    else
                      obind (disk_Disk_Free.run N room4 used2 files3 steps3 left3 dead3) fun (n2, _) =>
                        bif decide (n2 > (max room_ (0 : Int))) then
                          some (.inl ((room4, used2, files3, steps3, left3, dead3, ()), (v.1, v.2.1, v.2.2.1, v.2.2.2.1, v.2.2.2.2.1, v.2.2.2.2.2, ()), false, ()))
                        else
                          bif decide ((t21.getD t23.toNat ((0 : Int), ([] : List UInt8), ([] : List UInt8), ([] : List UInt8), (0 : Int), (0 : Int), ([] : List Int))).1 = (0 : Int)) then
                            bif decide (((t21.getD t23.toNat ((0 : Int), ([] : List UInt8), ([] : List UInt8), ([] : List UInt8), (0 : Int), (0 : Int), ([] : List Int))).2.2.2.1.length : Int) > n_) then
                              obind (disk_Disk_Free.run N room4 used2 files3 steps3 left3 dead3) fun (n3, _) =>
                                bif !(decide (n3 = n_)) then
                                  some (.inl ((room4, used2, files3, steps3, left3, dead3, ()), (v.1, v.2.1, v.2.2.1, v.2.2.2.1, v.2.2.2.2.1, v.2.2.2.2.2, ()), false, ()))
                                else
                                  obind (disk_Disk_Names.run N room4 used2 files3 steps3 left3 dead3) fun ((room5, used3, files4, steps4, left4, dead4, _), l1, _) =>
                                    bif !(decide ((l1.length : Int) = (l.length : Int))) then
                                      some (.inl ((room5, used3, files4, steps4, left4, dead4, ()), (v.1, v.2.1, v.2.2.1, v.2.2.2.1, v.2.2.2.2.1, v.2.2.2.2.2, ()), false, ()))
                                    else law_DiskFull_0.go N fuel room_ room5 used3 files4 steps4 left4 dead4 v.1 v.2.1 v.2.2.1 v.2.2.2.1 v.2.2.2.2.1 v.2.2.2.2.2 t21 t22 (IntKind.i64.wrap (t23 + (1 : Int)))
                            else law_DiskFull_0.go N fuel room_ room4 used2 files3 steps3 left3 dead3 v.1 v.2.1 v.2.2.1 v.2.2.2.1 v.2.2.2.2.1 v.2.2.2.2.2 t21 t22 (IntKind.i64.wrap (t23 + (1 : Int)))
                          else law_DiskFull_0.go N fuel room_ room4 used2 files3 steps3 left3 dead3 v.1 v.2.1 v.2.2.1 v.2.2.2.1 v.2.2.2.2.1 v.2.2.2.2.2 t21 t22 (IntKind.i64.wrap (t23 + (1 : Int)))
      else none
    else some (.inr ((room1, used, files, steps, left, dead, ()), (room2, steps1, files1, armed, dead1, left1, ()), ()))
def law_DiskFull_0.g (N n : Nat) (x : Sh.den law_DiskFull_0.ins) : Option (altsDen law_DiskFull_0.alts) := law_DiskFull_0.go N n x.1 x.2.1.1 x.2.1.2.1 x.2.1.2.2.1 x.2.1.2.2.2.1 x.2.1.2.2.2.2.1 x.2.1.2.2.2.2.2.1 x.2.2.1.1 x.2.2.1.2.1 x.2.2.1.2.2.1 x.2.2.1.2.2.2.1 x.2.2.1.2.2.2.2.1 x.2.2.1.2.2.2.2.2.1 x.2.2.2.1 x.2.2.2.2.1 x.2.2.2.2.2.1
def law_DiskFull_0.P (N : Nat) : Ps := ⟨law_DiskFull_0.ts, law_DiskFull_0.ins, law_DiskFull_0.asg, law_DiskFull_0.alts, law_DiskFull_0.g N N⟩
def law_DiskFull_0.lam (N : Nat) : Pcs := pcs []
theorem law_DiskFull_0.pok (N : Nat) : (law_DiskFull_0.lam N).Ok Try.prog (law_DiskFull_0.C N) law_DiskFull_0.code := pcsOk_nil
theorem law_DiskFull_0.ev (N n : Nat) (x : Sh.den law_DiskFull_0.ins) : evC (law_DiskFull_0.C N) law_DiskFull_0.code (law_DiskFull_0.lam N) ((law_DiskFull_0.P N).canon 1000 x) (loopK (law_DiskFull_0.P N) (law_DiskFull_0.g N n)) = law_DiskFull_0.g N (n + 1) x := by kernel_rfl
theorem law_DiskFull_0.ok (N : Nat) : ((law_DiskFull_0.P N).pc (law_DiskFull.C N)).Ok Try.prog (law_DiskFull.C N) (.loop law_DiskFull_0.code) := loop_ok (F := law_DiskFull_0.P N) (n0 := 1000) (N := N) (law_DiskFull.cok N) mix (law_DiskFull_0.pok N) (law_DiskFull_0.g N) (fun x => by rfl) rfl (fun n x y h => (law_DiskFull_0.ev N n x).trans h)
def law_DiskFull.outs : Sh := (.cons (.val .bool) .nil)
def law_DiskFull.run (N : Nat) (room_ : Int) (script : (List (Int × ((List UInt8) × ((List UInt8) × ((List UInt8) × (Int × (Int × (List Int))))))))) : Option (Bool × Unit) :=
  obind (law_begun.run N room_) fun ((room1, used, files, steps, left, dead, _), b, _) =>
    bif !b then
      some (false, ())
    else
      obind (ref_New.run N room_) fun (v, _) =>
        obind (law_DiskFull_0.go N N room_ room1 used files steps left dead v.1 v.2.1 v.2.2.1 v.2.2.2.1 v.2.2.2.2.1 v.2.2.2.2.2 script (script.length : Int) (0 : Int)) fun y => match y with
        | .inl ((room2, used1, files1, steps1, left1, dead1, _), (room3, steps2, files2, armed, dead2, left2, _), t4, _) =>
            some (t4, ())
        | .inr ((room4, used2, files3, steps3, left3, dead3, _), (room5, steps4, files4, armed1, dead4, left4, _), _) =>
            some (true, ())
def law_DiskFull.fn (N : Nat) (x : Sh.den law_DiskFull.ins) : Option (Sh.den law_DiskFull.outs) := law_DiskFull.run N x.1 x.2.1
def law_DiskFull.S (N : Nat) : Fs := ⟨law_DiskFull.ins, law_DiskFull.outs, law_DiskFull.fn N⟩
def law_DiskFull.lam (N : Nat) : Pcs := pcs [([true, true, true, true, false, true, false], (law_DiskFull_0.P N).pc (law_DiskFull.C N))]
theorem law_DiskFull.pok (N : Nat) : (law_DiskFull.lam N).Ok Try.prog (law_DiskFull.C N) law_DiskFull.code := pcsOk_cons (c1 := .loop law_DiskFull_0.code) (by kernel_rfl) (law_DiskFull_0.ok N) (pcsOk_nil)
theorem law_DiskFull.ev (N : Nat) (x : Sh.den law_DiskFull.ins) : evC (law_DiskFull.C N) law_DiskFull.code (law_DiskFull.lam N) ⟨envOf 0 (bld (fun k => k) law_DiskFull.ins x 0).1, (bld (fun k => k) law_DiskFull.ins x 0).2.1, 1000⟩ (endF U law_DiskFull.outs Try.f9.results.toList []) = law_DiskFull.fn N x := by kernel_rfl
theorem law_DiskFull.ok (N : Nat) : (law_DiskFull.S N).con.Ok Try.prog 9 := fn_ok (F := law_DiskFull.S N) (n0 := 1000) Try.func9 (by kernel_rfl) (show Try.f9.body = some law_DiskFull.code by rfl) mix (law_DiskFull.cok N) (fun _ => rfl) (fun _ => rfl) (law_DiskFull.pok N) (fun x y h => (law_DiskFull.ev N x).trans h)
/-- hayloft/hayloftlaw04.DiskApart -/
def law_DiskApart.ins : Sh := (.cons (.val (.slice (.pair (.int .i64) (.pair .str (.pair .str (.pair (.slice .byte) (.pair (.int .i64) (.pair (.int .i64) (.slice (.int .i64)))))))))) (.cons (.val .str) .nil))
def law_DiskApart.C (N : Nat) : Ctx := ⟨U, 109, fun _ => true, gam [(11, (law_begun.S N).con), (16, (ref_New.S N).con), (15, (law_change.S N).con), (13, (disk_Disk_Read.S N).con), (17, (disk_Disk_Remove.S N).con), (12, (disk_Disk_Append.S N).con)], gamY []⟩
theorem law_DiskApart.cok (N : Nat) : (law_DiskApart.C N).Ok Try.prog := ⟨U_ok, GamOk.cons (law_begun.ok N) (GamOk.cons (ref_New.ok N) (GamOk.cons (law_change.ok N) (GamOk.cons (disk_Disk_Read.ok N) (GamOk.cons (disk_Disk_Remove.ok N) (GamOk.cons (disk_Disk_Append.ok N) (GamOk.nil)))))), GamYOk.nil⟩
def law_DiskApart.code : Code := Try.f4.body.getD .skip
def law_DiskApart_0.ins : Sh := (.cons (.val .str) (.cons (.box 67 (.cons (.val (.int .i64)) (.cons (.val (.int .i64)) (.cons (.own 3000000 (.pair .str (.pair (.slice .byte) (.int .i64)))) (.cons (.val (.int .i64)) (.cons (.val (.int .i64)) (.cons (.val .bool) .nil))))))) (.cons (.box 67 (.cons (.val (.int .i64)) (.cons (.val (.int .i64)) (.cons (.own 3000000 (.pair .str (.pair (.slice .byte) (.int .i64)))) (.cons (.val (.int .i64)) (.cons (.val (.int .i64)) (.cons (.val .bool) .nil))))))) (.cons (.val (.slice (.pair (.int .i64) (.pair .str (.pair .str (.pair (.slice .byte) (.pair (.int .i64) (.pair (.int .i64) (.slice (.int .i64)))))))))) (.cons (.val (.int .i64)) (.cons (.val (.int .i64)) .nil))))))
def law_DiskApart_0.ts : List Tmp := [1, 5, 7, 31, 32, 33]
def law_DiskApart_0.asg : List Tmp := [10, 11, 12, 33, 34, 35, 36, 37, 38, 39, 40, 41, 42, 43, 44, 45, 46, 47, 48, 49, 50, 51, 52, 53, 54, 55, 56, 57, 58, 59, 60, 61, 62, 63, 64, 65, 66, 67, 68, 69, 70, 71, 72, 73, 74, 75, 76, 77, 78, 79, 80, 81, 82, 83, 84, 85, 86]
def law_DiskApart_0.C (N : Nat) : Ctx := { law_DiskApart.C N with may := fun t => law_DiskApart_0.asg.any (Nat.beq t) }
def law_DiskApart_0.code : Code := loopBody (sub law_DiskApart.code [true, true, true, true, false, true, false])
theorem law_DiskApart_0.cok (N : Nat) : (law_DiskApart_0.C N).Ok Try.prog := ⟨(law_DiskApart.cok N).U, (law_DiskApart.cok N).Γ, (law_DiskApart.cok N).Y⟩
def law_DiskApart_0_0.ins : Sh := (.cons (.val .str) (.cons (.rbox 36 (.cons (.val (.int .i64)) (.cons (.val .str) (.cons (.val .str) (.cons (.val (.slice .byte)) (.cons (.val (.int .i64)) (.cons (.val (.int .i64)) (.cons (.val (.slice (.int .i64))) .nil)))))))) .nil))
def law_DiskApart_0_0.ts : List Tmp := [1, 10]
def law_DiskApart_0_0.asg : List Tmp := [44, 45, 46, 47, 48, 49, 50, 51, 52, 53, 54, 55, 56, 57, 58]
def law_DiskApart_0_0.C (N : Nat) : Ctx := { law_DiskApart_0.C N with may := fun t => law_DiskApart_0_0.asg.any (Nat.beq t) }
def law_DiskApart_0_0.code : Code := (sub law_DiskApart_0.code [true, true, false, false, true, true, true, false]).getD .skip
theorem law_DiskApart_0_0.cok (N : Nat) : (law_DiskApart_0_0.C N).Ok Try.prog := ⟨(law_DiskApart_0.cok N).U, (law_DiskApart_0.cok N).Γ, (law_DiskApart_0.cok N).Y⟩
def law_DiskApart_0_0.alts : List Alt := [⟨.normal, [58], (.cons (.val .bool) .nil)⟩]
def law_DiskApart_0_0.run (N : Nat) (name : (List UInt8)) (kind : Int) (name1 : (List UInt8)) (to_ : (List UInt8)) (bytes : (List UInt8)) (n_ : Int) (bit : Int) (keep : (List Int)) : Option ((Bool × Unit)) :=
  bif decide (name1 = name) then
    some (true, ())
  else
    bif decide (kind = (3 : Int)) then
      some (decide (to_ = name), ())
    else some (false, ())
def law_DiskApart_0_0.fn (N : Nat) (x : Sh.den law_DiskApart_0_0.ins) : Option (altsDen law_DiskApart_0_0.alts) := law_DiskApart_0_0.run N x.1 x.2.1.1 x.2.1.2.1 x.2.1.2.2.1 x.2.1.2.2.2.1 x.2.1.2.2.2.2.1 x.2.1.2.2.2.2.2.1 x.2.1.2.2.2.2.2.2.1
def law_DiskApart_0_0.P (N : Nat) : Ps := ⟨law_DiskApart_0_0.ts, law_DiskApart_0_0.ins, law_DiskApart_0_0.asg, law_DiskApart_0_0.alts, law_DiskApart_0_0.fn N⟩
def law_DiskApart_0_0.lam (N : Nat) : Pcs := pcs []
theorem law_DiskApart_0_0.pok (N : Nat) : (law_DiskApart_0_0.lam N).Ok Try.prog (law_DiskApart_0_0.C N) law_DiskApart_0_0.code := pcsOk_nil
theorem law_DiskApart_0_0.ev (N : Nat) (x : Sh.den law_DiskApart_0_0.ins) : evC (law_DiskApart_0_0.C N) law_DiskApart_0_0.code (law_DiskApart_0_0.lam N) ((law_DiskApart_0_0.P N).canon 1000 x) (altK (law_DiskApart_0_0.P N).alts) = law_DiskApart_0_0.fn N x := by kernel_rfl
theorem law_DiskApart_0_0.ok (N : Nat) : ((law_DiskApart_0_0.P N).pc (law_DiskApart_0.C N)).Ok Try.prog (law_DiskApart_0.C N) law_DiskApart_0_0.code := ps_ok (F := law_DiskApart_0_0.P N) (n0 := 1000) (law_DiskApart_0.cok N) mix (law_DiskApart_0_0.pok N) (fun x y h => (law_DiskApart_0_0.ev N x).trans h)
def law_DiskApart_0_1.ins : Sh := (.cons (.val .str) (.cons (.rbox 36 (.cons (.val (.int .i64)) (.cons (.val .str) (.cons (.val .str) (.cons (.val (.slice .byte)) (.cons (.val (.int .i64)) (.cons (.val (.int .i64)) (.cons (.val (.slice (.int .i64))) .nil)))))))) .nil))
def law_DiskApart_0_1.ts : List Tmp := [1, 10]
def law_DiskApart_0_1.asg : List Tmp := [59, 60, 61, 62, 63, 64, 65, 66, 67]
def law_DiskApart_0_1.C (N : Nat) : Ctx := { law_DiskApart_0.C N with may := fun t => law_DiskApart_0_1.asg.any (Nat.beq t) }
def law_DiskApart_0_1.code : Code := (sub law_DiskApart_0.code [true, true, false, false, true, true, true, true, false, false, false]).getD .skip
theorem law_DiskApart_0_1.cok (N : Nat) : (law_DiskApart_0_1.C N).Ok Try.prog := ⟨(law_DiskApart_0.cok N).U, (law_DiskApart_0.cok N).Γ, (law_DiskApart_0.cok N).Y⟩
def law_DiskApart_0_1.alts : List Alt := [⟨.normal, [67], (.cons (.val .bool) .nil)⟩]
def law_DiskApart_0_1.run (N : Nat) (name : (List UInt8)) (kind : Int) (name1 : (List UInt8)) (to_ : (List UInt8)) (bytes : (List UInt8)) (n_ : Int) (bit : Int) (keep : (List Int)) : Option ((Bool × Unit)) :=
  bif decide (kind = (3 : Int)) then
    some (!(decide (name1 = name)), ())
  else some (false, ())
def law_DiskApart_0_1.fn (N : Nat) (x : Sh.den law_DiskApart_0_1.ins) : Option (altsDen law_DiskApart_0_1.alts) := law_DiskApart_0_1.run N x.1 x.2.1.1 x.2.1.2.1 x.2.1.2.2.1 x.2.1.2.2.2.1 x.2.1.2.2.2.2.1 x.2.1.2.2.2.2.2.1 x.2.1.2.2.2.2.2.2.1
def law_DiskApart_0_1.P (N : Nat) : Ps := ⟨law_DiskApart_0_1.ts, law_DiskApart_0_1.ins, law_DiskApart_0_1.asg, law_DiskApart_0_1.alts, law_DiskApart_0_1.fn N⟩
def law_DiskApart_0_1.lam (N : Nat) : Pcs := pcs []
theorem law_DiskApart_0_1.pok (N : Nat) : (law_DiskApart_0_1.lam N).Ok Try.prog (law_DiskApart_0_1.C N) law_DiskApart_0_1.code := pcsOk_nil
theorem law_DiskApart_0_1.ev (N : Nat) (x : Sh.den law_DiskApart_0_1.ins) : evC (law_DiskApart_0_1.C N) law_DiskApart_0_1.code (law_DiskApart_0_1.lam N) ((law_DiskApart_0_1.P N).canon 1000 x) (altK (law_DiskApart_0_1.P N).alts) = law_DiskApart_0_1.fn N x := by kernel_rfl
theorem law_DiskApart_0_1.ok (N : Nat) : ((law_DiskApart_0_1.P N).pc (law_DiskApart_0.C N)).Ok Try.prog (law_DiskApart_0.C N) law_DiskApart_0_1.code := ps_ok (F := law_DiskApart_0_1.P N) (n0 := 1000) (law_DiskApart_0.cok N) mix (law_DiskApart_0_1.pok N) (fun x y h => (law_DiskApart_0_1.ev N x).trans h)
def law_DiskApart_0.alts : List Alt := [⟨(.exit 0), [], (.cons (.upd 0 67 (.cons (.val (.int .i64)) (.cons (.val (.int .i64)) (.cons (.own 3000000 (.pair .str (.pair (.slice .byte) (.int .i64)))) (.cons (.val (.int .i64)) (.cons (.val (.int .i64)) (.cons (.val .bool) .nil))))))) (.cons (.upd 2 67 (.cons (.val (.int .i64)) (.cons (.val (.int .i64)) (.cons (.own 3000000 (.pair .str (.pair (.slice .byte) (.int .i64)))) (.cons (.val (.int .i64)) (.cons (.val (.int .i64)) (.cons (.val .bool) .nil))))))) .nil))⟩]
def law_DiskApart_0.go (N : Nat) : Nat → (List UInt8) → Int → Int → (List ((List UInt8) × ((List UInt8) × Int))) → Int → Int → Bool → Int → Int → (List ((List UInt8) × ((List UInt8) × Int))) → Int → Int → Bool → (List (Int × ((List UInt8) × ((List UInt8) × ((List UInt8) × (Int × (Int × (List Int)))))))) → Int → Int → Option (((Int × Int × (List ((List UInt8) × ((List UInt8) × Int))) × Int × Int × Bool × Unit) × (Int × Int × (List ((List UInt8) × ((List UInt8) × Int))) × Int × Int × Bool × Unit) × Unit))
  | 0, _, _, _, _, _, _, _, _, _, _, _, _, _, _, _, _ => none
  | fuel + 1, name, room_, used, files, steps, left, dead, room1, used1, files1, steps1, left1, dead1, t31, t32, t33 =>
    bif decide (t33 < t32) then
      bif inB t33 t31.length then
        bif decide ((t31.getD t33.toNat ((0 : Int), ([] : List UInt8), ([] : List UInt8), ([] : List UInt8), (0 : Int), (0 : Int), ([] : List Int))).1 > (4 : Int)) then
          law_DiskApart_0.go N fuel name room_ used files steps left dead room1 used1 files1 steps1 left1 dead1 t31 t32 (IntKind.i64.wrap (t33 + (1 : Int)))
        else
          obind (ref_New.run N (0 : Int)) fun (v, _) =>
            obind (law_change.run N room_ used files steps left dead v (t31.getD t33.toNat ((0 : Int), ([] : List UInt8), ([] : List UInt8), ([] : List UInt8), (0 : Int), (0 : Int), ([] : List Int)))) fun ((room2, used2, files2, steps2, left2, dead2, _), v1, b, _) =>
              obind (law_DiskApart_0_0.run N name (t31.getD t33.toNat ((0 : Int), ([] : List UInt8), ([] : List UInt8), ([] : List UInt8), (0 : Int), (0 : Int), ([] : List Int))).1 (t31.getD t33.toNat ((0 : Int), ([] : List UInt8), ([] : List UInt8), ([] : List UInt8), (0 : Int), (0 : Int), ([] : List Int))).2.1 (t31.getD t33.toNat ((0 : Int), ([] : List UInt8), ([] : List UInt8), ([] : List UInt8), (0 : Int), (0 : Int), ([] : List Int))).2.2.1 (t31.getD t33.toNat ((0 : Int), ([] : List UInt8), ([] : List UInt8), ([] : List UInt8), (0 : Int), (0 : Int), ([] : List Int))).2.2.2.1 (t31.getD t33.toNat ((0 : Int), ([] : List UInt8), ([] : List UInt8), ([] : List UInt8), (0 : Int), (0 : Int), ([] : List Int))).2.2.2.2.1 (t31.getD t33.toNat ((0 : Int), ([] : List UInt8), ([] : List UInt8), ([] : List UInt8), (0 : Int), (0 : Int), ([] : List Int))).2.2.2.2.2.1 (t31.getD t33.toNat ((0 : Int), ([] : List UInt8), ([] : List UInt8), ([] : List UInt8), (0 : Int), (0 : Int), ([] : List Int))).2.2.2.2.2.2) fun (t58, _) =>
                bif t58 then
                  obind (law_DiskApart_0_1.run N name (t31.getD t33.toNat ((0 : Int), ([] : List UInt8), ([] : List UInt8), ([] : List UInt8), (0 : Int), (0 : Int), ([] : List Int))).1 (t31.getD t33.toNat ((0 : Int), ([] : List UInt8), ([] : List UInt8), ([] : List UInt8), (0 : Int), (0 : Int), ([] : List Int))).2.1 (t31.getD t33.toNat ((0 : Int), ([] : List UInt8), ([] : List UInt8), ([] : List UInt8), (0 : Int), (0 : Int), ([] : List Int))).2.2.1 (t31.getD t33.toNat ((0 : Int), ([] : List UInt8), ([] : List UInt8), ([] : List UInt8), (0 : Int), (0 : Int), ([] : List Int))).2.2.2.1 (t31.getD t33.toNat ((0 : Int), ([] : List UInt8), ([] : List UInt8), ([] : List UInt8), (0 : Int), (0 : Int), ([] : List Int))).2.2.2.2.1 (t31.getD t33.toNat ((0 : Int), ([] : List UInt8), ([] : List UInt8), ([] : List UInt8), (0 : Int), (0 : Int), ([] : List Int))).2.2.2.2.2.1 (t31.getD t33.toNat ((0 : Int), ([] : List UInt8), ([] : List UInt8), ([] : List UInt8), (0 : Int), (0 : Int), ([] : List Int))).2.2.2.2.2.2) fun (t67, _) =>
                    bif t67 then
                      obind (disk_Disk_Read.run N room2 used2 files2 steps2 left2 dead2 name) fun (l, b1, _) =>
                        obind (disk_Disk_Remove.run N room1 used1 files1 steps1 left1 dead1 name) fun ((room3, used3, files3, steps3, left3, dead3, _), n_, _) =>
                          bif b1 then
                            obind (disk_Disk_Append.run N room3 used3 files3 steps3 left3 dead3 name l) fun ((room4, used4, files4, steps4, left4, dead4, _), n1, _) =>
                              law_DiskApart_0.go N fuel name room2 used2 files2 steps2 left2 dead2 room4 used4 files4 steps4 left4 dead4 t31 t32 (IntKind.i64.wrap (t33 + (1 : Int)))
                          else law_DiskApart_0.go N fuel name room2 used2 files2 steps2 left2 dead2 room3 used3 files3 steps3 left3 dead3 t31 t32 (IntKind.i64.wrap (t33 + (1 : Int)))
                    else
                      obind (ref_New.run N (0 : Int)) fun (v2, _) =>
                        obind (law_change.run N room1 used1 files1 steps1 left1 dead1 v2 (t31.getD t33.toNat ((0 : Int), ([] : List UInt8), ([] : List UInt8), ([] : List UInt8), (0 : Int), (0 : Int), ([] : List Int)))) fun ((room5, used5, files5, steps5, left5, dead5, _), v3, b2, _) =>
                          law_DiskApart_0.go N fuel name room2 used2 files2 steps2 left2 dead2 room5 used5 files5 steps5 left5 dead5 t31 t32 (IntKind.i64.wrap (t33 + (1 : Int)))
                else law_DiskApart_0.go N fuel name room2 used2 files2 steps2 left2 dead2 room1 used1 files1 steps1 left1 dead1 t31 t32 (IntKind.i64.wrap (t33 + (1 : Int)))
      else none
    else some ((room_, used, files, steps, left, dead, ()), (room1, used1, files1, steps1, left1, dead1, ()), ())
def law_DiskApart_0.g (N n : Nat) (x : Sh.den law_DiskApart_0.ins) : Option (altsDen law_DiskApart_0.alts) := law_DiskApart_0.go N n x.1 x.2.1.1 x.2.1.2.1 x.2.1.2.2.1 x.2.1.2.2.2.1 x.2.1.2.2.2.2.1 x.2.1.2.2.2.2.2.1 x.2.2.1.1 x.2.2.1.2.1 x.2.2.1.2.2.1 x.2.2.1.2.2.2.1 x.2.2.1.2.2.2.2.1 x.2.2.1.2.2.2.2.2.1 x.2.2.2.1 x.2.2.2.2.1 x.2.2.2.2.2.1
def law_DiskApart_0.P (N : Nat) : Ps := ⟨law_DiskApart_0.ts, law_DiskApart_0.ins, law_DiskApart_0.asg, law_DiskApart_0.alts, law_DiskApart_0.g N N⟩
def law_DiskApart_0.lam (N : Nat) : Pcs := pcs [([true, true, false, false, true, true, true, false], (law_DiskApart_0_0.P N).pc (law_DiskApart_0.C N)), ([true, true, false, false, true, true, true, true, false, false, false], (law_DiskApart_0_1.P N).pc (law_DiskApart_0.C N))]
theorem law_DiskApart_0.pok (N : Nat) : (law_DiskApart_0.lam N).Ok Try.prog (law_DiskApart_0.C N) law_DiskApart_0.code := pcsOk_cons (c1 := law_DiskApart_0_0.code) (by kernel_rfl) (law_DiskApart_0_0.ok N) (pcsOk_cons (c1 := law_DiskApart_0_1.code) (by kernel_rfl) (law_DiskApart_0_1.ok N) (pcsOk_nil))
theorem law_DiskApart_0.ev (N n : Nat) (x : Sh.den law_DiskApart_0.ins) : evC (law_DiskApart_0.C N) law_DiskApart_0.code (law_DiskApart_0.lam N) ((law_DiskApart_0.P N).canon 1000 x) (loopK (law_DiskApart_0.P N) (law_DiskApart_0.g N n)) = law_DiskApart_0.g N (n + 1) x := by kernel_rfl
theorem law_DiskApart_0.ok (N : Nat) : ((law_DiskApart_0.P N).pc (law_DiskApart.C N)).Ok Try.prog (law_DiskApart.C N) (.loop law_DiskApart_0.code) := loop_ok (F := law_DiskApart_0.P N) (n0 := 1000) (N := N) (law_DiskApart.cok N) mix (law_DiskApart_0.pok N) (law_DiskApart_0.g N) (fun x => by rfl) rfl (fun n x y h => (law_DiskApart_0.ev N n x).trans h)
def law_DiskApart.outs : Sh := (.cons (.val .bool) .nil)
def law_DiskApart.run (N : Nat) (script : (List (Int × ((List UInt8) × ((List UInt8) × ((List UInt8) × (Int × (Int × (List Int))))))))) (name : (List UInt8)) : Option (Bool × Unit) :=
  obind (law_begun.run N (1125899906842624 : Int)) fun ((room_, used, files, steps, left, dead, _), b, _) =>
    obind (law_begun.run N (1125899906842624 : Int)) fun ((room1, used1, files1, steps1, left1, dead1, _), b1, _) =>
      bif !b then
        some (false, ())
      else
        bif !b1 then
          some (false, ())
        else
          obind (law_DiskApart_0.go N N name room_ used files steps left dead room1 used1 files1 steps1 left1 dead1 script (script.length : Int) (0 : Int)) fun ((room2, used2, files2, steps2, left2, dead2, _), (room3, used3, files3, steps3, left3, dead3, _), _) =>
            obind (disk_Disk_Read.run N room2 used2 files2 steps2 left2 dead2 name) fun (l, b2, _) =>
              obind (disk_Disk_Read.run N room3 used3 files3 steps3 left3 dead3 name) fun (l1, b3, _) =>
                bif b2 == b3 then
                  some (decide (l = l1), ())
                else some (false, ())
def law_DiskApart.fn (N : Nat) (x : Sh.den law_DiskApart.ins) : Option (Sh.den law_DiskApart.outs) := law_DiskApart.run N x.1 x.2.1
def law_DiskApart.S (N : Nat) : Fs := ⟨law_DiskApart.ins, law_DiskApart.outs, law_DiskApart.fn N⟩
def law_DiskApart.lam (N : Nat) : Pcs := pcs [([true, true, true, true, false, true, false], (law_DiskApart_0.P N).pc (law_DiskApart.C N))]
theorem law_DiskApart.pok (N : Nat) : (law_DiskApart.lam N).Ok Try.prog (law_DiskApart.C N) law_DiskApart.code := pcsOk_cons (c1 := .loop law_DiskApart_0.code) (by kernel_rfl) (law_DiskApart_0.ok N) (pcsOk_nil)
theorem law_DiskApart.ev (N : Nat) (x : Sh.den law_DiskApart.ins) : evC (law_DiskApart.C N) law_DiskApart.code (law_DiskApart.lam N) ⟨envOf 0 (bld (fun k => k) law_DiskApart.ins x 0).1, (bld (fun k => k) law_DiskApart.ins x 0).2.1, 1000⟩ (endF U law_DiskApart.outs Try.f4.results.toList []) = law_DiskApart.fn N x := by kernel_rfl
theorem law_DiskApart.ok (N : Nat) : (law_DiskApart.S N).con.Ok Try.prog 4 := fn_ok (F := law_DiskApart.S N) (n0 := 1000) Try.func4 (by kernel_rfl) (show Try.f4.body = some law_DiskApart.code by rfl) mix (law_DiskApart.cok N) (fun _ => rfl) (fun _ => rfl) (law_DiskApart.pok N) (fun x y h => (law_DiskApart.ev N x).trans h)
/-- hayloft/hayloftlaw04.DiskWiped -/
def law_DiskWiped.ins : Sh := (.cons (.val (.int .i64)) (.cons (.val (.slice (.pair (.int .i64) (.pair .str (.pair .str (.pair (.slice .byte) (.pair (.int .i64) (.pair (.int .i64) (.slice (.int .i64)))))))))) (.cons (.val (.slice (.pair (.int .i64) (.pair .str (.pair .str (.pair (.slice .byte) (.pair (.int .i64) (.pair (.int .i64) (.slice (.int .i64)))))))))) .nil)))
def law_DiskWiped.C (N : Nat) : Ctx := ⟨U, 143, fun _ => true, gam [(11, (law_begun.S N).con), (16, (ref_New.S N).con), (15, (law_change.S N).con), (18, (disk_Disk_Wipe.S N).con), (14, (disk_Disk_Names.S N).con), (19, (disk_Disk_Free.S N).con), (13, (disk_Disk_Read.S N).con)], gamY []⟩
theorem law_DiskWiped.cok (N : Nat) : (law_DiskWiped.C N).Ok Try.prog := ⟨U_ok, GamOk.cons (law_begun.ok N) (GamOk.cons (ref_New.ok N) (GamOk.cons (law_change.ok N) (GamOk.cons (disk_Disk_Wipe.ok N) (GamOk.cons (disk_Disk_Names.ok N) (GamOk.cons (disk_Disk_Free.ok N) (GamOk.cons (disk_Disk_Read.ok N) (GamOk.nil))))))), GamYOk.nil⟩
def law_DiskWiped.code : Code := Try.f5.body.getD .skip
def law_DiskWiped_0.ins : Sh := (.cons (.box 67 (.cons (.val (.int .i64)) (.cons (.val (.int .i64)) (.cons (.own 3000000 (.pair .str (.pair (.slice .byte) (.int .i64)))) (.cons (.val (.int .i64)) (.cons (.val (.int .i64)) (.cons (.val .bool) .nil))))))) (.cons (.val (.slice (.pair (.int .i64) (.pair .str (.pair .str (.pair (.slice .byte) (.pair (.int .i64) (.pair (.int .i64) (.slice (.int .i64)))))))))) (.cons (.val (.int .i64)) (.cons (.val (.int .i64)) .nil))))
def law_DiskWiped_0.ts : List Tmp := [7, 38, 39, 40]
def law_DiskWiped_0.asg : List Tmp := [12, 40, 41, 42, 43, 44, 45, 46, 47, 48, 49, 50, 51]
def law_DiskWiped_0.C (N : Nat) : Ctx := { law_DiskWiped.C N with may := fun t => law_DiskWiped_0.asg.any (Nat.beq t) }
def law_DiskWiped_0.code : Code := loopBody (sub law_DiskWiped.code [true, true, true, true, false, true, false])
theorem law_DiskWiped_0.cok (N : Nat) : (law_DiskWiped_0.C N).Ok Try.prog := ⟨(law_DiskWiped.cok N).U, (law_DiskWiped.cok N).Γ, (law_DiskWiped.cok N).Y⟩
def law_DiskWiped_0.alts : List Alt := [⟨(.exit 0), [], (.cons (.upd 0 67 (.cons (.val (.int .i64)) (.cons (.val (.int .i64)) (.cons (.own 3000000 (.pair .str (.pair (.slice .byte) (.int .i64)))) (.cons (.val (.int .i64)) (.cons (.val (.int .i64)) (.cons (.val .bool) .nil))))))) .nil)⟩]
def law_DiskWiped_0.go (N : Nat) : Nat → Int → Int → (List ((List UInt8) × ((List UInt8) × Int))) → Int → Int → Bool → (List (Int × ((List UInt8) × ((List UInt8) × ((List UInt8) × (Int × (Int × (List Int)))))))) → Int → Int → Option (((Int × Int × (List ((List UInt8) × ((List UInt8) × Int))) × Int × Int × Bool × Unit) × Unit))
  | 0, _, _, _, _, _, _, _, _, _ => none
  | fuel + 1, room_, used, files, steps, left, dead, t38, t39, t40 =>
    bif decide (t40 < t39) then
      bif inB t40 t38.length then
        bif decide ((t38.getD t40.toNat ((0 : Int), ([] : List UInt8), ([] : List UInt8), ([] : List UInt8), (0 : Int), (0 : Int), ([] : List Int))).1 < (5 : Int)) then
          obind (ref_New.run N (0 : Int)) fun (v, _) =>
            obind (law_change.run N room_ used files steps left dead v (t38.getD t40.toNat ((0 : Int), ([] : List UInt8), ([] : List UInt8), ([] : List UInt8), (0 : Int), (0 : Int), ([] : List Int)))) fun ((room1, used1, files1, steps1, left1, dead1, _), v1, b, _) =>
              law_DiskWiped_0.go N fuel room1 used1 files1 steps1 left1 dead1 t38 t39 (IntKind.i64.wrap (t40 + (1 : Int)))
        else law_DiskWiped_0.go N fuel room_ used files steps left dead t38 t39 (IntKind.i64.wrap (t40 + (1 : Int)))
      else none
    else some ((room_, used, files, steps, left, dead, ()), ())
def law_DiskWiped_0.g (N n : Nat) (x : Sh.den law_DiskWiped_0.ins) : Option (altsDen law_DiskWiped_0.alts) := law_DiskWiped_0.go N n x.1.1 x.1.2.1 x.1.2.2.1 x.1.2.2.2.1 x.1.2.2.2.2.1 x.1.2.2.2.2.2.1 x.2.1 x.2.2.1 x.2.2.2.1
def law_DiskWiped_0.P (N : Nat) : Ps := ⟨law_DiskWiped_0.ts, law_DiskWiped_0.ins, law_DiskWiped_0.asg, law_DiskWiped_0.alts, law_DiskWiped_0.g N N⟩
def law_DiskWiped_0.lam (N : Nat) : Pcs := pcs []
theorem law_DiskWiped_0.pok (N : Nat) : (law_DiskWiped_0.lam N).Ok Try.prog (law_DiskWiped_0.C N) law_DiskWiped_0.code := pcsOk_nil
theorem law_DiskWiped_0.ev (N n : Nat) (x : Sh.den law_DiskWiped_0.ins) : evC (law_DiskWiped_0.C N) law_DiskWiped_0.code (law_DiskWiped_0.lam N) ((law_DiskWiped_0.P N).canon 1000 x) (loopK (law_DiskWiped_0.P N) (law_DiskWiped_0.g N n)) = law_DiskWiped_0.g N (n + 1) x := by kernel_rfl
theorem law_DiskWiped_0.ok (N : Nat) : ((law_DiskWiped_0.P N).pc (law_DiskWiped.C N)).Ok Try.prog (law_DiskWiped.C N) (.loop law_DiskWiped_0.code) := loop_ok (F := law_DiskWiped_0.P N) (n0 := 1000) (N := N) (law_DiskWiped.cok N) mix (law_DiskWiped_0.pok N) (law_DiskWiped_0.g N) (fun x => by rfl) rfl (fun n x y h => (law_DiskWiped_0.ev N n x).trans h)
def law_DiskWiped_1.ins : Sh := (.cons (.box 67 (.cons (.val (.int .i64)) (.cons (.val (.int .i64)) (.cons (.own 3000000 (.pair .str (.pair (.slice .byte) (.int .i64)))) (.cons (.val (.int .i64)) (.cons (.val (.int .i64)) (.cons (.val .bool) .nil))))))) (.cons (.box 67 (.cons (.val (.int .i64)) (.cons (.val (.int .i64)) (.cons (.own 3000000 (.pair .str (.pair (.slice .byte) (.int .i64)))) (.cons (.val (.int .i64)) (.cons (.val (.int .i64)) (.cons (.val .bool) .nil))))))) (.cons (.val (.slice (.pair (.int .i64) (.pair .str (.pair .str (.pair (.slice .byte) (.pair (.int .i64) (.pair (.int .i64) (.slice (.int .i64)))))))))) (.cons (.val (.int .i64)) (.cons (.val (.int .i64)) .nil)))))
def law_DiskWiped_1.ts : List Tmp := [7, 9, 65, 66, 67]
def law_DiskWiped_1.asg : List Tmp := [14, 67, 68, 69, 70, 71, 72, 73, 74, 75, 76, 77, 78, 79, 80, 81, 82]
def law_DiskWiped_1.C (N : Nat) : Ctx := { law_DiskWiped.C N with may := fun t => law_DiskWiped_1.asg.any (Nat.beq t) }
def law_DiskWiped_1.code : Code := loopBody (sub law_DiskWiped.code [true, true, true, true, true, true, true, false, true, false])
theorem law_DiskWiped_1.cok (N : Nat) : (law_DiskWiped_1.C N).Ok Try.prog := ⟨(law_DiskWiped.cok N).U, (law_DiskWiped.cok N).Γ, (law_DiskWiped.cok N).Y⟩
def law_DiskWiped_1.alts : List Alt := [⟨(.exit 2), [], (.cons (.upd 0 67 (.cons (.val (.int .i64)) (.cons (.val (.int .i64)) (.cons (.own 3000000 (.pair .str (.pair (.slice .byte) (.int .i64)))) (.cons (.val (.int .i64)) (.cons (.val (.int .i64)) (.cons (.val .bool) .nil))))))) (.cons (.upd 2 67 (.cons (.val (.int .i64)) (.cons (.val (.int .i64)) (.cons (.own 3000000 (.pair .str (.pair (.slice .byte) (.int .i64)))) (.cons (.val (.int .i64)) (.cons (.val (.int .i64)) (.cons (.val .bool) .nil))))))) .nil))⟩]
def law_DiskWiped_1.go (N : Nat) : Nat → Int → Int → (List ((List UInt8) × ((List UInt8) × Int))) → Int → Int → Bool → Int → Int → (List ((List UInt8) × ((List UInt8) × Int))) → Int → Int → Bool → (List (Int × ((List UInt8) × ((List UInt8) × ((List UInt8) × (Int × (Int × (List Int)))))))) → Int → Int → Option (((Int × Int × (List ((List UInt8) × ((List UInt8) × Int))) × Int × Int × Bool × Unit) × (Int × Int × (List ((List UInt8) × ((List UInt8) × Int))) × Int × Int × Bool × Unit) × Unit))
  | 0, _, _, _, _, _, _, _, _, _, _, _, _, _, _, _ => none
  | fuel + 1, room_, used, files, steps, left, dead, room1, used1, files1, steps1, left1, dead1, t65, t66, t67 =>
    bif decide (t67 < t66) then
      bif inB t67 t65.length then
        bif decide ((t65.getD t67.toNat ((0 : Int), ([] : List UInt8), ([] : List UInt8), ([] : List UInt8), (0 : Int), (0 : Int), ([] : List Int))).1 < (5 : Int)) then
          obind (ref_New.run N (0 : Int)) fun (v, _) =>
            obind (law_change.run N room_ used files steps left dead v (t65.getD t67.toNat ((0 : Int), ([] : List UInt8), ([] : List UInt8), ([] : List UInt8), (0 : Int), (0 : Int), ([] : List Int)))) fun ((room2, used2, files2, steps2, left2, dead2, _), v1, b, _) =>
              obind (ref_New.run N (0 : Int)) fun (v2, _) =>
                obind (law_change.run N room1 used1 files1 steps1 left1 dead1 v2 (t65.getD t67.toNat ((0 : Int), ([] : List UInt8), ([] : List UInt8), ([] : List UInt8), (0 : Int), (0 : Int), ([] : List Int)))) fun ((room3, used3, files3, steps3, left3, dead3, _), v3, b1, _) =>
                  law_DiskWiped_1.go N fuel room2 used2 files2 steps2 left2 dead2 room3 used3 files3 steps3 left3 dead3 t65 t66 (IntKind.i64.wrap (t67 + (1 : Int)))
        else law_DiskWiped_1.go N fuel room_ used files steps left dead room1 used1 files1 steps1 left1 dead1 t65 t66 (IntKind.i64.wrap (t67 + (1 : Int)))
      else none
    else some ((room_, used, files, steps, left, dead, ()), (room1, used1, files1, steps1, left1, dead1, ()), ())
def law_DiskWiped_1.g (N n : Nat) (x : Sh.den law_DiskWiped_1.ins) : Option (altsDen law_DiskWiped_1.alts) := law_DiskWiped_1.go N n x.1.1 x.1.2.1 x.1.2.2.1 x.1.2.2.2.1 x.1.2.2.2.2.1 x.1.2.2.2.2.2.1 x.2.1.1 x.2.1.2.1 x.2.1.2.2.1 x.2.1.2.2.2.1 x.2.1.2.2.2.2.1 x.2.1.2.2.2.2.2.1 x.2.2.1 x.2.2.2.1 x.2.2.2.2.1
def law_DiskWiped_1.P (N : Nat) : Ps := ⟨law_DiskWiped_1.ts, law_DiskWiped_1.ins, law_DiskWiped_1.asg, law_DiskWiped_1.alts, law_DiskWiped_1.g N N⟩
def law_DiskWiped_1.lam (N : Nat) : Pcs := pcs []
theorem law_DiskWiped_1.pok (N : Nat) : (law_DiskWiped_1.lam N).Ok Try.prog (law_DiskWiped_1.C N) law_DiskWiped_1.code := pcsOk_nil
theorem law_DiskWiped_1.ev (N n : Nat) (x : Sh.den law_DiskWiped_1.ins) : evC (law_DiskWiped_1.C N) law_DiskWiped_1.code (law_DiskWiped_1.lam N) ((law_DiskWiped_1.P N).canon 1000 x) (loopK (law_DiskWiped_1.P N) (law_DiskWiped_1.g N n)) = law_DiskWiped_1.g N (n + 1) x := by kernel_rfl
theorem law_DiskWiped_1.ok (N : Nat) : ((law_DiskWiped_1.P N).pc (law_DiskWiped.C N)).Ok Try.prog (law_DiskWiped.C N) (.loop law_DiskWiped_1.code) := loop_ok (F := law_DiskWiped_1.P N) (n0 := 1000) (N := N) (law_DiskWiped.cok N) mix (law_DiskWiped_1.pok N) (law_DiskWiped_1.g N) (fun x => by rfl) rfl (fun n x y h => (law_DiskWiped_1.ev N n x).trans h)
def law_DiskWiped_2.ins : Sh := (.cons (.rbox 67 (.cons (.val (.int .i64)) (.cons (.val (.int .i64)) (.cons (.rown 3000000 (.pair .str (.pair (.slice .byte) (.int .i64)))) (.cons (.val (.int .i64)) (.cons (.val (.int .i64)) (.cons (.val .bool) .nil))))))) (.cons (.rbox 67 (.cons (.val (.int .i64)) (.cons (.val (.int .i64)) (.cons (.rown 3000000 (.pair .str (.pair (.slice .byte) (.int .i64)))) (.cons (.val (.int .i64)) (.cons (.val (.int .i64)) (.cons (.val .bool) .nil))))))) (.cons (.rown 9 .str) (.cons (.rown 9 .str) (.cons (.val (.int .i64)) (.cons (.val (.int .i64)) .nil))))))
def law_DiskWiped_2.ts : List Tmp := [7, 9, 15, 16, 100, 101]
def law_DiskWiped_2.asg : List Tmp := [6, 17, 18, 19, 20, 21, 101, 102, 103, 104, 105, 106, 107, 108, 109, 110, 111, 112, 113, 114, 115, 116, 117, 118, 119, 120, 121, 122, 123, 124, 125, 126, 127, 128, 129, 130, 131, 132, 133, 134, 135, 136, 137, 138, 139, 140, 141, 142]
def law_DiskWiped_2.C (N : Nat) : Ctx := { law_DiskWiped.C N with may := fun t => law_DiskWiped_2.asg.any (Nat.beq t) }
def law_DiskWiped_2.code : Code := loopBody (sub law_DiskWiped.code [true, true, true, true, true, true, true, true, true, true, false, true, false])
theorem law_DiskWiped_2.cok (N : Nat) : (law_DiskWiped_2.C N).Ok Try.prog := ⟨(law_DiskWiped.cok N).U, (law_DiskWiped.cok N).Γ, (law_DiskWiped.cok N).Y⟩
def law_DiskWiped_2.alts : List Alt := [⟨.ret, [6], (.cons (.val .bool) .nil)⟩, ⟨(.exit 4), [], .nil⟩]
def law_DiskWiped_2.go (N : Nat) : Nat → Int → Int → (List ((List UInt8) × ((List UInt8) × Int))) → Int → Int → Bool → Int → Int → (List ((List UInt8) × ((List UInt8) × Int))) → Int → Int → Bool → (List (List UInt8)) → (List (List UInt8)) → Int → Int → Option ((Bool × Unit) ⊕ Unit)
  | 0, _, _, _, _, _, _, _, _, _, _, _, _, _, _, _, _ => none
  | fuel + 1, room_, used, files, steps, left, dead, room1, used1, files1, steps1, left1, dead1, l, m, t100, t101 =>
    bif decide (t101 < t100) then
      bif inB t101 l.length then
        bif decide (t101.toNat < l.length) then
          obind (disk_Disk_Read.run N room_ used files steps left dead (l.getD t101.toNat ([] : List UInt8))) fun (l1, b, _) =>
            bif inB t101 m.length then
              bif decide (t101.toNat < m.length) then
                obind (disk_Disk_Read.run N room1 used1 files1 steps1 left1 dead1 (m.getD t101.toNat ([] : List UInt8))) fun (l2, b1, _) =>
                  bif inB t101 l.length then
                    bif decide (t101.toNat < l.length) then
                      bif inB t101 m.length then
                        bif decide (t101.toNat < m.length) then
                          bif !(decide ((l.getD t101.toNat ([] : List UInt8)) = (m.getD t101.toNat ([] : List UInt8)))) then
                            some (.inl (false, ()))
                          else
                            bif !b1 then
                              some (.inl (false, ()))
                            else
                              bif !(decide (l1 = l2)) then
                                some (.inl (false, ()))
                              else law_DiskWiped_2.go N fuel room_ used files steps left dead room1 used1 files1 steps1 left1 dead1 l m t100 (IntKind.i64.wrap (t101 + (1 : Int)))
                        else none
                      else none
                    else none
                  else none
              else none
            else none
        else none
      else none
    else some (.inr ())
def law_DiskWiped_2.g (N n : Nat) (x : Sh.den law_DiskWiped_2.ins) : Option (altsDen law_DiskWiped_2.alts) := law_DiskWiped_2.go N n x.1.1 x.1.2.1 x.1.2.2.1 x.1.2.2.2.1 x.1.2.2.2.2.1 x.1.2.2.2.2.2.1 x.2.1.1 x.2.1.2.1 x.2.1.2.2.1 x.2.1.2.2.2.1 x.2.1.2.2.2.2.1 x.2.1.2.2.2.2.2.1 x.2.2.1 x.2.2.2.1 x.2.2.2.2.1 x.2.2.2.2.2.1
def law_DiskWiped_2.P (N : Nat) : Ps := ⟨law_DiskWiped_2.ts, law_DiskWiped_2.ins, law_DiskWiped_2.asg, law_DiskWiped_2.alts, law_DiskWiped_2.g N N⟩
def law_DiskWiped_2.lam (N : Nat) : Pcs := pcs []
theorem law_DiskWiped_2.pok (N : Nat) : (law_DiskWiped_2.lam N).Ok Try.prog (law_DiskWiped_2.C N) law_DiskWiped_2.code := pcsOk_nil
theorem law_DiskWiped_2.ev (N n : Nat) (x : Sh.den law_DiskWiped_2.ins) : evC (law_DiskWiped_2.C N) law_DiskWiped_2.code (law_DiskWiped_2.lam N) ((law_DiskWiped_2.P N).canon 1000 x) (loopK (law_DiskWiped_2.P N) (law_DiskWiped_2.g N n)) = law_DiskWiped_2.g N (n + 1) x := by kernel_rfl
theorem law_DiskWiped_2.ok (N : Nat) : ((law_DiskWiped_2.P N).pc (law_DiskWiped.C N)).Ok Try.prog (law_DiskWiped.C N) (.loop law_DiskWiped_2.code) := loop_ok (F := law_DiskWiped_2.P N) (n0 := 1000) (N := N) (law_DiskWiped.cok N) mix (law_DiskWiped_2.pok N) (law_DiskWiped_2.g N) (fun x => by rfl) rfl (fun n x y h => (law_DiskWiped_2.ev N n x).trans h)
def law_DiskWiped.outs : Sh := (.cons (.val .bool) .nil)
def law_DiskWiped.run (N : Nat) (room_ : Int) (ahead : (List (Int × ((List UInt8) × ((List UInt8) × ((List UInt8) × (Int × (Int × (List Int))))))))) (behind : (List (Int × ((List UInt8) × ((List UInt8) × ((List UInt8) × (Int × (Int × (List Int))))))))) : Option (Bool × Unit) :=
  obind (law_begun.run N room_) fun ((room1, used, files, steps, left, dead, _), b, _) =>
    obind (law_begun.run N room_) fun ((room2, used1, files1, steps1, left1, dead1, _), b1, _) =>
      bif !b then
        some (false, ())
      else
        bif !b1 then
          some (false, ())
        else
          obind (law_DiskWiped_0.go N N room1 used files steps left dead ahead (ahead.length : Int) (0 : Int)) fun ((room3, used2, files2, steps2, left2, dead2, _), _) =>
            obind (disk_Disk_Wipe.run N room3 used2 files2 steps2 left2 dead2) fun ((room4, used3, files3, steps3, left3, dead3, _), _) =>
              obind (disk_Disk_Names.run N room4 used3 files3 steps3 left3 dead3) fun ((room5, used4, files4, steps4, left4, dead4, _), l, _) =>
                bif !(decide ((l.length : Int) = (0 : Int))) then
                  some (false, ())
                else
                  obind (disk_Disk_Free.run N room5 used4 files4 steps4 left4 dead4) fun (n_, _) =>
                    obind (disk_Disk_Free.run N room2 used1 files1 steps1 left1 dead1) fun (n1, _) =>
                      bif !(decide (n_ = n1)) then
                        some (false, ())
                      else
                        obind (law_DiskWiped_1.go N N room5 used4 files4 steps4 left4 dead4 room2 used1 files1 steps1 left1 dead1 behind (behind.length : Int) (0 : Int)) fun ((room6, used5, files5, steps5, left5, dead5, _), (room7, used6, files6, steps6, left6, dead6, _), _) =>
                          obind (disk_Disk_Names.run N room6 used5 files5 steps5 left5 dead5) fun ((room8, used7, files7, steps7, left7, dead7, _), l1, _) =>
                            obind (disk_Disk_Names.run N room7 used6 files6 steps6 left6 dead6) fun ((room9, used8, files8, steps8, left8, dead8, _), l2, _) =>
                              bif !(decide ((l1.length : Int) = (l2.length : Int))) then
                                some (false, ())
                              else
                                obind (disk_Disk_Free.run N room8 used7 files7 steps7 left7 dead7) fun (n2, _) =>
                                  obind (disk_Disk_Free.run N room9 used8 files8 steps8 left8 dead8) fun (n3, _) =>
                                    bif !(decide (n2 = n3)) then
                                      some (false, ())
                                    else
                                      obind (law_DiskWiped_2.go N N room8 used7 files7 steps7 left7 dead7 room9 used8 files8 steps8 left8 dead8 l1 l2 (l1.length : Int) (0 : Int)) fun y => match y with
                                      | .inl (t6, _) =>
                                          some (t6, ())
                                      | .inr (_) =>
                                          some (true, ())
def law_DiskWiped.fn (N : Nat) (x : Sh.den law_DiskWiped.ins) : Option (Sh.den law_DiskWiped.outs) := law_DiskWiped.run N x.1 x.2.1 x.2.2.1
def law_DiskWiped.S (N : Nat) : Fs := ⟨law_DiskWiped.ins, law_DiskWiped.outs, law_DiskWiped.fn N⟩
def law_DiskWiped.lam (N : Nat) : Pcs := pcs [([true, true, true, true, false, true, false], (law_DiskWiped_0.P N).pc (law_DiskWiped.C N)), ([true, true, true, true, true, true, true, false, true, false], (law_DiskWiped_1.P N).pc (law_DiskWiped.C N)), ([true, true, true, true, true, true, true, true, true, true, false, true, false], (law_DiskWiped_2.P N).pc (law_DiskWiped.C N))]
theorem law_DiskWiped.pok (N : Nat) : (law_DiskWiped.lam N).Ok Try.prog (law_DiskWiped.C N) law_DiskWiped.code := pcsOk_cons (c1 := .loop law_DiskWiped_0.code) (by kernel_rfl) (law_DiskWiped_0.ok N) (pcsOk_cons (c1 := .loop law_DiskWiped_1.code) (by kernel_rfl) (law_DiskWiped_1.ok N) (pcsOk_cons (c1 := .loop law_DiskWiped_2.code) (by kernel_rfl) (law_DiskWiped_2.ok N) (pcsOk_nil)))
theorem law_DiskWiped.ev (N : Nat) (x : Sh.den law_DiskWiped.ins) : evC (law_DiskWiped.C N) law_DiskWiped.code (law_DiskWiped.lam N) ⟨envOf 0 (bld (fun k => k) law_DiskWiped.ins x 0).1, (bld (fun k => k) law_DiskWiped.ins x 0).2.1, 1000⟩ (endF U law_DiskWiped.outs Try.f5.results.toList []) = law_DiskWiped.fn N x := by kernel_rfl
theorem law_DiskWiped.ok (N : Nat) : (law_DiskWiped.S N).con.Ok Try.prog 5 := fn_ok (F := law_DiskWiped.S N) (n0 := 1000) Try.func5 (by kernel_rfl) (show Try.f5.body = some law_DiskWiped.code by rfl) mix (law_DiskWiped.cok N) (fun _ => rfl) (fun _ => rfl) (law_DiskWiped.pok N) (fun x y h => (law_DiskWiped.ev N x).trans h)
/-- hayloft/hayloftlaw04.DiskClones -/
def law_DiskClones.ins : Sh := (.cons (.val (.int .i64)) (.cons (.val (.pair (.slice (.pair (.int .i64) (.pair .str (.pair .str (.pair (.slice .byte) (.pair (.int .i64) (.pair (.int .i64) (.slice (.int .i64))))))))) (.pair (.slice (.pair (.int .i64) (.pair .str (.pair .str (.pair (.slice .byte) (.pair (.int .i64) (.pair (.int .i64) (.slice (.int .i64))))))))) (.slice (.pair (.int .i64) (.pair .str (.pair .str (.pair (.slice .byte) (.pair (.int .i64) (.pair (.int .i64) (.slice (.int .i64)))))))))))) (.cons (.val (.slice (.int .i64))) .nil)))
def law_DiskClones.C (N : Nat) : Ctx := ⟨U, 128, fun _ => true, gam [(11, (law_begun.S N).con), (16, (ref_New.S N).con), (25, (law_run.S N).con), (28, (disk_Disk_Clone.S N).con), (27, (disk_Disk_Crash.S N).con), (29, (ref_Crash.S N).con), (30, (law_step.S N).con), (24, (law_stands.S N).con)], gamY []⟩
theorem law_DiskClones.cok (N : Nat) : (law_DiskClones.C N).Ok Try.prog := ⟨U_ok, GamOk.cons (law_begun.ok N) (GamOk.cons (ref_New.ok N) (GamOk.cons (law_run.ok N) (GamOk.cons (disk_Disk_Clone.ok N) (GamOk.cons (disk_Disk_Crash.ok N) (GamOk.cons (ref_Crash.ok N) (GamOk.cons (law_step.ok N) (GamOk.cons (law_stands.ok N) (GamOk.nil)))))))), GamYOk.nil⟩
def law_DiskClones.code : Code := Try.f10.body.getD .skip
def law_DiskClones_0.ins : Sh := (.cons (.rbox 60 (.cons (.val (.slice (.pair (.int .i64) (.pair .str (.pair .str (.pair (.slice .byte) (.pair (.int .i64) (.pair (.int .i64) (.slice (.int .i64)))))))))) (.cons (.val (.slice (.pair (.int .i64) (.pair .str (.pair .str (.pair (.slice .byte) (.pair (.int .i64) (.pair (.int .i64) (.slice (.int .i64)))))))))) (.cons (.val (.slice (.pair (.int .i64) (.pair .str (.pair .str (.pair (.slice .byte) (.pair (.int .i64) (.pair (.int .i64) (.slice (.int .i64)))))))))) .nil)))) (.cons (.box 67 (.cons (.val (.int .i64)) (.cons (.val (.int .i64)) (.cons (.own 3000000 (.pair .str (.pair (.slice .byte) (.int .i64)))) (.cons (.val (.int .i64)) (.cons (.val (.int .i64)) (.cons (.val .bool) .nil))))))) (.cons (.box 39 (.cons (.val (.int .i64)) (.cons (.val (.int .i64)) (.cons (.val (.slice (.pair .str (.pair (.slice .byte) (.int .i64))))) (.cons (.val .bool) (.cons (.val .bool) (.cons (.val (.int .i64)) .nil))))))) (.cons (.box 67 (.cons (.val (.int .i64)) (.cons (.val (.int .i64)) (.cons (.own 3000000 (.pair .str (.pair (.slice .byte) (.int .i64)))) (.cons (.val (.int .i64)) (.cons (.val (.int .i64)) (.cons (.val .bool) .nil))))))) (.cons (.box 67 (.cons (.val (.int .i64)) (.cons (.val (.int .i64)) (.cons (.own 3000000 (.pair .str (.pair (.slice .byte) (.int .i64)))) (.cons (.val (.int .i64)) (.cons (.val (.int .i64)) (.cons (.val .bool) .nil))))))) (.cons (.box 39 (.cons (.val (.int .i64)) (.cons (.val (.int .i64)) (.cons (.val (.slice (.pair .str (.pair (.slice .byte) (.int .i64))))) (.cons (.val .bool) (.cons (.val .bool) (.cons (.val (.int .i64)) .nil))))))) (.cons (.box 39 (.cons (.val (.int .i64)) (.cons (.val (.int .i64)) (.cons (.val (.slice (.pair .str (.pair (.slice .byte) (.int .i64))))) (.cons (.val .bool) (.cons (.val .bool) (.cons (.val (.int .i64)) .nil))))))) (.cons (.val (.int .i64)) .nil))))))))
def law_DiskClones_0.ts : List Tmp := [4, 7, 9, 10, 11, 12, 13, 14]
def law_DiskClones_0.asg : List Tmp := [6, 7, 8, 10, 11, 14, 49, 50, 51, 52, 53, 54, 55, 56, 57, 58, 59, 60, 61, 62, 63, 64, 65, 66, 67, 68, 69, 70, 71, 72, 73, 74, 75, 76, 77, 78, 79, 80, 81, 82, 83, 84, 85, 86, 87, 88, 89, 90, 91, 92, 93, 94, 95, 96, 97, 98, 99, 100, 101, 102, 103, 104, 105, 106, 107, 108, 109, 110, 111, 112, 113, 114]
def law_DiskClones_0.C (N : Nat) : Ctx := { law_DiskClones.C N with may := fun t => law_DiskClones_0.asg.any (Nat.beq t) }
def law_DiskClones_0.code : Code := loopBody (sub law_DiskClones.code [true, true, true, true, true, true, true, true, false, true, false])
theorem law_DiskClones_0.cok (N : Nat) : (law_DiskClones_0.C N).Ok Try.prog := ⟨(law_DiskClones.cok N).U, (law_DiskClones.cok N).Γ, (law_DiskClones.cok N).Y⟩
def law_DiskClones_0_0.ins : Sh := (.cons (.rbox 60 (.cons (.val (.slice (.pair (.int .i64) (.pair .str (.pair .str (.pair (.slice .byte) (.pair (.int .i64) (.pair (.int .i64) (.slice (.int .i64)))))))))) (.cons (.val (.slice (.pair (.int .i64) (.pair .str (.pair .str (.pair (.slice .byte) (.pair (.int .i64) (.pair (.int .i64) (.slice (.int .i64)))))))))) (.cons (.val (.slice (.pair (.int .i64) (.pair .str (.pair .str (.pair (.slice .byte) (.pair (.int .i64) (.pair (.int .i64) (.slice (.int .i64)))))))))) .nil)))) (.cons (.val (.int .i64)) .nil))
def law_DiskClones_0_0.ts : List Tmp := [4, 14]
def law_DiskClones_0_0.asg : List Tmp := [49, 50, 51, 52, 53, 54, 55, 56, 57, 58, 59, 60]
def law_DiskClones_0_0.C (N : Nat) : Ctx := { law_DiskClones_0.C N with may := fun t => law_DiskClones_0_0.asg.any (Nat.beq t) }
def law_DiskClones_0_0.code : Code := (sub law_DiskClones_0.code [false]).getD .skip
theorem law_DiskClones_0_0.cok (N : Nat) : (law_DiskClones_0_0.C N).Ok Try.prog := ⟨(law_DiskClones_0.cok N).U, (law_DiskClones_0.cok N).Γ, (law_DiskClones_0.cok N).Y⟩
def law_DiskClones_0_0.alts : List Alt := [⟨.normal, [], .nil⟩, ⟨(.exit 0), [], .nil⟩]
def law_DiskClones_0_0.run (N : Nat) (ahead : (List (Int × ((List UInt8) × ((List UInt8) × ((List UInt8) × (Int × (Int × (List Int))))))))) (one : (List (Int × ((List UInt8) × ((List UInt8) × ((List UInt8) × (Int × (Int × (List Int))))))))) (two : (List (Int × ((List UInt8) × ((List UInt8) × ((List UInt8) × (Int × (Int × (List Int))))))))) (i : Int) : Option (Unit ⊕ Unit) :=
  bif decide (i < (one.length : Int)) then
    some (.inl ())
  else
    bif decide (i < (two.length : Int)) then
      some (.inl ())
    else some (.inr ())
def law_DiskClones_0_0.fn (N : Nat) (x : Sh.den law_DiskClones_0_0.ins) : Option (altsDen law_DiskClones_0_0.alts) := law_DiskClones_0_0.run N x.1.1 x.1.2.1 x.1.2.2.1 x.2.1
def law_DiskClones_0_0.P (N : Nat) : Ps := ⟨law_DiskClones_0_0.ts, law_DiskClones_0_0.ins, law_DiskClones_0_0.asg, law_DiskClones_0_0.alts, law_DiskClones_0_0.fn N⟩
def law_DiskClones_0_0.lam (N : Nat) : Pcs := pcs []
theorem law_DiskClones_0_0.pok (N : Nat) : (law_DiskClones_0_0.lam N).Ok Try.prog (law_DiskClones_0_0.C N) law_DiskClones_0_0.code := pcsOk_nil
theorem law_DiskClones_0_0.ev (N : Nat) (x : Sh.den law_DiskClones_0_0.ins) : evC (law_DiskClones_0_0.C N) law_DiskClones_0_0.code (law_DiskClones_0_0.lam N) ((law_DiskClones_0_0.P N).canon 1000 x) (altK (law_DiskClones_0_0.P N).alts) = law_DiskClones_0_0.fn N x := by kernel_rfl
theorem law_DiskClones_0_0.ok (N : Nat) : ((law_DiskClones_0_0.P N).pc (law_DiskClones_0.C N)).Ok Try.prog (law_DiskClones_0.C N) law_DiskClones_0_0.code := ps_ok (F := law_DiskClones_0_0.P N) (n0 := 1000) (law_DiskClones_0.cok N) mix (law_DiskClones_0_0.pok N) (fun x y h => (law_DiskClones_0_0.ev N x).trans h)
def law_DiskClones_0_1.ins : Sh := (.cons (.rbox 60 (.cons (.val (.slice (.pair (.int .i64) (.pair .str (.pair .str (.pair (.slice .byte) (.pair (.int .i64) (.pair (.int .i64) (.slice (.int .i64)))))))))) (.cons (.val (.slice (.pair (.int .i64) (.pair .str (.pair .str (.pair (.slice .byte) (.pair (.int .i64) (.pair (.int .i64) (.slice (.int .i64)))))))))) (.cons (.val (.slice (.pair (.int .i64) (.pair .str (.pair .str (.pair (.slice .byte) (.pair (.int .i64) (.pair (.int .i64) (.slice (.int .i64)))))))))) .nil)))) (.cons (.box 67 (.cons (.val (.int .i64)) (.cons (.val (.int .i64)) (.cons (.own 3000000 (.pair .str (.pair (.slice .byte) (.int .i64)))) (.cons (.val (.int .i64)) (.cons (.val (.int .i64)) (.cons (.val .bool) .nil))))))) (.cons (.box 39 (.cons (.val (.int .i64)) (.cons (.val (.int .i64)) (.cons (.val (.slice (.pair .str (.pair (.slice .byte) (.int .i64))))) (.cons (.val .bool) (.cons (.val .bool) (.cons (.val (.int .i64)) .nil))))))) (.cons (.val (.int .i64)) .nil))))
def law_DiskClones_0_1.ts : List Tmp := [4, 7, 9, 14]
def law_DiskClones_0_1.asg : List Tmp := [6, 7, 8, 63, 64, 65, 66, 67, 68, 69, 70, 71, 72, 73, 74, 75, 76, 77, 78, 79, 80, 81]
def law_DiskClones_0_1.C (N : Nat) : Ctx := { law_DiskClones_0.C N with may := fun t => law_DiskClones_0_1.asg.any (Nat.beq t) }
def law_DiskClones_0_1.code : Code := (sub law_DiskClones_0.code [true, false, false, false]).getD .skip
theorem law_DiskClones_0_1.cok (N : Nat) : (law_DiskClones_0_1.C N).Ok Try.prog := ⟨(law_DiskClones_0.cok N).U, (law_DiskClones_0.cok N).Γ, (law_DiskClones_0.cok N).Y⟩
def law_DiskClones_0_1.alts : List Alt := [⟨.normal, [7], (.cons (.upd 3 39 (.cons (.val (.int .i64)) (.cons (.val (.int .i64)) (.cons (.val (.slice (.pair .str (.pair (.slice .byte) (.int .i64))))) (.cons (.val .bool) (.cons (.val .bool) (.cons (.val (.int .i64)) .nil))))))) (.cons (.box 67 (.cons (.val (.int .i64)) (.cons (.val (.int .i64)) (.cons (.own 3000000 (.pair .str (.pair (.slice .byte) (.int .i64)))) (.cons (.val (.int .i64)) (.cons (.val (.int .i64)) (.cons (.val .bool) .nil))))))) .nil))⟩, ⟨.ret, [6], (.cons (.upd 3 39 (.cons (.val (.int .i64)) (.cons (.val (.int .i64)) (.cons (.val (.slice (.pair .str (.pair (.slice .byte) (.int .i64))))) (.cons (.val .bool) (.cons (.val .bool) (.cons (.val (.int .i64)) .nil))))))) (.cons (.val .bool) .nil))⟩]
def law_DiskClones_0_1.run (N : Nat) (ahead : (List (Int × ((List UInt8) × ((List UInt8) × ((List UInt8) × (Int × (Int × (List Int))))))))) (one : (List (Int × ((List UInt8) × ((List UInt8) × ((List UInt8) × (Int × (Int × (List Int))))))))) (two : (List (Int × ((List UInt8) × ((List UInt8) × ((List UInt8) × (Int × (Int × (List Int))))))))) (room_ : Int) (used : Int) (files : (List ((List UInt8) × ((List UInt8) × Int)))) (steps : Int) (left : Int) (dead : Bool) (room1 : Int) (steps1 : Int) (files1 : (List ((List UInt8) × ((List UInt8) × Int)))) (armed : Bool) (dead1 : Bool) (left1 : Int) (i : Int) : Option (((Int × Int × (List ((List UInt8) × ((List UInt8) × Int))) × Bool × Bool × Int × Unit) × (Int × Int × (List ((List UInt8) × ((List UInt8) × Int))) × Int × Int × Bool × Unit) × Unit) ⊕ ((Int × Int × (List ((List UInt8) × ((List UInt8) × Int))) × Bool × Bool × Int × Unit) × Bool × Unit)) :=
  bif decide (i < (one.length : Int)) then
    bif inB i one.length then
      obind (law_step.run N room_ used files steps left dead (room1, steps1, files1, armed, dead1, left1) (one.getD i.toNat ((0 : Int), ([] : List UInt8), ([] : List UInt8), ([] : List UInt8), (0 : Int), (0 : Int), ([] : List Int)))) fun ((room2, used1, files2, steps2, left2, dead2, _), v, b, _) =>
        bif !b then
          some (.inr ((v.1, v.2.1, v.2.2.1, v.2.2.2.1, v.2.2.2.2.1, v.2.2.2.2.2, ()), false, ()))
        else some (.inl ((v.1, v.2.1, v.2.2.1, v.2.2.2.1, v.2.2.2.2.1, v.2.2.2.2.2, ()), (room2, used1, files2, steps2, left2, dead2, ()), ()))
    else none
  else some (.inl ((room1, steps1, files1, armed, dead1, left1, ()), (room_, used, files, steps, left, dead, ()), ()))
def law_DiskClones_0_1.fn (N : Nat) (x : Sh.den law_DiskClones_0_1.ins) : Option (altsDen law_DiskClones_0_1.alts) := law_DiskClones_0_1.run N x.1.1 x.1.2.1 x.1.2.2.1 x.2.1.1 x.2.1.2.1 x.2.1.2.2.1 x.2.1.2.2.2.1 x.2.1.2.2.2.2.1 x.2.1.2.2.2.2.2.1 x.2.2.1.1 x.2.2.1.2.1 x.2.2.1.2.2.1 x.2.2.1.2.2.2.1 x.2.2.1.2.2.2.2.1 x.2.2.1.2.2.2.2.2.1 x.2.2.2.1
def law_DiskClones_0_1.P (N : Nat) : Ps := ⟨law_DiskClones_0_1.ts, law_DiskClones_0_1.ins, law_DiskClones_0_1.asg, law_DiskClones_0_1.alts, law_DiskClones_0_1.fn N⟩
def law_DiskClones_0_1.lam (N : Nat) : Pcs := pcs []
theorem law_DiskClones_0_1.pok (N : Nat) : (law_DiskClones_0_1.lam N).Ok Try.prog (law_DiskClones_0_1.C N) law_DiskClones_0_1.code := pcsOk_nil
theorem law_DiskClones_0_1.ev (N : Nat) (x : Sh.den law_DiskClones_0_1.ins) : evC (law_DiskClones_0_1.C N) law_DiskClones_0_1.code (law_DiskClones_0_1.lam N) ((law_DiskClones_0_1.P N).canon 1000 x) (altK (law_DiskClones_0_1.P N).alts) = law_DiskClones_0_1.fn N x := by kernel_rfl
theorem law_DiskClones_0_1.ok (N : Nat) : ((law_DiskClones_0_1.P N).pc (law_DiskClones_0.C N)).Ok Try.prog (law_DiskClones_0.C N) law_DiskClones_0_1.code := ps_ok (F := law_DiskClones_0_1.P N) (n0 := 1000) (law_DiskClones_0.cok N) mix (law_DiskClones_0_1.pok N) (fun x y h => (law_DiskClones_0_1.ev N x).trans h)
def law_DiskClones_0.alts : List Alt := [⟨.ret, [6], (.cons (.upd 3 39 (.cons (.val (.int .i64)) (.cons (.val (.int .i64)) (.cons (.val (.slice (.pair .str (.pair (.slice .byte) (.int .i64))))) (.cons (.val .bool) (.cons (.val .bool) (.cons (.val (.int .i64)) .nil))))))) (.cons (.upd 8 39 (.cons (.val (.int .i64)) (.cons (.val (.int .i64)) (.cons (.val (.slice (.pair .str (.pair (.slice .byte) (.int .i64))))) (.cons (.val .bool) (.cons (.val .bool) (.cons (.val (.int .i64)) .nil))))))) (.cons (.upd 9 39 (.cons (.val (.int .i64)) (.cons (.val (.int .i64)) (.cons (.val (.slice (.pair .str (.pair (.slice .byte) (.int .i64))))) (.cons (.val .bool) (.cons (.val .bool) (.cons (.val (.int .i64)) .nil))))))) (.cons (.val .bool) .nil))))⟩, ⟨(.exit 0), [7, 10, 11], (.cons (.upd 3 39 (.cons (.val (.int .i64)) (.cons (.val (.int .i64)) (.cons (.val (.slice (.pair .str (.pair (.slice .byte) (.int .i64))))) (.cons (.val .bool) (.cons (.val .bool) (.cons (.val (.int .i64)) .nil))))))) (.cons (.upd 8 39 (.cons (.val (.int .i64)) (.cons (.val (.int .i64)) (.cons (.val (.slice (.pair .str (.pair (.slice .byte) (.int .i64))))) (.cons (.val .bool) (.cons (.val .bool) (.cons (.val (.int .i64)) .nil))))))) (.cons (.upd 9 39 (.cons (.val (.int .i64)) (.cons (.val (.int .i64)) (.cons (.val (.slice (.pair .str (.pair (.slice .byte) (.int .i64))))) (.cons (.val .bool) (.cons (.val .bool) (.cons (.val (.int .i64)) .nil))))))) (.cons (.box 67 (.cons (.val (.int .i64)) (.cons (.val (.int .i64)) (.cons (.own 3000000 (.pair .str (.pair (.slice .byte) (.int .i64)))) (.cons (.val (.int .i64)) (.cons (.val (.int .i64)) (.cons (.val .bool) .nil))))))) (.cons (.box 67 (.cons (.val (.int .i64)) (.cons (.val (.int .i64)) (.cons (.own 3000000 (.pair .str (.pair (.slice .byte) (.int .i64)))) (.cons (.val (.int .i64)) (.cons (.val (.int .i64)) (.cons (.val .bool) .nil))))))) (.cons (.box 67 (.cons (.val (.int .i64)) (.cons (.val (.int .i64)) (.cons (.own 3000000 (.pair .str (.pair (.slice .byte) (.int .i64)))) (.cons (.val (.int .i64)) (.cons (.val (.int .i64)) (.cons (.val .bool) .nil))))))) .nil))))))⟩]
def law_DiskClones_0.go (N : Nat) : Nat → (List (Int × ((List UInt8) × ((List UInt8) × ((List UInt8) × (Int × (Int × (List Int)))))))) → (List (Int × ((List UInt8) × ((List UInt8) × ((List UInt8) × (Int × (Int × (List Int)))))))) → (List (Int × ((List UInt8) × ((List UInt8) × ((List UInt8) × (Int × (Int × (List Int)))))))) → Int → Int → (List ((List UInt8) × ((List UInt8) × Int))) → Int → Int → Bool → Int → Int → (List ((List UInt8) × ((List UInt8) × Int))) → Bool → Bool → Int → Int → Int → (List ((List UInt8) × ((List UInt8) × Int))) → Int → Int → Bool → Int → Int → (List ((List UInt8) × ((List UInt8) × Int))) → Int → Int → Bool → Int → Int → (List ((List UInt8) × ((List UInt8) × Int))) → Bool → Bool → Int → Int → Int → (List ((List UInt8) × ((List UInt8) × Int))) → Bool → Bool → Int → Int → Option (((Int × Int × (List ((List UInt8) × ((List UInt8) × Int))) × Bool × Bool × Int × Unit) × (Int × Int × (List ((List UInt8) × ((List UInt8) × Int))) × Bool × Bool × Int × Unit) × (Int × Int × (List ((List UInt8) × ((List UInt8) × Int))) × Bool × Bool × Int × Unit) × Bool × Unit) ⊕ ((Int × Int × (List ((List UInt8) × ((List UInt8) × Int))) × Bool × Bool × Int × Unit) × (Int × Int × (List ((List UInt8) × ((List UInt8) × Int))) × Bool × Bool × Int × Unit) × (Int × Int × (List ((List UInt8) × ((List UInt8) × Int))) × Bool × Bool × Int × Unit) × (Int × Int × (List ((List UInt8) × ((List UInt8) × Int))) × Int × Int × Bool × Unit) × (Int × Int × (List ((List UInt8) × ((List UInt8) × Int))) × Int × Int × Bool × Unit) × (Int × Int × (List ((List UInt8) × ((List UInt8) × Int))) × Int × Int × Bool × Unit) × Unit))
  | 0, _, _, _, _, _, _, _, _, _, _, _, _, _, _, _, _, _, _, _, _, _, _, _, _, _, _, _, _, _, _, _, _, _, _, _, _, _, _, _, _ => none
  | fuel + 1, ahead, one, two, room_, used, files, steps, left, dead, room1, steps1, files1, armed, dead1, left1, room2, used1, files2, steps2, left2, dead2, room3, used2, files3, steps3, left3, dead3, room4, steps4, files4, armed1, dead4, left4, room5, steps5, files5, armed2, dead5, left5, i =>
    obind (law_DiskClones_0_0.run N ahead one two i) fun y => match y with
    | .inl _ =>
        obind (law_DiskClones_0_1.run N ahead one two room_ used files steps left dead room1 steps1 files1 armed dead1 left1 i) fun y => match y with
        | .inl ((room7, steps7, files7, armed3, dead7, left7, _), (room8, used4, files8, steps8, left8, dead8, _), _) =>
            bif decide (i < (two.length : Int)) then
              bif inB i two.length then
                obind (law_step.run N room2 used1 files2 steps2 left2 dead2 (room4, steps4, files4, armed1, dead4, left4) (two.getD i.toNat ((0 : Int), ([] : List UInt8), ([] : List UInt8), ([] : List UInt8), (0 : Int), (0 : Int), ([] : List Int)))) fun ((room10, used5, files10, steps10, left10, dead10, _), v1, b1, _) =>
                  bif !b1 then
                    some (.inl ((room7, steps7, files7, armed3, dead7, left7, ()), (v1.1, v1.2.1, v1.2.2.1, v1.2.2.2.1, v1.2.2.2.2.1, v1.2.2.2.2.2, ()), (room5, steps5, files5, armed2, dead5, left5, ()), false, ()))
                  else
                    bif inB i two.length then
                      obind (law_step.run N room3 used2 files3 steps3 left3 dead3 (room5, steps5, files5, armed2, dead5, left5) (two.getD i.toNat ((0 : Int), ([] : List UInt8), ([] : List UInt8), ([] : List UInt8), (0 : Int), (0 : Int), ([] : List Int)))) fun ((room11, used6, files11, steps11, left11, dead11, _), v2, b2, _) =>
                        bif !b2 then
                          some (.inl ((room7, steps7, files7, armed3, dead7, left7, ()), (v1.1, v1.2.1, v1.2.2.1, v1.2.2.2.1, v1.2.2.2.2.1, v1.2.2.2.2.2, ()), (v2.1, v2.2.1, v2.2.2.1, v2.2.2.2.1, v2.2.2.2.2.1, v2.2.2.2.2.2, ()), false, ()))
                        else law_DiskClones_0.go N fuel ahead one two room8 used4 files8 steps8 left8 dead8 room7 steps7 files7 armed3 dead7 left7 room10 used5 files10 steps10 left10 dead10 room11 used6 files11 steps11 left11 dead11 v1.1 v1.2.1 v1.2.2.1 v1.2.2.2.1 v1.2.2.2.2.1 v1.2.2.2.2.2 v2.1 v2.2.1 v2.2.2.1 v2.2.2.2.1 v2.2.2.2.2.1 v2.2.2.2.2.2 (IntKind.i64.wrap (i + (1 : Int)))
                    else none
              else none
            else law_DiskClones_0.go N fuel ahead one two room8 used4 files8 steps8 left8 dead8 room7 steps7 files7 armed3 dead7 left7 room2 used1 files2 steps2 left2 dead2 room3 used2 files3 steps3 left3 dead3 room4 steps4 files4 armed1 dead4 left4 room5 steps5 files5 armed2 dead5 left5 (IntKind.i64.wrap (i + (1 : Int)))
        | .inr ((room9, steps9, files9, armed4, dead9, left9, _), t6, _) =>
            some (.inl ((room9, steps9, files9, armed4, dead9, left9, ()), (room4, steps4, files4, armed1, dead4, left4, ()), (room5, steps5, files5, armed2, dead5, left5, ()), t6, ()))
    | .inr (_) =>
        some (.inr ((room1, steps1, files1, armed, dead1, left1, ()), (room4, steps4, files4, armed1, dead4, left4, ()), (room5, steps5, files5, armed2, dead5, left5, ()), (room_, used, files, steps, left, dead, ()), (room2, used1, files2, steps2, left2, dead2, ()), (room3, used2, files3, steps3, left3, dead3, ()), ()))
def law_DiskClones_0.g (N n : Nat) (x : Sh.den law_DiskClones_0.ins) : Option (altsDen law_DiskClones_0.alts) := law_DiskClones_0.go N n x.1.1 x.1.2.1 x.1.2.2.1 x.2.1.1 x.2.1.2.1 x.2.1.2.2.1 x.2.1.2.2.2.1 x.2.1.2.2.2.2.1 x.2.1.2.2.2.2.2.1 x.2.2.1.1 x.2.2.1.2.1 x.2.2.1.2.2.1 x.2.2.1.2.2.2.1 x.2.2.1.2.2.2.2.1 x.2.2.1.2.2.2.2.2.1 x.2.2.2.1.1 x.2.2.2.1.2.1 x.2.2.2.1.2.2.1 x.2.2.2.1.2.2.2.1 x.2.2.2.1.2.2.2.2.1 x.2.2.2.1.2.2.2.2.2.1 x.2.2.2.2.1.1 x.2.2.2.2.1.2.1 x.2.2.2.2.1.2.2.1 x.2.2.2.2.1.2.2.2.1 x.2.2.2.2.1.2.2.2.2.1 x.2.2.2.2.1.2.2.2.2.2.1 x.2.2.2.2.2.1.1 x.2.2.2.2.2.1.2.1 x.2.2.2.2.2.1.2.2.1 x.2.2.2.2.2.1.2.2.2.1 x.2.2.2.2.2.1.2.2.2.2.1 x.2.2.2.2.2.1.2.2.2.2.2.1 x.2.2.2.2.2.2.1.1 x.2.2.2.2.2.2.1.2.1 x.2.2.2.2.2.2.1.2.2.1 x.2.2.2.2.2.2.1.2.2.2.1 x.2.2.2.2.2.2.1.2.2.2.2.1 x.2.2.2.2.2.2.1.2.2.2.2.2.1 x.2.2.2.2.2.2.2.1
def law_DiskClones_0.P (N : Nat) : Ps := ⟨law_DiskClones_0.ts, law_DiskClones_0.ins, law_DiskClones_0.asg, law_DiskClones_0.alts, law_DiskClones_0.g N N⟩
def law_DiskClones_0.lam (N : Nat) : Pcs := pcs [([false], (law_DiskClones_0_0.P N).pc (law_DiskClones_0.C N)), ([true, false, false, false], (law_DiskClones_0_1.P N).pc (law_DiskClones_0.C N))]
theorem law_DiskClones_0.pok (N : Nat) : (law_DiskClones_0.lam N).Ok Try.prog (law_DiskClones_0.C N) law_DiskClones_0.code := pcsOk_cons (c1 := law_DiskClones_0_0.code) (by kernel_rfl) (law_DiskClones_0_0.ok N) (pcsOk_cons (c1 := law_DiskClones_0_1.code) (by kernel_rfl) (law_DiskClones_0_1.ok N) (pcsOk_nil))
theorem law_DiskClones_0.ev (N n : Nat) (x : Sh.den law_DiskClones_0.ins) : evC (law_DiskClones_0.C N) law_DiskClones_0.code (law_DiskClones_0.lam N) ((law_DiskClones_0.P N).canon 1000 x) (loopK (law_DiskClones_0.P N) (law_DiskClones_0.g N n)) = law_DiskClones_0.g N (n + 1) x := by kernel_rfl
theorem law_DiskClones_0.ok (N : Nat) : ((law_DiskClones_0.P N).pc (law_DiskClones.C N)).Ok Try.prog (law_DiskClones.C N) (.loop law_DiskClones_0.code) := loop_ok (F := law_DiskClones_0.P N) (n0 := 1000) (N := N) (law_DiskClones.cok N) mix (law_DiskClones_0.pok N) (law_DiskClones_0.g N) (fun x => by rfl) rfl (fun n x y h => (law_DiskClones_0.ev N n x).trans h)
def law_DiskClones.outs : Sh := (.cons (.val .bool) .nil)
def law_DiskClones.run (N : Nat) (room_ : Int) (w : ((List (Int × ((List UInt8) × ((List UInt8) × ((List UInt8) × (Int × (Int × (List Int)))))))) × ((List (Int × ((List UInt8) × ((List UInt8) × ((List UInt8) × (Int × (Int × (List Int)))))))) × (List (Int × ((List UInt8) × ((List UInt8) × ((List UInt8) × (Int × (Int × (List Int))))))))))) (keep : (List Int)) : Option (Bool × Unit) :=
  obind (law_begun.run N room_) fun ((room1, used, files, steps, left, dead, _), b, _) =>
    bif !b then
      some (false, ())
    else
      obind (ref_New.run N room_) fun (v, _) =>
        obind (law_run.run N room1 used files steps left dead v w.1) fun ((room2, used1, files1, steps1, left1, dead1, _), v1, b1, _) =>
          bif !b1 then
            some (false, ())
          else
            obind (disk_Disk_Clone.run N room2 used1 files1 steps1 left1 dead1) fun ((room3, used2, files2, steps2, left2, dead2, _), _) =>
              obind (disk_Disk_Crash.run N room2 used1 files1 steps1 left1 dead1 keep) fun ((room4, used3, files3, steps3, left3, dead3, _), (room5, used4, files4, steps4, left4, dead4, _), _) =>
                obind (ref_Crash.run N v1 keep) fun (v2, _) =>
                  obind (law_DiskClones_0.go N N w.1 w.2.1 w.2.2 room4 used3 files3 steps3 left3 dead3 v1.1 v1.2.1 v1.2.2.1 v1.2.2.2.1 v1.2.2.2.2.1 v1.2.2.2.2.2 room3 used2 files2 steps2 left2 dead2 room5 used4 files4 steps4 left4 dead4 v1.1 v1.2.1 v1.2.2.1 v1.2.2.2.1 v1.2.2.2.2.1 v1.2.2.2.2.2 v2.1 v2.2.1 v2.2.2.1 v2.2.2.2.1 v2.2.2.2.2.1 v2.2.2.2.2.2 (0 : Int)) fun y => match y with
                  | .inl ((room6, steps5, files5, armed, dead5, left5, _), (room7, steps6, files6, armed1, dead6, left6, _), (room8, steps7, files7, armed2, dead7, left7, _), t6, _) =>
                      some (t6, ())
                  | .inr ((room9, steps8, files8, armed3, dead8, left8, _), (room10, steps9, files9, armed4, dead9, left9, _), (room11, steps10, files10, armed5, dead10, left10, _), (room12, used5, files11, steps11, left11, dead11, _), (room13, used6, files12, steps12, left12, dead12, _), (room14, used7, files13, steps13, left13, dead13, _), _) =>
                      obind (law_stands.run N room12 used5 files11 steps11 left11 dead11 (room9, steps8, files8, armed3, dead8, left8)) fun ((room15, used8, files14, steps14, left14, dead14, _), b2, _) =>
                        bif b2 then
                          obind (law_stands.run N room13 used6 files12 steps12 left12 dead12 (room10, steps9, files9, armed4, dead9, left9)) fun ((room16, used9, files15, steps15, left15, dead15, _), b3, _) =>
                            bif b3 then
                              obind (law_stands.run N room14 used7 files13 steps13 left13 dead13 (room11, steps10, files10, armed5, dead10, left10)) fun ((room17, used10, files16, steps16, left16, dead16, _), b4, _) =>
                                some (b4, ())
                            else some (false, ())
                        else some (false, ())
def law_DiskClones.fn (N : Nat) (x : Sh.den law_DiskClones.ins) : Option (Sh.den law_DiskClones.outs) := law_DiskClones.run N x.1 x.2.1 x.2.2.1
def law_DiskClones.S (N : Nat) : Fs := ⟨law_DiskClones.ins, law_DiskClones.outs, law_DiskClones.fn N⟩
def law_DiskClones.lam (N : Nat) : Pcs := pcs [([true, true, true, true, true, true, true, true, false, true, false], (law_DiskClones_0.P N).pc (law_DiskClones.C N))]
theorem law_DiskClones.pok (N : Nat) : (law_DiskClones.lam N).Ok Try.prog (law_DiskClones.C N) law_DiskClones.code := pcsOk_cons (c1 := .loop law_DiskClones_0.code) (by kernel_rfl) (law_DiskClones_0.ok N) (pcsOk_nil)
theorem law_DiskClones.ev (N : Nat) (x : Sh.den law_DiskClones.ins) : evC (law_DiskClones.C N) law_DiskClones.code (law_DiskClones.lam N) ⟨envOf 0 (bld (fun k => k) law_DiskClones.ins x 0).1, (bld (fun k => k) law_DiskClones.ins x 0).2.1, 1000⟩ (endF U law_DiskClones.outs Try.f10.results.toList []) = law_DiskClones.fn N x := by kernel_rfl
theorem law_DiskClones.ok (N : Nat) : (law_DiskClones.S N).con.Ok Try.prog 10 := fn_ok (F := law_DiskClones.S N) (n0 := 1000) Try.func10 (by kernel_rfl) (show Try.f10.body = some law_DiskClones.code by rfl) mix (law_DiskClones.cok N) (fun _ => rfl) (fun _ => rfl) (law_DiskClones.pok N) (fun x y h => (law_DiskClones.ev N x).trans h)
end
end Go.Hay.Ytccbcmamcdegmaa
