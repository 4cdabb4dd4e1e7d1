/- Functions of the program as functions of Lean, and that they are what the program computes. Conditions: none. -/
import Derived.Test.YtccbcmamcdegmaaK
set_option linter.unusedVariables false
namespace Go.Hay.Ytccbcmamcdegmaa
open Go Go.Hay Go.Proofs
noncomputable section
set_option maxRecDepth 100000
def site0 : Site := siteOf [2, 3, 5] 54 (sub (Try.f27.body.getD .skip) [true, true, false, true, false])
def site1 : Site := siteOf [3] 13 (sub (Try.f14.body.getD .skip) [true, true, false, true, false])
def sites : List Site := [site0, site1]
instance : Sites := ⟨fun k us => loopObj (sites.getD k ⟨#[], .skip, .skip, [], 0⟩) us, fun _ _ _ => loopObj_ne _ _ _⟩
/-- hayloft/disk.New -/
def disk_New.ins : Sh := (.cons (.val (.int .i64)) .nil)
def disk_New.C (N : Nat) : Ctx := ⟨U, 8, fun _ => true, gam [], gamY []⟩
theorem disk_New.cok (N : Nat) : (disk_New.C N).Ok Try.prog := ⟨U_ok, GamOk.nil, GamYOk.nil⟩
def disk_New.code : Code := Try.f20.body.getD .skip
def disk_New.outs : Sh := (.cons (.box 67 (.cons (.val (.int .i64)) (.cons (.val (.int .i64)) (.cons (.own 3000000 (.pair .str (.pair (.slice .byte) (.int .i64)))) (.cons (.val (.int .i64)) (.cons (.val (.int .i64)) (.cons (.val .bool) .nil))))))) .nil)
def disk_New.run (N : Nat) (room_ : Int) : Option ((Int × Int × (List ((List UInt8) × ((List UInt8) × Int))) × Int × Int × Bool × Unit) × Unit) :=
  some ((max room_ (0 : Int), (0 : Int), ([] : List ((List UInt8) × ((List UInt8) × Int))), (0 : Int), (-1 : Int), false, ()), ())
def disk_New.fn (N : Nat) (x : Sh.den disk_New.ins) : Option (Sh.den disk_New.outs) := disk_New.run N x.1
def disk_New.S (N : Nat) : Fs := ⟨disk_New.ins, disk_New.outs, disk_New.fn N⟩
def disk_New.lam (N : Nat) : Pcs := pcs []
theorem disk_New.pok (N : Nat) : (disk_New.lam N).Ok Try.prog (disk_New.C N) disk_New.code := pcsOk_nil
theorem disk_New.ev (N : Nat) (x : Sh.den disk_New.ins) : evC (disk_New.C N) disk_New.code (disk_New.lam N) ⟨envOf 0 (bld (fun k => k) disk_New.ins x 0).1, (bld (fun k => k) disk_New.ins x 0).2.1, 1000⟩ (endF U disk_New.outs Try.f20.results.toList []) = disk_New.fn N x := by kernel_rfl
theorem disk_New.ok (N : Nat) : (disk_New.S N).con.Ok Try.prog 20 := fn_ok (F := disk_New.S N) (n0 := 1000) Try.func20 (by kernel_rfl) (show Try.f20.body = some disk_New.code by rfl) mix (disk_New.cok N) (fun _ => rfl) (fun _ => rfl) (disk_New.pok N) (fun x y h => (disk_New.ev N x).trans h)
/-- hayloft/disk.named -/
def disk_named.ins : Sh := (.cons (.val .str) .nil)
def disk_named.C (N : Nat) : Ctx := ⟨U, 27, fun _ => true, gam [], gamY []⟩
theorem disk_named.cok (N : Nat) : (disk_named.C N).Ok Try.prog := ⟨U_ok, GamOk.nil, GamYOk.nil⟩
def disk_named.code : Code := Try.f32.body.getD .skip
def disk_named_0.ins : Sh := (.cons (.val .str) (.cons (.val (.int .i64)) (.cons (.val (.int .i64)) .nil)))
def disk_named_0.ts : List Tmp := [0, 5, 6]
def disk_named_0.asg : List Tmp := [2, 3, 6, 7, 8, 9, 10, 11, 12, 13, 14, 15, 16, 17, 18, 19]
def disk_named_0.C (N : Nat) : Ctx := { disk_named.C N with may := fun t => disk_named_0.asg.any (Nat.beq t) }
def disk_named_0.code : Code := loopBody (sub disk_named.code [true, false, true, false])
theorem disk_named_0.cok (N : Nat) : (disk_named_0.C N).Ok Try.prog := ⟨(disk_named.cok N).U, (disk_named.cok N).Γ, (disk_named.cok N).Y⟩
def disk_named_0.alts : List Alt := [⟨.ret, [2], (.cons (.val .bool) .nil)⟩, ⟨(.exit 0), [], .nil⟩]
def disk_named_0.go (N : Nat) : Nat → (List UInt8) → Int → Int → Option ((Bool × Unit) ⊕ Unit)
  | 0, _, _, _ => none
  | fuel + 1, s, t5, t6 =>
    bif decide (t6 < t5) then
      bif inB t6 s.length then
        bif decide (((s.getD t6.toNat (0 : UInt8)).toNat : Int) < (33 : Int)) then
          some (.inl (false, ()))
        else
          bif inB t6 s.length then
            bif decide (((s.getD t6.toNat (0 : UInt8)).toNat : Int) > (126 : Int)) then
              some (.inl (false, ()))
            else disk_named_0.go N fuel s t5 (IntKind.i64.wrap (t6 + (1 : Int)))
          else none
      else none
    else some (.inr ())
def disk_named_0.g (N n : Nat) (x : Sh.den disk_named_0.ins) : Option (altsDen disk_named_0.alts) := disk_named_0.go N n x.1 x.2.1 x.2.2.1
def disk_named_0.P (N : Nat) : Ps := ⟨disk_named_0.ts, disk_named_0.ins, disk_named_0.asg, disk_named_0.alts, disk_named_0.g N N⟩
def disk_named_0.lam (N : Nat) : Pcs := pcs []
theorem disk_named_0.pok (N : Nat) : (disk_named_0.lam N).Ok Try.prog (disk_named_0.C N) disk_named_0.code := pcsOk_nil
theorem disk_named_0.ev (N n : Nat) (x : Sh.den disk_named_0.ins) : evC (disk_named_0.C N) disk_named_0.code (disk_named_0.lam N) ((disk_named_0.P N).canon 1000 x) (loopK (disk_named_0.P N) (disk_named_0.g N n)) = disk_named_0.g N (n + 1) x := by kernel_rfl
theorem disk_named_0.ok (N : Nat) : ((disk_named_0.P N).pc (disk_named.C N)).Ok Try.prog (disk_named.C N) (.loop disk_named_0.code) := loop_ok (F := disk_named_0.P N) (n0 := 1000) (N := N) (disk_named.cok N) mix (disk_named_0.pok N) (disk_named_0.g N) (fun x => by rfl) rfl (fun n x y h => (disk_named_0.ev N n x).trans h)
def disk_named.outs : Sh := (.cons (.val .bool) .nil)
def disk_named.run (N : Nat) (s : (List UInt8)) : Option (Bool × Unit) :=
  obind (disk_named_0.go N N s (s.length : Int) (0 : Int)) fun y => match y with
  | .inl (t2, _) =>
      some (t2, ())
  | .inr (_) =>
      bif !(decide (s = ([] : List UInt8))) then
        some (decide ((s.length : Int) ≤ (32 : Int)), ())
      else some (false, ())
def disk_named.fn (N : Nat) (x : Sh.den disk_named.ins) : Option (Sh.den disk_named.outs) := disk_named.run N x.1
def disk_named.S (N : Nat) : Fs := ⟨disk_named.ins, disk_named.outs, disk_named.fn N⟩
def disk_named.lam (N : Nat) : Pcs := pcs [([true, false, true, false], (disk_named_0.P N).pc (disk_named.C N))]
theorem disk_named.pok (N : Nat) : (disk_named.lam N).Ok Try.prog (disk_named.C N) disk_named.code := pcsOk_cons (c1 := .loop disk_named_0.code) (by kernel_rfl) (disk_named_0.ok N) (pcsOk_nil)
theorem disk_named.ev (N : Nat) (x : Sh.den disk_named.ins) : evC (disk_named.C N) disk_named.code (disk_named.lam N) ⟨envOf 0 (bld (fun k => k) disk_named.ins x 0).1, (bld (fun k => k) disk_named.ins x 0).2.1, 1000⟩ (endF U disk_named.outs Try.f32.results.toList []) = disk_named.fn N x := by kernel_rfl
theorem disk_named.ok (N : Nat) : (disk_named.S N).con.Ok Try.prog 32 := fn_ok (F := disk_named.S N) (n0 := 1000) Try.func32 (by kernel_rfl) (show Try.f32.body = some disk_named.code by rfl) mix (disk_named.cok N) (fun _ => rfl) (fun _ => rfl) (disk_named.pok N) (fun x y h => (disk_named.ev N x).trans h)
/-- (*hayloft/disk.Disk).Free -/
def disk_Disk_Free.ins : Sh := (.cons (.rbox 67 (.cons (.val (.int .i64)) (.cons (.val (.int .i64)) (.cons (.rown 3000000 (.pair .str (.pair (.slice .byte) (.int .i64)))) (.cons (.val (.int .i64)) (.cons (.val (.int .i64)) (.cons (.val .bool) .nil))))))) .nil)
def disk_Disk_Free.C (N : Nat) : Ctx := ⟨U, 12, fun _ => true, gam [], gamY []⟩
theorem disk_Disk_Free.cok (N : Nat) : (disk_Disk_Free.C N).Ok Try.prog := ⟨U_ok, GamOk.nil, GamYOk.nil⟩
def disk_Disk_Free.code : Code := Try.f19.body.getD .skip
def disk_Disk_Free.outs : Sh := (.cons (.val (.int .i64)) .nil)
def disk_Disk_Free.run (N : Nat) (room_ : Int) (used : Int) (files : (List ((List UInt8) × ((List UInt8) × Int)))) (steps : Int) (left : Int) (dead : Bool) : Option (Int × Unit) :=
  some (IntKind.i64.wrap (room_ - used), ())
def disk_Disk_Free.fn (N : Nat) (x : Sh.den disk_Disk_Free.ins) : Option (Sh.den disk_Disk_Free.outs) := disk_Disk_Free.run N x.1.1 x.1.2.1 x.1.2.2.1 x.1.2.2.2.1 x.1.2.2.2.2.1 x.1.2.2.2.2.2.1
def disk_Disk_Free.S (N : Nat) : Fs := ⟨disk_Disk_Free.ins, disk_Disk_Free.outs, disk_Disk_Free.fn N⟩
def disk_Disk_Free.lam (N : Nat) : Pcs := pcs []
theorem disk_Disk_Free.pok (N : Nat) : (disk_Disk_Free.lam N).Ok Try.prog (disk_Disk_Free.C N) disk_Disk_Free.code := pcsOk_nil
theorem disk_Disk_Free.ev (N : Nat) (x : Sh.den disk_Disk_Free.ins) : evC (disk_Disk_Free.C N) disk_Disk_Free.code (disk_Disk_Free.lam N) ⟨envOf 0 (bld (fun k => k) disk_Disk_Free.ins x 0).1, (bld (fun k => k) disk_Disk_Free.ins x 0).2.1, 1000⟩ (endF U disk_Disk_Free.outs Try.f19.results.toList []) = disk_Disk_Free.fn N x := by kernel_rfl
theorem disk_Disk_Free.ok (N : Nat) : (disk_Disk_Free.S N).con.Ok Try.prog 19 := fn_ok (F := disk_Disk_Free.S N) (n0 := 1000) Try.func19 (by kernel_rfl) (show Try.f19.body = some disk_Disk_Free.code by rfl) mix (disk_Disk_Free.cok N) (fun _ => rfl) (fun _ => rfl) (disk_Disk_Free.pok N) (fun x y h => (disk_Disk_Free.ev N x).trans h)
/-- slices.Grow[[]byte,byte] -/
def slices_Grow_byte_byte.ins : Sh := (.cons (.nils) (.cons (.val (.int .i64)) .nil))
def slices_Grow_byte_byte.C (N : Nat) : Ctx := ⟨U, 27, fun _ => true, gam [], gamY []⟩
theorem slices_Grow_byte_byte.cok (N : Nat) : (slices_Grow_byte_byte.C N).Ok Try.prog := ⟨U_ok, GamOk.nil, GamYOk.nil⟩
def slices_Grow_byte_byte.code : Code := Try.f55.body.getD .skip
def slices_Grow_byte_byte.outs : Sh := (.cons (.own 5 .byte) .nil)
def slices_Grow_byte_byte.run (N : Nat) (n_ : Int) : Option ((List UInt8) × Unit) :=
  bif decide (n_ < (0 : Int)) then
    none
  else
    bif decide ((IntKind.i64.wrap (n_ - (0 : Int))) > (0 : Int)) then
      bif (decide ((0 : Int) ≤ (IntKind.i64.wrap (n_ - (0 : Int))))) && (room (IntKind.i64.wrap (n_ - (0 : Int))).toNat 1) then
        bif okB (0 : Int) (0 : Int) (List.replicate (IntKind.i64.wrap (n_ - (0 : Int))).toNat (0 : UInt8)).length then
          some ((List.replicate (IntKind.i64.wrap (n_ - (0 : Int))).toNat (0 : UInt8)).take 0, ())
        else none
      else none
    else some (([] : List UInt8), ())
def slices_Grow_byte_byte.fn (N : Nat) (x : Sh.den slices_Grow_byte_byte.ins) : Option (Sh.den slices_Grow_byte_byte.outs) := slices_Grow_byte_byte.run N x.2.1
def slices_Grow_byte_byte.S (N : Nat) : Fs := ⟨slices_Grow_byte_byte.ins, slices_Grow_byte_byte.outs, slices_Grow_byte_byte.fn N⟩
def slices_Grow_byte_byte.lam (N : Nat) : Pcs := pcs []
theorem slices_Grow_byte_byte.pok (N : Nat) : (slices_Grow_byte_byte.lam N).Ok Try.prog (slices_Grow_byte_byte.C N) slices_Grow_byte_byte.code := pcsOk_nil
theorem slices_Grow_byte_byte.ev (N : Nat) (x : Sh.den slices_Grow_byte_byte.ins) : evC (slices_Grow_byte_byte.C N) slices_Grow_byte_byte.code (slices_Grow_byte_byte.lam N) ⟨envOf 0 (bld (fun k => k) slices_Grow_byte_byte.ins x 0).1, (bld (fun k => k) slices_Grow_byte_byte.ins x 0).2.1, 1000⟩ (endF U slices_Grow_byte_byte.outs Try.f55.results.toList [4]) = slices_Grow_byte_byte.fn N x := by kernel_rfl
theorem slices_Grow_byte_byte.ok (N : Nat) : (slices_Grow_byte_byte.S N).con.Ok Try.prog 55 := fn_ok (F := slices_Grow_byte_byte.S N) (n0 := 1000) Try.func55 (by kernel_rfl) (show Try.f55.body = some slices_Grow_byte_byte.code by rfl) mix (slices_Grow_byte_byte.cok N) (fun _ => rfl) (fun _ => rfl) (slices_Grow_byte_byte.pok N) (fun x y h => (slices_Grow_byte_byte.ev N x).trans h)
/-- slices.Concat[[]byte,byte] -/
def slices_Concat_byte_byte.ins : Sh := (.cons (.els 1 2 (.cons (.val (.slice .byte)) (.cons (.rown 5 .byte) .nil))) .nil)
def slices_Concat_byte_byte.C (N : Nat) : Ctx := ⟨U, 36, fun _ => true, gam [(55, (slices_Grow_byte_byte.S N).con)], gamY []⟩
theorem slices_Concat_byte_byte.cok (N : Nat) : (slices_Concat_byte_byte.C N).Ok Try.prog := ⟨U_ok, GamOk.cons (slices_Grow_byte_byte.ok N) (GamOk.nil), GamYOk.nil⟩
def slices_Concat_byte_byte.code : Code := Try.f33.body.getD .skip
def slices_Concat_byte_byte.outs : Sh := (.cons (.own 5 .byte) .nil)
def slices_Concat_byte_byte.run (N : Nat) (slices : (List UInt8)) (slices1 : (List UInt8)) : Option ((List UInt8) × Unit) :=
  bif decide ((IntKind.i64.wrap ((0 : Int) + (slices.length : Int))) < (0 : Int)) then
    none
  else
    bif decide ((IntKind.i64.wrap ((IntKind.i64.wrap ((0 : Int) + (slices.length : Int))) + (slices1.length : Int))) < (0 : Int)) then
      none
    else
      obind (slices_Grow_byte_byte.run N (IntKind.i64.wrap ((IntKind.i64.wrap ((0 : Int) + (slices.length : Int))) + (slices1.length : Int)))) fun (l, _) =>
        bif room (l.length + slices.length) 1 then
          bif room ((l ++ slices).length + slices1.length) 1 then
            some ((l ++ slices) ++ slices1, ())
          else none
        else none
def slices_Concat_byte_byte.fn (N : Nat) (x : Sh.den slices_Concat_byte_byte.ins) : Option (Sh.den slices_Concat_byte_byte.outs) := slices_Concat_byte_byte.run N x.1.1 x.1.2.1
def slices_Concat_byte_byte.S (N : Nat) : Fs := ⟨slices_Concat_byte_byte.ins, slices_Concat_byte_byte.outs, slices_Concat_byte_byte.fn N⟩
def slices_Concat_byte_byte.lam (N : Nat) : Pcs := pcs [([true, true, false, true, false], (Pc.unroll (slices_Concat_byte_byte.C N) (loopBody (sub slices_Concat_byte_byte.code [true, true, false, true, false])) (pcs []) 3)), ([true, true, true, true, false, true, false], (Pc.unroll (slices_Concat_byte_byte.C N) (loopBody (sub slices_Concat_byte_byte.code [true, true, true, true, false, true, false])) (pcs []) 3))]
theorem slices_Concat_byte_byte.pok (N : Nat) : (slices_Concat_byte_byte.lam N).Ok Try.prog (slices_Concat_byte_byte.C N) slices_Concat_byte_byte.code := pcsOk_cons (c1 := .loop (loopBody (sub slices_Concat_byte_byte.code [true, true, false, true, false]))) (by kernel_rfl) (unroll_ok (slices_Concat_byte_byte.cok N) mix pcsOk_nil 3) (pcsOk_cons (c1 := .loop (loopBody (sub slices_Concat_byte_byte.code [true, true, true, true, false, true, false]))) (by kernel_rfl) (unroll_ok (slices_Concat_byte_byte.cok N) mix pcsOk_nil 3) (pcsOk_nil))
theorem slices_Concat_byte_byte.ev (N : Nat) (x : Sh.den slices_Concat_byte_byte.ins) : evC (slices_Concat_byte_byte.C N) slices_Concat_byte_byte.code (slices_Concat_byte_byte.lam N) ⟨envOf 0 (bld (fun k => k) slices_Concat_byte_byte.ins x 0).1, (bld (fun k => k) slices_Concat_byte_byte.ins x 0).2.1, 1000⟩ (endF U slices_Concat_byte_byte.outs Try.f33.results.toList []) = slices_Concat_byte_byte.fn N x := by kernel_rfl
theorem slices_Concat_byte_byte.ok (N : Nat) : (slices_Concat_byte_byte.S N).con.Ok Try.prog 33 := fn_ok (F := slices_Concat_byte_byte.S N) (n0 := 1000) Try.func33 (by kernel_rfl) (show Try.f33.body = some slices_Concat_byte_byte.code by rfl) mix (slices_Concat_byte_byte.cok N) (fun _ => rfl) (fun _ => rfl) (slices_Concat_byte_byte.pok N) (fun x y h => (slices_Concat_byte_byte.ev N x).trans h)
/-- (*hayloft/disk.Disk).lay -/
def disk_Disk_lay.ins : Sh := (.cons (.box 67 (.cons (.val (.int .i64)) (.cons (.val (.int .i64)) (.cons (.own 3000000 (.pair .str (.pair (.slice .byte) (.int .i64)))) (.cons (.val (.int .i64)) (.cons (.val (.int .i64)) (.cons (.val .bool) .nil))))))) (.cons (.val .str) (.cons (.val (.pair (.slice .byte) (.int .i64))) .nil)))
def disk_Disk_lay.C (N : Nat) : Ctx := ⟨U, 31, fun _ => true, gam [], gamY []⟩
theorem disk_Disk_lay.cok (N : Nat) : (disk_Disk_lay.C N).Ok Try.prog := ⟨U_ok, GamOk.nil, GamYOk.nil⟩
def disk_Disk_lay.code : Code := Try.f34.body.getD .skip
def disk_Disk_lay.outs : Sh := (.cons (.upd 0 67 (.cons (.val (.int .i64)) (.cons (.val (.int .i64)) (.cons (.own 3000000 (.pair .str (.pair (.slice .byte) (.int .i64)))) (.cons (.val (.int .i64)) (.cons (.val (.int .i64)) (.cons (.val .bool) .nil))))))) .nil)
def disk_Disk_lay.run (N : Nat) (room_ : Int) (used : Int) (files : (List ((List UInt8) × ((List UInt8) × Int)))) (steps : Int) (left : Int) (dead : Bool) (name : (List UInt8)) (f : ((List UInt8) × Int)) : Option ((Int × Int × (List ((List UInt8) × ((List UInt8) × Int))) × Int × Int × Bool × Unit) × Unit) :=
  some ((room_, IntKind.i64.wrap (used + (IntKind.i64.wrap ((f.1.length : Int) - ((mapGet files name (([] : List UInt8), (0 : Int))).1.length : Int)))), mapPut files name f, steps, left, dead, ()), ())
def disk_Disk_lay.fn (N : Nat) (x : Sh.den disk_Disk_lay.ins) : Option (Sh.den disk_Disk_lay.outs) := disk_Disk_lay.run N x.1.1 x.1.2.1 x.1.2.2.1 x.1.2.2.2.1 x.1.2.2.2.2.1 x.1.2.2.2.2.2.1 x.2.1 x.2.2.1
def disk_Disk_lay.S (N : Nat) : Fs := ⟨disk_Disk_lay.ins, disk_Disk_lay.outs, disk_Disk_lay.fn N⟩
def disk_Disk_lay.lam (N : Nat) : Pcs := pcs []
theorem disk_Disk_lay.pok (N : Nat) : (disk_Disk_lay.lam N).Ok Try.prog (disk_Disk_lay.C N) disk_Disk_lay.code := pcsOk_nil
theorem disk_Disk_lay.ev (N : Nat) (x : Sh.den disk_Disk_lay.ins) : evC (disk_Disk_lay.C N) disk_Disk_lay.code (disk_Disk_lay.lam N) ⟨envOf 0 (bld (fun k => k) disk_Disk_lay.ins x 0).1, (bld (fun k => k) disk_Disk_lay.ins x 0).2.1, 1000⟩ (endF U disk_Disk_lay.outs Try.f34.results.toList []) = disk_Disk_lay.fn N x := by kernel_rfl
theorem disk_Disk_lay.ok (N : Nat) : (disk_Disk_lay.S N).con.Ok Try.prog 34 := fn_ok (F := disk_Disk_lay.S N) (n0 := 1000) Try.func34 (by kernel_rfl) (show Try.f34.body = some disk_Disk_lay.code by rfl) mix (disk_Disk_lay.cok N) (fun _ => rfl) (fun _ => rfl) (disk_Disk_lay.pok N) (fun x y h => (disk_Disk_lay.ev N x).trans h)
/-- (*hayloft/disk.Disk).step -/
def disk_Disk_step.ins : Sh := (.cons (.box 67 (.cons (.val (.int .i64)) (.cons (.val (.int .i64)) (.cons (.own 3000000 (.pair .str (.pair (.slice .byte) (.int .i64)))) (.cons (.val (.int .i64)) (.cons (.val (.int .i64)) (.cons (.val .bool) .nil))))))) .nil)
def disk_Disk_step.C (N : Nat) : Ctx := ⟨U, 28, fun _ => true, gam [], gamY []⟩
theorem disk_Disk_step.cok (N : Nat) : (disk_Disk_step.C N).Ok Try.prog := ⟨U_ok, GamOk.nil, GamYOk.nil⟩
def disk_Disk_step.code : Code := Try.f35.body.getD .skip
def disk_Disk_step.outs : Sh := (.cons (.upd 0 67 (.cons (.val (.int .i64)) (.cons (.val (.int .i64)) (.cons (.own 3000000 (.pair .str (.pair (.slice .byte) (.int .i64)))) (.cons (.val (.int .i64)) (.cons (.val (.int .i64)) (.cons (.val .bool) .nil))))))) (.cons (.val .bool) .nil))
def disk_Disk_step.run (N : Nat) (room_ : Int) (used : Int) (files : (List ((List UInt8) × ((List UInt8) × Int)))) (steps : Int) (left : Int) (dead : Bool) : Option ((Int × Int × (List ((List UInt8) × ((List UInt8) × Int))) × Int × Int × Bool × Unit) × Bool × Unit) :=
  bif decide (left = (-1 : Int)) then
    some ((room_, used, files, IntKind.i64.wrap (steps + (1 : Int)), left, dead, ()), false, ())
  else
    bif decide (left = (0 : Int)) then
      some ((room_, used, files, IntKind.i64.wrap (steps + (1 : Int)), left, true, ()), true, ())
    else some ((room_, used, files, IntKind.i64.wrap (steps + (1 : Int)), IntKind.i64.wrap (left - (1 : Int)), dead, ()), false, ())
def disk_Disk_step.fn (N : Nat) (x : Sh.den disk_Disk_step.ins) : Option (Sh.den disk_Disk_step.outs) := disk_Disk_step.run N x.1.1 x.1.2.1 x.1.2.2.1 x.1.2.2.2.1 x.1.2.2.2.2.1 x.1.2.2.2.2.2.1
def disk_Disk_step.S (N : Nat) : Fs := ⟨disk_Disk_step.ins, disk_Disk_step.outs, disk_Disk_step.fn N⟩
def disk_Disk_step.lam (N : Nat) : Pcs := pcs []
theorem disk_Disk_step.pok (N : Nat) : (disk_Disk_step.lam N).Ok Try.prog (disk_Disk_step.C N) disk_Disk_step.code := pcsOk_nil
theorem disk_Disk_step.ev (N : Nat) (x : Sh.den disk_Disk_step.ins) : evC (disk_Disk_step.C N) disk_Disk_step.code (disk_Disk_step.lam N) ⟨envOf 0 (bld (fun k => k) disk_Disk_step.ins x 0).1, (bld (fun k => k) disk_Disk_step.ins x 0).2.1, 1000⟩ (endF U disk_Disk_step.outs Try.f35.results.toList []) = disk_Disk_step.fn N x := by kernel_rfl
theorem disk_Disk_step.ok (N : Nat) : (disk_Disk_step.S N).con.Ok Try.prog 35 := fn_ok (F := disk_Disk_step.S N) (n0 := 1000) Try.func35 (by kernel_rfl) (show Try.f35.body = some disk_Disk_step.code by rfl) mix (disk_Disk_step.cok N) (fun _ => rfl) (fun _ => rfl) (disk_Disk_step.pok N) (fun x y h => (disk_Disk_step.ev N x).trans h)
/-- (*hayloft/disk.Disk).Append -/
def disk_Disk_Append.ins : Sh := (.cons (.box 67 (.cons (.val (.int .i64)) (.cons (.val (.int .i64)) (.cons (.own 3000000 (.pair .str (.pair (.slice .byte) (.int .i64)))) (.cons (.val (.int .i64)) (.cons (.val (.int .i64)) (.cons (.val .bool) .nil))))))) (.cons (.val .str) (.cons (.rown 5 .byte) .nil)))
def disk_Disk_Append.C (N : Nat) : Ctx := ⟨U, 41, fun _ => true, gam [(32, (disk_named.S N).con), (19, (disk_Disk_Free.S N).con), (33, (slices_Concat_byte_byte.S N).con), (34, (disk_Disk_lay.S N).con), (35, (disk_Disk_step.S N).con)], gamY []⟩
theorem disk_Disk_Append.cok (N : Nat) : (disk_Disk_Append.C N).Ok Try.prog := ⟨U_ok, GamOk.cons (disk_named.ok N) (GamOk.cons (disk_Disk_Free.ok N) (GamOk.cons (slices_Concat_byte_byte.ok N) (GamOk.cons (disk_Disk_lay.ok N) (GamOk.cons (disk_Disk_step.ok N) (GamOk.nil))))), GamYOk.nil⟩
def disk_Disk_Append.code : Code := Try.f12.body.getD .skip
def disk_Disk_Append.outs : Sh := (.cons (.upd 0 67 (.cons (.val (.int .i64)) (.cons (.val (.int .i64)) (.cons (.own 3000000 (.pair .str (.pair (.slice .byte) (.int .i64)))) (.cons (.val (.int .i64)) (.cons (.val (.int .i64)) (.cons (.val .bool) .nil))))))) (.cons (.val (.int .i64)) .nil))
def disk_Disk_Append.run (N : Nat) (room_ : Int) (used : Int) (files : (List ((List UInt8) × ((List UInt8) × Int)))) (steps : Int) (left : Int) (dead : Bool) (name : (List UInt8)) (b : (List UInt8)) : Option ((Int × Int × (List ((List UInt8) × ((List UInt8) × Int))) × Int × Int × Bool × Unit) × Int × Unit) :=
  bif dead then
    some ((room_, used, files, steps, left, dead, ()), (44 : Int), ())
  else
    obind (disk_named.run N name) fun (b1, _) =>
      bif !b1 then
        some ((room_, used, files, steps, left, dead, ()), (40 : Int), ())
      else
        obind (disk_Disk_Free.run N room_ used files steps left dead) fun (n_, _) =>
          bif decide ((b.length : Int) > n_) then
            some ((room_, used, files, steps, left, dead, ()), (41 : Int), ())
          else
            obind (slices_Concat_byte_byte.run N (mapGet files name (([] : List UInt8), (0 : Int))).1 b) fun (l, _) =>
              obind (disk_Disk_lay.run N room_ used files steps left dead name (l, (mapGet files name (([] : List UInt8), (0 : Int))).2)) fun ((room1, used1, files1, steps1, left1, dead1, _), _) =>
                obind (disk_Disk_step.run N room1 used1 files1 steps1 left1 dead1) fun ((room2, used2, files2, steps2, left2, dead2, _), b2, _) =>
                  bif b2 then
                    some ((room2, used2, files2, steps2, left2, dead2, ()), (44 : Int), ())
                  else some ((room2, used2, files2, steps2, left2, dead2, ()), (0 : Int), ())
def disk_Disk_Append.fn (N : Nat) (x : Sh.den disk_Disk_Append.ins) : Option (Sh.den disk_Disk_Append.outs) := disk_Disk_Append.run N x.1.1 x.1.2.1 x.1.2.2.1 x.1.2.2.2.1 x.1.2.2.2.2.1 x.1.2.2.2.2.2.1 x.2.1 x.2.2.1
def disk_Disk_Append.S (N : Nat) : Fs := ⟨disk_Disk_Append.ins, disk_Disk_Append.outs, disk_Disk_Append.fn N⟩
def disk_Disk_Append.lam (N : Nat) : Pcs := pcs []
theorem disk_Disk_Append.pok (N : Nat) : (disk_Disk_Append.lam N).Ok Try.prog (disk_Disk_Append.C N) disk_Disk_Append.code := pcsOk_nil
theorem disk_Disk_Append.ev (N : Nat) (x : Sh.den disk_Disk_Append.ins) : evC (disk_Disk_Append.C N) disk_Disk_Append.code (disk_Disk_Append.lam N) ⟨envOf 0 (bld (fun k => k) disk_Disk_Append.ins x 0).1, (bld (fun k => k) disk_Disk_Append.ins x 0).2.1, 1000⟩ (endF U disk_Disk_Append.outs Try.f12.results.toList []) = disk_Disk_Append.fn N x := by kernel_rfl
theorem disk_Disk_Append.ok (N : Nat) : (disk_Disk_Append.S N).con.Ok Try.prog 12 := fn_ok (F := disk_Disk_Append.S N) (n0 := 1000) Try.func12 (by kernel_rfl) (show Try.f12.body = some disk_Disk_Append.code by rfl) mix (disk_Disk_Append.cok N) (fun _ => rfl) (fun _ => rfl) (disk_Disk_Append.pok N) (fun x y h => (disk_Disk_Append.ev N x).trans h)
/-- hayloft/disk.fine -/
def disk_fine.ins : Sh := (.cons (.val (.pair (.slice .byte) (.int .i64))) .nil)
def disk_fine.C (N : Nat) : Ctx := ⟨U, 3, fun _ => true, gam [], gamY []⟩
theorem disk_fine.cok (N : Nat) : (disk_fine.C N).Ok Try.prog := ⟨U_ok, GamOk.nil, GamYOk.nil⟩
def disk_fine.code : Code := Try.f47.body.getD .skip
def disk_fine.outs : Sh := (.cons (.val (.int .i64)) .nil)
def disk_fine.run (N : Nat) (f : ((List UInt8) × Int)) : Option (Int × Unit) :=
  some ((0 : Int), ())
def disk_fine.fn (N : Nat) (x : Sh.den disk_fine.ins) : Option (Sh.den disk_fine.outs) := disk_fine.run N x.1
def disk_fine.S (N : Nat) : Fs := ⟨disk_fine.ins, disk_fine.outs, disk_fine.fn N⟩
def disk_fine.lam (N : Nat) : Pcs := pcs []
theorem disk_fine.pok (N : Nat) : (disk_fine.lam N).Ok Try.prog (disk_fine.C N) disk_fine.code := pcsOk_nil
theorem disk_fine.ev (N : Nat) (x : Sh.den disk_fine.ins) : evC (disk_fine.C N) disk_fine.code (disk_fine.lam N) ⟨envOf 0 (bld (fun k => k) disk_fine.ins x 0).1, (bld (fun k => k) disk_fine.ins x 0).2.1, 1000⟩ (endF U disk_fine.outs Try.f47.results.toList []) = disk_fine.fn N x := by kernel_rfl
theorem disk_fine.ok (N : Nat) : (disk_fine.S N).con.Ok Try.prog 47 := fn_ok (F := disk_fine.S N) (n0 := 1000) Try.func47 (by kernel_rfl) (show Try.f47.body = some disk_fine.code by rfl) mix (disk_fine.cok N) (fun _ => rfl) (fun _ => rfl) (disk_fine.pok N) (fun x y h => (disk_fine.ev N x).trans h)
/-- (*hayloft/disk.Disk).Sync$1 -/
def disk_Disk_Sync_f1.ins : Sh := (.cons (.val (.pair (.slice .byte) (.int .i64))) (.cons (.rbox 23 (.cons (.box 67 (.cons (.val (.int .i64)) (.cons (.val (.int .i64)) (.cons (.own 3000000 (.pair .str (.pair (.slice .byte) (.int .i64)))) (.cons (.val (.int .i64)) (.cons (.val (.int .i64)) (.cons (.val .bool) .nil))))))) .nil)) (.cons (.rbox 9 (.cons (.val .str) .nil)) .nil)))
def disk_Disk_Sync_f1.C (N : Nat) : Ctx := ⟨U, 13, fun _ => true, gam [(34, (disk_Disk_lay.S N).con)], gamY []⟩
theorem disk_Disk_Sync_f1.cok (N : Nat) : (disk_Disk_Sync_f1.C N).Ok Try.prog := ⟨U_ok, GamOk.cons (disk_Disk_lay.ok N) (GamOk.nil), GamYOk.nil⟩
def disk_Disk_Sync_f1.code : Code := Try.f54.body.getD .skip
def disk_Disk_Sync_f1.outs : Sh := (.cons (.upd 1 67 (.cons (.val (.int .i64)) (.cons (.val (.int .i64)) (.cons (.own 3000000 (.pair .str (.pair (.slice .byte) (.int .i64)))) (.cons (.val (.int .i64)) (.cons (.val (.int .i64)) (.cons (.val .bool) .nil))))))) .nil)
def disk_Disk_Sync_f1.run (N : Nat) (f : ((List UInt8) × Int)) (room_ : Int) (used : Int) (files : (List ((List UInt8) × ((List UInt8) × Int)))) (steps : Int) (left : Int) (dead : Bool) (t2 : (List UInt8)) : Option ((Int × Int × (List ((List UInt8) × ((List UInt8) × Int))) × Int × Int × Bool × Unit) × Unit) :=
  obind (disk_Disk_lay.run N room_ used files steps left dead t2 (f.1, (f.1.length : Int))) fun ((room1, used1, files1, steps1, left1, dead1, _), _) =>
    some ((room1, used1, files1, steps1, left1, dead1, ()), ())
def disk_Disk_Sync_f1.fn (N : Nat) (x : Sh.den disk_Disk_Sync_f1.ins) : Option (Sh.den disk_Disk_Sync_f1.outs) := disk_Disk_Sync_f1.run N x.1 x.2.1.1.1 x.2.1.1.2.1 x.2.1.1.2.2.1 x.2.1.1.2.2.2.1 x.2.1.1.2.2.2.2.1 x.2.1.1.2.2.2.2.2.1 x.2.2.1.1
def disk_Disk_Sync_f1.S (N : Nat) : Fs := ⟨disk_Disk_Sync_f1.ins, disk_Disk_Sync_f1.outs, disk_Disk_Sync_f1.fn N⟩
def disk_Disk_Sync_f1.lam (N : Nat) : Pcs := pcs []
theorem disk_Disk_Sync_f1.pok (N : Nat) : (disk_Disk_Sync_f1.lam N).Ok Try.prog (disk_Disk_Sync_f1.C N) disk_Disk_Sync_f1.code := pcsOk_nil
theorem disk_Disk_Sync_f1.ev (N : Nat) (x : Sh.den disk_Disk_Sync_f1.ins) : evC (disk_Disk_Sync_f1.C N) disk_Disk_Sync_f1.code (disk_Disk_Sync_f1.lam N) ⟨envOf 0 (bld (fun k => k) disk_Disk_Sync_f1.ins x 0).1, (bld (fun k => k) disk_Disk_Sync_f1.ins x 0).2.1, 1000⟩ (endF U disk_Disk_Sync_f1.outs Try.f54.results.toList []) = disk_Disk_Sync_f1.fn N x := by kernel_rfl
theorem disk_Disk_Sync_f1.ok (N : Nat) : (disk_Disk_Sync_f1.S N).con.Ok Try.prog 54 := fn_ok (F := disk_Disk_Sync_f1.S N) (n0 := 1000) Try.func54 (by kernel_rfl) (show Try.f54.body = some disk_Disk_Sync_f1.code by rfl) mix (disk_Disk_Sync_f1.cok N) (fun _ => rfl) (fun _ => rfl) (disk_Disk_Sync_f1.pok N) (fun x y h => (disk_Disk_Sync_f1.ev N x).trans h)
/-- (*hayloft/disk.Disk).do -/
def disk_Disk_do.ins : Sh := (.cons (.box 67 (.cons (.val (.int .i64)) (.cons (.val (.int .i64)) (.cons (.own 3000000 (.pair .str (.pair (.slice .byte) (.int .i64)))) (.cons (.val (.int .i64)) (.cons (.val (.int .i64)) (.cons (.val .bool) .nil))))))) (.cons (.val .str) (.cons (.fn 47 .nil) (.cons (.fn 54 (.cons (.rbox 23 (.cons (.ref 0) .nil)) (.cons (.rbox 9 (.cons (.val .str) .nil)) .nil))) .nil))))
def disk_Disk_do.C (N : Nat) : Ctx := ⟨U, 40, fun _ => true, gam [(47, (disk_fine.S N).con), (35, (disk_Disk_step.S N).con), (54, (disk_Disk_Sync_f1.S N).con)], gamY []⟩
theorem disk_Disk_do.cok (N : Nat) : (disk_Disk_do.C N).Ok Try.prog := ⟨U_ok, GamOk.cons (disk_fine.ok N) (GamOk.cons (disk_Disk_step.ok N) (GamOk.cons (disk_Disk_Sync_f1.ok N) (GamOk.nil))), GamYOk.nil⟩
def disk_Disk_do.code : Code := Try.f46.body.getD .skip
def disk_Disk_do.outs : Sh := (.cons (.upd 0 67 (.cons (.val (.int .i64)) (.cons (.val (.int .i64)) (.cons (.own 3000000 (.pair .str (.pair (.slice .byte) (.int .i64)))) (.cons (.val (.int .i64)) (.cons (.val (.int .i64)) (.cons (.val .bool) .nil))))))) (.cons (.val (.int .i64)) .nil))
def disk_Disk_do.run (N : Nat) (room_ : Int) (used : Int) (files : (List ((List UInt8) × ((List UInt8) × Int)))) (steps : Int) (left : Int) (dead : Bool) (name : (List UInt8)) (done : (List UInt8)) : Option ((Int × Int × (List ((List UInt8) × ((List UInt8) × Int))) × Int × Int × Bool × Unit) × Int × Unit) :=
  bif dead then
    some ((room_, used, files, steps, left, dead, ()), (44 : Int), ())
  else
    bif !(mapHas files name) then
      some ((room_, used, files, steps, left, dead, ()), (42 : Int), ())
    else
      obind (disk_fine.run N (mapGet files name (([] : List UInt8), (0 : Int)))) fun (n_, _) =>
        bif !(decide (n_ = (0 : Int))) then
          some ((room_, used, files, steps, left, dead, ()), n_, ())
        else
          obind (disk_Disk_step.run N room_ used files steps left dead) fun ((room1, used1, files1, steps1, left1, dead1, _), b, _) =>
            bif b then
              some ((room1, used1, files1, steps1, left1, dead1, ()), (44 : Int), ())
            else
              obind (disk_Disk_Sync_f1.run N (mapGet files name (([] : List UInt8), (0 : Int))) room1 used1 files1 steps1 left1 dead1 done) fun ((room2, used2, files2, steps2, left2, dead2, _), _) =>
                some ((room2, used2, files2, steps2, left2, dead2, ()), (0 : Int), ())
def disk_Disk_do.fn (N : Nat) (x : Sh.den disk_Disk_do.ins) : Option (Sh.den disk_Disk_do.outs) := disk_Disk_do.run N x.1.1 x.1.2.1 x.1.2.2.1 x.1.2.2.2.1 x.1.2.2.2.2.1 x.1.2.2.2.2.2.1 x.2.1 x.2.2.2.1.2.1.1
def disk_Disk_do.S (N : Nat) : Fs := ⟨disk_Disk_do.ins, disk_Disk_do.outs, disk_Disk_do.fn N⟩
def disk_Disk_do.lam (N : Nat) : Pcs := pcs []
theorem disk_Disk_do.pok (N : Nat) : (disk_Disk_do.lam N).Ok Try.prog (disk_Disk_do.C N) disk_Disk_do.code := pcsOk_nil
theorem disk_Disk_do.ev (N : Nat) (x : Sh.den disk_Disk_do.ins) : evC (disk_Disk_do.C N) disk_Disk_do.code (disk_Disk_do.lam N) ⟨envOf 0 (bld (fun k => k) disk_Disk_do.ins x 0).1, (bld (fun k => k) disk_Disk_do.ins x 0).2.1, 1000⟩ (endF U disk_Disk_do.outs Try.f46.results.toList []) = disk_Disk_do.fn N x := by kernel_rfl
theorem disk_Disk_do.ok (N : Nat) : (disk_Disk_do.S N).con.Ok Try.prog 46 := fn_ok (F := disk_Disk_do.S N) (n0 := 1000) Try.func46 (by kernel_rfl) (show Try.f46.body = some disk_Disk_do.code by rfl) mix (disk_Disk_do.cok N) (fun _ => rfl) (fun _ => rfl) (disk_Disk_do.pok N) (fun x y h => (disk_Disk_do.ev N x).trans h)
/-- (*hayloft/disk.Disk).Sync -/
def disk_Disk_Sync.ins : Sh := (.cons (.box 67 (.cons (.val (.int .i64)) (.cons (.val (.int .i64)) (.cons (.own 3000000 (.pair .str (.pair (.slice .byte) (.int .i64)))) (.cons (.val (.int .i64)) (.cons (.val (.int .i64)) (.cons (.val .bool) .nil))))))) (.cons (.val .str) .nil))
def disk_Disk_Sync.C (N : Nat) : Ctx := ⟨U, 9, fun _ => true, gam [(46, (disk_Disk_do.S N).con)], gamY []⟩
theorem disk_Disk_Sync.cok (N : Nat) : (disk_Disk_Sync.C N).Ok Try.prog := ⟨U_ok, GamOk.cons (disk_Disk_do.ok N) (GamOk.nil), GamYOk.nil⟩
def disk_Disk_Sync.code : Code := Try.f31.body.getD .skip
def disk_Disk_Sync.outs : Sh := (.cons (.upd 0 67 (.cons (.val (.int .i64)) (.cons (.val (.int .i64)) (.cons (.own 3000000 (.pair .str (.pair (.slice .byte) (.int .i64)))) (.cons (.val (.int .i64)) (.cons (.val (.int .i64)) (.cons (.val .bool) .nil))))))) (.cons (.val (.int .i64)) .nil))
def disk_Disk_Sync.run (N : Nat) (room_ : Int) (used : Int) (files : (List ((List UInt8) × ((List UInt8) × Int)))) (steps : Int) (left : Int) (dead : Bool) (name : (List UInt8)) : Option ((Int × Int × (List ((List UInt8) × ((List UInt8) × Int))) × Int × Int × Bool × Unit) × Int × Unit) :=
  obind (disk_Disk_do.run N room_ used files steps left dead name name) fun ((room1, used1, files1, steps1, left1, dead1, _), n_, _) =>
    some ((room1, used1, files1, steps1, left1, dead1, ()), n_, ())
def disk_Disk_Sync.fn (N : Nat) (x : Sh.den disk_Disk_Sync.ins) : Option (Sh.den disk_Disk_Sync.outs) := disk_Disk_Sync.run N x.1.1 x.1.2.1 x.1.2.2.1 x.1.2.2.2.1 x.1.2.2.2.2.1 x.1.2.2.2.2.2.1 x.2.1
def disk_Disk_Sync.S (N : Nat) : Fs := ⟨disk_Disk_Sync.ins, disk_Disk_Sync.outs, disk_Disk_Sync.fn N⟩
def disk_Disk_Sync.lam (N : Nat) : Pcs := pcs []
theorem disk_Disk_Sync.pok (N : Nat) : (disk_Disk_Sync.lam N).Ok Try.prog (disk_Disk_Sync.C N) disk_Disk_Sync.code := pcsOk_nil
theorem disk_Disk_Sync.ev (N : Nat) (x : Sh.den disk_Disk_Sync.ins) : evC (disk_Disk_Sync.C N) disk_Disk_Sync.code (disk_Disk_Sync.lam N) ⟨envOf 0 (bld (fun k => k) disk_Disk_Sync.ins x 0).1, (bld (fun k => k) disk_Disk_Sync.ins x 0).2.1, 1000⟩ (endF U disk_Disk_Sync.outs Try.f31.results.toList []) = disk_Disk_Sync.fn N x := by kernel_rfl
theorem disk_Disk_Sync.ok (N : Nat) : (disk_Disk_Sync.S N).con.Ok Try.prog 31 := fn_ok (F := disk_Disk_Sync.S N) (n0 := 1000) Try.func31 (by kernel_rfl) (show Try.f31.body = some disk_Disk_Sync.code by rfl) mix (disk_Disk_Sync.cok N) (fun _ => rfl) (fun _ => rfl) (disk_Disk_Sync.pok N) (fun x y h => (disk_Disk_Sync.ev N x).trans h)
/-- slices.Clone[[]byte,byte] -/
def slices_Clone_byte_byte.ins : Sh := (.cons (.val (.slice .byte)) .nil)
def slices_Clone_byte_byte.C (N : Nat) : Ctx := ⟨U, 8, fun _ => true, gam [], gamY []⟩
theorem slices_Clone_byte_byte.cok (N : Nat) : (slices_Clone_byte_byte.C N).Ok Try.prog := ⟨U_ok, GamOk.nil, GamYOk.nil⟩
def slices_Clone_byte_byte.code : Code := Try.f36.body.getD .skip
def slices_Clone_byte_byte.outs : Sh := (.cons (.own 5 .byte) .nil)
def slices_Clone_byte_byte.run (N : Nat) (s : (List UInt8)) : Option ((List UInt8) × Unit) :=
  pick2 (Nat.beq s.length 0)
    (
      some (([] : List UInt8), ()))
    (
      bif room (0 + s.length) 1 then
        some (s, ())
      else none)
def slices_Clone_byte_byte.fn (N : Nat) (x : Sh.den slices_Clone_byte_byte.ins) : Option (Sh.den slices_Clone_byte_byte.outs) := slices_Clone_byte_byte.run N x.1
def slices_Clone_byte_byte.S (N : Nat) : Fs := ⟨slices_Clone_byte_byte.ins, slices_Clone_byte_byte.outs, slices_Clone_byte_byte.fn N⟩
def slices_Clone_byte_byte.lam (N : Nat) : Pcs := pcs []
theorem slices_Clone_byte_byte.pok (N : Nat) : (slices_Clone_byte_byte.lam N).Ok Try.prog (slices_Clone_byte_byte.C N) slices_Clone_byte_byte.code := pcsOk_nil
theorem slices_Clone_byte_byte.ev (N : Nat) (x : Sh.den slices_Clone_byte_byte.ins) : evC (slices_Clone_byte_byte.C N) slices_Clone_byte_byte.code (slices_Clone_byte_byte.lam N) ⟨envOf 0 (bld (fun k => k) slices_Clone_byte_byte.ins x 0).1, (bld (fun k => k) slices_Clone_byte_byte.ins x 0).2.1, 1000⟩ (endF U slices_Clone_byte_byte.outs Try.f36.results.toList []) = slices_Clone_byte_byte.fn N x := by kernel_rfl
theorem slices_Clone_byte_byte.ok (N : Nat) : (slices_Clone_byte_byte.S N).con.Ok Try.prog 36 := fn_ok (F := slices_Clone_byte_byte.S N) (n0 := 1000) Try.func36 (by kernel_rfl) (show Try.f36.body = some slices_Clone_byte_byte.code by rfl) mix (slices_Clone_byte_byte.cok N) (fun _ => rfl) (fun _ => rfl) (slices_Clone_byte_byte.pok N) (fun x y h => (slices_Clone_byte_byte.ev N x).trans h)
/-- (*hayloft/disk.Disk).Read -/
def disk_Disk_Read.ins : Sh := (.cons (.rbox 67 (.cons (.val (.int .i64)) (.cons (.val (.int .i64)) (.cons (.rown 3000000 (.pair .str (.pair (.slice .byte) (.int .i64)))) (.cons (.val (.int .i64)) (.cons (.val (.int .i64)) (.cons (.val .bool) .nil))))))) (.cons (.val .str) .nil))
def disk_Disk_Read.C (N : Nat) : Ctx := ⟨U, 21, fun _ => true, gam [(36, (slices_Clone_byte_byte.S N).con)], gamY []⟩
theorem disk_Disk_Read.cok (N : Nat) : (disk_Disk_Read.C N).Ok Try.prog := ⟨U_ok, GamOk.cons (slices_Clone_byte_byte.ok N) (GamOk.nil), GamYOk.nil⟩
def disk_Disk_Read.code : Code := Try.f13.body.getD .skip
def disk_Disk_Read.outs : Sh := (.cons (.own 5 .byte) (.cons (.val .bool) .nil))
def disk_Disk_Read.run (N : Nat) (room_ : Int) (used : Int) (files : (List ((List UInt8) × ((List UInt8) × Int)))) (steps : Int) (left : Int) (dead : Bool) (name : (List UInt8)) : Option ((List UInt8) × Bool × Unit) :=
  obind (slices_Clone_byte_byte.run N (mapGet files name (([] : List UInt8), (0 : Int))).1) fun (l, _) =>
    some (l, mapHas files name, ())
def disk_Disk_Read.fn (N : Nat) (x : Sh.den disk_Disk_Read.ins) : Option (Sh.den disk_Disk_Read.outs) := disk_Disk_Read.run N x.1.1 x.1.2.1 x.1.2.2.1 x.1.2.2.2.1 x.1.2.2.2.2.1 x.1.2.2.2.2.2.1 x.2.1
def disk_Disk_Read.S (N : Nat) : Fs := ⟨disk_Disk_Read.ins, disk_Disk_Read.outs, disk_Disk_Read.fn N⟩
def disk_Disk_Read.lam (N : Nat) : Pcs := pcs []
theorem disk_Disk_Read.pok (N : Nat) : (disk_Disk_Read.lam N).Ok Try.prog (disk_Disk_Read.C N) disk_Disk_Read.code := pcsOk_nil
theorem disk_Disk_Read.ev (N : Nat) (x : Sh.den disk_Disk_Read.ins) : evC (disk_Disk_Read.C N) disk_Disk_Read.code (disk_Disk_Read.lam N) ⟨envOf 0 (bld (fun k => k) disk_Disk_Read.ins x 0).1, (bld (fun k => k) disk_Disk_Read.ins x 0).2.1, 1000⟩ (endF U disk_Disk_Read.outs Try.f13.results.toList []) = disk_Disk_Read.fn N x := by kernel_rfl
theorem disk_Disk_Read.ok (N : Nat) : (disk_Disk_Read.S N).con.Ok Try.prog 13 := fn_ok (F := disk_Disk_Read.S N) (n0 := 1000) Try.func13 (by kernel_rfl) (show Try.f13.body = some disk_Disk_Read.code by rfl) mix (disk_Disk_Read.cok N) (fun _ => rfl) (fun _ => rfl) (disk_Disk_Read.pok N) (fun x y h => (disk_Disk_Read.ev N x).trans h)
/-- (*hayloft/disk.Disk).names -/
def disk_Disk_names.ins : Sh := (.cons (.box 67 (.cons (.val (.int .i64)) (.cons (.val (.int .i64)) (.cons (.own 3000000 (.pair .str (.pair (.slice .byte) (.int .i64)))) (.cons (.val (.int .i64)) (.cons (.val (.int .i64)) (.cons (.val .bool) .nil))))))) .nil)
def disk_Disk_names.C (N : Nat) : Ctx := ⟨U, 4, fun _ => true, gam [], gamY []⟩
theorem disk_Disk_names.cok (N : Nat) : (disk_Disk_names.C N).Ok Try.prog := ⟨U_ok, GamOk.nil, GamYOk.nil⟩
def disk_Disk_names.code : Code := Try.f37.body.getD .skip
def disk_Disk_names.outs : Sh := (.cons (.upd 0 67 (.cons (.val (.int .i64)) (.cons (.val (.int .i64)) (.cons (.own 3000000 (.pair .str (.pair (.slice .byte) (.int .i64)))) (.cons (.val (.int .i64)) (.cons (.val (.int .i64)) (.cons (.val .bool) .nil))))))) (.cons (.fn 56 (.cons (.box 23 (.cons (.ref 0) .nil)) .nil)) .nil))
def disk_Disk_names.run (N : Nat) (room_ : Int) (used : Int) (files : (List ((List UInt8) × ((List UInt8) × Int)))) (steps : Int) (left : Int) (dead : Bool) : Option ((Int × Int × (List ((List UInt8) × ((List UInt8) × Int))) × Int × Int × Bool × Unit) × ((Unit × Unit) × Unit) × Unit) :=
  some ((room_, used, files, steps, left, dead, ()), (((), ()), ()), ())
def disk_Disk_names.fn (N : Nat) (x : Sh.den disk_Disk_names.ins) : Option (Sh.den disk_Disk_names.outs) := disk_Disk_names.run N x.1.1 x.1.2.1 x.1.2.2.1 x.1.2.2.2.1 x.1.2.2.2.2.1 x.1.2.2.2.2.2.1
def disk_Disk_names.S (N : Nat) : Fs := ⟨disk_Disk_names.ins, disk_Disk_names.outs, disk_Disk_names.fn N⟩
def disk_Disk_names.lam (N : Nat) : Pcs := pcs []
theorem disk_Disk_names.pok (N : Nat) : (disk_Disk_names.lam N).Ok Try.prog (disk_Disk_names.C N) disk_Disk_names.code := pcsOk_nil
theorem disk_Disk_names.ev (N : Nat) (x : Sh.den disk_Disk_names.ins) : evC (disk_Disk_names.C N) disk_Disk_names.code (disk_Disk_names.lam N) ⟨envOf 0 (bld (fun k => k) disk_Disk_names.ins x 0).1, (bld (fun k => k) disk_Disk_names.ins x 0).2.1, 1000⟩ (endF U disk_Disk_names.outs Try.f37.results.toList []) = disk_Disk_names.fn N x := by kernel_rfl
theorem disk_Disk_names.ok (N : Nat) : (disk_Disk_names.S N).con.Ok Try.prog 37 := fn_ok (F := disk_Disk_names.S N) (n0 := 1000) Try.func37 (by kernel_rfl) (show Try.f37.body = some disk_Disk_names.code by rfl) mix (disk_Disk_names.cok N) (fun _ => rfl) (fun _ => rfl) (disk_Disk_names.pok N) (fun x y h => (disk_Disk_names.ev N x).trans h)
/-- maps.Keys[map[string]hayloft/disk.file,string,hayloft/disk.file] -/
def maps_Keys_map_string_disk_file_string_disk_file.ins : Sh := (.cons (.rown 3000000 (.pair .str (.pair (.slice .byte) (.int .i64)))) .nil)
def maps_Keys_map_string_disk_file_string_disk_file.C (N : Nat) : Ctx := ⟨U, 4, fun _ => true, gam [], gamY []⟩
theorem maps_Keys_map_string_disk_file_string_disk_file.cok (N : Nat) : (maps_Keys_map_string_disk_file_string_disk_file.C N).Ok Try.prog := ⟨U_ok, GamOk.nil, GamYOk.nil⟩
def maps_Keys_map_string_disk_file_string_disk_file.code : Code := Try.f58.body.getD .skip
def maps_Keys_map_string_disk_file_string_disk_file.outs : Sh := (.cons (.fn 71 (.cons (.box 65 (.cons (.keep 2000000 0) .nil)) .nil)) .nil)
def maps_Keys_map_string_disk_file_string_disk_file.run (N : Nat) (m : (List ((List UInt8) × ((List UInt8) × Int)))) : Option (((Unit × Unit) × Unit) × Unit) :=
  some ((((), ()), ()), ())
def maps_Keys_map_string_disk_file_string_disk_file.fn (N : Nat) (x : Sh.den maps_Keys_map_string_disk_file_string_disk_file.ins) : Option (Sh.den maps_Keys_map_string_disk_file_string_disk_file.outs) := maps_Keys_map_string_disk_file_string_disk_file.run N x.1
def maps_Keys_map_string_disk_file_string_disk_file.S (N : Nat) : Fs := ⟨maps_Keys_map_string_disk_file_string_disk_file.ins, maps_Keys_map_string_disk_file_string_disk_file.outs, maps_Keys_map_string_disk_file_string_disk_file.fn N⟩
def maps_Keys_map_string_disk_file_string_disk_file.lam (N : Nat) : Pcs := pcs []
theorem maps_Keys_map_string_disk_file_string_disk_file.pok (N : Nat) : (maps_Keys_map_string_disk_file_string_disk_file.lam N).Ok Try.prog (maps_Keys_map_string_disk_file_string_disk_file.C N) maps_Keys_map_string_disk_file_string_disk_file.code := pcsOk_nil
theorem maps_Keys_map_string_disk_file_string_disk_file.ev (N : Nat) (x : Sh.den maps_Keys_map_string_disk_file_string_disk_file.ins) : evC (maps_Keys_map_string_disk_file_string_disk_file.C N) maps_Keys_map_string_disk_file_string_disk_file.code (maps_Keys_map_string_disk_file_string_disk_file.lam N) ⟨envOf 0 (bld (fun k => k) maps_Keys_map_string_disk_file_string_disk_file.ins x 0).1, (bld (fun k => k) maps_Keys_map_string_disk_file_string_disk_file.ins x 0).2.1, 1000⟩ (endF U maps_Keys_map_string_disk_file_string_disk_file.outs Try.f58.results.toList []) = maps_Keys_map_string_disk_file_string_disk_file.fn N x := by kernel_rfl
theorem maps_Keys_map_string_disk_file_string_disk_file.ok (N : Nat) : (maps_Keys_map_string_disk_file_string_disk_file.S N).con.Ok Try.prog 58 := fn_ok (F := maps_Keys_map_string_disk_file_string_disk_file.S N) (n0 := 1000) Try.func58 (by kernel_rfl) (show Try.f58.body = some maps_Keys_map_string_disk_file_string_disk_file.code by rfl) mix (maps_Keys_map_string_disk_file_string_disk_file.cok N) (fun _ => rfl) (fun _ => rfl) (maps_Keys_map_string_disk_file_string_disk_file.pok N) (fun x y h => (maps_Keys_map_string_disk_file_string_disk_file.ev N x).trans h)
def slices_Sorted_keys58.S (N : Nat) : Fs := sortedFs 71 65 9 3000000 (.pair (.slice .byte) (.int .i64))
theorem slices_Sorted_keys58.ok (N : Nat) : (slices_Sorted_keys58.S N).con.Ok Try.prog 57 := kSorted58
def slices_Sorted_keys58.run (N : Nat) (l : List ((List UInt8) × ((List UInt8) × Int))) : Option ((List (List UInt8)) × Unit) := bif room l.length 16 then some (sortKeys l, ()) else none
def Y0.ins : Sh := (.cons (.rbox 23 (.cons (.rbox 67 (.cons (.val (.int .i64)) (.cons (.val (.int .i64)) (.cons (.rown 3000000 (.pair .str (.pair (.slice .byte) (.int .i64)))) (.cons (.val (.int .i64)) (.cons (.val (.int .i64)) (.cons (.val .bool) .nil))))))) .nil)) (.cons (.box 34 (.cons (.val (.slice (.int .i64))) .nil)) (.cons (.rbox 23 (.cons (.box 67 (.cons (.val (.int .i64)) (.cons (.val (.int .i64)) (.cons (.own 3000000 (.pair .str (.pair (.slice .byte) (.int .i64)))) (.cons (.val (.int .i64)) (.cons (.val (.int .i64)) (.cons (.val .bool) .nil))))))) .nil)) (.cons (.val .str) .nil))))
def Y0.C (N : Nat) : Ctx := ⟨U, 54, fun _ => true, gam [(36, (slices_Clone_byte_byte.S N).con), (34, (disk_Disk_lay.S N).con)], gamY []⟩
theorem Y0.cok (N : Nat) : (Y0.C N).Ok Try.prog := ⟨U_ok, GamOk.cons (slices_Clone_byte_byte.ok N) (GamOk.cons (disk_Disk_lay.ok N) (GamOk.nil)), GamYOk.nil⟩
def Y0.code : Code := site0.body
def Y0_0.ins : Sh := (.cons (.box 34 (.cons (.val (.slice (.int .i64))) .nil)) (.cons (.val (.int .i64)) .nil))
def Y0_0.ts : List Tmp := [3, 7]
def Y0_0.asg : List Tmp := [7, 17, 18, 19, 20, 21, 22, 23, 24]
def Y0_0.C (N : Nat) : Ctx := { Y0.C N with may := fun t => Y0_0.asg.any (Nat.beq t) }
def Y0_0.code : Code := (sub Y0.code [false, true, false]).getD .skip
theorem Y0_0.cok (N : Nat) : (Y0_0.C N).Ok Try.prog := ⟨(Y0.cok N).U, (Y0.cok N).Γ, (Y0.cok N).Y⟩
def Y0_0.alts : List Alt := [⟨.normal, [7], (.cons (.upd 0 34 (.cons (.val (.slice (.int .i64))) .nil)) (.cons (.val (.int .i64)) .nil))⟩]
def Y0_0.run (N : Nat) (keep : (List Int)) (n_ : Int) : Option ((((List Int) × Unit) × Int × Unit)) :=
  bif decide ((keep.length : Int) > (0 : Int)) then
    bif inB (0 : Int) keep.length then
      bif okB (1 : Int) (keep.length : Int) keep.length then
        some ((keep.drop 1, ()), keep.getD 0 (0 : Int), ())
      else none
    else none
  else some ((keep, ()), n_, ())
def Y0_0.fn (N : Nat) (x : Sh.den Y0_0.ins) : Option (altsDen Y0_0.alts) := Y0_0.run N x.1.1 x.2.1
def Y0_0.P (N : Nat) : Ps := ⟨Y0_0.ts, Y0_0.ins, Y0_0.asg, Y0_0.alts, Y0_0.fn N⟩
def Y0_0.lam (N : Nat) : Pcs := pcs []
theorem Y0_0.pok (N : Nat) : (Y0_0.lam N).Ok Try.prog (Y0_0.C N) Y0_0.code := pcsOk_nil
theorem Y0_0.ev (N : Nat) (x : Sh.den Y0_0.ins) : evC (Y0_0.C N) Y0_0.code (Y0_0.lam N) ((Y0_0.P N).canon 1000 x) (altK (Y0_0.P N).alts) = Y0_0.fn N x := by kernel_rfl
theorem Y0_0.ok (N : Nat) : ((Y0_0.P N).pc (Y0.C N)).Ok Try.prog (Y0.C N) Y0_0.code := ps_ok (F := Y0_0.P N) (n0 := 1000) (Y0.cok N) mix (Y0_0.pok N) (fun x y h => (Y0_0.ev N x).trans h)
def Y0.alts : List Alt := [⟨.normal, [], (.cons (.upd 3 34 (.cons (.val (.slice (.int .i64))) .nil)) (.cons (.upd 5 67 (.cons (.val (.int .i64)) (.cons (.val (.int .i64)) (.cons (.own 3000000 (.pair .str (.pair (.slice .byte) (.int .i64)))) (.cons (.val (.int .i64)) (.cons (.val (.int .i64)) (.cons (.val .bool) .nil))))))) .nil))⟩]
def Y0.run (N : Nat) (room_ : Int) (used : Int) (files : (List ((List UInt8) × ((List UInt8) × Int)))) (steps : Int) (left : Int) (dead : Bool) (keep : (List Int)) (room1 : Int) (used1 : Int) (files1 : (List ((List UInt8) × ((List UInt8) × Int)))) (steps1 : Int) (left1 : Int) (dead1 : Bool) (t16 : (List UInt8)) : Option ((((List Int) × Unit) × (Int × Int × (List ((List UInt8) × ((List UInt8) × Int))) × Int × Int × Bool × Unit) × Unit)) :=
  obind (Y0_0.run N keep (0 : Int)) fun ((v, _), n_, _) =>
    bif okB (0 : Int) (IntKind.i64.wrap ((mapGet files t16 (([] : List UInt8), (0 : Int))).2 + (min (max n_ (0 : Int)) (IntKind.i64.wrap (((mapGet files t16 (([] : List UInt8), (0 : Int))).1.length : Int) - (mapGet files t16 (([] : List UInt8), (0 : Int))).2))))) (mapGet files t16 (([] : List UInt8), (0 : Int))).1.length then
      obind (slices_Clone_byte_byte.run N ((mapGet files t16 (([] : List UInt8), (0 : Int))).1.take (IntKind.i64.wrap ((mapGet files t16 (([] : List UInt8), (0 : Int))).2 + (min (max n_ (0 : Int)) (IntKind.i64.wrap (((mapGet files t16 (([] : List UInt8), (0 : Int))).1.length : Int) - (mapGet files t16 (([] : List UInt8), (0 : Int))).2))))).toNat)) fun (l, _) =>
        obind (disk_Disk_lay.run N room1 used1 files1 steps1 left1 dead1 t16 (l, IntKind.i64.wrap ((mapGet files t16 (([] : List UInt8), (0 : Int))).2 + (min (max n_ (0 : Int)) (IntKind.i64.wrap (((mapGet files t16 (([] : List UInt8), (0 : Int))).1.length : Int) - (mapGet files t16 (([] : List UInt8), (0 : Int))).2)))))) fun ((room2, used2, files2, steps2, left2, dead2, _), _) =>
          some ((v, ()), (room2, used2, files2, steps2, left2, dead2, ()), ())
    else none
def Y0.fn (N : Nat) (x : Sh.den Y0.ins) : Option (altsDen Y0.alts) := Y0.run N x.1.1.1 x.1.1.2.1 x.1.1.2.2.1 x.1.1.2.2.2.1 x.1.1.2.2.2.2.1 x.1.1.2.2.2.2.2.1 x.2.1.1 x.2.2.1.1.1 x.2.2.1.1.2.1 x.2.2.1.1.2.2.1 x.2.2.1.1.2.2.2.1 x.2.2.1.1.2.2.2.2.1 x.2.2.1.1.2.2.2.2.2.1 x.2.2.2.1
def Y0.F (N : Nat) : Ys := ⟨[2, 3, 5], [16], Y0.ins, Y0.alts, Y0.fn N⟩
def Y0.yc (N : Nat) : Yc := (Y0.F N).yc
def Y0.lam (N : Nat) : Pcs := pcs [([false, true, false], (Y0_0.P N).pc (Y0.C N))]
theorem Y0.pok (N : Nat) : (Y0.lam N).Ok Try.prog (Y0.C N) site0.body := pcsOk_cons (c1 := Y0_0.code) (by kernel_rfl) (Y0_0.ok N) (pcsOk_nil)
theorem Y0.ev (N : Nat) (x : Sh.den Y0.ins) : evC (Y0.C N) site0.assign (pcs []) ⟨addT [2, 3, 5, 16] (bld (fun k => k) Y0.ins x 0).1 [], (bld (fun k => k) Y0.ins x 0).2.1, 1000⟩ (thenC fun s => evC (Y0.C N) site0.body (Y0.lam N) s (altK Y0.alts)) = Y0.fn N x := by kernel_rfl
theorem Y0.ok (N : Nat) : (Y0.yc N).Ok Try.prog 1000000 := ys_ok (σ := site0) (k := 0) (C := Y0.C N) (F := Y0.F N) (n0 := 1000) (fun _ => rfl) (Y0.cok N) mix (fun _ => rfl) (show site0.ps.toList = [16] by kernel_rfl) (show site0.ts = [2, 3, 5] by kernel_rfl) (show site0.nt = 54 by kernel_rfl) rfl rfl rfl rfl rfl pcsOk_nil (Y0.pok N) (fun x y h => (Y0.ev N x).trans h)
/-- (*hayloft/disk.Disk).names$1 -/
def disk_Disk_names_f1.ins : Sh := (.cons (.box 1000000 (.cons (.val (.int .i64)) (.cons (.junk) (.cons (.junk) (.cons (.junk) (.cons (.rbox 23 (.cons (.rbox 67 (.cons (.val (.int .i64)) (.cons (.val (.int .i64)) (.cons (.rown 3000000 (.pair .str (.pair (.slice .byte) (.int .i64)))) (.cons (.val (.int .i64)) (.cons (.val (.int .i64)) (.cons (.val .bool) .nil))))))) .nil)) (.cons (.box 34 (.cons (.val (.slice (.int .i64))) .nil)) (.cons (.rbox 23 (.cons (.box 67 (.cons (.val (.int .i64)) (.cons (.val (.int .i64)) (.cons (.own 3000000 (.pair .str (.pair (.slice .byte) (.int .i64)))) (.cons (.val (.int .i64)) (.cons (.val (.int .i64)) (.cons (.val .bool) .nil))))))) .nil)) .nil)))))))) (.cons (.rbox 23 (.cons (.ref 2) .nil)) .nil))
def disk_Disk_names_f1.C (N : Nat) : Ctx := ⟨U, 21, fun _ => true, gam [(58, (maps_Keys_map_string_disk_file_string_disk_file.S N).con), (57, (slices_Sorted_keys58.S N).con)], gamY [(1000000, Y0.yc N)]⟩
theorem disk_Disk_names_f1.cok (N : Nat) : (disk_Disk_names_f1.C N).Ok Try.prog := ⟨U_ok, GamOk.cons (maps_Keys_map_string_disk_file_string_disk_file.ok N) (GamOk.cons (slices_Sorted_keys58.ok N) (GamOk.nil)), GamYOk.cons (Y0.ok N) (GamYOk.nil)⟩
def disk_Disk_names_f1.code : Code := Try.f56.body.getD .skip
def disk_Disk_names_f1_0.ins : Sh := (.cons (.box 1000000 (.cons (.val (.int .i64)) (.cons (.junk) (.cons (.junk) (.cons (.junk) (.cons (.rbox 23 (.cons (.rbox 67 (.cons (.val (.int .i64)) (.cons (.val (.int .i64)) (.cons (.rown 3000000 (.pair .str (.pair (.slice .byte) (.int .i64)))) (.cons (.val (.int .i64)) (.cons (.val (.int .i64)) (.cons (.val .bool) .nil))))))) .nil)) (.cons (.box 34 (.cons (.val (.slice (.int .i64))) .nil)) (.cons (.rbox 23 (.cons (.box 67 (.cons (.val (.int .i64)) (.cons (.val (.int .i64)) (.cons (.own 3000000 (.pair .str (.pair (.slice .byte) (.int .i64)))) (.cons (.val (.int .i64)) (.cons (.val (.int .i64)) (.cons (.val .bool) .nil))))))) .nil)) .nil)))))))) (.cons (.rown 9 .str) (.cons (.val (.int .i64)) (.cons (.val (.int .i64)) .nil))))
def disk_Disk_names_f1_0.ts : List Tmp := [0, 10, 11, 12]
def disk_Disk_names_f1_0.asg : List Tmp := [4, 12, 13, 14, 15, 16, 17, 18, 19, 20]
def disk_Disk_names_f1_0.C (N : Nat) : Ctx := { disk_Disk_names_f1.C N with may := fun t => disk_Disk_names_f1_0.asg.any (Nat.beq t) }
def disk_Disk_names_f1_0.code : Code := loopBody (sub disk_Disk_names_f1.code [true, false])
theorem disk_Disk_names_f1_0.cok (N : Nat) : (disk_Disk_names_f1_0.C N).Ok Try.prog := ⟨(disk_Disk_names_f1.cok N).U, (disk_Disk_names_f1.cok N).Γ, (disk_Disk_names_f1.cok N).Y⟩
def disk_Disk_names_f1_0.alts : List Alt := [⟨(.exit 0), [], (.cons (.upd 4 34 (.cons (.val (.slice (.int .i64))) .nil)) (.cons (.upd 6 67 (.cons (.val (.int .i64)) (.cons (.val (.int .i64)) (.cons (.own 3000000 (.pair .str (.pair (.slice .byte) (.int .i64)))) (.cons (.val (.int .i64)) (.cons (.val (.int .i64)) (.cons (.val .bool) .nil))))))) (.cons (.upd 0 1000000 (.cons (.val (.int .i64)) (.cons (.junk) (.cons (.junk) (.cons (.junk) (.cons (.keep 0 1) (.cons (.ref 0) (.cons (.keep 0 5) .nil)))))))) .nil)))⟩]
def disk_Disk_names_f1_0.go (N : Nat) : Nat → Int → Int → Int → (List ((List UInt8) × ((List UInt8) × Int))) → Int → Int → Bool → (List Int) → Int → Int → (List ((List UInt8) × ((List UInt8) × Int))) → Int → Int → Bool → (List (List UInt8)) → Int → Int → Option ((((List Int) × Unit) × (Int × Int × (List ((List UInt8) × ((List UInt8) × Int))) × Int × Int × Bool × Unit) × (Int × Unit × Unit × Unit × Unit × Unit × Unit × Unit) × Unit))
  | 0, _, _, _, _, _, _, _, _, _, _, _, _, _, _, _, _, _ => none
  | fuel + 1, yield, room_, used, files, steps, left, dead, yield1, room1, used1, files1, steps1, left1, dead1, t10, t11, t12 =>
    bif decide (t12 < t11) then
      bif inB t12 t10.length then
        bif decide (t12.toNat < t10.length) then
          bif decide (yield = (0 : Int)) then
            obind (Y0.run N room_ used files steps left dead yield1 room1 used1 files1 steps1 left1 dead1 (t10.getD t12.toNat ([] : List UInt8))) fun ((v, _), (room2, used2, files2, steps2, left2, dead2, _), _) =>
              disk_Disk_names_f1_0.go N fuel (0 : Int) room_ used files steps left dead v room2 used2 files2 steps2 left2 dead2 t10 t11 (IntKind.i64.wrap (t12 + (1 : Int)))
          else none
        else none
      else none
    else some ((yield1, ()), (room1, used1, files1, steps1, left1, dead1, ()), (yield, (), (), (), (), (), (), ()), ())
def disk_Disk_names_f1_0.g (N n : Nat) (x : Sh.den disk_Disk_names_f1_0.ins) : Option (altsDen disk_Disk_names_f1_0.alts) := disk_Disk_names_f1_0.go N n x.1.1 x.1.2.2.2.2.1.1.1 x.1.2.2.2.2.1.1.2.1 x.1.2.2.2.2.1.1.2.2.1 x.1.2.2.2.2.1.1.2.2.2.1 x.1.2.2.2.2.1.1.2.2.2.2.1 x.1.2.2.2.2.1.1.2.2.2.2.2.1 x.1.2.2.2.2.2.1.1 x.1.2.2.2.2.2.2.1.1.1 x.1.2.2.2.2.2.2.1.1.2.1 x.1.2.2.2.2.2.2.1.1.2.2.1 x.1.2.2.2.2.2.2.1.1.2.2.2.1 x.1.2.2.2.2.2.2.1.1.2.2.2.2.1 x.1.2.2.2.2.2.2.1.1.2.2.2.2.2.1 x.2.1 x.2.2.1 x.2.2.2.1
def disk_Disk_names_f1_0.P (N : Nat) : Ps := ⟨disk_Disk_names_f1_0.ts, disk_Disk_names_f1_0.ins, disk_Disk_names_f1_0.asg, disk_Disk_names_f1_0.alts, disk_Disk_names_f1_0.g N N⟩
def disk_Disk_names_f1_0.lam (N : Nat) : Pcs := pcs []
theorem disk_Disk_names_f1_0.pok (N : Nat) : (disk_Disk_names_f1_0.lam N).Ok Try.prog (disk_Disk_names_f1_0.C N) disk_Disk_names_f1_0.code := pcsOk_nil
theorem disk_Disk_names_f1_0.ev (N n : Nat) (x : Sh.den disk_Disk_names_f1_0.ins) : evC (disk_Disk_names_f1_0.C N) disk_Disk_names_f1_0.code (disk_Disk_names_f1_0.lam N) ((disk_Disk_names_f1_0.P N).canon 1000 x) (loopK (disk_Disk_names_f1_0.P N) (disk_Disk_names_f1_0.g N n)) = disk_Disk_names_f1_0.g N (n + 1) x := by kernel_rfl
theorem disk_Disk_names_f1_0.ok (N : Nat) : ((disk_Disk_names_f1_0.P N).pc (disk_Disk_names_f1.C N)).Ok Try.prog (disk_Disk_names_f1.C N) (.loop disk_Disk_names_f1_0.code) := loop_ok (F := disk_Disk_names_f1_0.P N) (n0 := 1000) (N := N) (disk_Disk_names_f1.cok N) mix (disk_Disk_names_f1_0.pok N) (disk_Disk_names_f1_0.g N) (fun x => by rfl) rfl (fun n x y h => (disk_Disk_names_f1_0.ev N n x).trans h)
def disk_Disk_names_f1.outs : Sh := (.cons (.upd 4 34 (.cons (.val (.slice (.int .i64))) .nil)) (.cons (.upd 6 67 (.cons (.val (.int .i64)) (.cons (.val (.int .i64)) (.cons (.own 3000000 (.pair .str (.pair (.slice .byte) (.int .i64)))) (.cons (.val (.int .i64)) (.cons (.val (.int .i64)) (.cons (.val .bool) .nil))))))) (.cons (.upd 0 1000000 (.cons (.val (.int .i64)) (.cons (.junk) (.cons (.junk) (.cons (.junk) (.cons (.keep 0 1) (.cons (.ref 0) (.cons (.keep 0 5) .nil)))))))) .nil)))
def disk_Disk_names_f1.run (N : Nat) (yield : Int) (room_ : Int) (used : Int) (files : (List ((List UInt8) × ((List UInt8) × Int)))) (steps : Int) (left : Int) (dead : Bool) (yield1 : (List Int)) (room1 : Int) (used1 : Int) (files1 : (List ((List UInt8) × ((List UInt8) × Int)))) (steps1 : Int) (left1 : Int) (dead1 : Bool) : Option (((List Int) × Unit) × (Int × Int × (List ((List UInt8) × ((List UInt8) × Int))) × Int × Int × Bool × Unit) × (Int × Unit × Unit × Unit × Unit × Unit × Unit × Unit) × Unit) :=
  obind (maps_Keys_map_string_disk_file_string_disk_file.run N files) fun (((_, _), _), _) =>
    obind (slices_Sorted_keys58.run N files) fun (names, _) =>
      obind (disk_Disk_names_f1_0.go N N yield room_ used files steps left dead yield1 room1 used1 files1 steps1 left1 dead1 names (names.length : Int) (0 : Int)) fun ((v, _), (room2, used2, files2, steps2, left2, dead2, _), (v1, _, _, _, _, _, _, _), _) =>
        some ((v, ()), (room2, used2, files2, steps2, left2, dead2, ()), (v1, (), (), (), (), (), (), ()), ())
def disk_Disk_names_f1.fn (N : Nat) (x : Sh.den disk_Disk_names_f1.ins) : Option (Sh.den disk_Disk_names_f1.outs) := disk_Disk_names_f1.run N x.1.1 x.1.2.2.2.2.1.1.1 x.1.2.2.2.2.1.1.2.1 x.1.2.2.2.2.1.1.2.2.1 x.1.2.2.2.2.1.1.2.2.2.1 x.1.2.2.2.2.1.1.2.2.2.2.1 x.1.2.2.2.2.1.1.2.2.2.2.2.1 x.1.2.2.2.2.2.1.1 x.1.2.2.2.2.2.2.1.1.1 x.1.2.2.2.2.2.2.1.1.2.1 x.1.2.2.2.2.2.2.1.1.2.2.1 x.1.2.2.2.2.2.2.1.1.2.2.2.1 x.1.2.2.2.2.2.2.1.1.2.2.2.2.1 x.1.2.2.2.2.2.2.1.1.2.2.2.2.2.1
def disk_Disk_names_f1.S (N : Nat) : Fs := ⟨disk_Disk_names_f1.ins, disk_Disk_names_f1.outs, disk_Disk_names_f1.fn N⟩
def disk_Disk_names_f1.lam (N : Nat) : Pcs := pcs [([true, false], (disk_Disk_names_f1_0.P N).pc (disk_Disk_names_f1.C N))]
theorem disk_Disk_names_f1.pok (N : Nat) : (disk_Disk_names_f1.lam N).Ok Try.prog (disk_Disk_names_f1.C N) disk_Disk_names_f1.code := pcsOk_cons (c1 := .loop disk_Disk_names_f1_0.code) (by kernel_rfl) (disk_Disk_names_f1_0.ok N) (pcsOk_nil)
theorem disk_Disk_names_f1.ev (N : Nat) (x : Sh.den disk_Disk_names_f1.ins) : evC (disk_Disk_names_f1.C N) disk_Disk_names_f1.code (disk_Disk_names_f1.lam N) ⟨envOf 0 (bld (fun k => k) disk_Disk_names_f1.ins x 0).1, (bld (fun k => k) disk_Disk_names_f1.ins x 0).2.1, 1000⟩ (endF U disk_Disk_names_f1.outs Try.f56.results.toList []) = disk_Disk_names_f1.fn N x := by kernel_rfl
theorem disk_Disk_names_f1.ok (N : Nat) : (disk_Disk_names_f1.S N).con.Ok Try.prog 56 := fn_ok (F := disk_Disk_names_f1.S N) (n0 := 1000) Try.func56 (by kernel_rfl) (show Try.f56.body = some disk_Disk_names_f1.code by rfl) mix (disk_Disk_names_f1.cok N) (fun _ => rfl) (fun _ => rfl) (disk_Disk_names_f1.pok N) (fun x y h => (disk_Disk_names_f1.ev N x).trans h)
/-- (*hayloft/disk.Disk).Crash -/
def disk_Disk_Crash.ins : Sh := (.cons (.box 67 (.cons (.val (.int .i64)) (.cons (.val (.int .i64)) (.cons (.own 3000000 (.pair .str (.pair (.slice .byte) (.int .i64)))) (.cons (.val (.int .i64)) (.cons (.val (.int .i64)) (.cons (.val .bool) .nil))))))) (.cons (.val (.slice (.int .i64))) .nil))
def disk_Disk_Crash.C (N : Nat) : Ctx := ⟨U, 54, fun _ => true, gam [(20, (disk_New.S N).con), (37, (disk_Disk_names.S N).con), (56, (disk_Disk_names_f1.S N).con)], gamY []⟩
theorem disk_Disk_Crash.cok (N : Nat) : (disk_Disk_Crash.C N).Ok Try.prog := ⟨U_ok, GamOk.cons (disk_New.ok N) (GamOk.cons (disk_Disk_names.ok N) (GamOk.cons (disk_Disk_names_f1.ok N) (GamOk.nil))), GamYOk.nil⟩
def disk_Disk_Crash.code : Code := Try.f27.body.getD .skip
def disk_Disk_Crash.outs : Sh := (.cons (.upd 0 67 (.cons (.val (.int .i64)) (.cons (.val (.int .i64)) (.cons (.own 3000000 (.pair .str (.pair (.slice .byte) (.int .i64)))) (.cons (.val (.int .i64)) (.cons (.val (.int .i64)) (.cons (.val .bool) .nil))))))) (.cons (.box 67 (.cons (.val (.int .i64)) (.cons (.val (.int .i64)) (.cons (.own 3000000 (.pair .str (.pair (.slice .byte) (.int .i64)))) (.cons (.val (.int .i64)) (.cons (.val (.int .i64)) (.cons (.val .bool) .nil))))))) .nil))
def disk_Disk_Crash.run (N : Nat) (room_ : Int) (used : Int) (files : (List ((List UInt8) × ((List UInt8) × Int)))) (steps : Int) (left : Int) (dead : Bool) (keep : (List Int)) : Option ((Int × Int × (List ((List UInt8) × ((List UInt8) × Int))) × Int × Int × Bool × Unit) × (Int × Int × (List ((List UInt8) × ((List UInt8) × Int))) × Int × Int × Bool × Unit) × Unit) :=
  obind (disk_New.run N room_) fun ((room1, used1, files1, steps1, left1, dead1, _), _) =>
    obind (disk_Disk_names.run N room_ used files steps left dead) fun ((room2, used2, files2, steps2, left2, dead2, _), ((_, _), _), _) =>
      obind (disk_Disk_names_f1.run N (0 : Int) room2 used2 files2 steps2 left2 dead2 keep room1 used1 files1 steps1 left1 dead1) fun ((v, _), (room3, used3, files3, steps3, left3, dead3, _), (v1, _, _, _, _, _, _, _), _) =>
        bif decide (v1 = (0 : Int)) then
          some ((room2, used2, files2, steps2, left2, dead2, ()), (room3, used3, files3, steps3, left3, dead3, ()), ())
        else none
def disk_Disk_Crash.fn (N : Nat) (x : Sh.den disk_Disk_Crash.ins) : Option (Sh.den disk_Disk_Crash.outs) := disk_Disk_Crash.run N x.1.1 x.1.2.1 x.1.2.2.1 x.1.2.2.2.1 x.1.2.2.2.2.1 x.1.2.2.2.2.2.1 x.2.1
def disk_Disk_Crash.S (N : Nat) : Fs := ⟨disk_Disk_Crash.ins, disk_Disk_Crash.outs, disk_Disk_Crash.fn N⟩
def disk_Disk_Crash.lam (N : Nat) : Pcs := pcs [([true, true, false, true, false], rfPc (disk_Disk_Crash.C N) 1000000 (.tmp 15) [2, 3, 5] [.normal])]
theorem disk_Disk_Crash.pok (N : Nat) : (disk_Disk_Crash.lam N).Ok Try.prog (disk_Disk_Crash.C N) disk_Disk_Crash.code := pcsOk_cons (c1 := .rangeFunc (.tmp 15) site0.ps site0.assign site0.body) (by kernel_rfl) (rf_ok (k := 0) (fun _ => rfl) (disk_Disk_Crash.cok N)) (pcsOk_nil)
theorem disk_Disk_Crash.ev (N : Nat) (x : Sh.den disk_Disk_Crash.ins) : evC (disk_Disk_Crash.C N) disk_Disk_Crash.code (disk_Disk_Crash.lam N) ⟨envOf 0 (bld (fun k => k) disk_Disk_Crash.ins x 0).1, (bld (fun k => k) disk_Disk_Crash.ins x 0).2.1, 1000⟩ (endF U disk_Disk_Crash.outs Try.f27.results.toList []) = disk_Disk_Crash.fn N x := by kernel_rfl
theorem disk_Disk_Crash.ok (N : Nat) : (disk_Disk_Crash.S N).con.Ok Try.prog 27 := fn_ok (F := disk_Disk_Crash.S N) (n0 := 1000) Try.func27 (by kernel_rfl) (show Try.f27.body = some disk_Disk_Crash.code by rfl) mix (disk_Disk_Crash.cok N) (fun _ => rfl) (fun _ => rfl) (disk_Disk_Crash.pok N) (fun x y h => (disk_Disk_Crash.ev N x).trans h)
/-- (*hayloft/disk.Disk).Steps -/
def disk_Disk_Steps.ins : Sh := (.cons (.rbox 67 (.cons (.val (.int .i64)) (.cons (.val (.int .i64)) (.cons (.rown 3000000 (.pair .str (.pair (.slice .byte) (.int .i64)))) (.cons (.val (.int .i64)) (.cons (.val (.int .i64)) (.cons (.val .bool) .nil))))))) .nil)
def disk_Disk_Steps.C (N : Nat) : Ctx := ⟨U, 7, fun _ => true, gam [], gamY []⟩
theorem disk_Disk_Steps.cok (N : Nat) : (disk_Disk_Steps.C N).Ok Try.prog := ⟨U_ok, GamOk.nil, GamYOk.nil⟩
def disk_Disk_Steps.code : Code := Try.f23.body.getD .skip
def disk_Disk_Steps.outs : Sh := (.cons (.val (.int .i64)) .nil)
def disk_Disk_Steps.run (N : Nat) (room_ : Int) (used : Int) (files : (List ((List UInt8) × ((List UInt8) × Int)))) (steps : Int) (left : Int) (dead : Bool) : Option (Int × Unit) :=
  some (steps, ())
def disk_Disk_Steps.fn (N : Nat) (x : Sh.den disk_Disk_Steps.ins) : Option (Sh.den disk_Disk_Steps.outs) := disk_Disk_Steps.run N x.1.1 x.1.2.1 x.1.2.2.1 x.1.2.2.2.1 x.1.2.2.2.2.1 x.1.2.2.2.2.2.1
def disk_Disk_Steps.S (N : Nat) : Fs := ⟨disk_Disk_Steps.ins, disk_Disk_Steps.outs, disk_Disk_Steps.fn N⟩
def disk_Disk_Steps.lam (N : Nat) : Pcs := pcs []
theorem disk_Disk_Steps.pok (N : Nat) : (disk_Disk_Steps.lam N).Ok Try.prog (disk_Disk_Steps.C N) disk_Disk_Steps.code := pcsOk_nil
theorem disk_Disk_Steps.ev (N : Nat) (x : Sh.den disk_Disk_Steps.ins) : evC (disk_Disk_Steps.C N) disk_Disk_Steps.code (disk_Disk_Steps.lam N) ⟨envOf 0 (bld (fun k => k) disk_Disk_Steps.ins x 0).1, (bld (fun k => k) disk_Disk_Steps.ins x 0).2.1, 1000⟩ (endF U disk_Disk_Steps.outs Try.f23.results.toList []) = disk_Disk_Steps.fn N x := by kernel_rfl
theorem disk_Disk_Steps.ok (N : Nat) : (disk_Disk_Steps.S N).con.Ok Try.prog 23 := fn_ok (F := disk_Disk_Steps.S N) (n0 := 1000) Try.func23 (by kernel_rfl) (show Try.f23.body = some disk_Disk_Steps.code by rfl) mix (disk_Disk_Steps.cok N) (fun _ => rfl) (fun _ => rfl) (disk_Disk_Steps.pok N) (fun x y h => (disk_Disk_Steps.ev N x).trans h)
/-- hayloft/hayloftlaw04.begun -/
def law_begun.ins : Sh := (.cons (.val (.int .i64)) .nil)
def law_begun.C (N : Nat) : Ctx := ⟨U, 71, fun _ => true, gam [(20, (disk_New.S N).con), (12, (disk_Disk_Append.S N).con), (31, (disk_Disk_Sync.S N).con), (13, (disk_Disk_Read.S N).con), (27, (disk_Disk_Crash.S N).con), (23, (disk_Disk_Steps.S N).con)], gamY []⟩
theorem law_begun.cok (N : Nat) : (law_begun.C N).Ok Try.prog := ⟨U_ok, GamOk.cons (disk_New.ok N) (GamOk.cons (disk_Disk_Append.ok N) (GamOk.cons (disk_Disk_Sync.ok N) (GamOk.cons (disk_Disk_Read.ok N) (GamOk.cons (disk_Disk_Crash.ok N) (GamOk.cons (disk_Disk_Steps.ok N) (GamOk.nil)))))), GamYOk.nil⟩
def law_begun.code : Code := Try.f11.body.getD .skip
def law_begun.outs : Sh := (.cons (.box 67 (.cons (.val (.int .i64)) (.cons (.val (.int .i64)) (.cons (.own 3000000 (.pair .str (.pair (.slice .byte) (.int .i64)))) (.cons (.val (.int .i64)) (.cons (.val (.int .i64)) (.cons (.val .bool) .nil))))))) (.cons (.val .bool) .nil))
def law_begun.run (N : Nat) (room_ : Int) : Option ((Int × Int × (List ((List UInt8) × ((List UInt8) × Int))) × Int × Int × Bool × Unit) × Bool × Unit) :=
  obind (disk_New.run N (10 : Int)) fun ((room1, used, files, steps, left, dead, _), _) =>
    obind (disk_Disk_Append.run N room1 used files steps left dead ([(97 : UInt8)] : List UInt8) ([(1 : UInt8), (2 : UInt8)] : List UInt8)) fun ((room2, used1, files1, steps1, left1, dead1, _), n_, _) =>
      bif !(decide (n_ = (0 : Int))) then
        none
      else
        obind (disk_Disk_Sync.run N room2 used1 files1 steps1 left1 dead1 ([(97 : UInt8)] : List UInt8)) fun ((room3, used2, files2, steps2, left2, dead2, _), n1, _) =>
          bif !(decide (n1 = (0 : Int))) then
            none
          else
            obind (disk_Disk_Append.run N room3 used2 files2 steps2 left2 dead2 ([(97 : UInt8)] : List UInt8) ([(3 : UInt8)] : List UInt8)) fun ((room4, used3, files3, steps3, left3, dead3, _), n2, _) =>
              bif !(decide (n2 = (0 : Int))) then
                none
              else
                obind (disk_Disk_Read.run N room4 used3 files3 steps3 left3 dead3 ([(97 : UInt8)] : List UInt8)) fun (l, b, _) =>
                  obind (disk_Disk_Crash.run N room4 used3 files3 steps3 left3 dead3 ([] : List Int)) fun ((room5, used4, files4, steps4, left4, dead4, _), (room6, used5, files5, steps5, left5, dead5, _), _) =>
                    obind (disk_Disk_Read.run N room6 used5 files5 steps5 left5 dead5 ([(97 : UInt8)] : List UInt8)) fun (l1, b1, _) =>
                      obind (disk_New.run N room_) fun ((room7, used6, files6, steps6, left6, dead6, _), _) =>
                        bif b then
                          bif b1 then
                            bif decide (l = ([(1 : UInt8), (2 : UInt8), (3 : UInt8)] : List UInt8)) then
                              bif decide (l1 = ([(1 : UInt8), (2 : UInt8)] : List UInt8)) then
                                obind (disk_Disk_Steps.run N room5 used4 files4 steps4 left4 dead4) fun (n3, _) =>
                                  some ((room7, used6, files6, steps6, left6, dead6, ()), decide (n3 = (3 : Int)), ())
                              else some ((room7, used6, files6, steps6, left6, dead6, ()), false, ())
                            else some ((room7, used6, files6, steps6, left6, dead6, ()), false, ())
                          else some ((room7, used6, files6, steps6, left6, dead6, ()), false, ())
                        else some ((room7, used6, files6, steps6, left6, dead6, ()), false, ())
def law_begun.fn (N : Nat) (x : Sh.den law_begun.ins) : Option (Sh.den law_begun.outs) := law_begun.run N x.1
def law_begun.S (N : Nat) : Fs := ⟨law_begun.ins, law_begun.outs, law_begun.fn N⟩
def law_begun.lam (N : Nat) : Pcs := pcs []
theorem law_begun.pok (N : Nat) : (law_begun.lam N).Ok Try.prog (law_begun.C N) law_begun.code := pcsOk_nil
theorem law_begun.ev (N : Nat) (x : Sh.den law_begun.ins) : evC (law_begun.C N) law_begun.code (law_begun.lam N) ⟨envOf 0 (bld (fun k => k) law_begun.ins x 0).1, (bld (fun k => k) law_begun.ins x 0).2.1, 1000⟩ (endF U law_begun.outs Try.f11.results.toList []) = law_begun.fn N x := by kernel_rfl
theorem law_begun.ok (N : Nat) : (law_begun.S N).con.Ok Try.prog 11 := fn_ok (F := law_begun.S N) (n0 := 1000) Try.func11 (by kernel_rfl) (show Try.f11.body = some law_begun.code by rfl) mix (law_begun.cok N) (fun _ => rfl) (fun _ => rfl) (law_begun.pok N) (fun x y h => (law_begun.ev N x).trans h)
def Y1.ins : Sh := (.cons (.box 30 (.cons (.own 9 .str) .nil)) (.cons (.val .str) .nil))
def Y1.C (N : Nat) : Ctx := ⟨U, 13, fun _ => true, gam [], gamY []⟩
theorem Y1.cok (N : Nat) : (Y1.C N).Ok Try.prog := ⟨U_ok, GamOk.nil, GamYOk.nil⟩
def Y1.code : Code := site1.body
def Y1.alts : List Alt := [⟨.normal, [], (.cons (.upd 0 30 (.cons (.own 9 .str) .nil)) .nil)⟩]
def Y1.run (N : Nat) (l : (List (List UInt8))) (t7 : (List UInt8)) : Option ((((List (List UInt8)) × Unit) × Unit)) :=
  bif room (l.length + 1) 16 then
    some ((l ++ ([t7] : List (List UInt8)), ()), ())
  else none
def Y1.fn (N : Nat) (x : Sh.den Y1.ins) : Option (altsDen Y1.alts) := Y1.run N x.1.1 x.2.1
def Y1.F (N : Nat) : Ys := ⟨[3], [7], Y1.ins, Y1.alts, Y1.fn N⟩
def Y1.yc (N : Nat) : Yc := (Y1.F N).yc
def Y1.lam (N : Nat) : Pcs := pcs []
theorem Y1.pok (N : Nat) : (Y1.lam N).Ok Try.prog (Y1.C N) site1.body := pcsOk_nil
theorem Y1.ev (N : Nat) (x : Sh.den Y1.ins) : evC (Y1.C N) site1.assign (pcs []) ⟨addT [3, 7] (bld (fun k => k) Y1.ins x 0).1 [], (bld (fun k => k) Y1.ins x 0).2.1, 1000⟩ (thenC fun s => evC (Y1.C N) site1.body (Y1.lam N) s (altK Y1.alts)) = Y1.fn N x := by kernel_rfl
theorem Y1.ok (N : Nat) : (Y1.yc N).Ok Try.prog 1000001 := ys_ok (σ := site1) (k := 1) (C := Y1.C N) (F := Y1.F N) (n0 := 1000) (fun _ => rfl) (Y1.cok N) mix (fun _ => rfl) (show site1.ps.toList = [7] by kernel_rfl) (show site1.ts = [3] by kernel_rfl) (show site1.nt = 13 by kernel_rfl) rfl rfl rfl rfl rfl pcsOk_nil (Y1.pok N) (fun x y h => (Y1.ev N x).trans h)
/-- (*hayloft/disk.Disk).names$1 -/
def disk_Disk_names_f1_b.ins : Sh := (.cons (.box 1000001 (.cons (.val (.int .i64)) (.cons (.junk) (.cons (.junk) (.cons (.junk) (.cons (.box 30 (.cons (.own 9 .str) .nil)) .nil)))))) (.cons (.rbox 23 (.cons (.rbox 67 (.cons (.val (.int .i64)) (.cons (.val (.int .i64)) (.cons (.rown 3000000 (.pair .str (.pair (.slice .byte) (.int .i64)))) (.cons (.val (.int .i64)) (.cons (.val (.int .i64)) (.cons (.val .bool) .nil))))))) .nil)) .nil))
def disk_Disk_names_f1_b.C (N : Nat) : Ctx := ⟨U, 21, fun _ => true, gam [(58, (maps_Keys_map_string_disk_file_string_disk_file.S N).con), (57, (slices_Sorted_keys58.S N).con)], gamY [(1000001, Y1.yc N)]⟩
theorem disk_Disk_names_f1_b.cok (N : Nat) : (disk_Disk_names_f1_b.C N).Ok Try.prog := ⟨U_ok, GamOk.cons (maps_Keys_map_string_disk_file_string_disk_file.ok N) (GamOk.cons (slices_Sorted_keys58.ok N) (GamOk.nil)), GamYOk.cons (Y1.ok N) (GamYOk.nil)⟩
def disk_Disk_names_f1_b.code : Code := Try.f56.body.getD .skip
def disk_Disk_names_f1_b_0.ins : Sh := (.cons (.box 1000001 (.cons (.val (.int .i64)) (.cons (.junk) (.cons (.junk) (.cons (.junk) (.cons (.box 30 (.cons (.own 9 .str) .nil)) .nil)))))) (.cons (.rown 9 .str) (.cons (.val (.int .i64)) (.cons (.val (.int .i64)) .nil))))
def disk_Disk_names_f1_b_0.ts : List Tmp := [0, 10, 11, 12]
def disk_Disk_names_f1_b_0.asg : List Tmp := [4, 12, 13, 14, 15, 16, 17, 18, 19, 20]
def disk_Disk_names_f1_b_0.C (N : Nat) : Ctx := { disk_Disk_names_f1_b.C N with may := fun t => disk_Disk_names_f1_b_0.asg.any (Nat.beq t) }
def disk_Disk_names_f1_b_0.code : Code := loopBody (sub disk_Disk_names_f1_b.code [true, false])
theorem disk_Disk_names_f1_b_0.cok (N : Nat) : (disk_Disk_names_f1_b_0.C N).Ok Try.prog := ⟨(disk_Disk_names_f1_b.cok N).U, (disk_Disk_names_f1_b.cok N).Γ, (disk_Disk_names_f1_b.cok N).Y⟩
def disk_Disk_names_f1_b_0.alts : List Alt := [⟨(.exit 0), [], (.cons (.upd 1 30 (.cons (.own 9 .str) .nil)) (.cons (.upd 0 1000001 (.cons (.val (.int .i64)) (.cons (.junk) (.cons (.junk) (.cons (.junk) (.cons (.ref 0) .nil)))))) .nil))⟩]
def disk_Disk_names_f1_b_0.go (N : Nat) : Nat → Int → (List (List UInt8)) → (List (List UInt8)) → Int → Int → Option ((((List (List UInt8)) × Unit) × (Int × Unit × Unit × Unit × Unit × Unit) × Unit))
  | 0, _, _, _, _, _ => none
  | fuel + 1, yield, yield1, t10, t11, t12 =>
    bif decide (t12 < t11) then
      bif inB t12 t10.length then
        bif decide (t12.toNat < t10.length) then
          bif decide (yield = (0 : Int)) then
            obind (Y1.run N yield1 (t10.getD t12.toNat ([] : List UInt8))) fun ((v, _), _) =>
              disk_Disk_names_f1_b_0.go N fuel (0 : Int) v t10 t11 (IntKind.i64.wrap (t12 + (1 : Int)))
          else none
        else none
      else none
    else some ((yield1, ()), (yield, (), (), (), (), ()), ())
def disk_Disk_names_f1_b_0.g (N n : Nat) (x : Sh.den disk_Disk_names_f1_b_0.ins) : Option (altsDen disk_Disk_names_f1_b_0.alts) := disk_Disk_names_f1_b_0.go N n x.1.1 x.1.2.2.2.2.1.1 x.2.1 x.2.2.1 x.2.2.2.1
def disk_Disk_names_f1_b_0.P (N : Nat) : Ps := ⟨disk_Disk_names_f1_b_0.ts, disk_Disk_names_f1_b_0.ins, disk_Disk_names_f1_b_0.asg, disk_Disk_names_f1_b_0.alts, disk_Disk_names_f1_b_0.g N N⟩
def disk_Disk_names_f1_b_0.lam (N : Nat) : Pcs := pcs []
theorem disk_Disk_names_f1_b_0.pok (N : Nat) : (disk_Disk_names_f1_b_0.lam N).Ok Try.prog (disk_Disk_names_f1_b_0.C N) disk_Disk_names_f1_b_0.code := pcsOk_nil
theorem disk_Disk_names_f1_b_0.ev (N n : Nat) (x : Sh.den disk_Disk_names_f1_b_0.ins) : evC (disk_Disk_names_f1_b_0.C N) disk_Disk_names_f1_b_0.code (disk_Disk_names_f1_b_0.lam N) ((disk_Disk_names_f1_b_0.P N).canon 1000 x) (loopK (disk_Disk_names_f1_b_0.P N) (disk_Disk_names_f1_b_0.g N n)) = disk_Disk_names_f1_b_0.g N (n + 1) x := by kernel_rfl
theorem disk_Disk_names_f1_b_0.ok (N : Nat) : ((disk_Disk_names_f1_b_0.P N).pc (disk_Disk_names_f1_b.C N)).Ok Try.prog (disk_Disk_names_f1_b.C N) (.loop disk_Disk_names_f1_b_0.code) := loop_ok (F := disk_Disk_names_f1_b_0.P N) (n0 := 1000) (N := N) (disk_Disk_names_f1_b.cok N) mix (disk_Disk_names_f1_b_0.pok N) (disk_Disk_names_f1_b_0.g N) (fun x => by rfl) rfl (fun n x y h => (disk_Disk_names_f1_b_0.ev N n x).trans h)
def disk_Disk_names_f1_b.outs : Sh := (.cons (.upd 1 30 (.cons (.own 9 .str) .nil)) (.cons (.upd 0 1000001 (.cons (.val (.int .i64)) (.cons (.junk) (.cons (.junk) (.cons (.junk) (.cons (.ref 0) .nil)))))) .nil))
def disk_Disk_names_f1_b.run (N : Nat) (yield : Int) (yield1 : (List (List UInt8))) (room_ : Int) (used : Int) (files : (List ((List UInt8) × ((List UInt8) × Int)))) (steps : Int) (left : Int) (dead : Bool) : Option (((List (List UInt8)) × Unit) × (Int × Unit × Unit × Unit × Unit × Unit) × Unit) :=
  obind (maps_Keys_map_string_disk_file_string_disk_file.run N files) fun (((_, _), _), _) =>
    obind (slices_Sorted_keys58.run N files) fun (names, _) =>
      obind (disk_Disk_names_f1_b_0.go N N yield yield1 names (names.length : Int) (0 : Int)) fun ((v, _), (v1, _, _, _, _, _), _) =>
        some ((v, ()), (v1, (), (), (), (), ()), ())
def disk_Disk_names_f1_b.fn (N : Nat) (x : Sh.den disk_Disk_names_f1_b.ins) : Option (Sh.den disk_Disk_names_f1_b.outs) := disk_Disk_names_f1_b.run N x.1.1 x.1.2.2.2.2.1.1 x.2.1.1.1 x.2.1.1.2.1 x.2.1.1.2.2.1 x.2.1.1.2.2.2.1 x.2.1.1.2.2.2.2.1 x.2.1.1.2.2.2.2.2.1
def disk_Disk_names_f1_b.S (N : Nat) : Fs := ⟨disk_Disk_names_f1_b.ins, disk_Disk_names_f1_b.outs, disk_Disk_names_f1_b.fn N⟩
def disk_Disk_names_f1_b.lam (N : Nat) : Pcs := pcs [([true, false], (disk_Disk_names_f1_b_0.P N).pc (disk_Disk_names_f1_b.C N))]
theorem disk_Disk_names_f1_b.pok (N : Nat) : (disk_Disk_names_f1_b.lam N).Ok Try.prog (disk_Disk_names_f1_b.C N) disk_Disk_names_f1_b.code := pcsOk_cons (c1 := .loop disk_Disk_names_f1_b_0.code) (by kernel_rfl) (disk_Disk_names_f1_b_0.ok N) (pcsOk_nil)
theorem disk_Disk_names_f1_b.ev (N : Nat) (x : Sh.den disk_Disk_names_f1_b.ins) : evC (disk_Disk_names_f1_b.C N) disk_Disk_names_f1_b.code (disk_Disk_names_f1_b.lam N) ⟨envOf 0 (bld (fun k => k) disk_Disk_names_f1_b.ins x 0).1, (bld (fun k => k) disk_Disk_names_f1_b.ins x 0).2.1, 1000⟩ (endF U disk_Disk_names_f1_b.outs Try.f56.results.toList []) = disk_Disk_names_f1_b.fn N x := by kernel_rfl
theorem disk_Disk_names_f1_b.ok (N : Nat) : (disk_Disk_names_f1_b.S N).con.Ok Try.prog 56 := fn_ok (F := disk_Disk_names_f1_b.S N) (n0 := 1000) Try.func56 (by kernel_rfl) (show Try.f56.body = some disk_Disk_names_f1_b.code by rfl) mix (disk_Disk_names_f1_b.cok N) (fun _ => rfl) (fun _ => rfl) (disk_Disk_names_f1_b.pok N) (fun x y h => (disk_Disk_names_f1_b.ev N x).trans h)
/-- (*hayloft/disk.Disk).Names -/
def disk_Disk_Names.ins : Sh := (.cons (.box 67 (.cons (.val (.int .i64)) (.cons (.val (.int .i64)) (.cons (.own 3000000 (.pair .str (.pair (.slice .byte) (.int .i64)))) (.cons (.val (.int .i64)) (.cons (.val (.int .i64)) (.cons (.val .bool) .nil))))))) .nil)
def disk_Disk_Names.C (N : Nat) : Ctx := ⟨U, 13, fun _ => true, gam [(37, (disk_Disk_names.S N).con), (56, (disk_Disk_names_f1_b.S N).con)], gamY []⟩
theorem disk_Disk_Names.cok (N : Nat) : (disk_Disk_Names.C N).Ok Try.prog := ⟨U_ok, GamOk.cons (disk_Disk_names.ok N) (GamOk.cons (disk_Disk_names_f1_b.ok N) (GamOk.nil)), GamYOk.nil⟩
def disk_Disk_Names.code : Code := Try.f14.body.getD .skip
def disk_Disk_Names.outs : Sh := (.cons (.upd 0 67 (.cons (.val (.int .i64)) (.cons (.val (.int .i64)) (.cons (.own 3000000 (.pair .str (.pair (.slice .byte) (.int .i64)))) (.cons (.val (.int .i64)) (.cons (.val (.int .i64)) (.cons (.val .bool) .nil))))))) (.cons (.own 9 .str) .nil))
def disk_Disk_Names.run (N : Nat) (room_ : Int) (used : Int) (files : (List ((List UInt8) × ((List UInt8) × Int)))) (steps : Int) (left : Int) (dead : Bool) : Option ((Int × Int × (List ((List UInt8) × ((List UInt8) × Int))) × Int × Int × Bool × Unit) × (List (List UInt8)) × Unit) :=
  obind (disk_Disk_names.run N room_ used files steps left dead) fun ((room1, used1, files1, steps1, left1, dead1, _), ((_, _), _), _) =>
    obind (disk_Disk_names_f1_b.run N (0 : Int) ([] : List (List UInt8)) room1 used1 files1 steps1 left1 dead1) fun ((v, _), (v1, _, _, _, _, _), _) =>
      bif decide (v1 = (0 : Int)) then
        some ((room1, used1, files1, steps1, left1, dead1, ()), v, ())
      else none
def disk_Disk_Names.fn (N : Nat) (x : Sh.den disk_Disk_Names.ins) : Option (Sh.den disk_Disk_Names.outs) := disk_Disk_Names.run N x.1.1 x.1.2.1 x.1.2.2.1 x.1.2.2.2.1 x.1.2.2.2.2.1 x.1.2.2.2.2.2.1
def disk_Disk_Names.S (N : Nat) : Fs := ⟨disk_Disk_Names.ins, disk_Disk_Names.outs, disk_Disk_Names.fn N⟩
def disk_Disk_Names.lam (N : Nat) : Pcs := pcs [([true, true, false, true, false], rfPc (disk_Disk_Names.C N) 1000001 (.tmp 6) [3] [.normal])]
theorem disk_Disk_Names.pok (N : Nat) : (disk_Disk_Names.lam N).Ok Try.prog (disk_Disk_Names.C N) disk_Disk_Names.code := pcsOk_cons (c1 := .rangeFunc (.tmp 6) site1.ps site1.assign site1.body) (by kernel_rfl) (rf_ok (k := 1) (fun _ => rfl) (disk_Disk_Names.cok N)) (pcsOk_nil)
theorem disk_Disk_Names.ev (N : Nat) (x : Sh.den disk_Disk_Names.ins) : evC (disk_Disk_Names.C N) disk_Disk_Names.code (disk_Disk_Names.lam N) ⟨envOf 0 (bld (fun k => k) disk_Disk_Names.ins x 0).1, (bld (fun k => k) disk_Disk_Names.ins x 0).2.1, 1000⟩ (endF U disk_Disk_Names.outs Try.f14.results.toList []) = disk_Disk_Names.fn N x := by kernel_rfl
theorem disk_Disk_Names.ok (N : Nat) : (disk_Disk_Names.S N).con.Ok Try.prog 14 := fn_ok (F := disk_Disk_Names.S N) (n0 := 1000) Try.func14 (by kernel_rfl) (show Try.f14.body = some disk_Disk_Names.code by rfl) mix (disk_Disk_Names.cok N) (fun _ => rfl) (fun _ => rfl) (disk_Disk_Names.pok N) (fun x y h => (disk_Disk_Names.ev N x).trans h)
/-- hayloft/hayloftlaw04.DiskMemory -/
def law_DiskMemory.ins : Sh := (.cons (.val (.slice .byte)) .nil)
def law_DiskMemory.C (N : Nat) : Ctx := ⟨U, 103, fun _ => true, gam [(11, (law_begun.S N).con), (12, (disk_Disk_Append.S N).con), (13, (disk_Disk_Read.S N).con), (14, (disk_Disk_Names.S N).con)], gamY []⟩
theorem law_DiskMemory.cok (N : Nat) : (law_DiskMemory.C N).Ok Try.prog := ⟨U_ok, GamOk.cons (law_begun.ok N) (GamOk.cons (disk_Disk_Append.ok N) (GamOk.cons (disk_Disk_Read.ok N) (GamOk.cons (disk_Disk_Names.ok N) (GamOk.nil)))), GamYOk.nil⟩
def law_DiskMemory.code : Code := Try.f3.body.getD .skip
def law_DiskMemory_0.ins : Sh := (.cons (.own 5 .byte) (.cons (.val (.int .i64)) (.cons (.val (.int .i64)) .nil)))
def law_DiskMemory_0.ts : List Tmp := [5, 29, 30]
def law_DiskMemory_0.asg : List Tmp := [6, 30, 31, 32, 33, 34, 35, 36, 37, 38, 39]
def law_DiskMemory_0.C (N : Nat) : Ctx := { law_DiskMemory.C N with may := fun t => law_DiskMemory_0.asg.any (Nat.beq t) }
def law_DiskMemory_0.code : Code := loopBody (sub law_DiskMemory.code [true, true, true, true, true, false, true, false])
theorem law_DiskMemory_0.cok (N : Nat) : (law_DiskMemory_0.C N).Ok Try.prog := ⟨(law_DiskMemory.cok N).U, (law_DiskMemory.cok N).Γ, (law_DiskMemory.cok N).Y⟩
def law_DiskMemory_0.alts : List Alt := [⟨(.exit 0), [], .nil⟩]
def law_DiskMemory_0.go (N : Nat) : Nat → (List UInt8) → Int → Int → Option (Unit)
  | 0, _, _, _ => none
  | fuel + 1, own, t29, t30 =>
    bif decide (t30 < t29) then
      bif inB t30 own.length then
        bif decide (t30.toNat < own.length) then
          bif inB t30 own.length then
            bif decide (t30.toNat < own.length) then
              law_DiskMemory_0.go N fuel (own.set t30.toNat (Hay.u8 (IntKind.u8.wrap (((own.getD t30.toNat (0 : UInt8)).toNat : Int) + (1 : Int))))) t29 (IntKind.i64.wrap (t30 + (1 : Int)))
            else none
          else none
        else none
      else none
    else some ()
def law_DiskMemory_0.g (N n : Nat) (x : Sh.den law_DiskMemory_0.ins) : Option (altsDen law_DiskMemory_0.alts) := law_DiskMemory_0.go N n x.1 x.2.1 x.2.2.1
def law_DiskMemory_0.P (N : Nat) : Ps := ⟨law_DiskMemory_0.ts, law_DiskMemory_0.ins, law_DiskMemory_0.asg, law_DiskMemory_0.alts, law_DiskMemory_0.g N N⟩
def law_DiskMemory_0.lam (N : Nat) : Pcs := pcs []
theorem law_DiskMemory_0.pok (N : Nat) : (law_DiskMemory_0.lam N).Ok Try.prog (law_DiskMemory_0.C N) law_DiskMemory_0.code := pcsOk_nil
theorem law_DiskMemory_0.ev (N n : Nat) (x : Sh.den law_DiskMemory_0.ins) : evC (law_DiskMemory_0.C N) law_DiskMemory_0.code (law_DiskMemory_0.lam N) ((law_DiskMemory_0.P N).canon 1000 x) (loopK (law_DiskMemory_0.P N) (law_DiskMemory_0.g N n)) = law_DiskMemory_0.g N (n + 1) x := by kernel_rfl
theorem law_DiskMemory_0.ok (N : Nat) : ((law_DiskMemory_0.P N).pc (law_DiskMemory.C N)).Ok Try.prog (law_DiskMemory.C N) (.loop law_DiskMemory_0.code) := loop_ok (F := law_DiskMemory_0.P N) (n0 := 1000) (N := N) (law_DiskMemory.cok N) mix (law_DiskMemory_0.pok N) (law_DiskMemory_0.g N) (fun x => by rfl) rfl (fun n x y h => (law_DiskMemory_0.ev N n x).trans h)
def law_DiskMemory_1.ins : Sh := (.cons (.own 5 .byte) (.cons (.val (.int .i64)) (.cons (.val (.int .i64)) .nil)))
def law_DiskMemory_1.ts : List Tmp := [7, 51, 52]
def law_DiskMemory_1.asg : List Tmp := [10, 52, 53, 54, 55, 56, 57, 58, 59, 60, 61]
def law_DiskMemory_1.C (N : Nat) : Ctx := { law_DiskMemory.C N with may := fun t => law_DiskMemory_1.asg.any (Nat.beq t) }
def law_DiskMemory_1.code : Code := loopBody (sub law_DiskMemory.code [true, true, true, true, true, true, true, true, false, true, false])
theorem law_DiskMemory_1.cok (N : Nat) : (law_DiskMemory_1.C N).Ok Try.prog := ⟨(law_DiskMemory.cok N).U, (law_DiskMemory.cok N).Γ, (law_DiskMemory.cok N).Y⟩
def law_DiskMemory_1.alts : List Alt := [⟨(.exit 2), [], (.cons (.updr 0 5 .byte) .nil)⟩]
def law_DiskMemory_1.go (N : Nat) : Nat → (List UInt8) → Int → Int → Option (((List UInt8) × Unit))
  | 0, _, _, _ => none
  | fuel + 1, x, t51, t52 =>
    bif decide (t52 < t51) then
      bif inB t52 x.length then
        bif decide (t52.toNat < x.length) then
          bif inB t52 x.length then
            bif decide (t52.toNat < x.length) then
              law_DiskMemory_1.go N fuel (x.set t52.toNat (Hay.u8 (IntKind.u8.wrap (((x.getD t52.toNat (0 : UInt8)).toNat : Int) + (2 : Int))))) t51 (IntKind.i64.wrap (t52 + (1 : Int)))
            else none
          else none
        else none
      else none
    else some (x, ())
def law_DiskMemory_1.g (N n : Nat) (x : Sh.den law_DiskMemory_1.ins) : Option (altsDen law_DiskMemory_1.alts) := law_DiskMemory_1.go N n x.1 x.2.1 x.2.2.1
def law_DiskMemory_1.P (N : Nat) : Ps := ⟨law_DiskMemory_1.ts, law_DiskMemory_1.ins, law_DiskMemory_1.asg, law_DiskMemory_1.alts, law_DiskMemory_1.g N N⟩
def law_DiskMemory_1.lam (N : Nat) : Pcs := pcs []
theorem law_DiskMemory_1.pok (N : Nat) : (law_DiskMemory_1.lam N).Ok Try.prog (law_DiskMemory_1.C N) law_DiskMemory_1.code := pcsOk_nil
theorem law_DiskMemory_1.ev (N n : Nat) (x : Sh.den law_DiskMemory_1.ins) : evC (law_DiskMemory_1.C N) law_DiskMemory_1.code (law_DiskMemory_1.lam N) ((law_DiskMemory_1.P N).canon 1000 x) (loopK (law_DiskMemory_1.P N) (law_DiskMemory_1.g N n)) = law_DiskMemory_1.g N (n + 1) x := by kernel_rfl
theorem law_DiskMemory_1.ok (N : Nat) : ((law_DiskMemory_1.P N).pc (law_DiskMemory.C N)).Ok Try.prog (law_DiskMemory.C N) (.loop law_DiskMemory_1.code) := loop_ok (F := law_DiskMemory_1.P N) (n0 := 1000) (N := N) (law_DiskMemory.cok N) mix (law_DiskMemory_1.pok N) (law_DiskMemory_1.g N) (fun x => by rfl) rfl (fun n x y h => (law_DiskMemory_1.ev N n x).trans h)
def law_DiskMemory.outs : Sh := (.cons (.val .bool) .nil)
def law_DiskMemory.run (N : Nat) (b : (List UInt8)) : Option (Bool × Unit) :=
  obind (law_begun.run N (b.length : Int)) fun ((room_, used, files, steps, left, dead, _), b1, _) =>
    bif !b1 then
      some (false, ())
    else
      bif room b.length 1 then
        obind (disk_Disk_Append.run N room_ used files steps left dead ([(102 : UInt8)] : List UInt8) b) fun ((room1, used1, files1, steps1, left1, dead1, _), n_, _) =>
          bif !(decide (n_ = (0 : Int))) then
            some (false, ())
          else
            obind (law_DiskMemory_0.go N N b (b.length : Int) (0 : Int)) fun _ =>
              obind (disk_Disk_Read.run N room1 used1 files1 steps1 left1 dead1 ([(102 : UInt8)] : List UInt8)) fun (l, b2, _) =>
                obind (law_DiskMemory_1.go N N l (l.length : Int) (0 : Int)) fun (v, _) =>
                  bif room (v.length + 1) 1 then
                    obind (disk_Disk_Read.run N room1 used1 files1 steps1 left1 dead1 ([(102 : UInt8)] : List UInt8)) fun (l1, b3, _) =>
                      obind (disk_Disk_Names.run N room1 used1 files1 steps1 left1 dead1) fun ((room2, used2, files2, steps2, left2, dead2, _), l2, _) =>
                        bif inB (0 : Int) l2.length then
                          bif decide (0 < l2.length) then
                            bif decide (l = b) then
                              bif decide (((v ++ ([(9 : UInt8)] : List UInt8)).length : Int) = (IntKind.i64.wrap ((b.length : Int) + (1 : Int)))) then
                                bif decide (l1 = b) then
                                  obind (disk_Disk_Names.run N room2 used2 files2 steps2 left2 dead2) fun ((room3, used3, files3, steps3, left3, dead3, _), l3, _) =>
                                    bif decide ((l3.length : Int) = (1 : Int)) then
                                      obind (disk_Disk_Names.run N room3 used3 files3 steps3 left3 dead3) fun ((room4, used4, files4, steps4, left4, dead4, _), l4, _) =>
                                        bif inB (0 : Int) l4.length then
                                          bif decide (0 < l4.length) then
                                            some (decide ((l4.getD 0 ([] : List UInt8)) = ([(102 : UInt8)] : List UInt8)), ())
                                          else none
                                        else none
                                    else some (false, ())
                                else some (false, ())
                              else some (false, ())
                            else some (false, ())
                          else none
                        else none
                  else none
      else none
def law_DiskMemory.fn (N : Nat) (x : Sh.den law_DiskMemory.ins) : Option (Sh.den law_DiskMemory.outs) := law_DiskMemory.run N x.1
def law_DiskMemory.S (N : Nat) : Fs := ⟨law_DiskMemory.ins, law_DiskMemory.outs, law_DiskMemory.fn N⟩
def law_DiskMemory.lam (N : Nat) : Pcs := pcs [([true, true, true, true, true, false, true, false], (law_DiskMemory_0.P N).pc (law_DiskMemory.C N)), ([true, true, true, true, true, true, true, true, false, true, false], (law_DiskMemory_1.P N).pc (law_DiskMemory.C N))]
theorem law_DiskMemory.pok (N : Nat) : (law_DiskMemory.lam N).Ok Try.prog (law_DiskMemory.C N) law_DiskMemory.code := pcsOk_cons (c1 := .loop law_DiskMemory_0.code) (by kernel_rfl) (law_DiskMemory_0.ok N) (pcsOk_cons (c1 := .loop law_DiskMemory_1.code) (by kernel_rfl) (law_DiskMemory_1.ok N) (pcsOk_nil))
theorem law_DiskMemory.ev (N : Nat) (x : Sh.den law_DiskMemory.ins) : evC (law_DiskMemory.C N) law_DiskMemory.code (law_DiskMemory.lam N) ⟨envOf 0 (bld (fun k => k) law_DiskMemory.ins x 0).1, (bld (fun k => k) law_DiskMemory.ins x 0).2.1, 1000⟩ (endF U law_DiskMemory.outs Try.f3.results.toList []) = law_DiskMemory.fn N x := by kernel_rfl
theorem law_DiskMemory.ok (N : Nat) : (law_DiskMemory.S N).con.Ok Try.prog 3 := fn_ok (F := law_DiskMemory.S N) (n0 := 1000) Try.func3 (by kernel_rfl) (show Try.f3.body = some law_DiskMemory.code by rfl) mix (law_DiskMemory.cok N) (fun _ => rfl) (fun _ => rfl) (law_DiskMemory.pok N) (fun x y h => (law_DiskMemory.ev N x).trans h)
end
end Go.Hay.Ytccbcmamcdegmaa
