/- Functions of the program as functions of Lean, and that they are what the program computes. Conditions: none. -/
import Derived.Test.YtccbcmamcdegmaaK
set_option linter.unusedVariables false
namespace Go.Hay.Ytccbcmamcdegmaa
open Go Go.Hay Go.Proofs
noncomputable section
set_option maxRecDepth 100000
def site0 : Site := siteOf [2, 3, 5] 54 (sub (Try.f27.body.getD .skip) [true, true, false, true, false])
def site1 : Site := siteOf [3] 13 (sub (Try.f14.body.getD .skip) [true, true, false, true, false])
def sites : List Site := [site0, site1]
instance : Sites := ⟨fun k us => loopObj (sites.getD k ⟨#[], .skip, .skip, [], 0⟩) us, fun _ _ _ => loopObj_ne _ _ _⟩
/-- hayloft/disk.New -/
def disk_New.ins : Sh := (.cons (.val (.int .i64)) .nil)
def disk_New.C (N : Nat) : Ctx := ⟨U, 8, fun _ => true, gam [], gamY []⟩
theorem disk_New.cok (N : Nat) : (disk_New.C N).Ok Try.prog := ⟨U_ok, GamOk.nil, GamYOk.nil⟩
def disk_New.code : Code := Try.f20.body.getD .skip
def disk_New.outs : Sh := (.cons (.box 67 (.cons (.val (.int .i64)) (.cons (.val (.int .i64)) (.cons (.own 3000000 (.pair .str (.pair (.slice .byte) (.int .i64)))) (.cons (.val (.int .i64)) (.cons (.val (.int .i64)) (.cons (.val .bool) .nil))))))) .nil)
def disk_New.run (N : Nat) (room_ : Int) : Option ((Int × Int × (List ((List UInt8) × ((List UInt8) × Int))) × Int × Int × Bool × Unit) × Unit) :=
  some ((max room_ (0 : Int), (0 : Int), ([] : List ((List UInt8) × ((List UInt8) × Int))), (0 : Int), (-1 : Int), false, ()), ())
def disk_New.fn (N : Nat) (x : Sh.den disk_New.ins) : Option (Sh.den disk_New.outs) := disk_New.run N x.1
def disk_New.S (N : Nat) : Fs := ⟨disk_New.ins, disk_New.outs, disk_New.fn N⟩
def disk_New.lam (N : Nat) : Pcs := pcs []
theorem disk_New.pok (N : Nat) : (disk_New.lam N).Ok Try.prog (disk_New.C N) disk_New.code := pcsOk_nil
theorem disk_New.ev (N : Nat) (x : Sh.den disk_New.ins) : evC (disk_New.C N) disk_New.code (disk_New.lam N) ⟨envOf 0 (bld (fun k => k) disk_New.ins x 0).1, (bld (fun k => k) disk_New.ins x 0).2.1, 1000⟩ (endF U disk_New.outs Try.f20.results.toList []) = disk_New.fn N x := by kernel_rfl
theorem disk_New.ok (N : Nat) : (disk_New.S N).con.Ok Try.prog 20 := fn_ok (F := disk_New.S N) (n0 := 1000) Try.func20 (by kernel_rfl) (show Try.f20.body = some disk_New.code by rfl) mix (disk_New.cok N) (fun _ => rfl) (fun _ => rfl) (disk_New.pok N) (fun x y h => (disk_New.ev N x).trans h)
/-- hayloft/disk.named -/
def disk_named.ins : Sh := (.cons (.val .str) .nil)
def disk_named.C (N : Nat) : Ctx := ⟨U, 27, fun _ => true, gam [], gamY []⟩
theorem disk_named.cok (N : Nat) : (disk_named.C N).Ok Try.prog := ⟨U_ok, GamOk.nil, GamYOk.nil⟩
def disk_named.code : Code := Try.f32.body.getD .skip
def disk_named_0.ins : Sh := (.cons (.val .str) (.cons (.val (.int .i64)) (.cons (.val (.int .i64)) .nil)))
def disk_named_0.ts : List Tmp := [0, 5, 6]
def disk_named_0.asg : List Tmp := [2, 3, 6, 7, 8, 9, 10, 11, 12, 13, 14, 15, 16, 17, 18, 19]
def disk_named_0.C (N : Nat) : Ctx := { disk_named.C N with may := fun t => disk_named_0.asg.any (Nat.beq t) }
def disk_named_0.code : Code := loopBody (sub disk_named.code [true, false, true, false])
theorem disk_named_0.cok (N : Nat) : (disk_named_0.C N).Ok Try.prog := ⟨(disk_named.cok N).U, (disk_named.cok N).Γ, (disk_named.cok N).Y⟩
def disk_named_0.alts : List Alt := [⟨.ret, [2], (.cons (.val .bool) .nil)⟩, ⟨(.exit 0), [], .nil⟩]
def disk_named_0.go (N : Nat) : Nat → (List UInt8) → Int → Int → Option ((Bool × Unit) ⊕ Unit)
  | 0, _, _, _ => none
  | fuel + 1, s, t5, t6 =>
    bif decide (t6 < t5) then
      bif inB t6 s.length then
        bif decide (((s.getD t6.toNat (0 : UInt8)).toNat : Int) < (33 : Int)) then
          some (.inl (false, ()))
        else
          bif inB t6 s.length then
            bif decide (((s.getD t6.toNat (0 : UInt8)).toNat : Int) > (126 : Int)) then
              some (.inl (false, ()))
            else disk_named_0.go N fuel s t5 (IntKind.i64.wrap (t6 + (1 : Int)))
          else none
      else none
    else some (.inr ())
def disk_named_0.g (N n : Nat) (x : Sh.den disk_named_0.ins) : Option (altsDen disk_named_0.alts) := disk_named_0.go N n x.1 x.2.1 x.2.2.1
def disk_named_0.P (N : Nat) : Ps := ⟨disk_named_0.ts, disk_named_0.ins, disk_named_0.asg, disk_named_0.alts, disk_named_0.g N N⟩
def disk_named_0.lam (N : Nat) : Pcs := pcs []
theorem disk_named_0.pok (N : Nat) : (disk_named_0.lam N).Ok Try.prog (disk_named_0.C N) disk_named_0.code := pcsOk_nil
theorem disk_named_0.ev (N n : Nat) (x : Sh.den disk_named_0.ins) : evC (disk_named_0.C N) disk_named_0.code (disk_named_0.lam N) ((disk_named_0.P N).canon 1000 x) (loopK (disk_named_0.P N) (disk_named_0.g N n)) = disk_named_0.g N (n + 1) x := by kernel_rfl
theorem disk_named_0.ok (N : Nat) : ((disk_named_0.P N).pc (disk_named.C N)).Ok Try.prog (disk_named.C N) (.loop disk_named_0.code) := loop_ok (F := disk_named_0.P N) (n0 := 1000) (N := N) (disk_named.cok N) mix (disk_named_0.pok N) (disk_named_0.g N) (fun x => by rfl) rfl (fun n x y h => (disk_named_0.ev N n x).trans h)
def disk_named.outs : Sh := (.cons (.val .bool) .nil)
def disk_named.run (N : Nat) (s : (List UInt8)) : Option (Bool × Unit) :=
  obind (disk_named_0.go N N s (s.length : Int) (0 : Int)) fun y => match y with
  | .inl (t2, _) =>
      some (t2, ())
  | .inr (_) =>
      bif !(decide (s = ([] : List UInt8))) then
        some (decide ((s.length : Int) ≤ (32 : Int)), ())
      else some (false, ())
def disk_named.fn (N : Nat) (x : Sh.den disk_named.ins) : Option (Sh.den disk_named.outs) := disk_named.run N x.1
def disk_named.S (N : Nat) : Fs := ⟨disk_named.ins, disk_named.outs, disk_named.fn N⟩
def disk_named.lam (N : Nat) : Pcs := pcs [([true, false, true, false], (disk_named_0.P N).pc (disk_named.C N))]
theorem disk_named.pok (N : Nat) : (disk_named.lam N).Ok Try.prog (disk_named.C N) disk_named.code := pcsOk_cons (c1 := .loop disk_named_0.code) (by kernel_rfl) (disk_named_0.ok N) (pcsOk_nil)
theorem disk_named.ev (N : Nat) (x : Sh.den disk_named.ins) : evC (disk_named.C N) disk_named.code (disk_named.lam N) ⟨envOf 0 (bld (fun k => k) disk_named.ins x 0).1, (bld (fun k => k) disk_named.ins x 0).2.1, 1000⟩ (endF U disk_named.outs Try.f32.results.toList []) = disk_named.fn N x := by kernel_rfl
theorem disk_named.ok (N : Nat) : (disk_named.S N).con.Ok Try.prog 32 := fn_ok (F := disk_named.S N) (n0 := 1000) Try.func32 (by kernel_rfl) (show Try.f32.body = some disk_named.code by rfl) mix (disk_named.cok N) (fun _ => rfl) (fun _ => rfl) (disk_named.pok N) (fun x y h => (disk_named.ev N x).trans h)
/-- (*hayloft/disk.Disk).Free -/
def disk_Disk_Free.ins : Sh := (.cons (.rbox 67 (.cons (.val (.int .i64)) (.cons (.val (.int .i64)) (.cons (.rown 3000000 (.pair .str (.pair (.slice .byte) (.int .i64)))) (.cons (.val (.int .i64)) (.cons (.val (.int .i64)) (.cons (.val .bool) .nil))))))) .nil)
def disk_Disk_Free.C (N : Nat) : Ctx := ⟨U, 12, fun _ => true, gam [], gamY []⟩
theorem disk_Disk_Free.cok (N : Nat) : (disk_Disk_Free.C N).Ok Try.prog := ⟨U_ok, GamOk.nil, GamYOk.nil⟩
def disk_Disk_Free.code : Code := Try.f19.body.getD .skip
def disk_Disk_Free.outs : Sh := (.cons (.val (.int .i64)) .nil)
def disk_Disk_Free.run (N : Nat) (room_ : Int) (used : Int) (files : (List ((List UInt8) × ((List UInt8) × Int)))) (steps : Int) (left : Int) (dead : Bool) : Option (Int × Unit) :=
  some (IntKind.i64.wrap (room_ - used), ())
def disk_Disk_Free.fn (N : Nat) (x : Sh.den disk_Disk_Free.ins) : Option (Sh.den disk_Disk_Free.outs) := disk_Disk_Free.run N x.1.1 x.1.2.1 x.1.2.2.1 x.1.2.2.2.1 x.1.2.2.2.2.1 x.1.2.2.2.2.2.1
def disk_Disk_Free.S (N : Nat) : Fs := ⟨disk_Disk_Free.ins, disk_Disk_Free.outs, disk_Disk_Free.fn N⟩
def disk_Disk_Free.lam (N : Nat) : Pcs := pcs []
theorem disk_Disk_Free.pok (N : Nat) : (disk_Disk_Free.lam N).Ok Try.prog (disk_Disk_Free.C N) disk_Disk_Free.code := pcsOk_nil
theorem disk_Disk_Free.ev (N : Nat) (x : Sh.den disk_Disk_Free.ins) : evC (disk_Disk_Free.C N) disk_Disk_Free.code (disk_Disk_Free.lam N) ⟨envOf 0 (bld (fun k => k) disk_Disk_Free.ins x 0).1, (bld (fun k => k) disk_Disk_Free.ins x 0).2.1, 1000⟩ (endF U disk_Disk_Free.outs Try.f19.results.toList []) = disk_Disk_Free.fn N x := by kernel_rfl
theorem disk_Disk_Free.ok (N : Nat) : (disk_Disk_Free.S N).con.Ok Try.prog 19 := fn_ok (F := disk_Disk_Free.S N) (n0 := 1000) Try.func19 (by kernel_rfl) (show Try.f19.body = some disk_Disk_Free.code by rfl) mix (disk_Disk_Free.cok N) (fun _ => rfl) (fun _ => rfl) (disk_Disk_Free.pok N) (fun x y h => (disk_Disk_Free.ev N x).trans h)
/-- slices.Grow[[]byte,byte] -/
def slices_Grow_byte_byte.ins : Sh := (.cons (.nils) (.cons (.val (.int .i64)) .nil))
def slices_Grow_byte_byte.C (N : Nat) : Ctx := ⟨U, 27, fun _ => true, gam [], gamY []⟩
theorem slices_Grow_byte_byte.cok (N : Nat) : (slices_Grow_byte_byte.C N).Ok Try.prog := ⟨U_ok, GamOk.nil, GamYOk.nil⟩
def slices_Grow_byte_byte.code : Code := Try.f55.body.getD .skip
def slices_Grow_byte_byte.outs : Sh := (.cons (.own 5 .byte) .nil)
def slices_Grow_byte_byte.run (N : Nat) (n_ : Int) : Option ((List UInt8) × Unit) :=
  bif decide (n_ < (0 : Int)) then
    none
  else
    bif decide ((IntKind.i64.wrap (n_ - (0 : Int))) > (0 : Int)) then
      bif (decide ((0 : Int) ≤ (IntKind.i64.wrap (n_ - (0 : Int))))) && (room (IntKind.i64.wrap (n_ - (0 : Int))).toNat 1) then
        bif okB (0 : Int) (0 : Int) (List.replicate (IntKind.i64.wrap (n_ - (0 : Int))).toNat (0 : UInt8)).length then
          some ((List.replicate (IntKind.i64.wrap (n_ - (0 : Int))).toNat (0 : UInt8)).take 0, ())
        else none
      else none
    else some (([] : List UInt8), ())
def slices_Grow_byte_byte.fn (N : Nat) (x : Sh.den slices_Grow_byte_byte.ins) : Option (Sh.den slices_Grow_byte_byte.outs) := slices_Grow_byte_byte.run N x.2.1
def slices_Grow_byte_byte.S (N : Nat) : Fs := ⟨slices_Grow_byte_byte.ins, slices_Grow_byte_byte.outs, slices_Grow_byte_byte.fn N⟩
def slices_Grow_byte_byte.lam (N : Nat) : Pcs := pcs []
theorem slices_Grow_byte_byte.pok (N : Nat) : (slices_Grow_byte_byte.lam N).Ok Try.prog (slices_Grow_byte_byte.C N) slices_Grow_byte_byte.code := pcsOk_nil
theorem slices_Grow_byte_byte.ev (N : Nat) (x : Sh.den slices_Grow_byte_byte.ins) : evC (slices_Grow_byte_byte.C N) slices_Grow_byte_byte.code (slices_Grow_byte_byte.lam N) ⟨envOf 0 (bld (fun k => k) slices_Grow_byte_byte.ins x 0).1, (bld (fun k => k) slices_Grow_byte_byte.ins x 0).2.1, 1000⟩ (endF U slices_Grow_byte_byte.outs Try.f55.results.toList [4]) = slices_Grow_byte_byte.fn N x := by kernel_rfl
theorem slices_Grow_byte_byte.ok (N : Nat) : (slices_Grow_byte_byte.S N).con.Ok Try.prog 55 := fn_ok (F := slices_Grow_byte_byte.S N) (n0 := 1000) Try.func55 (by kernel_rfl) (show Try.f55.body = some slices_Grow_byte_byte.code by rfl) mix (slices_Grow_byte_byte.cok N) (fun _ => rfl) (fun _ => rfl) (slices_Grow_byte_byte.pok N) (fun x y h => (slices_Grow_byte_byte.ev N x).trans h)
/-- slices.Concat[[]byte,byte] -/
def slices_Concat_byte_byte.ins : Sh := (.cons (.rown 22 (.slice .byte)) .nil)
def slices_Concat_byte_byte.C (N : Nat) : Ctx := ⟨U, 36, fun _ => true, gam [(55, (slices_Grow_byte_byte.S N).con)], gamY []⟩
theorem slices_Concat_byte_byte.cok (N : Nat) : (slices_Concat_byte_byte.C N).Ok Try.prog := ⟨U_ok, GamOk.cons (slices_Grow_byte_byte.ok N) (GamOk.nil), GamYOk.nil⟩
def slices_Concat_byte_byte.code : Code := Try.f33.body.getD .skip
def slices_Concat_byte_byte_0.ins : Sh := (.cons (.val (.int .i64)) (.cons (.rown 22 (.slice .byte)) (.cons (.val (.int .i64)) (.cons (.val (.int .i64)) .nil))))
def slices_Concat_byte_byte_0.ts : List Tmp := [3, 9, 10, 11]
def slices_Concat_byte_byte_0.asg : List Tmp := [3, 5, 11, 12, 13, 14, 15, 16, 17, 18, 19, 20, 21, 22]
def slices_Concat_byte_byte_0.C (N : Nat) : Ctx := { slices_Concat_byte_byte.C N with may := fun t => slices_Concat_byte_byte_0.asg.any (Nat.beq t) }
def slices_Concat_byte_byte_0.code : Code := loopBody (sub slices_Concat_byte_byte.code [true, true, false, true, false])
theorem slices_Concat_byte_byte_0.cok (N : Nat) : (slices_Concat_byte_byte_0.C N).Ok Try.prog := ⟨(slices_Concat_byte_byte.cok N).U, (slices_Concat_byte_byte.cok N).Γ, (slices_Concat_byte_byte.cok N).Y⟩
def slices_Concat_byte_byte_0.alts : List Alt := [⟨(.exit 0), [3], (.cons (.val (.int .i64)) .nil)⟩]
def slices_Concat_byte_byte_0.go (N : Nat) : Nat → Int → (List (List UInt8)) → Int → Int → Option ((Int × Unit))
  | 0, _, _, _, _ => none
  | fuel + 1, size, t9, t10, t11 =>
    bif decide (t11 < t10) then
      bif inB t11 t9.length then
        bif decide (t11.toNat < t9.length) then
          bif decide ((IntKind.i64.wrap (size + ((t9.getD t11.toNat ([] : List UInt8)).length : Int))) < (0 : Int)) then
            none
          else slices_Concat_byte_byte_0.go N fuel (IntKind.i64.wrap (size + ((t9.getD t11.toNat ([] : List UInt8)).length : Int))) t9 t10 (IntKind.i64.wrap (t11 + (1 : Int)))
        else none
      else none
    else some (size, ())
def slices_Concat_byte_byte_0.g (N n : Nat) (x : Sh.den slices_Concat_byte_byte_0.ins) : Option (altsDen slices_Concat_byte_byte_0.alts) := slices_Concat_byte_byte_0.go N n x.1 x.2.1 x.2.2.1 x.2.2.2.1
def slices_Concat_byte_byte_0.P (N : Nat) : Ps := ⟨slices_Concat_byte_byte_0.ts, slices_Concat_byte_byte_0.ins, slices_Concat_byte_byte_0.asg, slices_Concat_byte_byte_0.alts, slices_Concat_byte_byte_0.g N N⟩
def slices_Concat_byte_byte_0.lam (N : Nat) : Pcs := pcs []
theorem slices_Concat_byte_byte_0.pok (N : Nat) : (slices_Concat_byte_byte_0.lam N).Ok Try.prog (slices_Concat_byte_byte_0.C N) slices_Concat_byte_byte_0.code := pcsOk_nil
theorem slices_Concat_byte_byte_0.ev (N n : Nat) (x : Sh.den slices_Concat_byte_byte_0.ins) : evC (slices_Concat_byte_byte_0.C N) slices_Concat_byte_byte_0.code (slices_Concat_byte_byte_0.lam N) ((slices_Concat_byte_byte_0.P N).canon 1000 x) (loopK (slices_Concat_byte_byte_0.P N) (slices_Concat_byte_byte_0.g N n)) = slices_Concat_byte_byte_0.g N (n + 1) x := by kernel_rfl
theorem slices_Concat_byte_byte_0.ok (N : Nat) : ((slices_Concat_byte_byte_0.P N).pc (slices_Concat_byte_byte.C N)).Ok Try.prog (slices_Concat_byte_byte.C N) (.loop slices_Concat_byte_byte_0.code) := loop_ok (F := slices_Concat_byte_byte_0.P N) (n0 := 1000) (N := N) (slices_Concat_byte_byte.cok N) mix (slices_Concat_byte_byte_0.pok N) (slices_Concat_byte_byte_0.g N) (fun x => by rfl) rfl (fun n x y h => (slices_Concat_byte_byte_0.ev N n x).trans h)
def slices_Concat_byte_byte_1.ins : Sh := (.cons (.own 5 .byte) (.cons (.rown 22 (.slice .byte)) (.cons (.val (.int .i64)) (.cons (.val (.int .i64)) .nil))))
def slices_Concat_byte_byte_1.ts : List Tmp := [6, 25, 26, 27]
def slices_Concat_byte_byte_1.asg : List Tmp := [6, 8, 27, 28, 29, 30, 31, 32, 33, 34]
def slices_Concat_byte_byte_1.C (N : Nat) : Ctx := { slices_Concat_byte_byte.C N with may := fun t => slices_Concat_byte_byte_1.asg.any (Nat.beq t) }
def slices_Concat_byte_byte_1.code : Code := loopBody (sub slices_Concat_byte_byte.code [true, true, true, true, false, true, false])
theorem slices_Concat_byte_byte_1.cok (N : Nat) : (slices_Concat_byte_byte_1.C N).Ok Try.prog := ⟨(slices_Concat_byte_byte.cok N).U, (slices_Concat_byte_byte.cok N).Γ, (slices_Concat_byte_byte.cok N).Y⟩
def slices_Concat_byte_byte_1.alts : List Alt := [⟨(.exit 2), [6], (.cons (.own 5 .byte) .nil)⟩]
def slices_Concat_byte_byte_1.go (N : Nat) : Nat → (List UInt8) → (List (List UInt8)) → Int → Int → Option (((List UInt8) × Unit))
  | 0, _, _, _, _ => none
  | fuel + 1, newslice, t25, t26, t27 =>
    bif decide (t27 < t26) then
      bif inB t27 t25.length then
        bif decide (t27.toNat < t25.length) then
          bif room (newslice.length + (t25.getD t27.toNat ([] : List UInt8)).length) 1 then
            slices_Concat_byte_byte_1.go N fuel (newslice ++ (t25.getD t27.toNat ([] : List UInt8))) t25 t26 (IntKind.i64.wrap (t27 + (1 : Int)))
          else none
        else none
      else none
    else some (newslice, ())
def slices_Concat_byte_byte_1.g (N n : Nat) (x : Sh.den slices_Concat_byte_byte_1.ins) : Option (altsDen slices_Concat_byte_byte_1.alts) := slices_Concat_byte_byte_1.go N n x.1 x.2.1 x.2.2.1 x.2.2.2.1
def slices_Concat_byte_byte_1.P (N : Nat) : Ps := ⟨slices_Concat_byte_byte_1.ts, slices_Concat_byte_byte_1.ins, slices_Concat_byte_byte_1.asg, slices_Concat_byte_byte_1.alts, slices_Concat_byte_byte_1.g N N⟩
def slices_Concat_byte_byte_1.lam (N : Nat) : Pcs := pcs []
theorem slices_Concat_byte_byte_1.pok (N : Nat) : (slices_Concat_byte_byte_1.lam N).Ok Try.prog (slices_Concat_byte_byte_1.C N) slices_Concat_byte_byte_1.code := pcsOk_nil
theorem slices_Concat_byte_byte_1.ev (N n : Nat) (x : Sh.den slices_Concat_byte_byte_1.ins) : evC (slices_Concat_byte_byte_1.C N) slices_Concat_byte_byte_1.code (slices_Concat_byte_byte_1.lam N) ((slices_Concat_byte_byte_1.P N).canon 1000 x) (loopK (slices_Concat_byte_byte_1.P N) (slices_Concat_byte_byte_1.g N n)) = slices_Concat_byte_byte_1.g N (n + 1) x := by kernel_rfl
theorem slices_Concat_byte_byte_1.ok (N : Nat) : ((slices_Concat_byte_byte_1.P N).pc (slices_Concat_byte_byte.C N)).Ok Try.prog (slices_Concat_byte_byte.C N) (.loop slices_Concat_byte_byte_1.code) := loop_ok (F := slices_Concat_byte_byte_1.P N) (n0 := 1000) (N := N) (slices_Concat_byte_byte.cok N) mix (slices_Concat_byte_byte_1.pok N) (slices_Concat_byte_byte_1.g N) (fun x => by rfl) rfl (fun n x y h => (slices_Concat_byte_byte_1.ev N n x).trans h)
def slices_Concat_byte_byte.outs : Sh := (.cons (.own 5 .byte) .nil)
def slices_Concat_byte_byte.run (N : Nat) (slices : (List (List UInt8))) : Option ((List UInt8) × Unit) :=
  obind (slices_Concat_byte_byte_0.go N N (0 : Int) slices (slices.length : Int) (0 : Int)) fun (size, _) =>
    obind (slices_Grow_byte_byte.run N size) fun (l, _) =>
      obind (slices_Concat_byte_byte_1.go N N l slices (slices.length : Int) (0 : Int)) fun (newslice, _) =>
        some (newslice, ())
def slices_Concat_byte_byte.fn (N : Nat) (x : Sh.den slices_Concat_byte_byte.ins) : Option (Sh.den slices_Concat_byte_byte.outs) := slices_Concat_byte_byte.run N x.1
def slices_Concat_byte_byte.S (N : Nat) : Fs := ⟨slices_Concat_byte_byte.ins, slices_Concat_byte_byte.outs, slices_Concat_byte_byte.fn N⟩
def slices_Concat_byte_byte.lam (N : Nat) : Pcs := pcs [([true, true, false, true, false], (slices_Concat_byte_byte_0.P N).pc (slices_Concat_byte_byte.C N)), ([true, true, true, true, false, true, false], (slices_Concat_byte_byte_1.P N).pc (slices_Concat_byte_byte.C N))]
theorem slices_Concat_byte_byte.pok (N : Nat) : (slices_Concat_byte_byte.lam N).Ok Try.prog (slices_Concat_byte_byte.C N) slices_Concat_byte_byte.code := pcsOk_cons (c1 := .loop slices_Concat_byte_byte_0.code) (by kernel_rfl) (slices_Concat_byte_byte_0.ok N) (pcsOk_cons (c1 := .loop slices_Concat_byte_byte_1.code) (by kernel_rfl) (slices_Concat_byte_byte_1.ok N) (pcsOk_nil))
theorem slices_Concat_byte_byte.ev (N : Nat) (x : Sh.den slices_Concat_byte_byte.ins) : evC (slices_Concat_byte_byte.C N) slices_Concat_byte_byte.code (slices_Concat_byte_byte.lam N) ⟨envOf 0 (bld (fun k => k) slices_Concat_byte_byte.ins x 0).1, (bld (fun k => k) slices_Concat_byte_byte.ins x 0).2.1, 1000⟩ (endF U slices_Concat_byte_byte.outs Try.f33.results.toList []) = slices_Concat_byte_byte.fn N x := by kernel_rfl
theorem slices_Concat_byte_byte.ok (N : Nat) : (slices_Concat_byte_byte.S N).con.Ok Try.prog 33 := fn_ok (F := slices_Concat_byte_byte.S N) (n0 := 1000) Try.func33 (by kernel_rfl) (show Try.f33.body = some slices_Concat_byte_byte.code by rfl) mix (slices_Concat_byte_byte.cok N) (fun _ => rfl) (fun _ => rfl) (slices_Concat_byte_byte.pok N) (fun x y h => (slices_Concat_byte_byte.ev N x).trans h)
/-- (*hayloft/disk.Disk).lay -/
def disk_Disk_lay.ins : Sh := (.cons (.box 67 (.cons (.val (.int .i64)) (.cons (.val (.int .i64)) (.cons (.own 3000000 (.pair .str (.pair (.slice .byte) (.int .i64)))) (.cons (.val (.int .i64)) (.cons (.val (.int .i64)) (.cons (.val .bool) .nil))))))) (.cons (.val .str) (.cons (.val (.pair (.slice .byte) (.int .i64))) .nil)))
def disk_Disk_lay.C (N : Nat) : Ctx := ⟨U, 31, fun _ => true, gam [], gamY []⟩
theorem disk_Disk_lay.cok (N : Nat) : (disk_Disk_lay.C N).Ok Try.prog := ⟨U_ok, GamOk.nil, GamYOk.nil⟩
def disk_Disk_lay.code : Code := Try.f34.body.getD .skip
def disk_Disk_lay.outs : Sh := (.cons (.upd 0 67 (.cons (.val (.int .i64)) (.cons (.val (.int .i64)) (.cons (.own 3000000 (.pair .str (.pair (.slice .byte) (.int .i64)))) (.cons (.val (.int .i64)) (.cons (.val (.int .i64)) (.cons (.val .bool) .nil))))))) .nil)
def disk_Disk_lay.run (N : Nat) (room_ : Int) (used : Int) (files : (List ((List UInt8) × ((List UInt8) × Int)))) (steps : Int) (left : Int) (dead : Bool) (name : (List UInt8)) (f : ((List UInt8) × Int)) : Option ((Int × Int × (List ((List UInt8) × ((List UInt8) × Int))) × Int × Int × Bool × Unit) × Unit) :=
  some ((room_, IntKind.i64.wrap (used + (IntKind.i64.wrap ((f.1.length : Int) - ((mapGet files name (([] : List UInt8), (0 : Int))).1.length : Int)))), mapPut files name f, steps, left, dead, ()), ())
def disk_Disk_lay.fn (N : Nat) (x : Sh.den disk_Disk_lay.ins) : Option (Sh.den disk_Disk_lay.outs) := disk_Disk_lay.run N x.1.1 x.1.2.1 x.1.2.2.1 x.1.2.2.2.1 x.1.2.2.2.2.1 x.1.2.2.2.2.2.1 x.2.1 x.2.2.1
def disk_Disk_lay.S (N : Nat) : Fs := ⟨disk_Disk_lay.ins, disk_Disk_lay.outs, disk_Disk_lay.fn N⟩
def disk_Disk_lay.lam (N : Nat) : Pcs := pcs []
theorem disk_Disk_lay.pok (N : Nat) : (disk_Disk_lay.lam N).Ok Try.prog (disk_Disk_lay.C N) disk_Disk_lay.code := pcsOk_nil
theorem disk_Disk_lay.ev (N : Nat) (x : Sh.den disk_Disk_lay.ins) : evC (disk_Disk_lay.C N) disk_Disk_lay.code (disk_Disk_lay.lam N) ⟨envOf 0 (bld (fun k => k) disk_Disk_lay.ins x 0).1, (bld (fun k => k) disk_Disk_lay.ins x 0).2.1, 1000⟩ (endF U disk_Disk_lay.outs Try.f34.results.toList []) = disk_Disk_lay.fn N x := by kernel_rfl
theorem disk_Disk_lay.ok (N : Nat) : (disk_Disk_lay.S N).con.Ok Try.prog 34 := fn_ok (F := disk_Disk_lay.S N) (n0 := 1000) Try.func34 (by kernel_rfl) (show Try.f34.body = some disk_Disk_lay.code by rfl) mix (disk_Disk_lay.cok N) (fun _ => rfl) (fun _ => rfl) (disk_Disk_lay.pok N) (fun x y h => (disk_Disk_lay.ev N x).trans h)
/-- (*hayloft/disk.Disk).step -/
def disk_Disk_step.ins : Sh := (.cons (.box 67 (.cons (.val (.int .i64)) (.cons (.val (.int .i64)) (.cons (.own 3000000 (.pair .str (.pair (.slice .byte) (.int .i64)))) (.cons (.val (.int .i64)) (.cons (.val (.int .i64)) (.cons (.val .bool) .nil))))))) .nil)
def disk_Disk_step.C (N : Nat) : Ctx := ⟨U, 28, fun _ => true, gam [], gamY []⟩
theorem disk_Disk_step.cok (N : Nat) : (disk_Disk_step.C N).Ok Try.prog := ⟨U_ok, GamOk.nil, GamYOk.nil⟩
def disk_Disk_step.code : Code := Try.f35.body.getD .skip
def disk_Disk_step.outs : Sh := (.cons (.upd 0 67 (.cons (.val (.int .i64)) (.cons (.val (.int .i64)) (.cons (.own 3000000 (.pair .str (.pair (.slice .byte) (.int .i64)))) (.cons (.val (.int .i64)) (.cons (.val (.int .i64)) (.cons (.val .bool) .nil))))))) (.cons (.val .bool) .nil))
def disk_Disk_step.run (N : Nat) (room_ : Int) (used : Int) (files : (List ((List UInt8) × ((List UInt8) × Int)))) (steps : Int) (left : Int) (dead : Bool) : Option ((Int × Int × (List ((List UInt8) × ((List UInt8) × Int))) × Int × Int × Bool × Unit) × Bool × Unit) :=
  bif decide (left = (-1 : Int)) then
    some ((room_, used, files, IntKind.i64.wrap (steps + (1 : Int)), left, dead, ()), false, ())
  else
    bif decide (left = (0 : Int)) then
      some ((room_, used, files, IntKind.i64.wrap (steps + (1 : Int)), left, true, ()), true, ())
    else some ((room_, used, files, IntKind.i64.wrap (steps + (1 : Int)), IntKind.i64.wrap (left - (1 : Int)), dead, ()), false, ())
def disk_Disk_step.fn (N : Nat) (x : Sh.den disk_Disk_step.ins) : Option (Sh.den disk_Disk_step.outs) := disk_Disk_step.run N x.1.1 x.1.2.1 x.1.2.2.1 x.1.2.2.2.1 x.1.2.2.2.2.1 x.1.2.2.2.2.2.1
def disk_Disk_step.S (N : Nat) : Fs := ⟨disk_Disk_step.ins, disk_Disk_step.outs, disk_Disk_step.fn N⟩
def disk_Disk_step.lam (N : Nat) : Pcs := pcs []
theorem disk_Disk_step.pok (N : Nat) : (disk_Disk_step.lam N).Ok Try.prog (disk_Disk_step.C N) disk_Disk_step.code := pcsOk_nil
theorem disk_Disk_step.ev (N : Nat) (x : Sh.den disk_Disk_step.ins) : evC (disk_Disk_step.C N) disk_Disk_step.code (disk_Disk_step.lam N) ⟨envOf 0 (bld (fun k => k) disk_Disk_step.ins x 0).1, (bld (fun k => k) disk_Disk_step.ins x 0).2.1, 1000⟩ (endF U disk_Disk_step.outs Try.f35.results.toList []) = disk_Disk_step.fn N x := by kernel_rfl
theorem disk_Disk_step.ok (N : Nat) : (disk_Disk_step.S N).con.Ok Try.prog 35 := fn_ok (F := disk_Disk_step.S N) (n0 := 1000) Try.func35 (by kernel_rfl) (show Try.f35.body = some disk_Disk_step.code by rfl) mix (disk_Disk_step.cok N) (fun _ => rfl) (fun _ => rfl) (disk_Disk_step.pok N) (fun x y h => (disk_Disk_step.ev N x).trans h)
/-- (*hayloft/disk.Disk).Append -/
def disk_Disk_Append.ins : Sh := (.cons (.box 67 (.cons (.val (.int .i64)) (.cons (.val (.int .i64)) (.cons (.own 3000000 (.pair .str (.pair (.slice .byte) (.int .i64)))) (.cons (.val (.int .i64)) (.cons (.val (.int .i64)) (.cons (.val .bool) .nil))))))) (.cons (.val .str) (.cons (.val (.slice .byte)) .nil)))
def disk_Disk_Append.C (N : Nat) : Ctx := ⟨U, 41, fun _ => true, gam [(32, (disk_named.S N).con), (19, (disk_Disk_Free.S N).con), (33, (slices_Concat_byte_byte.S N).con), (34, (disk_Disk_lay.S N).con), (35, (disk_Disk_step.S N).con)], gamY []⟩
theorem disk_Disk_Append.cok (N : Nat) : (disk_Disk_Append.C N).Ok Try.prog := ⟨U_ok, GamOk.cons (disk_named.ok N) (GamOk.cons (disk_Disk_Free.ok N) (GamOk.cons (slices_Concat_byte_byte.ok N) (GamOk.cons (disk_Disk_lay.ok N) (GamOk.cons (disk_Disk_step.ok N) (GamOk.nil))))), GamYOk.nil⟩
def disk_Disk_Append.code : Code := Try.f12.body.getD .skip
def disk_Disk_Append.outs : Sh := (.cons (.upd 0 67 (.cons (.val (.int .i64)) (.cons (.val (.int .i64)) (.cons (.own 3000000 (.pair .str (.pair (.slice .byte) (.int .i64)))) (.cons (.val (.int .i64)) (.cons (.val (.int .i64)) (.cons (.val .bool) .nil))))))) (.cons (.val (.int .i64)) .nil))
def disk_Disk_Append.run (N : Nat) (room_ : Int) (used : Int) (files : (List ((List UInt8) × ((List UInt8) × Int)))) (steps : Int) (left : Int) (dead : Bool) (name : (List UInt8)) (b : (List UInt8)) : Option ((Int × Int × (List ((List UInt8) × ((List UInt8) × Int))) × Int × Int × Bool × Unit) × Int × Unit) :=
  bif dead then
    some ((room_, used, files, steps, left, dead, ()), (44 : Int), ())
  else
    obind (disk_named.run N name) fun (b1, _) =>
      bif !b1 then
        some ((room_, used, files, steps, left, dead, ()), (40 : Int), ())
      else
        obind (disk_Disk_Free.run N room_ used files steps left dead) fun (n_, _) =>
          bif decide ((b.length : Int) > n_) then
            some ((room_, used, files, steps, left, dead, ()), (41 : Int), ())
          else
            obind (slices_Concat_byte_byte.run N ([(mapGet files name (([] : List UInt8), (0 : Int))).1, b] : List (List UInt8))) fun (l, _) =>
              obind (disk_Disk_lay.run N room_ used files steps left dead name (l, (mapGet files name (([] : List UInt8), (0 : Int))).2)) fun ((room1, used1, files1, steps1, left1, dead1, _), _) =>
                obind (disk_Disk_step.run N room1 used1 files1 steps1 left1 dead1) fun ((room2, used2, files2, steps2, left2, dead2, _), b2, _) =>
                  bif b2 then
                    some ((room2, used2, files2, steps2, left2, dead2, ()), (44 : Int), ())
                  else some ((room2, used2, files2, steps2, left2, dead2, ()), (0 : Int), ())
def disk_Disk_Append.fn (N : Nat) (x : Sh.den disk_Disk_Append.ins) : Option (Sh.den disk_Disk_Append.outs) := disk_Disk_Append.run N x.1.1 x.1.2.1 x.1.2.2.1 x.1.2.2.2.1 x.1.2.2.2.2.1 x.1.2.2.2.2.2.1 x.2.1 x.2.2.1
def disk_Disk_Append.S (N : Nat) : Fs := ⟨disk_Disk_Append.ins, disk_Disk_Append.outs, disk_Disk_Append.fn N⟩
def disk_Disk_Append.lam (N : Nat) : Pcs := pcs []
theorem disk_Disk_Append.pok (N : Nat) : (disk_Disk_Append.lam N).Ok Try.prog (disk_Disk_Append.C N) disk_Disk_Append.code := pcsOk_nil
theorem disk_Disk_Append.ev (N : Nat) (x : Sh.den disk_Disk_Append.ins) : evC (disk_Disk_Append.C N) disk_Disk_Append.code (disk_Disk_Append.lam N) ⟨envOf 0 (bld (fun k => k) disk_Disk_Append.ins x 0).1, (bld (fun k => k) disk_Disk_Append.ins x 0).2.1, 1000⟩ (endF U disk_Disk_Append.outs Try.f12.results.toList []) = disk_Disk_Append.fn N x := by kernel_rfl
theorem disk_Disk_Append.ok (N : Nat) : (disk_Disk_Append.S N).con.Ok Try.prog 12 := fn_ok (F := disk_Disk_Append.S N) (n0 := 1000) Try.func12 (by kernel_rfl) (show Try.f12.body = some disk_Disk_Append.code by rfl) mix (disk_Disk_Append.cok N) (fun _ => rfl) (fun _ => rfl) (disk_Disk_Append.pok N) (fun x y h => (disk_Disk_Append.ev N x).trans h)
/-- hayloft/disk.fine -/
def disk_fine.ins : Sh := (.cons (.val (.pair (.slice .byte) (.int .i64))) .nil)
def disk_fine.C (N : Nat) : Ctx := ⟨U, 3, fun _ => true, gam [], gamY []⟩
theorem disk_fine.cok (N : Nat) : (disk_fine.C N).Ok Try.prog := ⟨U_ok, GamOk.nil, GamYOk.nil⟩
def disk_fine.code : Code := Try.f47.body.getD .skip
def disk_fine.outs : Sh := (.cons (.val (.int .i64)) .nil)
def disk_fine.run (N : Nat) (f : ((List UInt8) × Int)) : Option (Int × Unit) :=
  some ((0 : Int), ())
def disk_fine.fn (N : Nat) (x : Sh.den disk_fine.ins) : Option (Sh.den disk_fine.outs) := disk_fine.run N x.1
def disk_fine.S (N : Nat) : Fs := ⟨disk_fine.ins, disk_fine.outs, disk_fine.fn N⟩
def disk_fine.lam (N : Nat) : Pcs := pcs []
theorem disk_fine.pok (N : Nat) : (disk_fine.lam N).Ok Try.prog (disk_fine.C N) disk_fine.code := pcsOk_nil
theorem disk_fine.ev (N : Nat) (x : Sh.den disk_fine.ins) : evC (disk_fine.C N) disk_fine.code (disk_fine.lam N) ⟨envOf 0 (bld (fun k => k) disk_fine.ins x 0).1, (bld (fun k => k) disk_fine.ins x 0).2.1, 1000⟩ (endF U disk_fine.outs Try.f47.results.toList []) = disk_fine.fn N x := by kernel_rfl
theorem disk_fine.ok (N : Nat) : (disk_fine.S N).con.Ok Try.prog 47 := fn_ok (F := disk_fine.S N) (n0 := 1000) Try.func47 (by kernel_rfl) (show Try.f47.body = some disk_fine.code by rfl) mix (disk_fine.cok N) (fun _ => rfl) (fun _ => rfl) (disk_fine.pok N) (fun x y h => (disk_fine.ev N x).trans h)
/-- (*hayloft/disk.Disk).Sync$1 -/
def disk_Disk_Sync_f1.ins : Sh := (.cons (.val (.pair (.slice .byte) (.int .i64))) (.cons (.rbox 23 (.cons (.box 67 (.cons (.val (.int .i64)) (.cons (.val (.int .i64)) (.cons (.own 3000000 (.pair .str (.pair (.slice .byte) (.int .i64)))) (.cons (.val (.int .i64)) (.cons (.val (.int .i64)) (.cons (.val .bool) .nil))))))) .nil)) (.cons (.rbox 9 (.cons (.val .str) .nil)) .nil)))
def disk_Disk_Sync_f1.C (N : Nat) : Ctx := ⟨U, 13, fun _ => true, gam [(34, (disk_Disk_lay.S N).con)], gamY []⟩
theorem disk_Disk_Sync_f1.cok (N : Nat) : (disk_Disk_Sync_f1.C N).Ok Try.prog := ⟨U_ok, GamOk.cons (disk_Disk_lay.ok N) (GamOk.nil), GamYOk.nil⟩
def disk_Disk_Sync_f1.code : Code := Try.f54.body.getD .skip
def disk_Disk_Sync_f1.outs : Sh := (.cons (.upd 1 67 (.cons (.val (.int .i64)) (.cons (.val (.int .i64)) (.cons (.own 3000000 (.pair .str (.pair (.slice .byte) (.int .i64)))) (.cons (.val (.int .i64)) (.cons (.val (.int .i64)) (.cons (.val .bool) .nil))))))) .nil)
def disk_Disk_Sync_f1.run (N : Nat) (f : ((List UInt8) × Int)) (room_ : Int) (used : Int) (files : (List ((List UInt8) × ((List UInt8) × Int)))) (steps : Int) (left : Int) (dead : Bool) (t2 : (List UInt8)) : Option ((Int × Int × (List ((List UInt8) × ((List UInt8) × Int))) × Int × Int × Bool × Unit) × Unit) :=
  obind (disk_Disk_lay.run N room_ used files steps left dead t2 (f.1, (f.1.length : Int))) fun ((room1, used1, files1, steps1, left1, dead1, _), _) =>
    some ((room1, used1, files1, steps1, left1, dead1, ()), ())
def disk_Disk_Sync_f1.fn (N : Nat) (x : Sh.den disk_Disk_Sync_f1.ins) : Option (Sh.den disk_Disk_Sync_f1.outs) := disk_Disk_Sync_f1.run N x.1 x.2.1.1.1 x.2.1.1.2.1 x.2.1.1.2.2.1 x.2.1.1.2.2.2.1 x.2.1.1.2.2.2.2.1 x.2.1.1.2.2.2.2.2.1 x.2.2.1.1
def disk_Disk_Sync_f1.S (N : Nat) : Fs := ⟨disk_Disk_Sync_f1.ins, disk_Disk_Sync_f1.outs, disk_Disk_Sync_f1.fn N⟩
def disk_Disk_Sync_f1.lam (N : Nat) : Pcs := pcs []
theorem disk_Disk_Sync_f1.pok (N : Nat) : (disk_Disk_Sync_f1.lam N).Ok Try.prog (disk_Disk_Sync_f1.C N) disk_Disk_Sync_f1.code := pcsOk_nil
theorem disk_Disk_Sync_f1.ev (N : Nat) (x : Sh.den disk_Disk_Sync_f1.ins) : evC (disk_Disk_Sync_f1.C N) disk_Disk_Sync_f1.code (disk_Disk_Sync_f1.lam N) ⟨envOf 0 (bld (fun k => k) disk_Disk_Sync_f1.ins x 0).1, (bld (fun k => k) disk_Disk_Sync_f1.ins x 0).2.1, 1000⟩ (endF U disk_Disk_Sync_f1.outs Try.f54.results.toList []) = disk_Disk_Sync_f1.fn N x := by kernel_rfl
theorem disk_Disk_Sync_f1.ok (N : Nat) : (disk_Disk_Sync_f1.S N).con.Ok Try.prog 54 := fn_ok (F := disk_Disk_Sync_f1.S N) (n0 := 1000) Try.func54 (by kernel_rfl) (show Try.f54.body = some disk_Disk_Sync_f1.code by rfl) mix (disk_Disk_Sync_f1.cok N) (fun _ => rfl) (fun _ => rfl) (disk_Disk_Sync_f1.pok N) (fun x y h => (disk_Disk_Sync_f1.ev N x).trans h)
/-- (*hayloft/disk.Disk).do -/
def disk_Disk_do.ins : Sh := (.cons (.box 67 (.cons (.val (.int .i64)) (.cons (.val (.int .i64)) (.cons (.own 3000000 (.pair .str (.pair (.slice .byte) (.int .i64)))) (.cons (.val (.int .i64)) (.cons (.val (.int .i64)) (.cons (.val .bool) .nil))))))) (.cons (.val .str) (.cons (.fn 47 .nil) (.cons (.fn 54 (.cons (.rbox 23 (.cons (.ref 0) .nil)) (.cons (.rbox 9 (.cons (.val .str) .nil)) .nil))) .nil))))
def disk_Disk_do.C (N : Nat) : Ctx := ⟨U, 40, fun _ => true, gam [(47, (disk_fine.S N).con), (35, (disk_Disk_step.S N).con), (54, (disk_Disk_Sync_f1.S N).con)], gamY []⟩
theorem disk_Disk_do.cok (N : Nat) : (disk_Disk_do.C N).Ok Try.prog := ⟨U_ok, GamOk.cons (disk_fine.ok N) (GamOk.cons (disk_Disk_step.ok N) (GamOk.cons (disk_Disk_Sync_f1.ok N) (GamOk.nil))), GamYOk.nil⟩
def disk_Disk_do.code : Code := Try.f46.body.getD .skip
def disk_Disk_do.outs : Sh := (.cons (.upd 0 67 (.cons (.val (.int .i64)) (.cons (.val (.int .i64)) (.cons (.own 3000000 (.pair .str (.pair (.slice .byte) (.int .i64)))) (.cons (.val (.int .i64)) (.cons (.val (.int .i64)) (.cons (.val .bool) .nil))))))) (.cons (.val (.int .i64)) .nil))
def disk_Disk_do.run (N : Nat) (room_ : Int) (used : Int) (files : (List ((List UInt8) × ((List UInt8) × Int)))) (steps : Int) (left : Int) (dead : Bool) (name : (List UInt8)) (done : (List UInt8)) : Option ((Int × Int × (List ((List UInt8) × ((List UInt8) × Int))) × Int × Int × Bool × Unit) × Int × Unit) :=
  bif dead then
    some ((room_, used, files, steps, left, dead, ()), (44 : Int), ())
  else
    bif !(mapHas files name) then
      some ((room_, used, files, steps, left, dead, ()), (42 : Int), ())
    else
      obind (disk_fine.run N (mapGet files name (([] : List UInt8), (0 : Int)))) fun (n_, _) =>
        bif !(decide (n_ = (0 : Int))) then
          some ((room_, used, files, steps, left, dead, ()), n_, ())
        else
          obind (disk_Disk_step.run N room_ used files steps left dead) fun ((room1, used1, files1, steps1, left1, dead1, _), b, _) =>
            bif b then
              some ((room1, used1, files1, steps1, left1, dead1, ()), (44 : Int), ())
            else
              obind (disk_Disk_Sync_f1.run N (mapGet files name (([] : List UInt8), (0 : Int))) room1 used1 files1 steps1 left1 dead1 done) fun ((room2, used2, files2, steps2, left2, dead2, _), _) =>
                some ((room2, used2, files2, steps2, left2, dead2, ()), (0 : Int), ())
def disk_Disk_do.fn (N : Nat) (x : Sh.den disk_Disk_do.ins) : Option (Sh.den disk_Disk_do.outs) := disk_Disk_do.run N x.1.1 x.1.2.1 x.1.2.2.1 x.1.2.2.2.1 x.1.2.2.2.2.1 x.1.2.2.2.2.2.1 x.2.1 x.2.2.2.1.2.1.1
def disk_Disk_do.S (N : Nat) : Fs := ⟨disk_Disk_do.ins, disk_Disk_do.outs, disk_Disk_do.fn N⟩
def disk_Disk_do.lam (N : Nat) : Pcs := pcs []
theorem disk_Disk_do.pok (N : Nat) : (disk_Disk_do.lam N).Ok Try.prog (disk_Disk_do.C N) disk_Disk_do.code := pcsOk_nil
theorem disk_Disk_do.ev (N : Nat) (x : Sh.den disk_Disk_do.ins) : evC (disk_Disk_do.C N) disk_Disk_do.code (disk_Disk_do.lam N) ⟨envOf 0 (bld (fun k => k) disk_Disk_do.ins x 0).1, (bld (fun k => k) disk_Disk_do.ins x 0).2.1, 1000⟩ (endF U disk_Disk_do.outs Try.f46.results.toList []) = disk_Disk_do.fn N x := by kernel_rfl
theorem disk_Disk_do.ok (N : Nat) : (disk_Disk_do.S N).con.Ok Try.prog 46 := fn_ok (F := disk_Disk_do.S N) (n0 := 1000) Try.func46 (by kernel_rfl) (show Try.f46.body = some disk_Disk_do.code by rfl) mix (disk_Disk_do.cok N) (fun _ => rfl) (fun _ => rfl) (disk_Disk_do.pok N) (fun x y h => (disk_Disk_do.ev N x).trans h)
/-- (*hayloft/disk.Disk).Sync -/
def disk_Disk_Sync.ins : Sh := (.cons (.box 67 (.cons (.val (.int .i64)) (.cons (.val (.int .i64)) (.cons (.own 3000000 (.pair .str (.pair (.slice .byte) (.int .i64)))) (.cons (.val (.int .i64)) (.cons (.val (.int .i64)) (.cons (.val .bool) .nil))))))) (.cons (.val .str) .nil))
def disk_Disk_Sync.C (N : Nat) : Ctx := ⟨U, 9, fun _ => true, gam [(46, (disk_Disk_do.S N).con)], gamY []⟩
theorem disk_Disk_Sync.cok (N : Nat) : (disk_Disk_Sync.C N).Ok Try.prog := ⟨U_ok, GamOk.cons (disk_Disk_do.ok N) (GamOk.nil), GamYOk.nil⟩
def disk_Disk_Sync.code : Code := Try.f31.body.getD .skip
def disk_Disk_Sync.outs : Sh := (.cons (.upd 0 67 (.cons (.val (.int .i64)) (.cons (.val (.int .i64)) (.cons (.own 3000000 (.pair .str (.pair (.slice .byte) (.int .i64)))) (.cons (.val (.int .i64)) (.cons (.val (.int .i64)) (.cons (.val .bool) .nil))))))) (.cons (.val (.int .i64)) .nil))
def disk_Disk_Sync.run (N : Nat) (room_ : Int) (used : Int) (files : (List ((List UInt8) × ((List UInt8) × Int)))) (steps : Int) (left : Int) (dead : Bool) (name : (List UInt8)) : Option ((Int × Int × (List ((List UInt8) × ((List UInt8) × Int))) × Int × Int × Bool × Unit) × Int × Unit) :=
  obind (disk_Disk_do.run N room_ used files steps left dead name name) fun ((room1, used1, files1, steps1, left1, dead1, _), n_, _) =>
    some ((room1, used1, files1, steps1, left1, dead1, ()), n_, ())
def disk_Disk_Sync.fn (N : Nat) (x : Sh.den disk_Disk_Sync.ins) : Option (Sh.den disk_Disk_Sync.outs) := disk_Disk_Sync.run N x.1.1 x.1.2.1 x.1.2.2.1 x.1.2.2.2.1 x.1.2.2.2.2.1 x.1.2.2.2.2.2.1 x.2.1
def disk_Disk_Sync.S (N : Nat) : Fs := ⟨disk_Disk_Sync.ins, disk_Disk_Sync.outs, disk_Disk_Sync.fn N⟩
def disk_Disk_Sync.lam (N : Nat) : Pcs := pcs []
theorem disk_Disk_Sync.pok (N : Nat) : (disk_Disk_Sync.lam N).Ok Try.prog (disk_Disk_Sync.C N) disk_Disk_Sync.code := pcsOk_nil
theorem disk_Disk_Sync.ev (N : Nat) (x : Sh.den disk_Disk_Sync.ins) : evC (disk_Disk_Sync.C N) disk_Disk_Sync.code (disk_Disk_Sync.lam N) ⟨envOf 0 (bld (fun k => k) disk_Disk_Sync.ins x 0).1, (bld (fun k => k) disk_Disk_Sync.ins x 0).2.1, 1000⟩ (endF U disk_Disk_Sync.outs Try.f31.results.toList []) = disk_Disk_Sync.fn N x := by kernel_rfl
theorem disk_Disk_Sync.ok (N : Nat) : (disk_Disk_Sync.S N).con.Ok Try.prog 31 := fn_ok (F := disk_Disk_Sync.S N) (n0 := 1000) Try.func31 (by kernel_rfl) (show Try.f31.body = some disk_Disk_Sync.code by rfl) mix (disk_Disk_Sync.cok N) (fun _ => rfl) (fun _ => rfl) (disk_Disk_Sync.pok N) (fun x y h => (disk_Disk_Sync.ev N x).trans h)
/-- slices.Clone[[]byte,byte] -/
def slices_Clone_byte_byte.ins : Sh := (.cons (.val (.slice .byte)) .nil)
def slices_Clone_byte_byte.C (N : Nat) : Ctx := ⟨U, 8, fun _ => true, gam [], gamY []⟩
theorem slices_Clone_byte_byte.cok (N : Nat) : (slices_Clone_byte_byte.C N).Ok Try.prog := ⟨U_ok, GamOk.nil, GamYOk.nil⟩
def slices_Clone_byte_byte.code : Code := Try.f36.body.getD .skip
def slices_Clone_byte_byte.outs : Sh := (.cons (.own 5 .byte) .nil)
def slices_Clone_byte_byte.run (N : Nat) (s : (List UInt8)) : Option ((List UInt8) × Unit) :=
  pick2 (Nat.beq s.length 0)
    (
      some (([] : List UInt8), ()))
    (
      bif room (0 + s.length) 1 then
        some (s, ())
      else none)
def slices_Clone_byte_byte.fn (N : Nat) (x : Sh.den slices_Clone_byte_byte.ins) : Option (Sh.den slices_Clone_byte_byte.outs) := slices_Clone_byte_byte.run N x.1
def slices_Clone_byte_byte.S (N : Nat) : Fs := ⟨slices_Clone_byte_byte.ins, slices_Clone_byte_byte.outs, slices_Clone_byte_byte.fn N⟩
def slices_Clone_byte_byte.lam (N : Nat) : Pcs := pcs []
theorem slices_Clone_byte_byte.pok (N : Nat) : (slices_Clone_byte_byte.lam N).Ok Try.prog (slices_Clone_byte_byte.C N) slices_Clone_byte_byte.code := pcsOk_nil
theorem slices_Clone_byte_byte.ev (N : Nat) (x : Sh.den slices_Clone_byte_byte.ins) : evC (slices_Clone_byte_byte.C N) slices_Clone_byte_byte.code (slices_Clone_byte_byte.lam N) ⟨envOf 0 (bld (fun k => k) slices_Clone_byte_byte.ins x 0).1, (bld (fun k => k) slices_Clone_byte_byte.ins x 0).2.1, 1000⟩ (endF U slices_Clone_byte_byte.outs Try.f36.results.toList []) = slices_Clone_byte_byte.fn N x := by kernel_rfl
theorem slices_Clone_byte_byte.ok (N : Nat) : (slices_Clone_byte_byte.S N).con.Ok Try.prog 36 := fn_ok (F := slices_Clone_byte_byte.S N) (n0 := 1000) Try.func36 (by kernel_rfl) (show Try.f36.body = some slices_Clone_byte_byte.code by rfl) mix (slices_Clone_byte_byte.cok N) (fun _ => rfl) (fun _ => rfl) (slices_Clone_byte_byte.pok N) (fun x y h => (slices_Clone_byte_byte.ev N x).trans h)
/-- (*hayloft/disk.Disk).Read -/
def disk_Disk_Read.ins : Sh := (.cons (.rbox 67 (.cons (.val (.int .i64)) (.cons (.val (.int .i64)) (.cons (.rown 3000000 (.pair .str (.pair (.slice .byte) (.int .i64)))) (.cons (.val (.int .i64)) (.cons (.val (.int .i64)) (.cons (.val .bool) .nil))))))) (.cons (.val .str) .nil))
def disk_Disk_Read.C (N : Nat) : Ctx := ⟨U, 21, fun _ => true, gam [(36, (slices_Clone_byte_byte.S N).con)], gamY []⟩
theorem disk_Disk_Read.cok (N : Nat) : (disk_Disk_Read.C N).Ok Try.prog := ⟨U_ok, GamOk.cons (slices_Clone_byte_byte.ok N) (GamOk.nil), GamYOk.nil⟩
def disk_Disk_Read.code : Code := Try.f13.body.getD .skip
def disk_Disk_Read.outs : Sh := (.cons (.own 5 .byte) (.cons (.val .bool) .nil))
def disk_Disk_Read.run (N : Nat) (room_ : Int) (used : Int) (files : (List ((List UInt8) × ((List UInt8) × Int)))) (steps : Int) (left : Int) (dead : Bool) (name : (List UInt8)) : Option ((List UInt8) × Bool × Unit) :=
  obind (slices_Clone_byte_byte.run N (mapGet files name (([] : List UInt8), (0 : Int))).1) fun (l, _) =>
    some (l, mapHas files name, ())
def disk_Disk_Read.fn (N : Nat) (x : Sh.den disk_Disk_Read.ins) : Option (Sh.den disk_Disk_Read.outs) := disk_Disk_Read.run N x.1.1 x.1.2.1 x.1.2.2.1 x.1.2.2.2.1 x.1.2.2.2.2.1 x.1.2.2.2.2.2.1 x.2.1
def disk_Disk_Read.S (N : Nat) : Fs := ⟨disk_Disk_Read.ins, disk_Disk_Read.outs, disk_Disk_Read.fn N⟩
def disk_Disk_Read.lam (N : Nat) : Pcs := pcs []
theorem disk_Disk_Read.pok (N : Nat) : (disk_Disk_Read.lam N).Ok Try.prog (disk_Disk_Read.C N) disk_Disk_Read.code := pcsOk_nil
theorem disk_Disk_Read.ev (N : Nat) (x : Sh.den disk_Disk_Read.ins) : evC (disk_Disk_Read.C N) disk_Disk_Read.code (disk_Disk_Read.lam N) ⟨envOf 0 (bld (fun k => k) disk_Disk_Read.ins x 0).1, (bld (fun k => k) disk_Disk_Read.ins x 0).2.1, 1000⟩ (endF U disk_Disk_Read.outs Try.f13.results.toList []) = disk_Disk_Read.fn N x := by kernel_rfl
theorem disk_Disk_Read.ok (N : Nat) : (disk_Disk_Read.S N).con.Ok Try.prog 13 := fn_ok (F := disk_Disk_Read.S N) (n0 := 1000) Try.func13 (by kernel_rfl) (show Try.f13.body = some disk_Disk_Read.code by rfl) mix (disk_Disk_Read.cok N) (fun _ => rfl) (fun _ => rfl) (disk_Disk_Read.pok N) (fun x y h => (disk_Disk_Read.ev N x).trans h)
/-- (*hayloft/disk.Disk).names -/
def disk_Disk_names.ins : Sh := (.cons (.box 67 (.cons (.val (.int .i64)) (.cons (.val (.int .i64)) (.cons (.own 3000000 (.pair .str (.pair (.slice .byte) (.int .i64)))) (.cons (.val (.int .i64)) (.cons (.val (.int .i64)) (.cons (.val .bool) .nil))))))) .nil)
def disk_Disk_names.C (N : Nat) : Ctx := ⟨U, 4, fun _ => true, gam [], gamY []⟩
theorem disk_Disk_names.cok (N : Nat) : (disk_Disk_names.C N).Ok Try.prog := ⟨U_ok, GamOk.nil, GamYOk.nil⟩
def disk_Disk_names.code : Code := Try.f37.body.getD .skip
def disk_Disk_names.outs : Sh := (.cons (.upd 0 67 (.cons (.val (.int .i64)) (.cons (.val (.int .i64)) (.cons (.own 3000000 (.pair .str (.pair (.slice .byte) (.int .i64)))) (.cons (.val (.int .i64)) (.cons (.val (.int .i64)) (.cons (.val .bool) .nil))))))) (.cons (.fn 56 (.cons (.box 23 (.cons (.ref 0) .nil)) .nil)) .nil))
def disk_Disk_names.run (N : Nat) (room_ : Int) (used : Int) (files : (List ((List UInt8) × ((List UInt8) × Int)))) (steps : Int) (left : Int) (dead : Bool) : Option ((Int × Int × (List ((List UInt8) × ((List UInt8) × Int))) × Int × Int × Bool × Unit) × ((Unit × Unit) × Unit) × Unit) :=
  some ((room_, used, files, steps, left, dead, ()), (((), ()), ()), ())
def disk_Disk_names.fn (N : Nat) (x : Sh.den disk_Disk_names.ins) : Option (Sh.den disk_Disk_names.outs) := disk_Disk_names.run N x.1.1 x.1.2.1 x.1.2.2.1 x.1.2.2.2.1 x.1.2.2.2.2.1 x.1.2.2.2.2.2.1
def disk_Disk_names.S (N : Nat) : Fs := ⟨disk_Disk_names.ins, disk_Disk_names.outs, disk_Disk_names.fn N⟩
def disk_Disk_names.lam (N : Nat) : Pcs := pcs []
theorem disk_Disk_names.pok (N : Nat) : (disk_Disk_names.lam N).Ok Try.prog (disk_Disk_names.C N) disk_Disk_names.code := pcsOk_nil
theorem disk_Disk_names.ev (N : Nat) (x : Sh.den disk_Disk_names.ins) : evC (disk_Disk_names.C N) disk_Disk_names.code (disk_Disk_names.lam N) ⟨envOf 0 (bld (fun k => k) disk_Disk_names.ins x 0).1, (bld (fun k => k) disk_Disk_names.ins x 0).2.1, 1000⟩ (endF U disk_Disk_names.outs Try.f37.results.toList []) = disk_Disk_names.fn N x := by kernel_rfl
theorem disk_Disk_names.ok (N : Nat) : (disk_Disk_names.S N).con.Ok Try.prog 37 := fn_ok (F := disk_Disk_names.S N) (n0 := 1000) Try.func37 (by kernel_rfl) (show Try.f37.body = some disk_Disk_names.code by rfl) mix (disk_Disk_names.cok N) (fun _ => rfl) (fun _ => rfl) (disk_Disk_names.pok N) (fun x y h => (disk_Disk_names.ev N x).trans h)
/-- maps.Keys[map[string]hayloft/disk.file,string,hayloft/disk.file] -/
def maps_Keys_map_string_disk_file_string_disk_file.ins : Sh := (.cons (.rown 3000000 (.pair .str (.pair (.slice .byte) (.int .i64)))) .nil)
def maps_Keys_map_string_disk_file_string_disk_file.C (N : Nat) : Ctx := ⟨U, 4, fun _ => true, gam [], gamY []⟩
theorem maps_Keys_map_string_disk_file_string_disk_file.cok (N : Nat) : (maps_Keys_map_string_disk_file_string_disk_file.C N).Ok Try.prog := ⟨U_ok, GamOk.nil, GamYOk.nil⟩
def maps_Keys_map_string_disk_file_string_disk_file.code : Code := Try.f58.body.getD .skip
def maps_Keys_map_string_disk_file_string_disk_file.outs : Sh := (.cons (.fn 71 (.cons (.box 65 (.cons (.keep 2000000 0) .nil)) .nil)) .nil)
def maps_Keys_map_string_disk_file_string_disk_file.run (N : Nat) (m : (List ((List UInt8) × ((List UInt8) × Int)))) : Option (((Unit × Unit) × Unit) × Unit) :=
  some ((((), ()), ()), ())
def maps_Keys_map_string_disk_file_string_disk_file.fn (N : Nat) (x : Sh.den maps_Keys_map_string_disk_file_string_disk_file.ins) : Option (Sh.den maps_Keys_map_string_disk_file_string_disk_file.outs) := maps_Keys_map_string_disk_file_string_disk_file.run N x.1
def maps_Keys_map_string_disk_file_string_disk_file.S (N : Nat) : Fs := ⟨maps_Keys_map_string_disk_file_string_disk_file.ins, maps_Keys_map_string_disk_file_string_disk_file.outs, maps_Keys_map_string_disk_file_string_disk_file.fn N⟩
def maps_Keys_map_string_disk_file_string_disk_file.lam (N : Nat) : Pcs := pcs []
theorem maps_Keys_map_string_disk_file_string_disk_file.pok (N : Nat) : (maps_Keys_map_string_disk_file_string_disk_file.lam N).Ok Try.prog (maps_Keys_map_string_disk_file_string_disk_file.C N) maps_Keys_map_string_disk_file_string_disk_file.code := pcsOk_nil
theorem maps_Keys_map_string_disk_file_string_disk_file.ev (N : Nat) (x : Sh.den maps_Keys_map_string_disk_file_string_disk_file.ins) : evC (maps_Keys_map_string_disk_file_string_disk_file.C N) maps_Keys_map_string_disk_file_string_disk_file.code (maps_Keys_map_string_disk_file_string_disk_file.lam N) ⟨envOf 0 (bld (fun k => k) maps_Keys_map_string_disk_file_string_disk_file.ins x 0).1, (bld (fun k => k) maps_Keys_map_string_disk_file_string_disk_file.ins x 0).2.1, 1000⟩ (endF U maps_Keys_map_string_disk_file_string_disk_file.outs Try.f58.results.toList []) = maps_Keys_map_string_disk_file_string_disk_file.fn N x := by kernel_rfl
theorem maps_Keys_map_string_disk_file_string_disk_file.ok (N : Nat) : (maps_Keys_map_string_disk_file_string_disk_file.S N).con.Ok Try.prog 58 := fn_ok (F := maps_Keys_map_string_disk_file_string_disk_file.S N) (n0 := 1000) Try.func58 (by kernel_rfl) (show Try.f58.body = some maps_Keys_map_string_disk_file_string_disk_file.code by rfl) mix (maps_Keys_map_string_disk_file_string_disk_file.cok N) (fun _ => rfl) (fun _ => rfl) (maps_Keys_map_string_disk_file_string_disk_file.pok N) (fun x y h => (maps_Keys_map_string_disk_file_string_disk_file.ev N x).trans h)
def slices_Sorted_keys58.S (N : Nat) : Fs := sortedFs 71 65 9 3000000 (.pair (.slice .byte) (.int .i64))
theorem slices_Sorted_keys58.ok (N : Nat) : (slices_Sorted_keys58.S N).con.Ok Try.prog 57 := kSorted58
def slices_Sorted_keys58.run (N : Nat) (l : List ((List UInt8) × ((List UInt8) × Int))) : Option ((List (List UInt8)) × Unit) := bif room l.length 16 then some (sortKeys l, ()) else none
def Y0.ins : Sh := (.cons (.rbox 23 (.cons (.rbox 67 (.cons (.val (.int .i64)) (.cons (.val (.int .i64)) (.cons (.rown 3000000 (.pair .str (.pair (.slice .byte) (.int .i64)))) (.cons (.val (.int .i64)) (.cons (.val (.int .i64)) (.cons (.val .bool) .nil))))))) .nil)) (.cons (.box 34 (.cons (.val (.slice (.int .i64))) .nil)) (.cons (.rbox 23 (.cons (.box 67 (.cons (.val (.int .i64)) (.cons (.val (.int .i64)) (.cons (.own 3000000 (.pair .str (.pair (.slice .byte) (.int .i64)))) (.cons (.val (.int .i64)) (.cons (.val (.int .i64)) (.cons (.val .bool) .nil))))))) .nil)) (.cons (.val .str) .nil))))
def Y0.C (N : Nat) : Ctx := ⟨U, 54, fun _ => true, gam [(36, (slices_Clone_byte_byte.S N).con), (34, (disk_Disk_lay.S N).con)], gamY []⟩
theorem Y0.cok (N : Nat) : (Y0.C N).Ok Try.prog := ⟨U_ok, GamOk.cons (slices_Clone_byte_byte.ok N) (GamOk.cons (disk_Disk_lay.ok N) (GamOk.nil)), GamYOk.nil⟩
def Y0.code : Code := site0.body
def Y0_0.ins : Sh := (.cons (.box 34 (.cons (.val (.slice (.int .i64))) .nil)) (.cons (.val (.int .i64)) .nil))
def Y0_0.ts : List Tmp := [3, 7]
def Y0_0.asg : List Tmp := [7, 17, 18, 19, 20, 21, 22, 23, 24]
def Y0_0.C (N : Nat) : Ctx := { Y0.C N with may := fun t => Y0_0.asg.any (Nat.beq t) }
def Y0_0.code : Code := (sub Y0.code [false, true, false]).getD .skip
theorem Y0_0.cok (N : Nat) : (Y0_0.C N).Ok Try.prog := ⟨(Y0.cok N).U, (Y0.cok N).Γ, (Y0.cok N).Y⟩
def Y0_0.alts : List Alt := [⟨.normal, [7], (.cons (.upd 0 34 (.cons (.val (.slice (.int .i64))) .nil)) (.cons (.val (.int .i64)) .nil))⟩]
def Y0_0.run (N : Nat) (keep : (List Int)) (n_ : Int) : Option ((((List Int) × Unit) × Int × Unit)) :=
  bif decide ((keep.length : Int) > (0 : Int)) then
    bif inB (0 : Int) keep.length then
      bif okB (1 : Int) (keep.length : Int) keep.length then
        some ((keep.drop 1, ()), keep.getD 0 (0 : Int), ())
      else none
    else none
  else some ((keep, ()), n_, ())
def Y0_0.fn (N : Nat) (x : Sh.den Y0_0.ins) : Option (altsDen Y0_0.alts) := Y0_0.run N x.1.1 x.2.1
def Y0_0.P (N : Nat) : Ps := ⟨Y0_0.ts, Y0_0.ins, Y0_0.asg, Y0_0.alts, Y0_0.fn N⟩
def Y0_0.lam (N : Nat) : Pcs := pcs []
theorem Y0_0.pok (N : Nat) : (Y0_0.lam N).Ok Try.prog (Y0_0.C N) Y0_0.code := pcsOk_nil
theorem Y0_0.ev (N : Nat) (x : Sh.den Y0_0.ins) : evC (Y0_0.C N) Y0_0.code (Y0_0.lam N) ((Y0_0.P N).canon 1000 x) (altK (Y0_0.P N).alts) = Y0_0.fn N x := by kernel_rfl
theorem Y0_0.ok (N : Nat) : ((Y0_0.P N).pc (Y0.C N)).Ok Try.prog (Y0.C N) Y0_0.code := ps_ok (F := Y0_0.P N) (n0 := 1000) (Y0.cok N) mix (Y0_0.pok N) (fun x y h => (Y0_0.ev N x).trans h)
def Y0.alts : List Alt := [⟨.normal, [], (.cons (.upd 3 34 (.cons (.val (.slice (.int .i64))) .nil)) (.cons (.upd 5 67 (.cons (.val (.int .i64)) (.cons (.val (.int .i64)) (.cons (.own 3000000 (.pair .str (.pair (.slice .byte) (.int .i64)))) (.cons (.val (.int .i64)) (.cons (.val (.int .i64)) (.cons (.val .bool) .nil))))))) .nil))⟩]
def Y0.run (N : Nat) (room_ : Int) (used : Int) (files : (List ((List UInt8) × ((List UInt8) × Int)))) (steps : Int) (left : Int) (dead : Bool) (keep : (List Int)) (room1 : Int) (used1 : Int) (files1 : (List ((List UInt8) × ((List UInt8) × Int)))) (steps1 : Int) (left1 : Int) (dead1 : Bool) (t16 : (List UInt8)) : Option ((((List Int) × Unit) × (Int × Int × (List ((List UInt8) × ((List UInt8) × Int))) × Int × Int × Bool × Unit) × Unit)) :=
  obind (Y0_0.run N keep (0 : Int)) fun ((v, _), n_, _) =>
    bif okB (0 : Int) (IntKind.i64.wrap ((mapGet files t16 (([] : List UInt8), (0 : Int))).2 + (min (max n_ (0 : Int)) (IntKind.i64.wrap (((mapGet files t16 (([] : List UInt8), (0 : Int))).1.length : Int) - (mapGet files t16 (([] : List UInt8), (0 : Int))).2))))) (mapGet files t16 (([] : List UInt8), (0 : Int))).1.length then
      obind (slices_Clone_byte_byte.run N ((mapGet files t16 (([] : List UInt8), (0 : Int))).1.take (IntKind.i64.wrap ((mapGet files t16 (([] : List UInt8), (0 : Int))).2 + (min (max n_ (0 : Int)) (IntKind.i64.wrap (((mapGet files t16 (([] : List UInt8), (0 : Int))).1.length : Int) - (mapGet files t16 (([] : List UInt8), (0 : Int))).2))))).toNat)) fun (l, _) =>
        obind (disk_Disk_lay.run N room1 used1 files1 steps1 left1 dead1 t16 (l, IntKind.i64.wrap ((mapGet files t16 (([] : List UInt8), (0 : Int))).2 + (min (max n_ (0 : Int)) (IntKind.i64.wrap (((mapGet files t16 (([] : List UInt8), (0 : Int))).1.length : Int) - (mapGet files t16 (([] : List UInt8), (0 : Int))).2)))))) fun ((room2, used2, files2, steps2, left2, dead2, _), _) =>
          some ((v, ()), (room2, used2, files2, steps2, left2, dead2, ()), ())
    else none
def Y0.fn (N : Nat) (x : Sh.den Y0.ins) : Option (altsDen Y0.alts) := Y0.run N x.1.1.1 x.1.1.2.1 x.1.1.2.2.1 x.1.1.2.2.2.1 x.1.1.2.2.2.2.1 x.1.1.2.2.2.2.2.1 x.2.1.1 x.2.2.1.1.1 x.2.2.1.1.2.1 x.2.2.1.1.2.2.1 x.2.2.1.1.2.2.2.1 x.2.2.1.1.2.2.2.2.1 x.2.2.1.1.2.2.2.2.2.1 x.2.2.2.1
def Y0.F (N : Nat) : Ys := ⟨[2, 3, 5], [16], Y0.ins, Y0.alts, Y0.fn N⟩
def Y0.yc (N : Nat) : Yc := (Y0.F N).yc
def Y0.lam (N : Nat) : Pcs := pcs [([false, true, false], (Y0_0.P N).pc (Y0.C N))]
theorem Y0.pok (N : Nat) : (Y0.lam N).Ok Try.prog (Y0.C N) site0.body := pcsOk_cons (c1 := Y0_0.code) (by kernel_rfl) (Y0_0.ok N) (pcsOk_nil)
theorem Y0.ev (N : Nat) (x : Sh.den Y0.ins) : evC (Y0.C N) site0.assign (pcs []) ⟨addT [2, 3, 5, 16] (bld (fun k => k) Y0.ins x 0).1 [], (bld (fun k => k) Y0.ins x 0).2.1, 1000⟩ (thenC fun s => evC (Y0.C N) site0.body (Y0.lam N) s (altK Y0.alts)) = Y0.fn N x := by kernel_rfl
theorem Y0.ok (N : Nat) : (Y0.yc N).Ok Try.prog 1000000 := ys_ok (σ := site0) (k := 0) (C := Y0.C N) (F := Y0.F N) (n0 := 1000) (fun _ => rfl) (Y0.cok N) mix (fun _ => rfl) (show site0.ps.toList = [16] by kernel_rfl) (show site0.ts = [2, 3, 5] by kernel_rfl) (show site0.nt = 54 by kernel_rfl) rfl rfl rfl rfl rfl pcsOk_nil (Y0.pok N) (fun x y h => (Y0.ev N x).trans h)
/-- (*hayloft/disk.Disk).names$1 -/
def disk_Disk_names_f1.ins : Sh := (.cons (.box 1000000 (.cons (.val (.int .i64)) (.cons (.junk) (.cons (.junk) (.cons (.junk) (.cons (.rbox 23 (.cons (.rbox 67 (.cons (.val (.int .i64)) (.cons (.val (.int .i64)) (.cons (.rown 3000000 (.pair .str (.pair (.slice .byte) (.int .i64)))) (.cons (.val (.int .i64)) (.cons (.val (.int .i64)) (.cons (.val .bool) .nil))))))) .nil)) (.cons (.box 34 (.cons (.val (.slice (.int .i64))) .nil)) (.cons (.rbox 23 (.cons (.box 67 (.cons (.val (.int .i64)) (.cons (.val (.int .i64)) (.cons (.own 3000000 (.pair .str (.pair (.slice .byte) (.int .i64)))) (.cons (.val (.int .i64)) (.cons (.val (.int .i64)) (.cons (.val .bool) .nil))))))) .nil)) .nil)))))))) (.cons (.rbox 23 (.cons (.ref 2) .nil)) .nil))
def disk_Disk_names_f1.C (N : Nat) : Ctx := ⟨U, 21, fun _ => true, gam [(58, (maps_Keys_map_string_disk_file_string_disk_file.S N).con), (57, (slices_Sorted_keys58.S N).con)], gamY [(1000000, Y0.yc N)]⟩
theorem disk_Disk_names_f1.cok (N : Nat) : (disk_Disk_names_f1.C N).Ok Try.prog := ⟨U_ok, GamOk.cons (maps_Keys_map_string_disk_file_string_disk_file.ok N) (GamOk.cons (slices_Sorted_keys58.ok N) (GamOk.nil)), GamYOk.cons (Y0.ok N) (GamYOk.nil)⟩
def disk_Disk_names_f1.code : Code := Try.f56.body.getD .skip
def disk_Disk_names_f1_0.ins : Sh := (.cons (.box 1000000 (.cons (.val (.int .i64)) (.cons (.junk) (.cons (.junk) (.cons (.junk) (.cons (.rbox 23 (.cons (.rbox 67 (.cons (.val (.int .i64)) (.cons (.val (.int .i64)) (.cons (.rown 3000000 (.pair .str (.pair (.slice .byte) (.int .i64)))) (.cons (.val (.int .i64)) (.cons (.val (.int .i64)) (.cons (.val .bool) .nil))))))) .nil)) (.cons (.box 34 (.cons (.val (.slice (.int .i64))) .nil)) (.cons (.rbox 23 (.cons (.box 67 (.cons (.val (.int .i64)) (.cons (.val (.int .i64)) (.cons (.own 3000000 (.pair .str (.pair (.slice .byte) (.int .i64)))) (.cons (.val (.int .i64)) (.cons (.val (.int .i64)) (.cons (.val .bool) .nil))))))) .nil)) .nil)))))))) (.cons (.rown 9 .str) (.cons (.val (.int .i64)) (.cons (.val (.int .i64)) .nil))))
def disk_Disk_names_f1_0.ts : List Tmp := [0, 10, 11, 12]
def disk_Disk_names_f1_0.asg : List Tmp := [4, 12, 13, 14, 15, 16, 17, 18, 19, 20]
def disk_Disk_names_f1_0.C (N : Nat) : Ctx := { disk_Disk_names_f1.C N with may := fun t => disk_Disk_names_f1_0.asg.any (Nat.beq t) }
def disk_Disk_names_f1_0.code : Code := loopBody (sub disk_Disk_names_f1.code [true, false])
theorem disk_Disk_names_f1_0.cok (N : Nat) : (disk_Disk_names_f1_0.C N).Ok Try.prog := ⟨(disk_Disk_names_f1.cok N).U, (disk_Disk_names_f1.cok N).Γ, (disk_Disk_names_f1.cok N).Y⟩
def disk_Disk_names_f1_0.alts : List Alt := [⟨(.exit 0), [], (.cons (.upd 4 34 (.cons (.val (.slice (.int .i64))) .nil)) (.cons (.upd 6 67 (.cons (.val (.int .i64)) (.cons (.val (.int .i64)) (.cons (.own 3000000 (.pair .str (.pair (.slice .byte) (.int .i64)))) (.cons (.val (.int .i64)) (.cons (.val (.int .i64)) (.cons (.val .bool) .nil))))))) (.cons (.upd 0 1000000 (.cons (.val (.int .i64)) (.cons (.junk) (.cons (.junk) (.cons (.junk) (.cons (.keep 0 1) (.cons (.ref 0) (.cons (.keep 0 5) .nil)))))))) .nil)))⟩]
def disk_Disk_names_f1_0.go (N : Nat) : Nat → Int → Int → Int → (List ((List UInt8) × ((List UInt8) × Int))) → Int → Int → Bool → (List Int) → Int → Int → (List ((List UInt8) × ((List UInt8) × Int))) → Int → Int → Bool → (List (List UInt8)) → Int → Int → Option ((((List Int) × Unit) × (Int × Int × (List ((List UInt8) × ((List UInt8) × Int))) × Int × Int × Bool × Unit) × (Int × Unit × Unit × Unit × Unit × Unit × Unit × Unit) × Unit))
  | 0, _, _, _, _, _, _, _, _, _, _, _, _, _, _, _, _, _ => none
  | fuel + 1, yield, room_, used, files, steps, left, dead, yield1, room1, used1, files1, steps1, left1, dead1, t10, t11, t12 =>
    bif decide (t12 < t11) then
      bif inB t12 t10.length then
        bif decide (t12.toNat < t10.length) then
          bif decide (yield = (0 : Int)) then
            obind (Y0.run N room_ used files steps left dead yield1 room1 used1 files1 steps1 left1 dead1 (t10.getD t12.toNat ([] : List UInt8))) fun ((v, _), (room2, used2, files2, steps2, left2, dead2, _), _) =>
              disk_Disk_names_f1_0.go N fuel (0 : Int) room_ used files steps left dead v room2 used2 files2 steps2 left2 dead2 t10 t11 (IntKind.i64.wrap (t12 + (1 : Int)))
          else none
        else none
      else none
    else some ((yield1, ()), (room1, used1, files1, steps1, left1, dead1, ()), (yield, (), (), (), (), (), (), ()), ())
def disk_Disk_names_f1_0.g (N n : Nat) (x : Sh.den disk_Disk_names_f1_0.ins) : Option (altsDen disk_Disk_names_f1_0.alts) := disk_Disk_names_f1_0.go N n x.1.1 x.1.2.2.2.2.1.1.1 x.1.2.2.2.2.1.1.2.1 x.1.2.2.2.2.1.1.2.2.1 x.1.2.2.2.2.1.1.2.2.2.1 x.1.2.2.2.2.1.1.2.2.2.2.1 x.1.2.2.2.2.1.1.2.2.2.2.2.1 x.1.2.2.2.2.2.1.1 x.1.2.2.2.2.2.2.1.1.1 x.1.2.2.2.2.2.2.1.1.2.1 x.1.2.2.2.2.2.2.1.1.2.2.1 x.1.2.2.2.2.2.2.1.1.2.2.2.1 x.1.2.2.2.2.2.2.1.1.2.2.2.2.1 x.1.2.2.2.2.2.2.1.1.2.2.2.2.2.1 x.2.1 x.2.2.1 x.2.2.2.1
def disk_Disk_names_f1_0.P (N : Nat) : Ps := ⟨disk_Disk_names_f1_0.ts, disk_Disk_names_f1_0.ins, disk_Disk_names_f1_0.asg, disk_Disk_names_f1_0.alts, disk_Disk_names_f1_0.g N N⟩
def disk_Disk_names_f1_0.lam (N : Nat) : Pcs := pcs []
theorem disk_Disk_names_f1_0.pok (N : Nat) : (disk_Disk_names_f1_0.lam N).Ok Try.prog (disk_Disk_names_f1_0.C N) disk_Disk_names_f1_0.code := pcsOk_nil
theorem disk_Disk_names_f1_0.ev (N n : Nat) (x : Sh.den disk_Disk_names_f1_0.ins) : evC (disk_Disk_names_f1_0.C N) disk_Disk_names_f1_0.code (disk_Disk_names_f1_0.lam N) ((disk_Disk_names_f1_0.P N).canon 1000 x) (loopK (disk_Disk_names_f1_0.P N) (disk_Disk_names_f1_0.g N n)) = disk_Disk_names_f1_0.g N (n + 1) x := by kernel_rfl
theorem disk_Disk_names_f1_0.ok (N : Nat) : ((disk_Disk_names_f1_0.P N).pc (disk_Disk_names_f1.C N)).Ok Try.prog (disk_Disk_names_f1.C N) (.loop disk_Disk_names_f1_0.code) := loop_ok (F := disk_Disk_names_f1_0.P N) (n0 := 1000) (N := N) (disk_Disk_names_f1.cok N) mix (disk_Disk_names_f1_0.pok N) (disk_Disk_names_f1_0.g N) (fun x => by rfl) rfl (fun n x y h => (disk_Disk_names_f1_0.ev N n x).trans h)
def disk_Disk_names_f1.outs : Sh := (.cons (.upd 4 34 (.cons (.val (.slice (.int .i64))) .nil)) (.cons (.upd 6 67 (.cons (.val (.int .i64)) (.cons (.val (.int .i64)) (.cons (.own 3000000 (.pair .str (.pair (.slice .byte) (.int .i64)))) (.cons (.val (.int .i64)) (.cons (.val (.int .i64)) (.cons (.val .bool) .nil))))))) (.cons (.upd 0 1000000 (.cons (.val (.int .i64)) (.cons (.junk) (.cons (.junk) (.cons (.junk) (.cons (.keep 0 1) (.cons (.ref 0) (.cons (.keep 0 5) .nil)))))))) .nil)))
def disk_Disk_names_f1.run (N : Nat) (yield : Int) (room_ : Int) (used : Int) (files : (List ((List UInt8) × ((List UInt8) × Int)))) (steps : Int) (left : Int) (dead : Bool) (yield1 : (List Int)) (room1 : Int) (used1 : Int) (files1 : (List ((List UInt8) × ((List UInt8) × Int)))) (steps1 : Int) (left1 : Int) (dead1 : Bool) : Option (((List Int) × Unit) × (Int × Int × (List ((List UInt8) × ((List UInt8) × Int))) × Int × Int × Bool × Unit) × (Int × Unit × Unit × Unit × Unit × Unit × Unit × Unit) × Unit) :=
  obind (maps_Keys_map_string_disk_file_string_disk_file.run N files) fun (((_, _), _), _) =>
    obind (slices_Sorted_keys58.run N files) fun (names, _) =>
      obind (disk_Disk_names_f1_0.go N N yield room_ used files steps left dead yield1 room1 used1 files1 steps1 left1 dead1 names (names.length : Int) (0 : Int)) fun ((v, _), (room2, used2, files2, steps2, left2, dead2, _), (v1, _, _, _, _, _, _, _), _) =>
        some ((v, ()), (room2, used2, files2, steps2, left2, dead2, ()), (v1, (), (), (), (), (), (), ()), ())
def disk_Disk_names_f1.fn (N : Nat) (x : Sh.den disk_Disk_names_f1.ins) : Option (Sh.den disk_Disk_names_f1.outs) := disk_Disk_names_f1.run N x.1.1 x.1.2.2.2.2.1.1.1 x.1.2.2.2.2.1.1.2.1 x.1.2.2.2.2.1.1.2.2.1 x.1.2.2.2.2.1.1.2.2.2.1 x.1.2.2.2.2.1.1.2.2.2.2.1 x.1.2.2.2.2.1.1.2.2.2.2.2.1 x.1.2.2.2.2.2.1.1 x.1.2.2.2.2.2.2.1.1.1 x.1.2.2.2.2.2.2.1.1.2.1 x.1.2.2.2.2.2.2.1.1.2.2.1 x.1.2.2.2.2.2.2.1.1.2.2.2.1 x.1.2.2.2.2.2.2.1.1.2.2.2.2.1 x.1.2.2.2.2.2.2.1.1.2.2.2.2.2.1
def disk_Disk_names_f1.S (N : Nat) : Fs := ⟨disk_Disk_names_f1.ins, disk_Disk_names_f1.outs, disk_Disk_names_f1.fn N⟩
def disk_Disk_names_f1.lam (N : Nat) : Pcs := pcs [([true, false], (disk_Disk_names_f1_0.P N).pc (disk_Disk_names_f1.C N))]
theorem disk_Disk_names_f1.pok (N : Nat) : (disk_Disk_names_f1.lam N).Ok Try.prog (disk_Disk_names_f1.C N) disk_Disk_names_f1.code := pcsOk_cons (c1 := .loop disk_Disk_names_f1_0.code) (by kernel_rfl) (disk_Disk_names_f1_0.ok N) (pcsOk_nil)
theorem disk_Disk_names_f1.ev (N : Nat) (x : Sh.den disk_Disk_names_f1.ins) : evC (disk_Disk_names_f1.C N) disk_Disk_names_f1.code (disk_Disk_names_f1.lam N) ⟨envOf 0 (bld (fun k => k) disk_Disk_names_f1.ins x 0).1, (bld (fun k => k) disk_Disk_names_f1.ins x 0).2.1, 1000⟩ (endF U disk_Disk_names_f1.outs Try.f56.results.toList []) = disk_Disk_names_f1.fn N x := by kernel_rfl
theorem disk_Disk_names_f1.ok (N : Nat) : (disk_Disk_names_f1.S N).con.Ok Try.prog 56 := fn_ok (F := disk_Disk_names_f1.S N) (n0 := 1000) Try.func56 (by kernel_rfl) (show Try.f56.body = some disk_Disk_names_f1.code by rfl) mix (disk_Disk_names_f1.cok N) (fun _ => rfl) (fun _ => rfl) (disk_Disk_names_f1.pok N) (fun x y h => (disk_Disk_names_f1.ev N x).trans h)
/-- (*hayloft/disk.Disk).Crash -/
def disk_Disk_Crash.ins : Sh := (.cons (.box 67 (.cons (.val (.int .i64)) (.cons (.val (.int .i64)) (.cons (.own 3000000 (.pair .str (.pair (.slice .byte) (.int .i64)))) (.cons (.val (.int .i64)) (.cons (.val (.int .i64)) (.cons (.val .bool) .nil))))))) (.cons (.val (.slice (.int .i64))) .nil))
def disk_Disk_Crash.C (N : Nat) : Ctx := ⟨U, 54, fun _ => true, gam [(20, (disk_New.S N).con), (37, (disk_Disk_names.S N).con), (56, (disk_Disk_names_f1.S N).con)], gamY []⟩
theorem disk_Disk_Crash.cok (N : Nat) : (disk_Disk_Crash.C N).Ok Try.prog := ⟨U_ok, GamOk.cons (disk_New.ok N) (GamOk.cons (disk_Disk_names.ok N) (GamOk.cons (disk_Disk_names_f1.ok N) (GamOk.nil))), GamYOk.nil⟩
def disk_Disk_Crash.code : Code := Try.f27.body.getD .skip
def disk_Disk_Crash.outs : Sh := (.cons (.upd 0 67 (.cons (.val (.int .i64)) (.cons (.val (.int .i64)) (.cons (.own 3000000 (.pair .str (.pair (.slice .byte) (.int .i64)))) (.cons (.val (.int .i64)) (.cons (.val (.int .i64)) (.cons (.val .bool) .nil))))))) (.cons (.box 67 (.cons (.val (.int .i64)) (.cons (.val (.int .i64)) (.cons (.own 3000000 (.pair .str (.pair (.slice .byte) (.int .i64)))) (.cons (.val (.int .i64)) (.cons (.val (.int .i64)) (.cons (.val .bool) .nil))))))) .nil))
def disk_Disk_Crash.run (N : Nat) (room_ : Int) (used : Int) (files : (List ((List UInt8) × ((List UInt8) × Int)))) (steps : Int) (left : Int) (dead : Bool) (keep : (List Int)) : Option ((Int × Int × (List ((List UInt8) × ((List UInt8) × Int))) × Int × Int × Bool × Unit) × (Int × Int × (List ((List UInt8) × ((List UInt8) × Int))) × Int × Int × Bool × Unit) × Unit) :=
  obind (disk_New.run N room_) fun ((room1, used1, files1, steps1, left1, dead1, _), _) =>
    obind (disk_Disk_names.run N room_ used files steps left dead) fun ((room2, used2, files2, steps2, left2, dead2, _), ((_, _), _), _) =>
      obind (disk_Disk_names_f1.run N (0 : Int) room2 used2 files2 steps2 left2 dead2 keep room1 used1 files1 steps1 left1 dead1) fun ((v, _), (room3, used3, files3, steps3, left3, dead3, _), (v1, _, _, _, _, _, _, _), _) =>
        bif decide (v1 = (0 : Int)) then
          some ((room2, used2, files2, steps2, left2, dead2, ()), (room3, used3, files3, steps3, left3, dead3, ()), ())
        else none
def disk_Disk_Crash.fn (N : Nat) (x : Sh.den disk_Disk_Crash.ins) : Option (Sh.den disk_Disk_Crash.outs) := disk_Disk_Crash.run N x.1.1 x.1.2.1 x.1.2.2.1 x.1.2.2.2.1 x.1.2.2.2.2.1 x.1.2.2.2.2.2.1 x.2.1
def disk_Disk_Crash.S (N : Nat) : Fs := ⟨disk_Disk_Crash.ins, disk_Disk_Crash.outs, disk_Disk_Crash.fn N⟩
def disk_Disk_Crash.lam (N : Nat) : Pcs := pcs [([true, true, false, true, false], rfPc (disk_Disk_Crash.C N) 1000000 (.tmp 15) [2, 3, 5] [.normal])]
theorem disk_Disk_Crash.pok (N : Nat) : (disk_Disk_Crash.lam N).Ok Try.prog (disk_Disk_Crash.C N) disk_Disk_Crash.code := pcsOk_cons (c1 := .rangeFunc (.tmp 15) site0.ps site0.assign site0.body) (by kernel_rfl) (rf_ok (k := 0) (fun _ => rfl) (disk_Disk_Crash.cok N)) (pcsOk_nil)
theorem disk_Disk_Crash.ev (N : Nat) (x : Sh.den disk_Disk_Crash.ins) : evC (disk_Disk_Crash.C N) disk_Disk_Crash.code (disk_Disk_Crash.lam N) ⟨envOf 0 (bld (fun k => k) disk_Disk_Crash.ins x 0).1, (bld (fun k => k) disk_Disk_Crash.ins x 0).2.1, 1000⟩ (endF U disk_Disk_Crash.outs Try.f27.results.toList []) = disk_Disk_Crash.fn N x := by kernel_rfl
theorem disk_Disk_Crash.ok (N : Nat) : (disk_Disk_Crash.S N).con.Ok Try.prog 27 := fn_ok (F := disk_Disk_Crash.S N) (n0 := 1000) Try.func27 (by kernel_rfl) (show Try.f27.body = some disk_Disk_Crash.code by rfl) mix (disk_Disk_Crash.cok N) (fun _ => rfl) (fun _ => rfl) (disk_Disk_Crash.pok N) (fun x y h => (disk_Disk_Crash.ev N x).trans h)
/-- (*hayloft/disk.Disk).Steps -/
def disk_Disk_Steps.ins : Sh := (.cons (.rbox 67 (.cons (.val (.int .i64)) (.cons (.val (.int .i64)) (.cons (.rown 3000000 (.pair .str (.pair (.slice .byte) (.int .i64)))) (.cons (.val (.int .i64)) (.cons (.val (.int .i64)) (.cons (.val .bool) .nil))))))) .nil)
def disk_Disk_Steps.C (N : Nat) : Ctx := ⟨U, 7, fun _ => true, gam [], gamY []⟩
theorem disk_Disk_Steps.cok (N : Nat) : (disk_Disk_Steps.C N).Ok Try.prog := ⟨U_ok, GamOk.nil, GamYOk.nil⟩
def disk_Disk_Steps.code : Code := Try.f23.body.getD .skip
def disk_Disk_Steps.outs : Sh := (.cons (.val (.int .i64)) .nil)
def disk_Disk_Steps.run (N : Nat) (room_ : Int) (used : Int) (files : (List ((List UInt8) × ((List UInt8) × Int)))) (steps : Int) (left : Int) (dead : Bool) : Option (Int × Unit) :=
  some (steps, ())
def disk_Disk_Steps.fn (N : Nat) (x : Sh.den disk_Disk_Steps.ins) : Option (Sh.den disk_Disk_Steps.outs) := disk_Disk_Steps.run N x.1.1 x.1.2.1 x.1.2.2.1 x.1.2.2.2.1 x.1.2.2.2.2.1 x.1.2.2.2.2.2.1
def disk_Disk_Steps.S (N : Nat) : Fs := ⟨disk_Disk_Steps.ins, disk_Disk_Steps.outs, disk_Disk_Steps.fn N⟩
def disk_Disk_Steps.lam (N : Nat) : Pcs := pcs []
theorem disk_Disk_Steps.pok (N : Nat) : (disk_Disk_Steps.lam N).Ok Try.prog (disk_Disk_Steps.C N) disk_Disk_Steps.code := pcsOk_nil
theorem disk_Disk_Steps.ev (N : Nat) (x : Sh.den disk_Disk_Steps.ins) : evC (disk_Disk_Steps.C N) disk_Disk_Steps.code (disk_Disk_Steps.lam N) ⟨envOf 0 (bld (fun k => k) disk_Disk_Steps.ins x 0).1, (bld (fun k => k) disk_Disk_Steps.ins x 0).2.1, 1000⟩ (endF U disk_Disk_Steps.outs Try.f23.results.toList []) = disk_Disk_Steps.fn N x := by kernel_rfl
theorem disk_Disk_Steps.ok (N : Nat) : (disk_Disk_Steps.S N).con.Ok Try.prog 23 := fn_ok (F := disk_Disk_Steps.S N) (n0 := 1000) Try.func23 (by kernel_rfl) (show Try.f23.body = some disk_Disk_Steps.code by rfl) mix (disk_Disk_Steps.cok N) (fun _ => rfl) (fun _ => rfl) (disk_Disk_Steps.pok N) (fun x y h => (disk_Disk_Steps.ev N x).trans h)
/-- hayloft/hayloftlaw04.begun -/
def law_begun.ins : Sh := (.cons (.val (.int .i64)) .nil)
def law_begun.C (N : Nat) : Ctx := ⟨U, 71, fun _ => true, gam [(20, (disk_New.S N).con), (12, (disk_Disk_Append.S N).con), (31, (disk_Disk_Sync.S N).con), (13, (disk_Disk_Read.S N).con), (27, (disk_Disk_Crash.S N).con), (23, (disk_Disk_Steps.S N).con)], gamY []⟩
theorem law_begun.cok (N : Nat) : (law_begun.C N).Ok Try.prog := ⟨U_ok, GamOk.cons (disk_New.ok N) (GamOk.cons (disk_Disk_Append.ok N) (GamOk.cons (disk_Disk_Sync.ok N) (GamOk.cons (disk_Disk_Read.ok N) (GamOk.cons (disk_Disk_Crash.ok N) (GamOk.cons (disk_Disk_Steps.ok N) (GamOk.nil)))))), GamYOk.nil⟩
def law_begun.code : Code := Try.f11.body.getD .skip
def law_begun.outs : Sh := (.cons (.box 67 (.cons (.val (.int .i64)) (.cons (.val (.int .i64)) (.cons (.own 3000000 (.pair .str (.pair (.slice .byte) (.int .i64)))) (.cons (.val (.int .i64)) (.cons (.val (.int .i64)) (.cons (.val .bool) .nil))))))) (.cons (.val .bool) .nil))
def law_begun.run (N : Nat) (room_ : Int) : Option ((Int × Int × (List ((List UInt8) × ((List UInt8) × Int))) × Int × Int × Bool × Unit) × Bool × Unit) :=
  obind (disk_New.run N (10 : Int)) fun ((room1, used, files, steps, left, dead, _), _) =>
    obind (disk_Disk_Append.run N room1 used files steps left dead ([(97 : UInt8)] : List UInt8) ([(1 : UInt8), (2 : UInt8)] : List UInt8)) fun ((room2, used1, files1, steps1, left1, dead1, _), n_, _) =>
      bif !(decide (n_ = (0 : Int))) then
        none
      else
        obind (disk_Disk_Sync.run N room2 used1 files1 steps1 left1 dead1 ([(97 : UInt8)] : List UInt8)) fun ((room3, used2, files2, steps2, left2, dead2, _), n1, _) =>
          bif !(decide (n1 = (0 : Int))) then
            none
          else
            obind (disk_Disk_Append.run N room3 used2 files2 steps2 left2 dead2 ([(97 : UInt8)] : List UInt8) ([(3 : UInt8)] : List UInt8)) fun ((room4, used3, files3, steps3, left3, dead3, _), n2, _) =>
              bif !(decide (n2 = (0 : Int))) then
                none
              else
                obind (disk_Disk_Read.run N room4 used3 files3 steps3 left3 dead3 ([(97 : UInt8)] : List UInt8)) fun (l, b, _) =>
                  obind (disk_Disk_Crash.run N room4 used3 files3 steps3 left3 dead3 ([] : List Int)) fun ((room5, used4, files4, steps4, left4, dead4, _), (room6, used5, files5, steps5, left5, dead5, _), _) =>
                    obind (disk_Disk_Read.run N room6 used5 files5 steps5 left5 dead5 ([(97 : UInt8)] : List UInt8)) fun (l1, b1, _) =>
                      obind (disk_New.run N room_) fun ((room7, used6, files6, steps6, left6, dead6, _), _) =>
                        bif b then
                          bif b1 then
                            bif decide (l = ([(1 : UInt8), (2 : UInt8), (3 : UInt8)] : List UInt8)) then
                              bif decide (l1 = ([(1 : UInt8), (2 : UInt8)] : List UInt8)) then
                                obind (disk_Disk_Steps.run N room5 used4 files4 steps4 left4 dead4) fun (n3, _) =>
                                  some ((room7, used6, files6, steps6, left6, dead6, ()), decide (n3 = (3 : Int)), ())
                              else some ((room7, used6, files6, steps6, left6, dead6, ()), false, ())
                            else some ((room7, used6, files6, steps6, left6, dead6, ()), false, ())
                          else some ((room7, used6, files6, steps6, left6, dead6, ()), false, ())
                        else some ((room7, used6, files6, steps6, left6, dead6, ()), false, ())
def law_begun.fn (N : Nat) (x : Sh.den law_begun.ins) : Option (Sh.den law_begun.outs) := law_begun.run N x.1
def law_begun.S (N : Nat) : Fs := ⟨law_begun.ins, law_begun.outs, law_begun.fn N⟩
def law_begun.lam (N : Nat) : Pcs := pcs []
theorem law_begun.pok (N : Nat) : (law_begun.lam N).Ok Try.prog (law_begun.C N) law_begun.code := pcsOk_nil
theorem law_begun.ev (N : Nat) (x : Sh.den law_begun.ins) : evC (law_begun.C N) law_begun.code (law_begun.lam N) ⟨envOf 0 (bld (fun k => k) law_begun.ins x 0).1, (bld (fun k => k) law_begun.ins x 0).2.1, 1000⟩ (endF U law_begun.outs Try.f11.results.toList []) = law_begun.fn N x := by kernel_rfl
theorem law_begun.ok (N : Nat) : (law_begun.S N).con.Ok Try.prog 11 := fn_ok (F := law_begun.S N) (n0 := 1000) Try.func11 (by kernel_rfl) (show Try.f11.body = some law_begun.code by rfl) mix (law_begun.cok N) (fun _ => rfl) (fun _ => rfl) (law_begun.pok N) (fun x y h => (law_begun.ev N x).trans h)
/-- hayloft/hayloftref04.New -/
def ref_New.ins : Sh := (.cons (.val (.int .i64)) .nil)
def ref_New.C (N : Nat) : Ctx := ⟨U, 6, fun _ => true, gam [], gamY []⟩
theorem ref_New.cok (N : Nat) : (ref_New.C N).Ok Try.prog := ⟨U_ok, GamOk.nil, GamYOk.nil⟩
def ref_New.code : Code := Try.f16.body.getD .skip
def ref_New.outs : Sh := (.cons (.val (.pair (.int .i64) (.pair (.int .i64) (.pair (.slice (.pair .str (.pair (.slice .byte) (.int .i64)))) (.pair .bool (.pair .bool (.int .i64))))))) .nil)
def ref_New.run (N : Nat) (room_ : Int) : Option ((Int × (Int × ((List ((List UInt8) × ((List UInt8) × Int))) × (Bool × (Bool × Int))))) × Unit) :=
  some ((max room_ (0 : Int), (0 : Int), ([] : List ((List UInt8) × ((List UInt8) × Int))), false, false, (0 : Int)), ())
def ref_New.fn (N : Nat) (x : Sh.den ref_New.ins) : Option (Sh.den ref_New.outs) := ref_New.run N x.1
def ref_New.S (N : Nat) : Fs := ⟨ref_New.ins, ref_New.outs, ref_New.fn N⟩
def ref_New.lam (N : Nat) : Pcs := pcs []
theorem ref_New.pok (N : Nat) : (ref_New.lam N).Ok Try.prog (ref_New.C N) ref_New.code := pcsOk_nil
theorem ref_New.ev (N : Nat) (x : Sh.den ref_New.ins) : evC (ref_New.C N) ref_New.code (ref_New.lam N) ⟨envOf 0 (bld (fun k => k) ref_New.ins x 0).1, (bld (fun k => k) ref_New.ins x 0).2.1, 1000⟩ (endF U ref_New.outs Try.f16.results.toList []) = ref_New.fn N x := by kernel_rfl
theorem ref_New.ok (N : Nat) : (ref_New.S N).con.Ok Try.prog 16 := fn_ok (F := ref_New.S N) (n0 := 1000) Try.func16 (by kernel_rfl) (show Try.f16.body = some ref_New.code by rfl) mix (ref_New.cok N) (fun _ => rfl) (fun _ => rfl) (ref_New.pok N) (fun x y h => (ref_New.ev N x).trans h)
/-- hayloft/hayloftref04.At -/
def ref_At.ins : Sh := (.cons (.val (.pair (.int .i64) (.pair (.int .i64) (.pair (.slice (.pair .str (.pair (.slice .byte) (.int .i64)))) (.pair .bool (.pair .bool (.int .i64))))))) (.cons (.val .str) .nil))
def ref_At.C (N : Nat) : Ctx := ⟨U, 22, fun _ => true, gam [], gamY []⟩
theorem ref_At.cok (N : Nat) : (ref_At.C N).Ok Try.prog := ⟨U_ok, GamOk.nil, GamYOk.nil⟩
def ref_At.code : Code := Try.f53.body.getD .skip
def ref_At_0.ins : Sh := (.cons (.val .str) (.cons (.rbox 39 (.cons (.val (.int .i64)) (.cons (.val (.int .i64)) (.cons (.val (.slice (.pair .str (.pair (.slice .byte) (.int .i64))))) (.cons (.val .bool) (.cons (.val .bool) (.cons (.val (.int .i64)) .nil))))))) (.cons (.val (.int .i64)) .nil)))
def ref_At_0.ts : List Tmp := [1, 2, 5]
def ref_At_0.asg : List Tmp := [4, 5, 6, 7, 8, 9, 10, 11, 12, 13, 14, 15, 16, 17, 18, 19, 20, 21]
def ref_At_0.C (N : Nat) : Ctx := { ref_At.C N with may := fun t => ref_At_0.asg.any (Nat.beq t) }
def ref_At_0.code : Code := loopBody (sub ref_At.code [true, false, true, false])
theorem ref_At_0.cok (N : Nat) : (ref_At_0.C N).Ok Try.prog := ⟨(ref_At.cok N).U, (ref_At.cok N).Γ, (ref_At.cok N).Y⟩
def ref_At_0.alts : List Alt := [⟨.ret, [4], (.cons (.val (.int .i64)) .nil)⟩, ⟨(.exit 0), [], .nil⟩]
def ref_At_0.go (N : Nat) : Nat → (List UInt8) → Int → Int → (List ((List UInt8) × ((List UInt8) × Int))) → Bool → Bool → Int → Int → Option ((Int × Unit) ⊕ Unit)
  | 0, _, _, _, _, _, _, _, _ => none
  | fuel + 1, name, room_, steps, files, armed, dead, left, i =>
    bif decide (i < (files.length : Int)) then
      bif inB i files.length then
        bif decide ((files.getD i.toNat (([] : List UInt8), ([] : List UInt8), (0 : Int))).1 = name) then
          some (.inl (i, ()))
        else ref_At_0.go N fuel name room_ steps files armed dead left (IntKind.i64.wrap (i + (1 : Int)))
      else none
    else some (.inr ())
def ref_At_0.g (N n : Nat) (x : Sh.den ref_At_0.ins) : Option (altsDen ref_At_0.alts) := ref_At_0.go N n x.1 x.2.1.1 x.2.1.2.1 x.2.1.2.2.1 x.2.1.2.2.2.1 x.2.1.2.2.2.2.1 x.2.1.2.2.2.2.2.1 x.2.2.1
def ref_At_0.P (N : Nat) : Ps := ⟨ref_At_0.ts, ref_At_0.ins, ref_At_0.asg, ref_At_0.alts, ref_At_0.g N N⟩
def ref_At_0.lam (N : Nat) : Pcs := pcs []
theorem ref_At_0.pok (N : Nat) : (ref_At_0.lam N).Ok Try.prog (ref_At_0.C N) ref_At_0.code := pcsOk_nil
theorem ref_At_0.ev (N n : Nat) (x : Sh.den ref_At_0.ins) : evC (ref_At_0.C N) ref_At_0.code (ref_At_0.lam N) ((ref_At_0.P N).canon 1000 x) (loopK (ref_At_0.P N) (ref_At_0.g N n)) = ref_At_0.g N (n + 1) x := by kernel_rfl
theorem ref_At_0.ok (N : Nat) : ((ref_At_0.P N).pc (ref_At.C N)).Ok Try.prog (ref_At.C N) (.loop ref_At_0.code) := loop_ok (F := ref_At_0.P N) (n0 := 1000) (N := N) (ref_At.cok N) mix (ref_At_0.pok N) (ref_At_0.g N) (fun x => by rfl) rfl (fun n x y h => (ref_At_0.ev N n x).trans h)
def ref_At.outs : Sh := (.cons (.val (.int .i64)) .nil)
def ref_At.run (N : Nat) (d : (Int × (Int × ((List ((List UInt8) × ((List UInt8) × Int))) × (Bool × (Bool × Int)))))) (name : (List UInt8)) : Option (Int × Unit) :=
  obind (ref_At_0.go N N name d.1 d.2.1 d.2.2.1 d.2.2.2.1 d.2.2.2.2.1 d.2.2.2.2.2 (0 : Int)) fun y => match y with
  | .inl (t4, _) =>
      some (t4, ())
  | .inr (_) =>
      some ((-1 : Int), ())
def ref_At.fn (N : Nat) (x : Sh.den ref_At.ins) : Option (Sh.den ref_At.outs) := ref_At.run N x.1 x.2.1
def ref_At.S (N : Nat) : Fs := ⟨ref_At.ins, ref_At.outs, ref_At.fn N⟩
def ref_At.lam (N : Nat) : Pcs := pcs [([true, false, true, false], (ref_At_0.P N).pc (ref_At.C N))]
theorem ref_At.pok (N : Nat) : (ref_At.lam N).Ok Try.prog (ref_At.C N) ref_At.code := pcsOk_cons (c1 := .loop ref_At_0.code) (by kernel_rfl) (ref_At_0.ok N) (pcsOk_nil)
theorem ref_At.ev (N : Nat) (x : Sh.den ref_At.ins) : evC (ref_At.C N) ref_At.code (ref_At.lam N) ⟨envOf 0 (bld (fun k => k) ref_At.ins x 0).1, (bld (fun k => k) ref_At.ins x 0).2.1, 1000⟩ (endF U ref_At.outs Try.f53.results.toList []) = ref_At.fn N x := by kernel_rfl
theorem ref_At.ok (N : Nat) : (ref_At.S N).con.Ok Try.prog 53 := fn_ok (F := ref_At.S N) (n0 := 1000) Try.func53 (by kernel_rfl) (show Try.f53.body = some ref_At.code by rfl) mix (ref_At.cok N) (fun _ => rfl) (fun _ => rfl) (ref_At.pok N) (fun x y h => (ref_At.ev N x).trans h)
def Y1.ins : Sh := (.cons (.box 30 (.cons (.own 9 .str) .nil)) (.cons (.val .str) .nil))
def Y1.C (N : Nat) : Ctx := ⟨U, 13, fun _ => true, gam [], gamY []⟩
theorem Y1.cok (N : Nat) : (Y1.C N).Ok Try.prog := ⟨U_ok, GamOk.nil, GamYOk.nil⟩
def Y1.code : Code := site1.body
def Y1.alts : List Alt := [⟨.normal, [], (.cons (.upd 0 30 (.cons (.own 9 .str) .nil)) .nil)⟩]
def Y1.run (N : Nat) (l : (List (List UInt8))) (t7 : (List UInt8)) : Option ((((List (List UInt8)) × Unit) × Unit)) :=
  bif room (l.length + 1) 16 then
    some ((l ++ ([t7] : List (List UInt8)), ()), ())
  else none
def Y1.fn (N : Nat) (x : Sh.den Y1.ins) : Option (altsDen Y1.alts) := Y1.run N x.1.1 x.2.1
def Y1.F (N : Nat) : Ys := ⟨[3], [7], Y1.ins, Y1.alts, Y1.fn N⟩
def Y1.yc (N : Nat) : Yc := (Y1.F N).yc
def Y1.lam (N : Nat) : Pcs := pcs []
theorem Y1.pok (N : Nat) : (Y1.lam N).Ok Try.prog (Y1.C N) site1.body := pcsOk_nil
theorem Y1.ev (N : Nat) (x : Sh.den Y1.ins) : evC (Y1.C N) site1.assign (pcs []) ⟨addT [3, 7] (bld (fun k => k) Y1.ins x 0).1 [], (bld (fun k => k) Y1.ins x 0).2.1, 1000⟩ (thenC fun s => evC (Y1.C N) site1.body (Y1.lam N) s (altK Y1.alts)) = Y1.fn N x := by kernel_rfl
theorem Y1.ok (N : Nat) : (Y1.yc N).Ok Try.prog 1000001 := ys_ok (σ := site1) (k := 1) (C := Y1.C N) (F := Y1.F N) (n0 := 1000) (fun _ => rfl) (Y1.cok N) mix (fun _ => rfl) (show site1.ps.toList = [7] by kernel_rfl) (show site1.ts = [3] by kernel_rfl) (show site1.nt = 13 by kernel_rfl) rfl rfl rfl rfl rfl pcsOk_nil (Y1.pok N) (fun x y h => (Y1.ev N x).trans h)
/-- (*hayloft/disk.Disk).names$1 -/
def disk_Disk_names_f1_b.ins : Sh := (.cons (.box 1000001 (.cons (.val (.int .i64)) (.cons (.junk) (.cons (.junk) (.cons (.junk) (.cons (.box 30 (.cons (.own 9 .str) .nil)) .nil)))))) (.cons (.rbox 23 (.cons (.rbox 67 (.cons (.val (.int .i64)) (.cons (.val (.int .i64)) (.cons (.rown 3000000 (.pair .str (.pair (.slice .byte) (.int .i64)))) (.cons (.val (.int .i64)) (.cons (.val (.int .i64)) (.cons (.val .bool) .nil))))))) .nil)) .nil))
def disk_Disk_names_f1_b.C (N : Nat) : Ctx := ⟨U, 21, fun _ => true, gam [(58, (maps_Keys_map_string_disk_file_string_disk_file.S N).con), (57, (slices_Sorted_keys58.S N).con)], gamY [(1000001, Y1.yc N)]⟩
theorem disk_Disk_names_f1_b.cok (N : Nat) : (disk_Disk_names_f1_b.C N).Ok Try.prog := ⟨U_ok, GamOk.cons (maps_Keys_map_string_disk_file_string_disk_file.ok N) (GamOk.cons (slices_Sorted_keys58.ok N) (GamOk.nil)), GamYOk.cons (Y1.ok N) (GamYOk.nil)⟩
def disk_Disk_names_f1_b.code : Code := Try.f56.body.getD .skip
def disk_Disk_names_f1_b_0.ins : Sh := (.cons (.box 1000001 (.cons (.val (.int .i64)) (.cons (.junk) (.cons (.junk) (.cons (.junk) (.cons (.box 30 (.cons (.own 9 .str) .nil)) .nil)))))) (.cons (.rown 9 .str) (.cons (.val (.int .i64)) (.cons (.val (.int .i64)) .nil))))
def disk_Disk_names_f1_b_0.ts : List Tmp := [0, 10, 11, 12]
def disk_Disk_names_f1_b_0.asg : List Tmp := [4, 12, 13, 14, 15, 16, 17, 18, 19, 20]
def disk_Disk_names_f1_b_0.C (N : Nat) : Ctx := { disk_Disk_names_f1_b.C N with may := fun t => disk_Disk_names_f1_b_0.asg.any (Nat.beq t) }
def disk_Disk_names_f1_b_0.code : Code := loopBody (sub disk_Disk_names_f1_b.code [true, false])
theorem disk_Disk_names_f1_b_0.cok (N : Nat) : (disk_Disk_names_f1_b_0.C N).Ok Try.prog := ⟨(disk_Disk_names_f1_b.cok N).U, (disk_Disk_names_f1_b.cok N).Γ, (disk_Disk_names_f1_b.cok N).Y⟩
def disk_Disk_names_f1_b_0.alts : List Alt := [⟨(.exit 0), [], (.cons (.upd 1 30 (.cons (.own 9 .str) .nil)) (.cons (.upd 0 1000001 (.cons (.val (.int .i64)) (.cons (.junk) (.cons (.junk) (.cons (.junk) (.cons (.ref 0) .nil)))))) .nil))⟩]
def disk_Disk_names_f1_b_0.go (N : Nat) : Nat → Int → (List (List UInt8)) → (List (List UInt8)) → Int → Int → Option ((((List (List UInt8)) × Unit) × (Int × Unit × Unit × Unit × Unit × Unit) × Unit))
  | 0, _, _, _, _, _ => none
  | fuel + 1, yield, yield1, t10, t11, t12 =>
    bif decide (t12 < t11) then
      bif inB t12 t10.length then
        bif decide (t12.toNat < t10.length) then
          bif decide (yield = (0 : Int)) then
            obind (Y1.run N yield1 (t10.getD t12.toNat ([] : List UInt8))) fun ((v, _), _) =>
              disk_Disk_names_f1_b_0.go N fuel (0 : Int) v t10 t11 (IntKind.i64.wrap (t12 + (1 : Int)))
          else none
        else none
      else none
    else some ((yield1, ()), (yield, (), (), (), (), ()), ())
def disk_Disk_names_f1_b_0.g (N n : Nat) (x : Sh.den disk_Disk_names_f1_b_0.ins) : Option (altsDen disk_Disk_names_f1_b_0.alts) := disk_Disk_names_f1_b_0.go N n x.1.1 x.1.2.2.2.2.1.1 x.2.1 x.2.2.1 x.2.2.2.1
def disk_Disk_names_f1_b_0.P (N : Nat) : Ps := ⟨disk_Disk_names_f1_b_0.ts, disk_Disk_names_f1_b_0.ins, disk_Disk_names_f1_b_0.asg, disk_Disk_names_f1_b_0.alts, disk_Disk_names_f1_b_0.g N N⟩
def disk_Disk_names_f1_b_0.lam (N : Nat) : Pcs := pcs []
theorem disk_Disk_names_f1_b_0.pok (N : Nat) : (disk_Disk_names_f1_b_0.lam N).Ok Try.prog (disk_Disk_names_f1_b_0.C N) disk_Disk_names_f1_b_0.code := pcsOk_nil
theorem disk_Disk_names_f1_b_0.ev (N n : Nat) (x : Sh.den disk_Disk_names_f1_b_0.ins) : evC (disk_Disk_names_f1_b_0.C N) disk_Disk_names_f1_b_0.code (disk_Disk_names_f1_b_0.lam N) ((disk_Disk_names_f1_b_0.P N).canon 1000 x) (loopK (disk_Disk_names_f1_b_0.P N) (disk_Disk_names_f1_b_0.g N n)) = disk_Disk_names_f1_b_0.g N (n + 1) x := by kernel_rfl
theorem disk_Disk_names_f1_b_0.ok (N : Nat) : ((disk_Disk_names_f1_b_0.P N).pc (disk_Disk_names_f1_b.C N)).Ok Try.prog (disk_Disk_names_f1_b.C N) (.loop disk_Disk_names_f1_b_0.code) := loop_ok (F := disk_Disk_names_f1_b_0.P N) (n0 := 1000) (N := N) (disk_Disk_names_f1_b.cok N) mix (disk_Disk_names_f1_b_0.pok N) (disk_Disk_names_f1_b_0.g N) (fun x => by rfl) rfl (fun n x y h => (disk_Disk_names_f1_b_0.ev N n x).trans h)
def disk_Disk_names_f1_b.outs : Sh := (.cons (.upd 1 30 (.cons (.own 9 .str) .nil)) (.cons (.upd 0 1000001 (.cons (.val (.int .i64)) (.cons (.junk) (.cons (.junk) (.cons (.junk) (.cons (.ref 0) .nil)))))) .nil))
def disk_Disk_names_f1_b.run (N : Nat) (yield : Int) (yield1 : (List (List UInt8))) (room_ : Int) (used : Int) (files : (List ((List UInt8) × ((List UInt8) × Int)))) (steps : Int) (left : Int) (dead : Bool) : Option (((List (List UInt8)) × Unit) × (Int × Unit × Unit × Unit × Unit × Unit) × Unit) :=
  obind (maps_Keys_map_string_disk_file_string_disk_file.run N files) fun (((_, _), _), _) =>
    obind (slices_Sorted_keys58.run N files) fun (names, _) =>
      obind (disk_Disk_names_f1_b_0.go N N yield yield1 names (names.length : Int) (0 : Int)) fun ((v, _), (v1, _, _, _, _, _), _) =>
        some ((v, ()), (v1, (), (), (), (), ()), ())
def disk_Disk_names_f1_b.fn (N : Nat) (x : Sh.den disk_Disk_names_f1_b.ins) : Option (Sh.den disk_Disk_names_f1_b.outs) := disk_Disk_names_f1_b.run N x.1.1 x.1.2.2.2.2.1.1 x.2.1.1.1 x.2.1.1.2.1 x.2.1.1.2.2.1 x.2.1.1.2.2.2.1 x.2.1.1.2.2.2.2.1 x.2.1.1.2.2.2.2.2.1
def disk_Disk_names_f1_b.S (N : Nat) : Fs := ⟨disk_Disk_names_f1_b.ins, disk_Disk_names_f1_b.outs, disk_Disk_names_f1_b.fn N⟩
def disk_Disk_names_f1_b.lam (N : Nat) : Pcs := pcs [([true, false], (disk_Disk_names_f1_b_0.P N).pc (disk_Disk_names_f1_b.C N))]
theorem disk_Disk_names_f1_b.pok (N : Nat) : (disk_Disk_names_f1_b.lam N).Ok Try.prog (disk_Disk_names_f1_b.C N) disk_Disk_names_f1_b.code := pcsOk_cons (c1 := .loop disk_Disk_names_f1_b_0.code) (by kernel_rfl) (disk_Disk_names_f1_b_0.ok N) (pcsOk_nil)
theorem disk_Disk_names_f1_b.ev (N : Nat) (x : Sh.den disk_Disk_names_f1_b.ins) : evC (disk_Disk_names_f1_b.C N) disk_Disk_names_f1_b.code (disk_Disk_names_f1_b.lam N) ⟨envOf 0 (bld (fun k => k) disk_Disk_names_f1_b.ins x 0).1, (bld (fun k => k) disk_Disk_names_f1_b.ins x 0).2.1, 1000⟩ (endF U disk_Disk_names_f1_b.outs Try.f56.results.toList []) = disk_Disk_names_f1_b.fn N x := by kernel_rfl
theorem disk_Disk_names_f1_b.ok (N : Nat) : (disk_Disk_names_f1_b.S N).con.Ok Try.prog 56 := fn_ok (F := disk_Disk_names_f1_b.S N) (n0 := 1000) Try.func56 (by kernel_rfl) (show Try.f56.body = some disk_Disk_names_f1_b.code by rfl) mix (disk_Disk_names_f1_b.cok N) (fun _ => rfl) (fun _ => rfl) (disk_Disk_names_f1_b.pok N) (fun x y h => (disk_Disk_names_f1_b.ev N x).trans h)
/-- (*hayloft/disk.Disk).Names -/
def disk_Disk_Names.ins : Sh := (.cons (.box 67 (.cons (.val (.int .i64)) (.cons (.val (.int .i64)) (.cons (.own 3000000 (.pair .str (.pair (.slice .byte) (.int .i64)))) (.cons (.val (.int .i64)) (.cons (.val (.int .i64)) (.cons (.val .bool) .nil))))))) .nil)
def disk_Disk_Names.C (N : Nat) : Ctx := ⟨U, 13, fun _ => true, gam [(37, (disk_Disk_names.S N).con), (56, (disk_Disk_names_f1_b.S N).con)], gamY []⟩
theorem disk_Disk_Names.cok (N : Nat) : (disk_Disk_Names.C N).Ok Try.prog := ⟨U_ok, GamOk.cons (disk_Disk_names.ok N) (GamOk.cons (disk_Disk_names_f1_b.ok N) (GamOk.nil)), GamYOk.nil⟩
def disk_Disk_Names.code : Code := Try.f14.body.getD .skip
def disk_Disk_Names.outs : Sh := (.cons (.upd 0 67 (.cons (.val (.int .i64)) (.cons (.val (.int .i64)) (.cons (.own 3000000 (.pair .str (.pair (.slice .byte) (.int .i64)))) (.cons (.val (.int .i64)) (.cons (.val (.int .i64)) (.cons (.val .bool) .nil))))))) (.cons (.own 9 .str) .nil))
def disk_Disk_Names.run (N : Nat) (room_ : Int) (used : Int) (files : (List ((List UInt8) × ((List UInt8) × Int)))) (steps : Int) (left : Int) (dead : Bool) : Option ((Int × Int × (List ((List UInt8) × ((List UInt8) × Int))) × Int × Int × Bool × Unit) × (List (List UInt8)) × Unit) :=
  obind (disk_Disk_names.run N room_ used files steps left dead) fun ((room1, used1, files1, steps1, left1, dead1, _), ((_, _), _), _) =>
    obind (disk_Disk_names_f1_b.run N (0 : Int) ([] : List (List UInt8)) room1 used1 files1 steps1 left1 dead1) fun ((v, _), (v1, _, _, _, _, _), _) =>
      bif decide (v1 = (0 : Int)) then
        some ((room1, used1, files1, steps1, left1, dead1, ()), v, ())
      else none
def disk_Disk_Names.fn (N : Nat) (x : Sh.den disk_Disk_Names.ins) : Option (Sh.den disk_Disk_Names.outs) := disk_Disk_Names.run N x.1.1 x.1.2.1 x.1.2.2.1 x.1.2.2.2.1 x.1.2.2.2.2.1 x.1.2.2.2.2.2.1
def disk_Disk_Names.S (N : Nat) : Fs := ⟨disk_Disk_Names.ins, disk_Disk_Names.outs, disk_Disk_Names.fn N⟩
def disk_Disk_Names.lam (N : Nat) : Pcs := pcs [([true, true, false, true, false], rfPc (disk_Disk_Names.C N) 1000001 (.tmp 6) [3] [.normal])]
theorem disk_Disk_Names.pok (N : Nat) : (disk_Disk_Names.lam N).Ok Try.prog (disk_Disk_Names.C N) disk_Disk_Names.code := pcsOk_cons (c1 := .rangeFunc (.tmp 6) site1.ps site1.assign site1.body) (by kernel_rfl) (rf_ok (k := 1) (fun _ => rfl) (disk_Disk_Names.cok N)) (pcsOk_nil)
theorem disk_Disk_Names.ev (N : Nat) (x : Sh.den disk_Disk_Names.ins) : evC (disk_Disk_Names.C N) disk_Disk_Names.code (disk_Disk_Names.lam N) ⟨envOf 0 (bld (fun k => k) disk_Disk_Names.ins x 0).1, (bld (fun k => k) disk_Disk_Names.ins x 0).2.1, 1000⟩ (endF U disk_Disk_Names.outs Try.f14.results.toList []) = disk_Disk_Names.fn N x := by kernel_rfl
theorem disk_Disk_Names.ok (N : Nat) : (disk_Disk_Names.S N).con.Ok Try.prog 14 := fn_ok (F := disk_Disk_Names.S N) (n0 := 1000) Try.func14 (by kernel_rfl) (show Try.f14.body = some disk_Disk_Names.code by rfl) mix (disk_Disk_Names.cok N) (fun _ => rfl) (fun _ => rfl) (disk_Disk_Names.pok N) (fun x y h => (disk_Disk_Names.ev N x).trans h)
/-- hayloft/hayloftref04.Free -/
def ref_Free.ins : Sh := (.cons (.val (.pair (.int .i64) (.pair (.int .i64) (.pair (.slice (.pair .str (.pair (.slice .byte) (.int .i64)))) (.pair .bool (.pair .bool (.int .i64))))))) .nil)
def ref_Free.C (N : Nat) : Ctx := ⟨U, 24, fun _ => true, gam [], gamY []⟩
theorem ref_Free.cok (N : Nat) : (ref_Free.C N).Ok Try.prog := ⟨U_ok, GamOk.nil, GamYOk.nil⟩
def ref_Free.code : Code := Try.f50.body.getD .skip
def ref_Free_0.ins : Sh := (.cons (.rbox 39 (.cons (.val (.int .i64)) (.cons (.val (.int .i64)) (.cons (.val (.slice (.pair .str (.pair (.slice .byte) (.int .i64))))) (.cons (.val .bool) (.cons (.val .bool) (.cons (.val (.int .i64)) .nil))))))) (.cons (.val (.int .i64)) (.cons (.val (.int .i64)) .nil)))
def ref_Free_0.ts : List Tmp := [1, 3, 4]
def ref_Free_0.asg : List Tmp := [3, 4, 7, 8, 9, 10, 11, 12, 13, 14, 15, 16, 17, 18, 19, 20, 21, 22]
def ref_Free_0.C (N : Nat) : Ctx := { ref_Free.C N with may := fun t => ref_Free_0.asg.any (Nat.beq t) }
def ref_Free_0.code : Code := loopBody (sub ref_Free.code [true, true, false, true, false])
theorem ref_Free_0.cok (N : Nat) : (ref_Free_0.C N).Ok Try.prog := ⟨(ref_Free.cok N).U, (ref_Free.cok N).Γ, (ref_Free.cok N).Y⟩
def ref_Free_0.alts : List Alt := [⟨(.exit 0), [3], (.cons (.val (.int .i64)) .nil)⟩]
def ref_Free_0.go (N : Nat) : Nat → Int → Int → (List ((List UInt8) × ((List UInt8) × Int))) → Bool → Bool → Int → Int → Int → Option ((Int × Unit))
  | 0, _, _, _, _, _, _, _, _ => none
  | fuel + 1, room_, steps, files, armed, dead, left, n_, i =>
    bif decide (i < (files.length : Int)) then
      bif inB i files.length then
        ref_Free_0.go N fuel room_ steps files armed dead left (IntKind.i64.wrap (n_ - ((files.getD i.toNat (([] : List UInt8), ([] : List UInt8), (0 : Int))).2.1.length : Int))) (IntKind.i64.wrap (i + (1 : Int)))
      else none
    else some (n_, ())
def ref_Free_0.g (N n : Nat) (x : Sh.den ref_Free_0.ins) : Option (altsDen ref_Free_0.alts) := ref_Free_0.go N n x.1.1 x.1.2.1 x.1.2.2.1 x.1.2.2.2.1 x.1.2.2.2.2.1 x.1.2.2.2.2.2.1 x.2.1 x.2.2.1
def ref_Free_0.P (N : Nat) : Ps := ⟨ref_Free_0.ts, ref_Free_0.ins, ref_Free_0.asg, ref_Free_0.alts, ref_Free_0.g N N⟩
def ref_Free_0.lam (N : Nat) : Pcs := pcs []
theorem ref_Free_0.pok (N : Nat) : (ref_Free_0.lam N).Ok Try.prog (ref_Free_0.C N) ref_Free_0.code := pcsOk_nil
theorem ref_Free_0.ev (N n : Nat) (x : Sh.den ref_Free_0.ins) : evC (ref_Free_0.C N) ref_Free_0.code (ref_Free_0.lam N) ((ref_Free_0.P N).canon 1000 x) (loopK (ref_Free_0.P N) (ref_Free_0.g N n)) = ref_Free_0.g N (n + 1) x := by kernel_rfl
theorem ref_Free_0.ok (N : Nat) : ((ref_Free_0.P N).pc (ref_Free.C N)).Ok Try.prog (ref_Free.C N) (.loop ref_Free_0.code) := loop_ok (F := ref_Free_0.P N) (n0 := 1000) (N := N) (ref_Free.cok N) mix (ref_Free_0.pok N) (ref_Free_0.g N) (fun x => by rfl) rfl (fun n x y h => (ref_Free_0.ev N n x).trans h)
def ref_Free.outs : Sh := (.cons (.val (.int .i64)) .nil)
def ref_Free.run (N : Nat) (d : (Int × (Int × ((List ((List UInt8) × ((List UInt8) × Int))) × (Bool × (Bool × Int)))))) : Option (Int × Unit) :=
  obind (ref_Free_0.go N N d.1 d.2.1 d.2.2.1 d.2.2.2.1 d.2.2.2.2.1 d.2.2.2.2.2 d.1 (0 : Int)) fun (n_, _) =>
    some (n_, ())
def ref_Free.fn (N : Nat) (x : Sh.den ref_Free.ins) : Option (Sh.den ref_Free.outs) := ref_Free.run N x.1
def ref_Free.S (N : Nat) : Fs := ⟨ref_Free.ins, ref_Free.outs, ref_Free.fn N⟩
def ref_Free.lam (N : Nat) : Pcs := pcs [([true, true, false, true, false], (ref_Free_0.P N).pc (ref_Free.C N))]
theorem ref_Free.pok (N : Nat) : (ref_Free.lam N).Ok Try.prog (ref_Free.C N) ref_Free.code := pcsOk_cons (c1 := .loop ref_Free_0.code) (by kernel_rfl) (ref_Free_0.ok N) (pcsOk_nil)
theorem ref_Free.ev (N : Nat) (x : Sh.den ref_Free.ins) : evC (ref_Free.C N) ref_Free.code (ref_Free.lam N) ⟨envOf 0 (bld (fun k => k) ref_Free.ins x 0).1, (bld (fun k => k) ref_Free.ins x 0).2.1, 1000⟩ (endF U ref_Free.outs Try.f50.results.toList []) = ref_Free.fn N x := by kernel_rfl
theorem ref_Free.ok (N : Nat) : (ref_Free.S N).con.Ok Try.prog 50 := fn_ok (F := ref_Free.S N) (n0 := 1000) Try.func50 (by kernel_rfl) (show Try.f50.body = some ref_Free.code by rfl) mix (ref_Free.cok N) (fun _ => rfl) (fun _ => rfl) (ref_Free.pok N) (fun x y h => (ref_Free.ev N x).trans h)
/-- (*hayloft/disk.Disk).Dead -/
def disk_Disk_Dead.ins : Sh := (.cons (.rbox 67 (.cons (.val (.int .i64)) (.cons (.val (.int .i64)) (.cons (.rown 3000000 (.pair .str (.pair (.slice .byte) (.int .i64)))) (.cons (.val (.int .i64)) (.cons (.val (.int .i64)) (.cons (.val .bool) .nil))))))) .nil)
def disk_Disk_Dead.C (N : Nat) : Ctx := ⟨U, 7, fun _ => true, gam [], gamY []⟩
theorem disk_Disk_Dead.cok (N : Nat) : (disk_Disk_Dead.C N).Ok Try.prog := ⟨U_ok, GamOk.nil, GamYOk.nil⟩
def disk_Disk_Dead.code : Code := Try.f22.body.getD .skip
def disk_Disk_Dead.outs : Sh := (.cons (.val .bool) .nil)
def disk_Disk_Dead.run (N : Nat) (room_ : Int) (used : Int) (files : (List ((List UInt8) × ((List UInt8) × Int)))) (steps : Int) (left : Int) (dead : Bool) : Option (Bool × Unit) :=
  some (dead, ())
def disk_Disk_Dead.fn (N : Nat) (x : Sh.den disk_Disk_Dead.ins) : Option (Sh.den disk_Disk_Dead.outs) := disk_Disk_Dead.run N x.1.1 x.1.2.1 x.1.2.2.1 x.1.2.2.2.1 x.1.2.2.2.2.1 x.1.2.2.2.2.2.1
def disk_Disk_Dead.S (N : Nat) : Fs := ⟨disk_Disk_Dead.ins, disk_Disk_Dead.outs, disk_Disk_Dead.fn N⟩
def disk_Disk_Dead.lam (N : Nat) : Pcs := pcs []
theorem disk_Disk_Dead.pok (N : Nat) : (disk_Disk_Dead.lam N).Ok Try.prog (disk_Disk_Dead.C N) disk_Disk_Dead.code := pcsOk_nil
theorem disk_Disk_Dead.ev (N : Nat) (x : Sh.den disk_Disk_Dead.ins) : evC (disk_Disk_Dead.C N) disk_Disk_Dead.code (disk_Disk_Dead.lam N) ⟨envOf 0 (bld (fun k => k) disk_Disk_Dead.ins x 0).1, (bld (fun k => k) disk_Disk_Dead.ins x 0).2.1, 1000⟩ (endF U disk_Disk_Dead.outs Try.f22.results.toList []) = disk_Disk_Dead.fn N x := by kernel_rfl
theorem disk_Disk_Dead.ok (N : Nat) : (disk_Disk_Dead.S N).con.Ok Try.prog 22 := fn_ok (F := disk_Disk_Dead.S N) (n0 := 1000) Try.func22 (by kernel_rfl) (show Try.f22.body = some disk_Disk_Dead.code by rfl) mix (disk_Disk_Dead.cok N) (fun _ => rfl) (fun _ => rfl) (disk_Disk_Dead.pok N) (fun x y h => (disk_Disk_Dead.ev N x).trans h)
/-- hayloft/hayloftlaw04.stands -/
def law_stands.ins : Sh := (.cons (.box 67 (.cons (.val (.int .i64)) (.cons (.val (.int .i64)) (.cons (.own 3000000 (.pair .str (.pair (.slice .byte) (.int .i64)))) (.cons (.val (.int .i64)) (.cons (.val (.int .i64)) (.cons (.val .bool) .nil))))))) (.cons (.val (.pair (.int .i64) (.pair (.int .i64) (.pair (.slice (.pair .str (.pair (.slice .byte) (.int .i64)))) (.pair .bool (.pair .bool (.int .i64))))))) .nil))
def law_stands.C (N : Nat) : Ctx := ⟨U, 74, fun _ => true, gam [(14, (disk_Disk_Names.S N).con), (19, (disk_Disk_Free.S N).con), (50, (ref_Free.S N).con), (23, (disk_Disk_Steps.S N).con), (22, (disk_Disk_Dead.S N).con), (13, (disk_Disk_Read.S N).con)], gamY []⟩
theorem law_stands.cok (N : Nat) : (law_stands.C N).Ok Try.prog := ⟨U_ok, GamOk.cons (disk_Disk_Names.ok N) (GamOk.cons (disk_Disk_Free.ok N) (GamOk.cons (ref_Free.ok N) (GamOk.cons (disk_Disk_Steps.ok N) (GamOk.cons (disk_Disk_Dead.ok N) (GamOk.cons (disk_Disk_Read.ok N) (GamOk.nil)))))), GamYOk.nil⟩
def law_stands.code : Code := Try.f24.body.getD .skip
def law_stands_0.ins : Sh := (.cons (.rbox 67 (.cons (.val (.int .i64)) (.cons (.val (.int .i64)) (.cons (.rown 3000000 (.pair .str (.pair (.slice .byte) (.int .i64)))) (.cons (.val (.int .i64)) (.cons (.val (.int .i64)) (.cons (.val .bool) .nil))))))) (.cons (.rown 9 .str) (.cons (.val (.slice (.pair .str (.pair (.slice .byte) (.int .i64))))) (.cons (.val (.int .i64)) (.cons (.val (.int .i64)) .nil)))))
def law_stands_0.ts : List Tmp := [0, 5, 40, 41, 42]
def law_stands_0.asg : List Tmp := [4, 6, 7, 8, 9, 42, 43, 44, 45, 46, 47, 48, 49, 50, 51, 52, 53, 54, 55, 56, 57, 58, 59, 60, 61, 62, 63, 64, 65, 66, 67, 68, 69, 70, 71, 72, 73]
def law_stands_0.C (N : Nat) : Ctx := { law_stands.C N with may := fun t => law_stands_0.asg.any (Nat.beq t) }
def law_stands_0.code : Code := loopBody (sub law_stands.code [true, true, true, false, true, false])
theorem law_stands_0.cok (N : Nat) : (law_stands_0.C N).Ok Try.prog := ⟨(law_stands.cok N).U, (law_stands.cok N).Γ, (law_stands.cok N).Y⟩
def law_stands_0.alts : List Alt := [⟨.ret, [4], (.cons (.val .bool) .nil)⟩, ⟨(.exit 0), [], .nil⟩]
def law_stands_0.go (N : Nat) : Nat → Int → Int → (List ((List UInt8) × ((List UInt8) × Int))) → Int → Int → Bool → (List (List UInt8)) → (List ((List UInt8) × ((List UInt8) × Int))) → Int → Int → Option ((Bool × Unit) ⊕ Unit)
  | 0, _, _, _, _, _, _, _, _, _, _ => none
  | fuel + 1, room_, used, files, steps, left, dead, l, t40, t41, t42 =>
    bif decide (t42 < t41) then
      bif inB t42 t40.length then
        obind (disk_Disk_Read.run N room_ used files steps left dead (t40.getD t42.toNat (([] : List UInt8), ([] : List UInt8), (0 : Int))).1) fun (l1, b, _) =>
          bif inB t42 l.length then
            bif decide (t42.toNat < l.length) then
              bif !(decide ((l.getD t42.toNat ([] : List UInt8)) = (t40.getD t42.toNat (([] : List UInt8), ([] : List UInt8), (0 : Int))).1)) then
                some (.inl (false, ()))
              else
                bif !b then
                  some (.inl (false, ()))
                else
                  bif !(decide (l1 = (t40.getD t42.toNat (([] : List UInt8), ([] : List UInt8), (0 : Int))).2.1)) then
                    some (.inl (false, ()))
                  else law_stands_0.go N fuel room_ used files steps left dead l t40 t41 (IntKind.i64.wrap (t42 + (1 : Int)))
            else none
          else none
      else none
    else some (.inr ())
def law_stands_0.g (N n : Nat) (x : Sh.den law_stands_0.ins) : Option (altsDen law_stands_0.alts) := law_stands_0.go N n x.1.1 x.1.2.1 x.1.2.2.1 x.1.2.2.2.1 x.1.2.2.2.2.1 x.1.2.2.2.2.2.1 x.2.1 x.2.2.1 x.2.2.2.1 x.2.2.2.2.1
def law_stands_0.P (N : Nat) : Ps := ⟨law_stands_0.ts, law_stands_0.ins, law_stands_0.asg, law_stands_0.alts, law_stands_0.g N N⟩
def law_stands_0.lam (N : Nat) : Pcs := pcs []
theorem law_stands_0.pok (N : Nat) : (law_stands_0.lam N).Ok Try.prog (law_stands_0.C N) law_stands_0.code := pcsOk_nil
theorem law_stands_0.ev (N n : Nat) (x : Sh.den law_stands_0.ins) : evC (law_stands_0.C N) law_stands_0.code (law_stands_0.lam N) ((law_stands_0.P N).canon 1000 x) (loopK (law_stands_0.P N) (law_stands_0.g N n)) = law_stands_0.g N (n + 1) x := by kernel_rfl
theorem law_stands_0.ok (N : Nat) : ((law_stands_0.P N).pc (law_stands.C N)).Ok Try.prog (law_stands.C N) (.loop law_stands_0.code) := loop_ok (F := law_stands_0.P N) (n0 := 1000) (N := N) (law_stands.cok N) mix (law_stands_0.pok N) (law_stands_0.g N) (fun x => by rfl) rfl (fun n x y h => (law_stands_0.ev N n x).trans h)
def law_stands.outs : Sh := (.cons (.upd 0 67 (.cons (.val (.int .i64)) (.cons (.val (.int .i64)) (.cons (.own 3000000 (.pair .str (.pair (.slice .byte) (.int .i64)))) (.cons (.val (.int .i64)) (.cons (.val (.int .i64)) (.cons (.val .bool) .nil))))))) (.cons (.val .bool) .nil))
def law_stands.run (N : Nat) (room_ : Int) (used : Int) (files : (List ((List UInt8) × ((List UInt8) × Int)))) (steps : Int) (left : Int) (dead : Bool) (r : (Int × (Int × ((List ((List UInt8) × ((List UInt8) × Int))) × (Bool × (Bool × Int)))))) : Option ((Int × Int × (List ((List UInt8) × ((List UInt8) × Int))) × Int × Int × Bool × Unit) × Bool × Unit) :=
  obind (disk_Disk_Names.run N room_ used files steps left dead) fun ((room1, used1, files1, steps1, left1, dead1, _), l, _) =>
    bif !(decide ((l.length : Int) = (r.2.2.1.length : Int))) then
      some ((room1, used1, files1, steps1, left1, dead1, ()), false, ())
    else
      obind (disk_Disk_Free.run N room1 used1 files1 steps1 left1 dead1) fun (n_, _) =>
        obind (ref_Free.run N r) fun (n1, _) =>
          bif !(decide (n_ = n1)) then
            some ((room1, used1, files1, steps1, left1, dead1, ()), false, ())
          else
            obind (disk_Disk_Steps.run N room1 used1 files1 steps1 left1 dead1) fun (n2, _) =>
              bif !(decide (n2 = r.2.1)) then
                some ((room1, used1, files1, steps1, left1, dead1, ()), false, ())
              else
                obind (disk_Disk_Dead.run N room1 used1 files1 steps1 left1 dead1) fun (b, _) =>
                  bif !(b == r.2.2.2.2.1) then
                    some ((room1, used1, files1, steps1, left1, dead1, ()), false, ())
                  else
                    obind (law_stands_0.go N N room1 used1 files1 steps1 left1 dead1 l r.2.2.1 (r.2.2.1.length : Int) (0 : Int)) fun y => match y with
                    | .inl (t4, _) =>
                        some ((room1, used1, files1, steps1, left1, dead1, ()), t4, ())
                    | .inr (_) =>
                        some ((room1, used1, files1, steps1, left1, dead1, ()), true, ())
def law_stands.fn (N : Nat) (x : Sh.den law_stands.ins) : Option (Sh.den law_stands.outs) := law_stands.run N x.1.1 x.1.2.1 x.1.2.2.1 x.1.2.2.2.1 x.1.2.2.2.2.1 x.1.2.2.2.2.2.1 x.2.1
def law_stands.S (N : Nat) : Fs := ⟨law_stands.ins, law_stands.outs, law_stands.fn N⟩
def law_stands.lam (N : Nat) : Pcs := pcs [([true, true, true, false, true, false], (law_stands_0.P N).pc (law_stands.C N))]
theorem law_stands.pok (N : Nat) : (law_stands.lam N).Ok Try.prog (law_stands.C N) law_stands.code := pcsOk_cons (c1 := .loop law_stands_0.code) (by kernel_rfl) (law_stands_0.ok N) (pcsOk_nil)
theorem law_stands.ev (N : Nat) (x : Sh.den law_stands.ins) : evC (law_stands.C N) law_stands.code (law_stands.lam N) ⟨envOf 0 (bld (fun k => k) law_stands.ins x 0).1, (bld (fun k => k) law_stands.ins x 0).2.1, 1000⟩ (endF U law_stands.outs Try.f24.results.toList []) = law_stands.fn N x := by kernel_rfl
theorem law_stands.ok (N : Nat) : (law_stands.S N).con.Ok Try.prog 24 := fn_ok (F := law_stands.S N) (n0 := 1000) Try.func24 (by kernel_rfl) (show Try.f24.body = some law_stands.code by rfl) mix (law_stands.cok N) (fun _ => rfl) (fun _ => rfl) (law_stands.pok N) (fun x y h => (law_stands.ev N x).trans h)
def maps_Clone51.S (N : Nat) : Fs := cloneFs 3000000 (.pair (.slice .byte) (.int .i64))
theorem maps_Clone51.ok (N : Nat) : (maps_Clone51.S N).con.Ok Try.prog 51 := kClone51
def maps_Clone51.run (N : Nat) (l : List ((List UInt8) × ((List UInt8) × Int))) : Option ((List ((List UInt8) × ((List UInt8) × Int))) × Unit) := some (l, ())
/-- (*hayloft/disk.Disk).Clone -/
def disk_Disk_Clone.ins : Sh := (.cons (.rbox 67 (.cons (.val (.int .i64)) (.cons (.val (.int .i64)) (.cons (.rown 3000000 (.pair .str (.pair (.slice .byte) (.int .i64)))) (.cons (.val (.int .i64)) (.cons (.val (.int .i64)) (.cons (.val .bool) .nil))))))) .nil)
def disk_Disk_Clone.C (N : Nat) : Ctx := ⟨U, 13, fun _ => true, gam [(51, (maps_Clone51.S N).con)], gamY []⟩
theorem disk_Disk_Clone.cok (N : Nat) : (disk_Disk_Clone.C N).Ok Try.prog := ⟨U_ok, GamOk.cons (maps_Clone51.ok N) (GamOk.nil), GamYOk.nil⟩
def disk_Disk_Clone.code : Code := Try.f28.body.getD .skip
def disk_Disk_Clone.outs : Sh := (.cons (.box 67 (.cons (.val (.int .i64)) (.cons (.val (.int .i64)) (.cons (.own 3000000 (.pair .str (.pair (.slice .byte) (.int .i64)))) (.cons (.val (.int .i64)) (.cons (.val (.int .i64)) (.cons (.val .bool) .nil))))))) .nil)
def disk_Disk_Clone.run (N : Nat) (room_ : Int) (used : Int) (files : (List ((List UInt8) × ((List UInt8) × Int)))) (steps : Int) (left : Int) (dead : Bool) : Option ((Int × Int × (List ((List UInt8) × ((List UInt8) × Int))) × Int × Int × Bool × Unit) × Unit) :=
  obind (maps_Clone51.run N files) fun (m, _) =>
    some ((room_, used, m, steps, left, dead, ()), ())
def disk_Disk_Clone.fn (N : Nat) (x : Sh.den disk_Disk_Clone.ins) : Option (Sh.den disk_Disk_Clone.outs) := disk_Disk_Clone.run N x.1.1 x.1.2.1 x.1.2.2.1 x.1.2.2.2.1 x.1.2.2.2.2.1 x.1.2.2.2.2.2.1
def disk_Disk_Clone.S (N : Nat) : Fs := ⟨disk_Disk_Clone.ins, disk_Disk_Clone.outs, disk_Disk_Clone.fn N⟩
def disk_Disk_Clone.lam (N : Nat) : Pcs := pcs []
theorem disk_Disk_Clone.pok (N : Nat) : (disk_Disk_Clone.lam N).Ok Try.prog (disk_Disk_Clone.C N) disk_Disk_Clone.code := pcsOk_nil
theorem disk_Disk_Clone.ev (N : Nat) (x : Sh.den disk_Disk_Clone.ins) : evC (disk_Disk_Clone.C N) disk_Disk_Clone.code (disk_Disk_Clone.lam N) ⟨envOf 0 (bld (fun k => k) disk_Disk_Clone.ins x 0).1, (bld (fun k => k) disk_Disk_Clone.ins x 0).2.1, 1000⟩ (endF U disk_Disk_Clone.outs Try.f28.results.toList []) = disk_Disk_Clone.fn N x := by kernel_rfl
theorem disk_Disk_Clone.ok (N : Nat) : (disk_Disk_Clone.S N).con.Ok Try.prog 28 := fn_ok (F := disk_Disk_Clone.S N) (n0 := 1000) Try.func28 (by kernel_rfl) (show Try.f28.body = some disk_Disk_Clone.code by rfl) mix (disk_Disk_Clone.cok N) (fun _ => rfl) (fun _ => rfl) (disk_Disk_Clone.pok N) (fun x y h => (disk_Disk_Clone.ev N x).trans h)
/-- hayloft/hayloftref04.joined -/
def ref_joined.ins : Sh := (.cons (.val (.slice .byte)) (.cons (.rown 5 .byte) .nil))
def ref_joined.C (N : Nat) : Ctx := ⟨U, 13, fun _ => true, gam [], gamY []⟩
theorem ref_joined.cok (N : Nat) : (ref_joined.C N).Ok Try.prog := ⟨U_ok, GamOk.nil, GamYOk.nil⟩
def ref_joined.code : Code := Try.f52.body.getD .skip
def ref_joined.outs : Sh := (.cons (.own 5 .byte) .nil)
def ref_joined.run (N : Nat) (a : (List UInt8)) (b : (List UInt8)) : Option ((List UInt8) × Unit) :=
  bif room a.length 1 then
    bif room (a.length + b.length) 1 then
      some (a ++ b, ())
    else none
  else none
def ref_joined.fn (N : Nat) (x : Sh.den ref_joined.ins) : Option (Sh.den ref_joined.outs) := ref_joined.run N x.1 x.2.1
def ref_joined.S (N : Nat) : Fs := ⟨ref_joined.ins, ref_joined.outs, ref_joined.fn N⟩
def ref_joined.lam (N : Nat) : Pcs := pcs []
theorem ref_joined.pok (N : Nat) : (ref_joined.lam N).Ok Try.prog (ref_joined.C N) ref_joined.code := pcsOk_nil
theorem ref_joined.ev (N : Nat) (x : Sh.den ref_joined.ins) : evC (ref_joined.C N) ref_joined.code (ref_joined.lam N) ⟨envOf 0 (bld (fun k => k) ref_joined.ins x 0).1, (bld (fun k => k) ref_joined.ins x 0).2.1, 1000⟩ (endF U ref_joined.outs Try.f52.results.toList []) = ref_joined.fn N x := by kernel_rfl
theorem ref_joined.ok (N : Nat) : (ref_joined.S N).con.Ok Try.prog 52 := fn_ok (F := ref_joined.S N) (n0 := 1000) Try.func52 (by kernel_rfl) (show Try.f52.body = some ref_joined.code by rfl) mix (ref_joined.cok N) (fun _ => rfl) (fun _ => rfl) (ref_joined.pok N) (fun x y h => (ref_joined.ev N x).trans h)
/-- hayloft/hayloftref04.Crash -/
def ref_Crash.ins : Sh := (.cons (.val (.pair (.int .i64) (.pair (.int .i64) (.pair (.slice (.pair .str (.pair (.slice .byte) (.int .i64)))) (.pair .bool (.pair .bool (.int .i64))))))) (.cons (.val (.slice (.int .i64))) .nil))
def ref_Crash.C (N : Nat) : Ctx := ⟨U, 66, fun _ => true, gam [(52, (ref_joined.S N).con)], gamY []⟩
theorem ref_Crash.cok (N : Nat) : (ref_Crash.C N).Ok Try.prog := ⟨U_ok, GamOk.cons (ref_joined.ok N) (GamOk.nil), GamYOk.nil⟩
def ref_Crash.code : Code := Try.f29.body.getD .skip
def ref_Crash_0.ins : Sh := (.cons (.val (.slice (.int .i64))) (.cons (.rbox 39 (.cons (.val (.int .i64)) (.cons (.val (.int .i64)) (.cons (.val (.slice (.pair .str (.pair (.slice .byte) (.int .i64))))) (.cons (.val .bool) (.cons (.val .bool) (.cons (.val (.int .i64)) .nil))))))) (.cons (.box 39 (.cons (.val (.int .i64)) (.cons (.val (.int .i64)) (.cons (.own 57 (.pair .str (.pair (.slice .byte) (.int .i64)))) (.cons (.val .bool) (.cons (.val .bool) (.cons (.val (.int .i64)) .nil))))))) (.cons (.val (.int .i64)) .nil))))
def ref_Crash_0.ts : List Tmp := [1, 2, 5, 6]
def ref_Crash_0.asg : List Tmp := [6, 7, 8, 12, 13, 14, 15, 16, 17, 18, 19, 20, 21, 22, 23, 24, 25, 26, 27, 28, 29, 30, 31, 32, 33, 34, 35, 36, 37, 38, 39, 40, 41, 42, 43, 44, 45, 46, 47, 48, 49, 50, 51, 52, 53, 54, 55, 56, 57, 58, 59, 60, 61, 62, 63, 64]
def ref_Crash_0.C (N : Nat) : Ctx := { ref_Crash.C N with may := fun t => ref_Crash_0.asg.any (Nat.beq t) }
def ref_Crash_0.code : Code := loopBody (sub ref_Crash.code [true, true, false, true, false])
theorem ref_Crash_0.cok (N : Nat) : (ref_Crash_0.C N).Ok Try.prog := ⟨(ref_Crash.cok N).U, (ref_Crash.cok N).Γ, (ref_Crash.cok N).Y⟩
def ref_Crash_0_0.ins : Sh := (.cons (.val (.slice (.int .i64))) (.cons (.val (.int .i64)) (.cons (.rbox 57 (.cons (.val .str) (.cons (.val (.slice .byte)) (.cons (.val (.int .i64)) .nil)))) (.cons (.val (.int .i64)) .nil))))
def ref_Crash_0_0.ts : List Tmp := [1, 6, 7, 8]
def ref_Crash_0_0.asg : List Tmp := [8, 24, 25, 26, 27, 28, 29, 30, 31, 32, 33, 34, 35, 36, 37, 38, 39, 40, 41, 42, 43, 44, 45]
def ref_Crash_0_0.C (N : Nat) : Ctx := { ref_Crash_0.C N with may := fun t => ref_Crash_0_0.asg.any (Nat.beq t) }
def ref_Crash_0_0.code : Code := (sub ref_Crash_0.code [true, false, false, true, true, false]).getD .skip
theorem ref_Crash_0_0.cok (N : Nat) : (ref_Crash_0_0.C N).Ok Try.prog := ⟨(ref_Crash_0.cok N).U, (ref_Crash_0.cok N).Γ, (ref_Crash_0.cok N).Y⟩
def ref_Crash_0_0.alts : List Alt := [⟨.normal, [8], (.cons (.val (.int .i64)) .nil)⟩]
def ref_Crash_0_0.run (N : Nat) (keep : (List Int)) (i : Int) (name : (List UInt8)) (bytes : (List UInt8)) (last : Int) (n_ : Int) : Option ((Int × Unit)) :=
  bif decide (i < (keep.length : Int)) then
    bif inB i keep.length then
      bif decide ((keep.getD i.toNat (0 : Int)) > (0 : Int)) then
        bif inB i keep.length then
          some (min (keep.getD i.toNat (0 : Int)) (IntKind.i64.wrap ((bytes.length : Int) - last)), ())
        else none
      else some (n_, ())
    else none
  else some (n_, ())
def ref_Crash_0_0.fn (N : Nat) (x : Sh.den ref_Crash_0_0.ins) : Option (altsDen ref_Crash_0_0.alts) := ref_Crash_0_0.run N x.1 x.2.1 x.2.2.1.1 x.2.2.1.2.1 x.2.2.1.2.2.1 x.2.2.2.1
def ref_Crash_0_0.P (N : Nat) : Ps := ⟨ref_Crash_0_0.ts, ref_Crash_0_0.ins, ref_Crash_0_0.asg, ref_Crash_0_0.alts, ref_Crash_0_0.fn N⟩
def ref_Crash_0_0.lam (N : Nat) : Pcs := pcs []
theorem ref_Crash_0_0.pok (N : Nat) : (ref_Crash_0_0.lam N).Ok Try.prog (ref_Crash_0_0.C N) ref_Crash_0_0.code := pcsOk_nil
theorem ref_Crash_0_0.ev (N : Nat) (x : Sh.den ref_Crash_0_0.ins) : evC (ref_Crash_0_0.C N) ref_Crash_0_0.code (ref_Crash_0_0.lam N) ((ref_Crash_0_0.P N).canon 1000 x) (altK (ref_Crash_0_0.P N).alts) = ref_Crash_0_0.fn N x := by kernel_rfl
theorem ref_Crash_0_0.ok (N : Nat) : ((ref_Crash_0_0.P N).pc (ref_Crash_0.C N)).Ok Try.prog (ref_Crash_0.C N) ref_Crash_0_0.code := ps_ok (F := ref_Crash_0_0.P N) (n0 := 1000) (ref_Crash_0.cok N) mix (ref_Crash_0_0.pok N) (fun x y h => (ref_Crash_0_0.ev N x).trans h)
def ref_Crash_0.alts : List Alt := [⟨(.exit 0), [], (.cons (.upd 1 39 (.cons (.val (.int .i64)) (.cons (.val (.int .i64)) (.cons (.own 57 (.pair .str (.pair (.slice .byte) (.int .i64)))) (.cons (.val .bool) (.cons (.val .bool) (.cons (.val (.int .i64)) .nil))))))) .nil)⟩]
def ref_Crash_0.go (N : Nat) : Nat → (List Int) → Int → Int → (List ((List UInt8) × ((List UInt8) × Int))) → Bool → Bool → Int → Int → Int → (List ((List UInt8) × ((List UInt8) × Int))) → Bool → Bool → Int → Int → Option (((Int × Int × (List ((List UInt8) × ((List UInt8) × Int))) × Bool × Bool × Int × Unit) × Unit))
  | 0, _, _, _, _, _, _, _, _, _, _, _, _, _, _ => none
  | fuel + 1, keep, room_, steps, files, armed, dead, left, room1, steps1, files1, armed1, dead1, left1, i =>
    bif decide (i < (files.length : Int)) then
      bif inB i files.length then
        obind (ref_Crash_0_0.run N keep i (files.getD i.toNat (([] : List UInt8), ([] : List UInt8), (0 : Int))).1 (files.getD i.toNat (([] : List UInt8), ([] : List UInt8), (0 : Int))).2.1 (files.getD i.toNat (([] : List UInt8), ([] : List UInt8), (0 : Int))).2.2 (0 : Int)) fun (n_, _) =>
          bif okB (0 : Int) (IntKind.i64.wrap ((files.getD i.toNat (([] : List UInt8), ([] : List UInt8), (0 : Int))).2.2 + n_)) (files.getD i.toNat (([] : List UInt8), ([] : List UInt8), (0 : Int))).2.1.length then
            obind (ref_joined.run N ((files.getD i.toNat (([] : List UInt8), ([] : List UInt8), (0 : Int))).2.1.take (IntKind.i64.wrap ((files.getD i.toNat (([] : List UInt8), ([] : List UInt8), (0 : Int))).2.2 + n_)).toNat) ([] : List UInt8)) fun (l, _) =>
              bif room (files1.length + 1) 48 then
                ref_Crash_0.go N fuel keep room_ steps files armed dead left room1 steps1 (files1 ++ ([((files.getD i.toNat (([] : List UInt8), ([] : List UInt8), (0 : Int))).1, l, (l.length : Int))] : List ((List UInt8) × ((List UInt8) × Int)))) armed1 dead1 left1 (IntKind.i64.wrap (i + (1 : Int)))
              else none
          else none
      else none
    else some ((room1, steps1, files1, armed1, dead1, left1, ()), ())
def ref_Crash_0.g (N n : Nat) (x : Sh.den ref_Crash_0.ins) : Option (altsDen ref_Crash_0.alts) := ref_Crash_0.go N n x.1 x.2.1.1 x.2.1.2.1 x.2.1.2.2.1 x.2.1.2.2.2.1 x.2.1.2.2.2.2.1 x.2.1.2.2.2.2.2.1 x.2.2.1.1 x.2.2.1.2.1 x.2.2.1.2.2.1 x.2.2.1.2.2.2.1 x.2.2.1.2.2.2.2.1 x.2.2.1.2.2.2.2.2.1 x.2.2.2.1
def ref_Crash_0.P (N : Nat) : Ps := ⟨ref_Crash_0.ts, ref_Crash_0.ins, ref_Crash_0.asg, ref_Crash_0.alts, ref_Crash_0.g N N⟩
def ref_Crash_0.lam (N : Nat) : Pcs := pcs [([true, false, false, true, true, false], (ref_Crash_0_0.P N).pc (ref_Crash_0.C N))]
theorem ref_Crash_0.pok (N : Nat) : (ref_Crash_0.lam N).Ok Try.prog (ref_Crash_0.C N) ref_Crash_0.code := pcsOk_cons (c1 := ref_Crash_0_0.code) (by kernel_rfl) (ref_Crash_0_0.ok N) (pcsOk_nil)
theorem ref_Crash_0.ev (N n : Nat) (x : Sh.den ref_Crash_0.ins) : evC (ref_Crash_0.C N) ref_Crash_0.code (ref_Crash_0.lam N) ((ref_Crash_0.P N).canon 1000 x) (loopK (ref_Crash_0.P N) (ref_Crash_0.g N n)) = ref_Crash_0.g N (n + 1) x := by kernel_rfl
theorem ref_Crash_0.ok (N : Nat) : ((ref_Crash_0.P N).pc (ref_Crash.C N)).Ok Try.prog (ref_Crash.C N) (.loop ref_Crash_0.code) := loop_ok (F := ref_Crash_0.P N) (n0 := 1000) (N := N) (ref_Crash.cok N) mix (ref_Crash_0.pok N) (ref_Crash_0.g N) (fun x => by rfl) rfl (fun n x y h => (ref_Crash_0.ev N n x).trans h)
def ref_Crash.outs : Sh := (.cons (.val (.pair (.int .i64) (.pair (.int .i64) (.pair (.slice (.pair .str (.pair (.slice .byte) (.int .i64)))) (.pair .bool (.pair .bool (.int .i64))))))) .nil)
def ref_Crash.run (N : Nat) (d : (Int × (Int × ((List ((List UInt8) × ((List UInt8) × Int))) × (Bool × (Bool × Int)))))) (keep : (List Int)) : Option ((Int × (Int × ((List ((List UInt8) × ((List UInt8) × Int))) × (Bool × (Bool × Int))))) × Unit) :=
  obind (ref_Crash_0.go N N keep d.1 d.2.1 d.2.2.1 d.2.2.2.1 d.2.2.2.2.1 d.2.2.2.2.2 d.1 (0 : Int) ([] : List ((List UInt8) × ((List UInt8) × Int))) false false (0 : Int) (0 : Int)) fun ((room_, steps, files, armed, dead, left, _), _) =>
    some ((room_, steps, files, armed, dead, left), ())
def ref_Crash.fn (N : Nat) (x : Sh.den ref_Crash.ins) : Option (Sh.den ref_Crash.outs) := ref_Crash.run N x.1 x.2.1
def ref_Crash.S (N : Nat) : Fs := ⟨ref_Crash.ins, ref_Crash.outs, ref_Crash.fn N⟩
def ref_Crash.lam (N : Nat) : Pcs := pcs [([true, true, false, true, false], (ref_Crash_0.P N).pc (ref_Crash.C N))]
theorem ref_Crash.pok (N : Nat) : (ref_Crash.lam N).Ok Try.prog (ref_Crash.C N) ref_Crash.code := pcsOk_cons (c1 := .loop ref_Crash_0.code) (by kernel_rfl) (ref_Crash_0.ok N) (pcsOk_nil)
theorem ref_Crash.ev (N : Nat) (x : Sh.den ref_Crash.ins) : evC (ref_Crash.C N) ref_Crash.code (ref_Crash.lam N) ⟨envOf 0 (bld (fun k => k) ref_Crash.ins x 0).1, (bld (fun k => k) ref_Crash.ins x 0).2.1, 1000⟩ (endF U ref_Crash.outs Try.f29.results.toList []) = ref_Crash.fn N x := by kernel_rfl
theorem ref_Crash.ok (N : Nat) : (ref_Crash.S N).con.Ok Try.prog 29 := fn_ok (F := ref_Crash.S N) (n0 := 1000) Try.func29 (by kernel_rfl) (show Try.f29.body = some ref_Crash.code by rfl) mix (ref_Crash.cok N) (fun _ => rfl) (fun _ => rfl) (ref_Crash.pok N) (fun x y h => (ref_Crash.ev N x).trans h)
/-- hayloft/hayloftref04.Name -/
def ref_Name.ins : Sh := (.cons (.val .str) .nil)
def ref_Name.C (N : Nat) : Ctx := ⟨U, 28, fun _ => true, gam [], gamY []⟩
theorem ref_Name.cok (N : Nat) : (ref_Name.C N).Ok Try.prog := ⟨U_ok, GamOk.nil, GamYOk.nil⟩
def ref_Name.code : Code := Try.f59.body.getD .skip
def ref_Name_0.ins : Sh := (.cons (.val .str) (.cons (.val (.int .i64)) .nil))
def ref_Name_0.ts : List Tmp := [0, 3]
def ref_Name_0.asg : List Tmp := [2, 3, 4, 5, 6, 7, 8, 9, 10, 11, 12, 13, 14, 15, 16, 17, 18, 19]
def ref_Name_0.C (N : Nat) : Ctx := { ref_Name.C N with may := fun t => ref_Name_0.asg.any (Nat.beq t) }
def ref_Name_0.code : Code := loopBody (sub ref_Name.code [true, false, true, false])
theorem ref_Name_0.cok (N : Nat) : (ref_Name_0.C N).Ok Try.prog := ⟨(ref_Name.cok N).U, (ref_Name.cok N).Γ, (ref_Name.cok N).Y⟩
def ref_Name_0.alts : List Alt := [⟨.ret, [2], (.cons (.val .bool) .nil)⟩, ⟨(.exit 0), [], .nil⟩]
def ref_Name_0.go (N : Nat) : Nat → (List UInt8) → Int → Option ((Bool × Unit) ⊕ Unit)
  | 0, _, _ => none
  | fuel + 1, s, i =>
    bif decide (i < (s.length : Int)) then
      bif inB i s.length then
        bif decide (((s.getD i.toNat (0 : UInt8)).toNat : Int) < (33 : Int)) then
          some (.inl (false, ()))
        else
          bif inB i s.length then
            bif decide (((s.getD i.toNat (0 : UInt8)).toNat : Int) > (126 : Int)) then
              some (.inl (false, ()))
            else ref_Name_0.go N fuel s (IntKind.i64.wrap (i + (1 : Int)))
          else none
      else none
    else some (.inr ())
def ref_Name_0.g (N n : Nat) (x : Sh.den ref_Name_0.ins) : Option (altsDen ref_Name_0.alts) := ref_Name_0.go N n x.1 x.2.1
def ref_Name_0.P (N : Nat) : Ps := ⟨ref_Name_0.ts, ref_Name_0.ins, ref_Name_0.asg, ref_Name_0.alts, ref_Name_0.g N N⟩
def ref_Name_0.lam (N : Nat) : Pcs := pcs []
theorem ref_Name_0.pok (N : Nat) : (ref_Name_0.lam N).Ok Try.prog (ref_Name_0.C N) ref_Name_0.code := pcsOk_nil
theorem ref_Name_0.ev (N n : Nat) (x : Sh.den ref_Name_0.ins) : evC (ref_Name_0.C N) ref_Name_0.code (ref_Name_0.lam N) ((ref_Name_0.P N).canon 1000 x) (loopK (ref_Name_0.P N) (ref_Name_0.g N n)) = ref_Name_0.g N (n + 1) x := by kernel_rfl
theorem ref_Name_0.ok (N : Nat) : ((ref_Name_0.P N).pc (ref_Name.C N)).Ok Try.prog (ref_Name.C N) (.loop ref_Name_0.code) := loop_ok (F := ref_Name_0.P N) (n0 := 1000) (N := N) (ref_Name.cok N) mix (ref_Name_0.pok N) (ref_Name_0.g N) (fun x => by rfl) rfl (fun n x y h => (ref_Name_0.ev N n x).trans h)
def ref_Name.outs : Sh := (.cons (.val .bool) .nil)
def ref_Name.run (N : Nat) (s : (List UInt8)) : Option (Bool × Unit) :=
  obind (ref_Name_0.go N N s (0 : Int)) fun y => match y with
  | .inl (t2, _) =>
      some (t2, ())
  | .inr (_) =>
      bif decide ((s.length : Int) ≥ (1 : Int)) then
        some (decide ((s.length : Int) ≤ (32 : Int)), ())
      else some (false, ())
def ref_Name.fn (N : Nat) (x : Sh.den ref_Name.ins) : Option (Sh.den ref_Name.outs) := ref_Name.run N x.1
def ref_Name.S (N : Nat) : Fs := ⟨ref_Name.ins, ref_Name.outs, ref_Name.fn N⟩
def ref_Name.lam (N : Nat) : Pcs := pcs [([true, false, true, false], (ref_Name_0.P N).pc (ref_Name.C N))]
theorem ref_Name.pok (N : Nat) : (ref_Name.lam N).Ok Try.prog (ref_Name.C N) ref_Name.code := pcsOk_cons (c1 := .loop ref_Name_0.code) (by kernel_rfl) (ref_Name_0.ok N) (pcsOk_nil)
theorem ref_Name.ev (N : Nat) (x : Sh.den ref_Name.ins) : evC (ref_Name.C N) ref_Name.code (ref_Name.lam N) ⟨envOf 0 (bld (fun k => k) ref_Name.ins x 0).1, (bld (fun k => k) ref_Name.ins x 0).2.1, 1000⟩ (endF U ref_Name.outs Try.f59.results.toList []) = ref_Name.fn N x := by kernel_rfl
theorem ref_Name.ok (N : Nat) : (ref_Name.S N).con.Ok Try.prog 59 := fn_ok (F := ref_Name.S N) (n0 := 1000) Try.func59 (by kernel_rfl) (show Try.f59.body = some ref_Name.code by rfl) mix (ref_Name.cok N) (fun _ => rfl) (fun _ => rfl) (ref_Name.pok N) (fun x y h => (ref_Name.ev N x).trans h)
/-- hayloft/hayloftref04.joined -/
def ref_joined_b.ins : Sh := (.cons (.val (.slice .byte)) (.cons (.val (.slice .byte)) .nil))
def ref_joined_b.C (N : Nat) : Ctx := ⟨U, 13, fun _ => true, gam [], gamY []⟩
theorem ref_joined_b.cok (N : Nat) : (ref_joined_b.C N).Ok Try.prog := ⟨U_ok, GamOk.nil, GamYOk.nil⟩
def ref_joined_b.code : Code := Try.f52.body.getD .skip
def ref_joined_b.outs : Sh := (.cons (.own 5 .byte) .nil)
def ref_joined_b.run (N : Nat) (a : (List UInt8)) (b : (List UInt8)) : Option ((List UInt8) × Unit) :=
  bif room a.length 1 then
    bif room (a.length + b.length) 1 then
      some (a ++ b, ())
    else none
  else none
def ref_joined_b.fn (N : Nat) (x : Sh.den ref_joined_b.ins) : Option (Sh.den ref_joined_b.outs) := ref_joined_b.run N x.1 x.2.1
def ref_joined_b.S (N : Nat) : Fs := ⟨ref_joined_b.ins, ref_joined_b.outs, ref_joined_b.fn N⟩
def ref_joined_b.lam (N : Nat) : Pcs := pcs []
theorem ref_joined_b.pok (N : Nat) : (ref_joined_b.lam N).Ok Try.prog (ref_joined_b.C N) ref_joined_b.code := pcsOk_nil
theorem ref_joined_b.ev (N : Nat) (x : Sh.den ref_joined_b.ins) : evC (ref_joined_b.C N) ref_joined_b.code (ref_joined_b.lam N) ⟨envOf 0 (bld (fun k => k) ref_joined_b.ins x 0).1, (bld (fun k => k) ref_joined_b.ins x 0).2.1, 1000⟩ (endF U ref_joined_b.outs Try.f52.results.toList []) = ref_joined_b.fn N x := by kernel_rfl
theorem ref_joined_b.ok (N : Nat) : (ref_joined_b.S N).con.Ok Try.prog 52 := fn_ok (F := ref_joined_b.S N) (n0 := 1000) Try.func52 (by kernel_rfl) (show Try.f52.body = some ref_joined_b.code by rfl) mix (ref_joined_b.cok N) (fun _ => rfl) (fun _ => rfl) (ref_joined_b.pok N) (fun x y h => (ref_joined_b.ev N x).trans h)
/-- hayloft/hayloftref04.With -/
def ref_With.ins : Sh := (.cons (.val (.pair (.int .i64) (.pair (.int .i64) (.pair (.slice (.pair .str (.pair (.slice .byte) (.int .i64)))) (.pair .bool (.pair .bool (.int .i64))))))) (.cons (.val (.pair .str (.pair (.slice .byte) (.int .i64)))) .nil))
def ref_With.C (N : Nat) : Ctx := ⟨U, 52, fun _ => true, gam [], gamY []⟩
theorem ref_With.cok (N : Nat) : (ref_With.C N).Ok Try.prog := ⟨U_ok, GamOk.nil, GamYOk.nil⟩
def ref_With.code : Code := Try.f61.body.getD .skip
def ref_With_0.ins : Sh := (.cons (.rbox 39 (.cons (.val (.int .i64)) (.cons (.val (.int .i64)) (.cons (.val (.slice (.pair .str (.pair (.slice .byte) (.int .i64))))) (.cons (.val .bool) (.cons (.val .bool) (.cons (.val (.int .i64)) .nil))))))) (.cons (.rbox 57 (.cons (.val .str) (.cons (.val (.slice .byte)) (.cons (.val (.int .i64)) .nil)))) (.cons (.own 57 (.pair .str (.pair (.slice .byte) (.int .i64)))) (.cons (.val .bool) (.cons (.val (.int .i64)) .nil)))))
def ref_With_0.ts : List Tmp := [2, 3, 5, 6, 7]
def ref_With_0.asg : List Tmp := [5, 6, 7, 8, 9, 10, 11, 12, 13, 14, 15, 16, 17, 18, 19, 20, 21, 22, 23, 24, 25, 26, 27, 28, 29, 30, 31, 32, 33, 34, 35, 36, 37, 38, 39, 40, 41, 42]
def ref_With_0.C (N : Nat) : Ctx := { ref_With.C N with may := fun t => ref_With_0.asg.any (Nat.beq t) }
def ref_With_0.code : Code := loopBody (sub ref_With.code [true, true, true, false, true, false])
theorem ref_With_0.cok (N : Nat) : (ref_With_0.C N).Ok Try.prog := ⟨(ref_With.cok N).U, (ref_With.cok N).Γ, (ref_With.cok N).Y⟩
def ref_With_0_0.ins : Sh := (.cons (.rbox 57 (.cons (.val .str) (.cons (.val (.slice .byte)) (.cons (.val (.int .i64)) .nil)))) (.cons (.own 57 (.pair .str (.pair (.slice .byte) (.int .i64)))) (.cons (.val .bool) (.cons (.rbox 57 (.cons (.val .str) (.cons (.val (.slice .byte)) (.cons (.val (.int .i64)) .nil)))) .nil))))
def ref_With_0_0.ts : List Tmp := [3, 5, 6, 8]
def ref_With_0_0.asg : List Tmp := [5, 6, 21, 22, 23, 24, 25, 26, 27, 28, 29, 30, 31, 32, 33]
def ref_With_0_0.C (N : Nat) : Ctx := { ref_With_0.C N with may := fun t => ref_With_0_0.asg.any (Nat.beq t) }
def ref_With_0_0.code : Code := (sub ref_With_0.code [true, false, false, true, false]).getD .skip
theorem ref_With_0_0.cok (N : Nat) : (ref_With_0_0.C N).Ok Try.prog := ⟨(ref_With_0.cok N).U, (ref_With_0.cok N).Γ, (ref_With_0.cok N).Y⟩
def ref_With_0_0.alts : List Alt := [⟨.normal, [5, 6], (.cons (.own 57 (.pair .str (.pair (.slice .byte) (.int .i64)))) (.cons (.val .bool) .nil))⟩]
def ref_With_0_0.run (N : Nat) (name : (List UInt8)) (bytes : (List UInt8)) (last : Int) (l : (List ((List UInt8) × ((List UInt8) × Int)))) (done : Bool) (name1 : (List UInt8)) (bytes1 : (List UInt8)) (last1 : Int) : Option (((List ((List UInt8) × ((List UInt8) × Int))) × Bool × Unit)) :=
  bif !done then
    bif (Go.Op.bytesLess name name1) || (decide (name = name1)) then
      bif room (l.length + 1) 48 then
        some (l ++ ([(name, bytes, last)] : List ((List UInt8) × ((List UInt8) × Int))), true, ())
      else none
    else some (l, done, ())
  else some (l, done, ())
def ref_With_0_0.fn (N : Nat) (x : Sh.den ref_With_0_0.ins) : Option (altsDen ref_With_0_0.alts) := ref_With_0_0.run N x.1.1 x.1.2.1 x.1.2.2.1 x.2.1 x.2.2.1 x.2.2.2.1.1 x.2.2.2.1.2.1 x.2.2.2.1.2.2.1
def ref_With_0_0.P (N : Nat) : Ps := ⟨ref_With_0_0.ts, ref_With_0_0.ins, ref_With_0_0.asg, ref_With_0_0.alts, ref_With_0_0.fn N⟩
def ref_With_0_0.lam (N : Nat) : Pcs := pcs []
theorem ref_With_0_0.pok (N : Nat) : (ref_With_0_0.lam N).Ok Try.prog (ref_With_0_0.C N) ref_With_0_0.code := pcsOk_nil
theorem ref_With_0_0.ev (N : Nat) (x : Sh.den ref_With_0_0.ins) : evC (ref_With_0_0.C N) ref_With_0_0.code (ref_With_0_0.lam N) ((ref_With_0_0.P N).canon 1000 x) (altK (ref_With_0_0.P N).alts) = ref_With_0_0.fn N x := by kernel_rfl
theorem ref_With_0_0.ok (N : Nat) : ((ref_With_0_0.P N).pc (ref_With_0.C N)).Ok Try.prog (ref_With_0.C N) ref_With_0_0.code := ps_ok (F := ref_With_0_0.P N) (n0 := 1000) (ref_With_0.cok N) mix (ref_With_0_0.pok N) (fun x y h => (ref_With_0_0.ev N x).trans h)
def ref_With_0.alts : List Alt := [⟨(.exit 0), [5, 6], (.cons (.own 57 (.pair .str (.pair (.slice .byte) (.int .i64)))) (.cons (.val .bool) .nil))⟩]
def ref_With_0.go (N : Nat) : Nat → Int → Int → (List ((List UInt8) × ((List UInt8) × Int))) → Bool → Bool → Int → (List UInt8) → (List UInt8) → Int → (List ((List UInt8) × ((List UInt8) × Int))) → Bool → Int → Option (((List ((List UInt8) × ((List UInt8) × Int))) × Bool × Unit))
  | 0, _, _, _, _, _, _, _, _, _, _, _, _ => none
  | fuel + 1, room_, steps, files, armed, dead, left, name, bytes, last, l, done, i =>
    bif decide (i < (files.length : Int)) then
      bif inB i files.length then
        obind (ref_With_0_0.run N name bytes last l done (files.getD i.toNat (([] : List UInt8), ([] : List UInt8), (0 : Int))).1 (files.getD i.toNat (([] : List UInt8), ([] : List UInt8), (0 : Int))).2.1 (files.getD i.toNat (([] : List UInt8), ([] : List UInt8), (0 : Int))).2.2) fun (l1, done1, _) =>
          bif !(decide ((files.getD i.toNat (([] : List UInt8), ([] : List UInt8), (0 : Int))).1 = name)) then
            bif room (l1.length + 1) 48 then
              ref_With_0.go N fuel room_ steps files armed dead left name bytes last (l1 ++ ([files.getD i.toNat (([] : List UInt8), ([] : List UInt8), (0 : Int))] : List ((List UInt8) × ((List UInt8) × Int)))) done1 (IntKind.i64.wrap (i + (1 : Int)))
            else none
          else ref_With_0.go N fuel room_ steps files armed dead left name bytes last l1 done1 (IntKind.i64.wrap (i + (1 : Int)))
      else none
    else some (l, done, ())
def ref_With_0.g (N n : Nat) (x : Sh.den ref_With_0.ins) : Option (altsDen ref_With_0.alts) := ref_With_0.go N n x.1.1 x.1.2.1 x.1.2.2.1 x.1.2.2.2.1 x.1.2.2.2.2.1 x.1.2.2.2.2.2.1 x.2.1.1 x.2.1.2.1 x.2.1.2.2.1 x.2.2.1 x.2.2.2.1 x.2.2.2.2.1
def ref_With_0.P (N : Nat) : Ps := ⟨ref_With_0.ts, ref_With_0.ins, ref_With_0.asg, ref_With_0.alts, ref_With_0.g N N⟩
def ref_With_0.lam (N : Nat) : Pcs := pcs [([true, false, false, true, false], (ref_With_0_0.P N).pc (ref_With_0.C N))]
theorem ref_With_0.pok (N : Nat) : (ref_With_0.lam N).Ok Try.prog (ref_With_0.C N) ref_With_0.code := pcsOk_cons (c1 := ref_With_0_0.code) (by kernel_rfl) (ref_With_0_0.ok N) (pcsOk_nil)
theorem ref_With_0.ev (N n : Nat) (x : Sh.den ref_With_0.ins) : evC (ref_With_0.C N) ref_With_0.code (ref_With_0.lam N) ((ref_With_0.P N).canon 1000 x) (loopK (ref_With_0.P N) (ref_With_0.g N n)) = ref_With_0.g N (n + 1) x := by kernel_rfl
theorem ref_With_0.ok (N : Nat) : ((ref_With_0.P N).pc (ref_With.C N)).Ok Try.prog (ref_With.C N) (.loop ref_With_0.code) := loop_ok (F := ref_With_0.P N) (n0 := 1000) (N := N) (ref_With.cok N) mix (ref_With_0.pok N) (ref_With_0.g N) (fun x => by rfl) rfl (fun n x y h => (ref_With_0.ev N n x).trans h)
def ref_With.outs : Sh := (.cons (.val (.pair (.int .i64) (.pair (.int .i64) (.pair (.slice (.pair .str (.pair (.slice .byte) (.int .i64)))) (.pair .bool (.pair .bool (.int .i64))))))) .nil)
def ref_With.run (N : Nat) (d : (Int × (Int × ((List ((List UInt8) × ((List UInt8) × Int))) × (Bool × (Bool × Int)))))) (f : ((List UInt8) × ((List UInt8) × Int))) : Option ((Int × (Int × ((List ((List UInt8) × ((List UInt8) × Int))) × (Bool × (Bool × Int))))) × Unit) :=
  obind (ref_With_0.go N N d.1 d.2.1 d.2.2.1 d.2.2.2.1 d.2.2.2.2.1 d.2.2.2.2.2 f.1 f.2.1 f.2.2 ([] : List ((List UInt8) × ((List UInt8) × Int))) false (0 : Int)) fun (l, done, _) =>
    bif !done then
      bif room (l.length + 1) 48 then
        some ((d.1, d.2.1, l ++ ([f] : List ((List UInt8) × ((List UInt8) × Int))), d.2.2.2), ())
      else none
    else some ((d.1, d.2.1, l, d.2.2.2), ())
def ref_With.fn (N : Nat) (x : Sh.den ref_With.ins) : Option (Sh.den ref_With.outs) := ref_With.run N x.1 x.2.1
def ref_With.S (N : Nat) : Fs := ⟨ref_With.ins, ref_With.outs, ref_With.fn N⟩
def ref_With.lam (N : Nat) : Pcs := pcs [([true, true, true, false, true, false], (ref_With_0.P N).pc (ref_With.C N))]
theorem ref_With.pok (N : Nat) : (ref_With.lam N).Ok Try.prog (ref_With.C N) ref_With.code := pcsOk_cons (c1 := .loop ref_With_0.code) (by kernel_rfl) (ref_With_0.ok N) (pcsOk_nil)
theorem ref_With.ev (N : Nat) (x : Sh.den ref_With.ins) : evC (ref_With.C N) ref_With.code (ref_With.lam N) ⟨envOf 0 (bld (fun k => k) ref_With.ins x 0).1, (bld (fun k => k) ref_With.ins x 0).2.1, 1000⟩ (endF U ref_With.outs Try.f61.results.toList []) = ref_With.fn N x := by kernel_rfl
theorem ref_With.ok (N : Nat) : (ref_With.S N).con.Ok Try.prog 61 := fn_ok (F := ref_With.S N) (n0 := 1000) Try.func61 (by kernel_rfl) (show Try.f61.body = some ref_With.code by rfl) mix (ref_With.cok N) (fun _ => rfl) (fun _ => rfl) (ref_With.pok N) (fun x y h => (ref_With.ev N x).trans h)
/-- hayloft/hayloftref04.step -/
def ref_step.ins : Sh := (.cons (.val (.pair (.int .i64) (.pair (.int .i64) (.pair (.slice (.pair .str (.pair (.slice .byte) (.int .i64)))) (.pair .bool (.pair .bool (.int .i64))))))) .nil)
def ref_step.C (N : Nat) : Ctx := ⟨U, 22, fun _ => true, gam [], gamY []⟩
theorem ref_step.cok (N : Nat) : (ref_step.C N).Ok Try.prog := ⟨U_ok, GamOk.nil, GamYOk.nil⟩
def ref_step.code : Code := Try.f60.body.getD .skip
def ref_step.outs : Sh := (.cons (.val (.pair (.int .i64) (.pair (.int .i64) (.pair (.slice (.pair .str (.pair (.slice .byte) (.int .i64)))) (.pair .bool (.pair .bool (.int .i64))))))) (.cons (.val .bool) .nil))
def ref_step.run (N : Nat) (d : (Int × (Int × ((List ((List UInt8) × ((List UInt8) × Int))) × (Bool × (Bool × Int)))))) : Option ((Int × (Int × ((List ((List UInt8) × ((List UInt8) × Int))) × (Bool × (Bool × Int))))) × Bool × Unit) :=
  bif d.2.2.2.1 then
    bif decide (d.2.2.2.2.2 = (0 : Int)) then
      some ((d.1, IntKind.i64.wrap (d.2.1 + (1 : Int)), d.2.2.1, d.2.2.2.1, true, d.2.2.2.2.2), true, ())
    else some ((d.1, IntKind.i64.wrap (d.2.1 + (1 : Int)), d.2.2.1, d.2.2.2.1, d.2.2.2.2.1, IntKind.i64.wrap (d.2.2.2.2.2 - (1 : Int))), false, ())
  else some ((d.1, IntKind.i64.wrap (d.2.1 + (1 : Int)), d.2.2.1, d.2.2.2.1, d.2.2.2.2.1, IntKind.i64.wrap (d.2.2.2.2.2 - (1 : Int))), false, ())
def ref_step.fn (N : Nat) (x : Sh.den ref_step.ins) : Option (Sh.den ref_step.outs) := ref_step.run N x.1
def ref_step.S (N : Nat) : Fs := ⟨ref_step.ins, ref_step.outs, ref_step.fn N⟩
def ref_step.lam (N : Nat) : Pcs := pcs []
theorem ref_step.pok (N : Nat) : (ref_step.lam N).Ok Try.prog (ref_step.C N) ref_step.code := pcsOk_nil
theorem ref_step.ev (N : Nat) (x : Sh.den ref_step.ins) : evC (ref_step.C N) ref_step.code (ref_step.lam N) ⟨envOf 0 (bld (fun k => k) ref_step.ins x 0).1, (bld (fun k => k) ref_step.ins x 0).2.1, 1000⟩ (endF U ref_step.outs Try.f60.results.toList []) = ref_step.fn N x := by kernel_rfl
theorem ref_step.ok (N : Nat) : (ref_step.S N).con.Ok Try.prog 60 := fn_ok (F := ref_step.S N) (n0 := 1000) Try.func60 (by kernel_rfl) (show Try.f60.body = some ref_step.code by rfl) mix (ref_step.cok N) (fun _ => rfl) (fun _ => rfl) (ref_step.pok N) (fun x y h => (ref_step.ev N x).trans h)
/-- hayloft/hayloftref04.Append -/
def ref_Append.ins : Sh := (.cons (.val (.pair (.int .i64) (.pair (.int .i64) (.pair (.slice (.pair .str (.pair (.slice .byte) (.int .i64)))) (.pair .bool (.pair .bool (.int .i64))))))) (.cons (.val .str) (.cons (.val (.slice .byte)) .nil)))
def ref_Append.C (N : Nat) : Ctx := ⟨U, 51, fun _ => true, gam [(59, (ref_Name.S N).con), (50, (ref_Free.S N).con), (53, (ref_At.S N).con), (52, (ref_joined_b.S N).con), (61, (ref_With.S N).con), (60, (ref_step.S N).con)], gamY []⟩
theorem ref_Append.cok (N : Nat) : (ref_Append.C N).Ok Try.prog := ⟨U_ok, GamOk.cons (ref_Name.ok N) (GamOk.cons (ref_Free.ok N) (GamOk.cons (ref_At.ok N) (GamOk.cons (ref_joined_b.ok N) (GamOk.cons (ref_With.ok N) (GamOk.cons (ref_step.ok N) (GamOk.nil)))))), GamYOk.nil⟩
def ref_Append.code : Code := Try.f38.body.getD .skip
def ref_Append_0.ins : Sh := (.cons (.rbox 39 (.cons (.val (.int .i64)) (.cons (.val (.int .i64)) (.cons (.val (.slice (.pair .str (.pair (.slice .byte) (.int .i64))))) (.cons (.val .bool) (.cons (.val .bool) (.cons (.val (.int .i64)) .nil))))))) (.cons (.box 57 (.cons (.val .str) (.cons (.own 5 .byte) (.cons (.val (.int .i64)) .nil)))) (.cons (.val (.int .i64)) .nil)))
def ref_Append_0.ts : List Tmp := [3, 8, 9]
def ref_Append_0.asg : List Tmp := [29, 30, 31, 32, 33, 34, 35]
def ref_Append_0.C (N : Nat) : Ctx := { ref_Append.C N with may := fun t => ref_Append_0.asg.any (Nat.beq t) }
def ref_Append_0.code : Code := (sub ref_Append.code [true, true, true, true, true, true, false]).getD .skip
theorem ref_Append_0.cok (N : Nat) : (ref_Append_0.C N).Ok Try.prog := ⟨(ref_Append.cok N).U, (ref_Append.cok N).Γ, (ref_Append.cok N).Y⟩
def ref_Append_0.alts : List Alt := [⟨.normal, [], (.cons (.upd 1 57 (.cons (.val .str) (.cons (.val (.slice .byte)) (.cons (.val (.int .i64)) .nil)))) .nil)⟩]
def ref_Append_0.run (N : Nat) (room_ : Int) (steps : Int) (files : (List ((List UInt8) × ((List UInt8) × Int)))) (armed : Bool) (dead : Bool) (left : Int) (name : (List UInt8)) (bytes : (List UInt8)) (last : Int) (k : Int) : Option ((((List UInt8) × (List UInt8) × Int × Unit) × Unit)) :=
  bif decide (k ≥ (0 : Int)) then
    bif inB k files.length then
      some (((files.getD k.toNat (([] : List UInt8), ([] : List UInt8), (0 : Int))).1, (files.getD k.toNat (([] : List UInt8), ([] : List UInt8), (0 : Int))).2.1, (files.getD k.toNat (([] : List UInt8), ([] : List UInt8), (0 : Int))).2.2, ()), ())
    else none
  else some ((name, bytes, last, ()), ())
def ref_Append_0.fn (N : Nat) (x : Sh.den ref_Append_0.ins) : Option (altsDen ref_Append_0.alts) := ref_Append_0.run N x.1.1 x.1.2.1 x.1.2.2.1 x.1.2.2.2.1 x.1.2.2.2.2.1 x.1.2.2.2.2.2.1 x.2.1.1 x.2.1.2.1 x.2.1.2.2.1 x.2.2.1
def ref_Append_0.P (N : Nat) : Ps := ⟨ref_Append_0.ts, ref_Append_0.ins, ref_Append_0.asg, ref_Append_0.alts, ref_Append_0.fn N⟩
def ref_Append_0.lam (N : Nat) : Pcs := pcs []
theorem ref_Append_0.pok (N : Nat) : (ref_Append_0.lam N).Ok Try.prog (ref_Append_0.C N) ref_Append_0.code := pcsOk_nil
theorem ref_Append_0.ev (N : Nat) (x : Sh.den ref_Append_0.ins) : evC (ref_Append_0.C N) ref_Append_0.code (ref_Append_0.lam N) ((ref_Append_0.P N).canon 1000 x) (altK (ref_Append_0.P N).alts) = ref_Append_0.fn N x := by kernel_rfl
theorem ref_Append_0.ok (N : Nat) : ((ref_Append_0.P N).pc (ref_Append.C N)).Ok Try.prog (ref_Append.C N) ref_Append_0.code := ps_ok (F := ref_Append_0.P N) (n0 := 1000) (ref_Append.cok N) mix (ref_Append_0.pok N) (fun x y h => (ref_Append_0.ev N x).trans h)
def ref_Append.outs : Sh := (.cons (.val (.pair (.int .i64) (.pair (.int .i64) (.pair (.slice (.pair .str (.pair (.slice .byte) (.int .i64)))) (.pair .bool (.pair .bool (.int .i64))))))) (.cons (.val (.int .i64)) .nil))
def ref_Append.run (N : Nat) (d : (Int × (Int × ((List ((List UInt8) × ((List UInt8) × Int))) × (Bool × (Bool × Int)))))) (name : (List UInt8)) (b : (List UInt8)) : Option ((Int × (Int × ((List ((List UInt8) × ((List UInt8) × Int))) × (Bool × (Bool × Int))))) × Int × Unit) :=
  bif d.2.2.2.2.1 then
    some (d, (44 : Int), ())
  else
    obind (ref_Name.run N name) fun (b1, _) =>
      bif !b1 then
        some (d, (40 : Int), ())
      else
        obind (ref_Free.run N d) fun (n_, _) =>
          bif decide ((b.length : Int) > n_) then
            some (d, (41 : Int), ())
          else
            obind (ref_At.run N d name) fun (n1, _) =>
              obind (ref_Append_0.run N d.1 d.2.1 d.2.2.1 d.2.2.2.1 d.2.2.2.2.1 d.2.2.2.2.2 name ([] : List UInt8) (0 : Int) n1) fun ((name1, bytes, last, _), _) =>
                obind (ref_joined_b.run N bytes b) fun (l, _) =>
                  obind (ref_With.run N d (name1, l, last)) fun (v, _) =>
                    obind (ref_step.run N v) fun (v1, b2, _) =>
                      bif b2 then
                        some (v1, (44 : Int), ())
                      else some (v1, (0 : Int), ())
def ref_Append.fn (N : Nat) (x : Sh.den ref_Append.ins) : Option (Sh.den ref_Append.outs) := ref_Append.run N x.1 x.2.1 x.2.2.1
def ref_Append.S (N : Nat) : Fs := ⟨ref_Append.ins, ref_Append.outs, ref_Append.fn N⟩
def ref_Append.lam (N : Nat) : Pcs := pcs [([true, true, true, true, true, true, false], (ref_Append_0.P N).pc (ref_Append.C N))]
theorem ref_Append.pok (N : Nat) : (ref_Append.lam N).Ok Try.prog (ref_Append.C N) ref_Append.code := pcsOk_cons (c1 := ref_Append_0.code) (by kernel_rfl) (ref_Append_0.ok N) (pcsOk_nil)
theorem ref_Append.ev (N : Nat) (x : Sh.den ref_Append.ins) : evC (ref_Append.C N) ref_Append.code (ref_Append.lam N) ⟨envOf 0 (bld (fun k => k) ref_Append.ins x 0).1, (bld (fun k => k) ref_Append.ins x 0).2.1, 1000⟩ (endF U ref_Append.outs Try.f38.results.toList []) = ref_Append.fn N x := by kernel_rfl
theorem ref_Append.ok (N : Nat) : (ref_Append.S N).con.Ok Try.prog 38 := fn_ok (F := ref_Append.S N) (n0 := 1000) Try.func38 (by kernel_rfl) (show Try.f38.body = some ref_Append.code by rfl) mix (ref_Append.cok N) (fun _ => rfl) (fun _ => rfl) (ref_Append.pok N) (fun x y h => (ref_Append.ev N x).trans h)
/-- hayloft/hayloftref04.refused -/
def ref_refused.ins : Sh := (.cons (.val (.pair (.int .i64) (.pair (.int .i64) (.pair (.slice (.pair .str (.pair (.slice .byte) (.int .i64)))) (.pair .bool (.pair .bool (.int .i64))))))) (.cons (.val (.int .i64)) (.cons (.val .str) (.cons (.val .str) (.cons (.val (.int .i64)) .nil)))))
def ref_refused.C (N : Nat) : Ctx := ⟨U, 47, fun _ => true, gam [(53, (ref_At.S N).con), (59, (ref_Name.S N).con)], gamY []⟩
theorem ref_refused.cok (N : Nat) : (ref_refused.C N).Ok Try.prog := ⟨U_ok, GamOk.cons (ref_At.ok N) (GamOk.cons (ref_Name.ok N) (GamOk.nil)), GamYOk.nil⟩
def ref_refused.code : Code := Try.f62.body.getD .skip
def ref_refused_0.ins : Sh := (.cons (.val (.int .i64)) (.cons (.val (.int .i64)) (.cons (.rbox 39 (.cons (.val (.int .i64)) (.cons (.val (.int .i64)) (.cons (.val (.slice (.pair .str (.pair (.slice .byte) (.int .i64))))) (.cons (.val .bool) (.cons (.val .bool) (.cons (.val (.int .i64)) .nil))))))) (.cons (.val (.int .i64)) .nil))))
def ref_refused_0.ts : List Tmp := [1, 4, 5, 11]
def ref_refused_0.asg : List Tmp := [21, 22, 23, 24, 25, 26, 27, 28, 29, 30, 31, 32, 33, 34, 35, 36, 37, 38]
def ref_refused_0.C (N : Nat) : Ctx := { ref_refused.C N with may := fun t => ref_refused_0.asg.any (Nat.beq t) }
def ref_refused_0.code : Code := (sub ref_refused.code [true, true, false, false, true, true, true, true, false]).getD .skip
theorem ref_refused_0.cok (N : Nat) : (ref_refused_0.C N).Ok Try.prog := ⟨(ref_refused.cok N).U, (ref_refused.cok N).Γ, (ref_refused.cok N).Y⟩
def ref_refused_0.alts : List Alt := [⟨.normal, [21], (.cons (.val .bool) .nil)⟩]
def ref_refused_0.run (N : Nat) (call : Int) (n_ : Int) (room_ : Int) (steps : Int) (files : (List ((List UInt8) × ((List UInt8) × Int)))) (armed : Bool) (dead : Bool) (left : Int) (k : Int) : Option ((Bool × Unit)) :=
  bif decide (call = (2 : Int)) then
    bif decide (n_ < (0 : Int)) then
      some (true, ())
    else
      bif inB k files.length then
        some (decide (n_ > ((files.getD k.toNat (([] : List UInt8), ([] : List UInt8), (0 : Int))).2.1.length : Int)), ())
      else none
  else some (false, ())
def ref_refused_0.fn (N : Nat) (x : Sh.den ref_refused_0.ins) : Option (altsDen ref_refused_0.alts) := ref_refused_0.run N x.1 x.2.1 x.2.2.1.1 x.2.2.1.2.1 x.2.2.1.2.2.1 x.2.2.1.2.2.2.1 x.2.2.1.2.2.2.2.1 x.2.2.1.2.2.2.2.2.1 x.2.2.2.1
def ref_refused_0.P (N : Nat) : Ps := ⟨ref_refused_0.ts, ref_refused_0.ins, ref_refused_0.asg, ref_refused_0.alts, ref_refused_0.fn N⟩
def ref_refused_0.lam (N : Nat) : Pcs := pcs []
theorem ref_refused_0.pok (N : Nat) : (ref_refused_0.lam N).Ok Try.prog (ref_refused_0.C N) ref_refused_0.code := pcsOk_nil
theorem ref_refused_0.ev (N : Nat) (x : Sh.den ref_refused_0.ins) : evC (ref_refused_0.C N) ref_refused_0.code (ref_refused_0.lam N) ((ref_refused_0.P N).canon 1000 x) (altK (ref_refused_0.P N).alts) = ref_refused_0.fn N x := by kernel_rfl
theorem ref_refused_0.ok (N : Nat) : ((ref_refused_0.P N).pc (ref_refused.C N)).Ok Try.prog (ref_refused.C N) ref_refused_0.code := ps_ok (F := ref_refused_0.P N) (n0 := 1000) (ref_refused.cok N) mix (ref_refused_0.pok N) (fun x y h => (ref_refused_0.ev N x).trans h)
def ref_refused.outs : Sh := (.cons (.val (.int .i64)) .nil)
def ref_refused.run (N : Nat) (d : (Int × (Int × ((List ((List UInt8) × ((List UInt8) × Int))) × (Bool × (Bool × Int)))))) (call : Int) (name : (List UInt8)) (to_ : (List UInt8)) (n_ : Int) : Option (Int × Unit) :=
  obind (ref_At.run N d name) fun (n1, _) =>
    bif d.2.2.2.2.1 then
      some ((44 : Int), ())
    else
      bif decide (n1 < (0 : Int)) then
        some ((42 : Int), ())
      else
        obind (ref_refused_0.run N call n_ d.1 d.2.1 d.2.2.1 d.2.2.2.1 d.2.2.2.2.1 d.2.2.2.2.2 n1) fun (t21, _) =>
          bif t21 then
            some ((43 : Int), ())
          else
            bif decide (call = (3 : Int)) then
              obind (ref_Name.run N to_) fun (b, _) =>
                bif !b then
                  some ((40 : Int), ())
                else some ((0 : Int), ())
            else some ((0 : Int), ())
def ref_refused.fn (N : Nat) (x : Sh.den ref_refused.ins) : Option (Sh.den ref_refused.outs) := ref_refused.run N x.1 x.2.1 x.2.2.1 x.2.2.2.1 x.2.2.2.2.1
def ref_refused.S (N : Nat) : Fs := ⟨ref_refused.ins, ref_refused.outs, ref_refused.fn N⟩
def ref_refused.lam (N : Nat) : Pcs := pcs [([true, true, false, false, true, true, true, true, false], (ref_refused_0.P N).pc (ref_refused.C N))]
theorem ref_refused.pok (N : Nat) : (ref_refused.lam N).Ok Try.prog (ref_refused.C N) ref_refused.code := pcsOk_cons (c1 := ref_refused_0.code) (by kernel_rfl) (ref_refused_0.ok N) (pcsOk_nil)
theorem ref_refused.ev (N : Nat) (x : Sh.den ref_refused.ins) : evC (ref_refused.C N) ref_refused.code (ref_refused.lam N) ⟨envOf 0 (bld (fun k => k) ref_refused.ins x 0).1, (bld (fun k => k) ref_refused.ins x 0).2.1, 1000⟩ (endF U ref_refused.outs Try.f62.results.toList []) = ref_refused.fn N x := by kernel_rfl
theorem ref_refused.ok (N : Nat) : (ref_refused.S N).con.Ok Try.prog 62 := fn_ok (F := ref_refused.S N) (n0 := 1000) Try.func62 (by kernel_rfl) (show Try.f62.body = some ref_refused.code by rfl) mix (ref_refused.cok N) (fun _ => rfl) (fun _ => rfl) (ref_refused.pok N) (fun x y h => (ref_refused.ev N x).trans h)
/-- hayloft/hayloftref04.Without -/
def ref_Without.ins : Sh := (.cons (.val (.pair (.int .i64) (.pair (.int .i64) (.pair (.slice (.pair .str (.pair (.slice .byte) (.int .i64)))) (.pair .bool (.pair .bool (.int .i64))))))) (.cons (.val .str) .nil))
def ref_Without.C (N : Nat) : Ctx := ⟨U, 33, fun _ => true, gam [], gamY []⟩
theorem ref_Without.cok (N : Nat) : (ref_Without.C N).Ok Try.prog := ⟨U_ok, GamOk.nil, GamYOk.nil⟩
def ref_Without.code : Code := Try.f63.body.getD .skip
def ref_Without_0.ins : Sh := (.cons (.val .str) (.cons (.rbox 39 (.cons (.val (.int .i64)) (.cons (.val (.int .i64)) (.cons (.val (.slice (.pair .str (.pair (.slice .byte) (.int .i64))))) (.cons (.val .bool) (.cons (.val .bool) (.cons (.val (.int .i64)) .nil))))))) (.cons (.own 57 (.pair .str (.pair (.slice .byte) (.int .i64)))) (.cons (.val (.int .i64)) .nil))))
def ref_Without_0.ts : List Tmp := [1, 2, 5, 6]
def ref_Without_0.asg : List Tmp := [5, 6, 7, 8, 9, 10, 11, 12, 13, 14, 15, 16, 17, 18, 19, 20, 21, 22, 23, 24, 25, 26, 27, 28, 29]
def ref_Without_0.C (N : Nat) : Ctx := { ref_Without.C N with may := fun t => ref_Without_0.asg.any (Nat.beq t) }
def ref_Without_0.code : Code := loopBody (sub ref_Without.code [true, true, false, true, false])
theorem ref_Without_0.cok (N : Nat) : (ref_Without_0.C N).Ok Try.prog := ⟨(ref_Without.cok N).U, (ref_Without.cok N).Γ, (ref_Without.cok N).Y⟩
def ref_Without_0.alts : List Alt := [⟨(.exit 0), [5], (.cons (.own 57 (.pair .str (.pair (.slice .byte) (.int .i64)))) .nil)⟩]
def ref_Without_0.go (N : Nat) : Nat → (List UInt8) → Int → Int → (List ((List UInt8) × ((List UInt8) × Int))) → Bool → Bool → Int → (List ((List UInt8) × ((List UInt8) × Int))) → Int → Option (((List ((List UInt8) × ((List UInt8) × Int))) × Unit))
  | 0, _, _, _, _, _, _, _, _, _ => none
  | fuel + 1, name, room_, steps, files, armed, dead, left, l, i =>
    bif decide (i < (files.length : Int)) then
      bif inB i files.length then
        bif !(decide ((files.getD i.toNat (([] : List UInt8), ([] : List UInt8), (0 : Int))).1 = name)) then
          bif inB i files.length then
            bif room (l.length + 1) 48 then
              ref_Without_0.go N fuel name room_ steps files armed dead left (l ++ ([files.getD i.toNat (([] : List UInt8), ([] : List UInt8), (0 : Int))] : List ((List UInt8) × ((List UInt8) × Int)))) (IntKind.i64.wrap (i + (1 : Int)))
            else none
          else none
        else ref_Without_0.go N fuel name room_ steps files armed dead left l (IntKind.i64.wrap (i + (1 : Int)))
      else none
    else some (l, ())
def ref_Without_0.g (N n : Nat) (x : Sh.den ref_Without_0.ins) : Option (altsDen ref_Without_0.alts) := ref_Without_0.go N n x.1 x.2.1.1 x.2.1.2.1 x.2.1.2.2.1 x.2.1.2.2.2.1 x.2.1.2.2.2.2.1 x.2.1.2.2.2.2.2.1 x.2.2.1 x.2.2.2.1
def ref_Without_0.P (N : Nat) : Ps := ⟨ref_Without_0.ts, ref_Without_0.ins, ref_Without_0.asg, ref_Without_0.alts, ref_Without_0.g N N⟩
def ref_Without_0.lam (N : Nat) : Pcs := pcs []
theorem ref_Without_0.pok (N : Nat) : (ref_Without_0.lam N).Ok Try.prog (ref_Without_0.C N) ref_Without_0.code := pcsOk_nil
theorem ref_Without_0.ev (N n : Nat) (x : Sh.den ref_Without_0.ins) : evC (ref_Without_0.C N) ref_Without_0.code (ref_Without_0.lam N) ((ref_Without_0.P N).canon 1000 x) (loopK (ref_Without_0.P N) (ref_Without_0.g N n)) = ref_Without_0.g N (n + 1) x := by kernel_rfl
theorem ref_Without_0.ok (N : Nat) : ((ref_Without_0.P N).pc (ref_Without.C N)).Ok Try.prog (ref_Without.C N) (.loop ref_Without_0.code) := loop_ok (F := ref_Without_0.P N) (n0 := 1000) (N := N) (ref_Without.cok N) mix (ref_Without_0.pok N) (ref_Without_0.g N) (fun x => by rfl) rfl (fun n x y h => (ref_Without_0.ev N n x).trans h)
def ref_Without.outs : Sh := (.cons (.val (.pair (.int .i64) (.pair (.int .i64) (.pair (.slice (.pair .str (.pair (.slice .byte) (.int .i64)))) (.pair .bool (.pair .bool (.int .i64))))))) .nil)
def ref_Without.run (N : Nat) (d : (Int × (Int × ((List ((List UInt8) × ((List UInt8) × Int))) × (Bool × (Bool × Int)))))) (name : (List UInt8)) : Option ((Int × (Int × ((List ((List UInt8) × ((List UInt8) × Int))) × (Bool × (Bool × Int))))) × Unit) :=
  obind (ref_Without_0.go N N name d.1 d.2.1 d.2.2.1 d.2.2.2.1 d.2.2.2.2.1 d.2.2.2.2.2 ([] : List ((List UInt8) × ((List UInt8) × Int))) (0 : Int)) fun (l, _) =>
    some ((d.1, d.2.1, l, d.2.2.2), ())
def ref_Without.fn (N : Nat) (x : Sh.den ref_Without.ins) : Option (Sh.den ref_Without.outs) := ref_Without.run N x.1 x.2.1
def ref_Without.S (N : Nat) : Fs := ⟨ref_Without.ins, ref_Without.outs, ref_Without.fn N⟩
def ref_Without.lam (N : Nat) : Pcs := pcs [([true, true, false, true, false], (ref_Without_0.P N).pc (ref_Without.C N))]
theorem ref_Without.pok (N : Nat) : (ref_Without.lam N).Ok Try.prog (ref_Without.C N) ref_Without.code := pcsOk_cons (c1 := .loop ref_Without_0.code) (by kernel_rfl) (ref_Without_0.ok N) (pcsOk_nil)
theorem ref_Without.ev (N : Nat) (x : Sh.den ref_Without.ins) : evC (ref_Without.C N) ref_Without.code (ref_Without.lam N) ⟨envOf 0 (bld (fun k => k) ref_Without.ins x 0).1, (bld (fun k => k) ref_Without.ins x 0).2.1, 1000⟩ (endF U ref_Without.outs Try.f63.results.toList []) = ref_Without.fn N x := by kernel_rfl
theorem ref_Without.ok (N : Nat) : (ref_Without.S N).con.Ok Try.prog 63 := fn_ok (F := ref_Without.S N) (n0 := 1000) Try.func63 (by kernel_rfl) (show Try.f63.body = some ref_Without.code by rfl) mix (ref_Without.cok N) (fun _ => rfl) (fun _ => rfl) (ref_Without.pok N) (fun x y h => (ref_Without.ev N x).trans h)
/-- hayloft/hayloftref04.Do -/
def ref_Do.ins : Sh := (.cons (.val (.pair (.int .i64) (.pair (.int .i64) (.pair (.slice (.pair .str (.pair (.slice .byte) (.int .i64)))) (.pair .bool (.pair .bool (.int .i64))))))) (.cons (.val (.int .i64)) (.cons (.val .str) (.cons (.val .str) (.cons (.val (.int .i64)) .nil)))))
def ref_Do.C (N : Nat) : Ctx := ⟨U, 79, fun _ => true, gam [(62, (ref_refused.S N).con), (60, (ref_step.S N).con), (53, (ref_At.S N).con), (61, (ref_With.S N).con), (52, (ref_joined.S N).con), (63, (ref_Without.S N).con)], gamY []⟩
theorem ref_Do.cok (N : Nat) : (ref_Do.C N).Ok Try.prog := ⟨U_ok, GamOk.cons (ref_refused.ok N) (GamOk.cons (ref_step.ok N) (GamOk.cons (ref_At.ok N) (GamOk.cons (ref_With.ok N) (GamOk.cons (ref_joined.ok N) (GamOk.cons (ref_Without.ok N) (GamOk.nil)))))), GamYOk.nil⟩
def ref_Do.code : Code := Try.f39.body.getD .skip
def ref_Do.outs : Sh := (.cons (.val (.pair (.int .i64) (.pair (.int .i64) (.pair (.slice (.pair .str (.pair (.slice .byte) (.int .i64)))) (.pair .bool (.pair .bool (.int .i64))))))) (.cons (.val (.int .i64)) .nil))
def ref_Do.run (N : Nat) (d : (Int × (Int × ((List ((List UInt8) × ((List UInt8) × Int))) × (Bool × (Bool × Int)))))) (call : Int) (name : (List UInt8)) (to_ : (List UInt8)) (n_ : Int) : Option ((Int × (Int × ((List ((List UInt8) × ((List UInt8) × Int))) × (Bool × (Bool × Int))))) × Int × Unit) :=
  obind (ref_refused.run N d call name to_ n_) fun (n1, _) =>
    bif !(decide (n1 = (0 : Int))) then
      some (d, n1, ())
    else
      obind (ref_step.run N d) fun (v, b, _) =>
        bif b then
          some (v, (44 : Int), ())
        else
          obind (ref_At.run N v name) fun (n2, _) =>
            bif inB n2 v.2.2.1.length then
              bif decide (call = (1 : Int)) then
                obind (ref_With.run N v ((v.2.2.1.getD n2.toNat (([] : List UInt8), ([] : List UInt8), (0 : Int))).1, (v.2.2.1.getD n2.toNat (([] : List UInt8), ([] : List UInt8), (0 : Int))).2.1, ((v.2.2.1.getD n2.toNat (([] : List UInt8), ([] : List UInt8), (0 : Int))).2.1.length : Int))) fun (v1, _) =>
                  some (v1, (0 : Int), ())
              else
                bif decide (call = (2 : Int)) then
                  bif okB (0 : Int) n_ (v.2.2.1.getD n2.toNat (([] : List UInt8), ([] : List UInt8), (0 : Int))).2.1.length then
                    obind (ref_joined.run N ((v.2.2.1.getD n2.toNat (([] : List UInt8), ([] : List UInt8), (0 : Int))).2.1.take n_.toNat) ([] : List UInt8)) fun (l, _) =>
                      obind (ref_With.run N v ((v.2.2.1.getD n2.toNat (([] : List UInt8), ([] : List UInt8), (0 : Int))).1, l, min (v.2.2.1.getD n2.toNat (([] : List UInt8), ([] : List UInt8), (0 : Int))).2.2 n_)) fun (v2, _) =>
                        some (v2, (0 : Int), ())
                  else none
                else
                  bif decide (call = (3 : Int)) then
                    obind (ref_Without.run N v name) fun (v3, _) =>
                      obind (ref_With.run N v3 (to_, (v.2.2.1.getD n2.toNat (([] : List UInt8), ([] : List UInt8), (0 : Int))).2)) fun (v4, _) =>
                        some (v4, (0 : Int), ())
                  else
                    obind (ref_Without.run N v name) fun (v5, _) =>
                      some (v5, (0 : Int), ())
            else none
def ref_Do.fn (N : Nat) (x : Sh.den ref_Do.ins) : Option (Sh.den ref_Do.outs) := ref_Do.run N x.1 x.2.1 x.2.2.1 x.2.2.2.1 x.2.2.2.2.1
def ref_Do.S (N : Nat) : Fs := ⟨ref_Do.ins, ref_Do.outs, ref_Do.fn N⟩
def ref_Do.lam (N : Nat) : Pcs := pcs []
theorem ref_Do.pok (N : Nat) : (ref_Do.lam N).Ok Try.prog (ref_Do.C N) ref_Do.code := pcsOk_nil
theorem ref_Do.ev (N : Nat) (x : Sh.den ref_Do.ins) : evC (ref_Do.C N) ref_Do.code (ref_Do.lam N) ⟨envOf 0 (bld (fun k => k) ref_Do.ins x 0).1, (bld (fun k => k) ref_Do.ins x 0).2.1, 1000⟩ (endF U ref_Do.outs Try.f39.results.toList []) = ref_Do.fn N x := by kernel_rfl
theorem ref_Do.ok (N : Nat) : (ref_Do.S N).con.Ok Try.prog 39 := fn_ok (F := ref_Do.S N) (n0 := 1000) Try.func39 (by kernel_rfl) (show Try.f39.body = some ref_Do.code by rfl) mix (ref_Do.cok N) (fun _ => rfl) (fun _ => rfl) (ref_Do.pok N) (fun x y h => (ref_Do.ev N x).trans h)
/-- (*hayloft/disk.Disk).Truncate$1 -/
def disk_Disk_Truncate_f1.ins : Sh := (.cons (.val (.pair (.slice .byte) (.int .i64))) (.cons (.rbox 3 (.cons (.val (.int .i64)) .nil)) .nil))
def disk_Disk_Truncate_f1.C (N : Nat) : Ctx := ⟨U, 13, fun _ => true, gam [], gamY []⟩
theorem disk_Disk_Truncate_f1.cok (N : Nat) : (disk_Disk_Truncate_f1.C N).Ok Try.prog := ⟨U_ok, GamOk.nil, GamYOk.nil⟩
def disk_Disk_Truncate_f1.code : Code := Try.f64.body.getD .skip
def disk_Disk_Truncate_f1.outs : Sh := (.cons (.val (.int .i64)) .nil)
def disk_Disk_Truncate_f1.run (N : Nat) (f : ((List UInt8) × Int)) (t1 : Int) : Option (Int × Unit) :=
  bif decide (t1 < (0 : Int)) then
    some ((43 : Int), ())
  else
    bif decide (t1 > (f.1.length : Int)) then
      some ((43 : Int), ())
    else some ((0 : Int), ())
def disk_Disk_Truncate_f1.fn (N : Nat) (x : Sh.den disk_Disk_Truncate_f1.ins) : Option (Sh.den disk_Disk_Truncate_f1.outs) := disk_Disk_Truncate_f1.run N x.1 x.2.1.1
def disk_Disk_Truncate_f1.S (N : Nat) : Fs := ⟨disk_Disk_Truncate_f1.ins, disk_Disk_Truncate_f1.outs, disk_Disk_Truncate_f1.fn N⟩
def disk_Disk_Truncate_f1.lam (N : Nat) : Pcs := pcs []
theorem disk_Disk_Truncate_f1.pok (N : Nat) : (disk_Disk_Truncate_f1.lam N).Ok Try.prog (disk_Disk_Truncate_f1.C N) disk_Disk_Truncate_f1.code := pcsOk_nil
theorem disk_Disk_Truncate_f1.ev (N : Nat) (x : Sh.den disk_Disk_Truncate_f1.ins) : evC (disk_Disk_Truncate_f1.C N) disk_Disk_Truncate_f1.code (disk_Disk_Truncate_f1.lam N) ⟨envOf 0 (bld (fun k => k) disk_Disk_Truncate_f1.ins x 0).1, (bld (fun k => k) disk_Disk_Truncate_f1.ins x 0).2.1, 1000⟩ (endF U disk_Disk_Truncate_f1.outs Try.f64.results.toList []) = disk_Disk_Truncate_f1.fn N x := by kernel_rfl
theorem disk_Disk_Truncate_f1.ok (N : Nat) : (disk_Disk_Truncate_f1.S N).con.Ok Try.prog 64 := fn_ok (F := disk_Disk_Truncate_f1.S N) (n0 := 1000) Try.func64 (by kernel_rfl) (show Try.f64.body = some disk_Disk_Truncate_f1.code by rfl) mix (disk_Disk_Truncate_f1.cok N) (fun _ => rfl) (fun _ => rfl) (disk_Disk_Truncate_f1.pok N) (fun x y h => (disk_Disk_Truncate_f1.ev N x).trans h)
/-- (*hayloft/disk.Disk).Truncate$2 -/
def disk_Disk_Truncate_f2.ins : Sh := (.cons (.val (.pair (.slice .byte) (.int .i64))) (.cons (.rbox 23 (.cons (.box 67 (.cons (.val (.int .i64)) (.cons (.val (.int .i64)) (.cons (.own 3000000 (.pair .str (.pair (.slice .byte) (.int .i64)))) (.cons (.val (.int .i64)) (.cons (.val (.int .i64)) (.cons (.val .bool) .nil))))))) .nil)) (.cons (.rbox 9 (.cons (.val .str) .nil)) (.cons (.rbox 3 (.cons (.val (.int .i64)) .nil)) .nil))))
def disk_Disk_Truncate_f2.C (N : Nat) : Ctx := ⟨U, 18, fun _ => true, gam [(36, (slices_Clone_byte_byte.S N).con), (34, (disk_Disk_lay.S N).con)], gamY []⟩
theorem disk_Disk_Truncate_f2.cok (N : Nat) : (disk_Disk_Truncate_f2.C N).Ok Try.prog := ⟨U_ok, GamOk.cons (slices_Clone_byte_byte.ok N) (GamOk.cons (disk_Disk_lay.ok N) (GamOk.nil)), GamYOk.nil⟩
def disk_Disk_Truncate_f2.code : Code := Try.f65.body.getD .skip
def disk_Disk_Truncate_f2.outs : Sh := (.cons (.upd 1 67 (.cons (.val (.int .i64)) (.cons (.val (.int .i64)) (.cons (.own 3000000 (.pair .str (.pair (.slice .byte) (.int .i64)))) (.cons (.val (.int .i64)) (.cons (.val (.int .i64)) (.cons (.val .bool) .nil))))))) .nil)
def disk_Disk_Truncate_f2.run (N : Nat) (f : ((List UInt8) × Int)) (room_ : Int) (used : Int) (files : (List ((List UInt8) × ((List UInt8) × Int)))) (steps : Int) (left : Int) (dead : Bool) (t2 : (List UInt8)) (t3 : Int) : Option ((Int × Int × (List ((List UInt8) × ((List UInt8) × Int))) × Int × Int × Bool × Unit) × Unit) :=
  bif okB (0 : Int) t3 f.1.length then
    obind (slices_Clone_byte_byte.run N (f.1.take t3.toNat)) fun (l, _) =>
      obind (disk_Disk_lay.run N room_ used files steps left dead t2 (l, min f.2 t3)) fun ((room1, used1, files1, steps1, left1, dead1, _), _) =>
        some ((room1, used1, files1, steps1, left1, dead1, ()), ())
  else none
def disk_Disk_Truncate_f2.fn (N : Nat) (x : Sh.den disk_Disk_Truncate_f2.ins) : Option (Sh.den disk_Disk_Truncate_f2.outs) := disk_Disk_Truncate_f2.run N x.1 x.2.1.1.1 x.2.1.1.2.1 x.2.1.1.2.2.1 x.2.1.1.2.2.2.1 x.2.1.1.2.2.2.2.1 x.2.1.1.2.2.2.2.2.1 x.2.2.1.1 x.2.2.2.1.1
def disk_Disk_Truncate_f2.S (N : Nat) : Fs := ⟨disk_Disk_Truncate_f2.ins, disk_Disk_Truncate_f2.outs, disk_Disk_Truncate_f2.fn N⟩
def disk_Disk_Truncate_f2.lam (N : Nat) : Pcs := pcs []
theorem disk_Disk_Truncate_f2.pok (N : Nat) : (disk_Disk_Truncate_f2.lam N).Ok Try.prog (disk_Disk_Truncate_f2.C N) disk_Disk_Truncate_f2.code := pcsOk_nil
theorem disk_Disk_Truncate_f2.ev (N : Nat) (x : Sh.den disk_Disk_Truncate_f2.ins) : evC (disk_Disk_Truncate_f2.C N) disk_Disk_Truncate_f2.code (disk_Disk_Truncate_f2.lam N) ⟨envOf 0 (bld (fun k => k) disk_Disk_Truncate_f2.ins x 0).1, (bld (fun k => k) disk_Disk_Truncate_f2.ins x 0).2.1, 1000⟩ (endF U disk_Disk_Truncate_f2.outs Try.f65.results.toList []) = disk_Disk_Truncate_f2.fn N x := by kernel_rfl
theorem disk_Disk_Truncate_f2.ok (N : Nat) : (disk_Disk_Truncate_f2.S N).con.Ok Try.prog 65 := fn_ok (F := disk_Disk_Truncate_f2.S N) (n0 := 1000) Try.func65 (by kernel_rfl) (show Try.f65.body = some disk_Disk_Truncate_f2.code by rfl) mix (disk_Disk_Truncate_f2.cok N) (fun _ => rfl) (fun _ => rfl) (disk_Disk_Truncate_f2.pok N) (fun x y h => (disk_Disk_Truncate_f2.ev N x).trans h)
/-- (*hayloft/disk.Disk).do -/
def disk_Disk_do_b.ins : Sh := (.cons (.box 67 (.cons (.val (.int .i64)) (.cons (.val (.int .i64)) (.cons (.own 3000000 (.pair .str (.pair (.slice .byte) (.int .i64)))) (.cons (.val (.int .i64)) (.cons (.val (.int .i64)) (.cons (.val .bool) .nil))))))) (.cons (.val .str) (.cons (.fn 64 (.cons (.rbox 3 (.cons (.val (.int .i64)) .nil)) .nil)) (.cons (.fn 65 (.cons (.rbox 23 (.cons (.ref 0) .nil)) (.cons (.rbox 9 (.cons (.val .str) .nil)) (.cons (.ref 2) .nil)))) .nil))))
def disk_Disk_do_b.C (N : Nat) : Ctx := ⟨U, 40, fun _ => true, gam [(64, (disk_Disk_Truncate_f1.S N).con), (35, (disk_Disk_step.S N).con), (65, (disk_Disk_Truncate_f2.S N).con)], gamY []⟩
theorem disk_Disk_do_b.cok (N : Nat) : (disk_Disk_do_b.C N).Ok Try.prog := ⟨U_ok, GamOk.cons (disk_Disk_Truncate_f1.ok N) (GamOk.cons (disk_Disk_step.ok N) (GamOk.cons (disk_Disk_Truncate_f2.ok N) (GamOk.nil))), GamYOk.nil⟩
def disk_Disk_do_b.code : Code := Try.f46.body.getD .skip
def disk_Disk_do_b.outs : Sh := (.cons (.upd 0 67 (.cons (.val (.int .i64)) (.cons (.val (.int .i64)) (.cons (.own 3000000 (.pair .str (.pair (.slice .byte) (.int .i64)))) (.cons (.val (.int .i64)) (.cons (.val (.int .i64)) (.cons (.val .bool) .nil))))))) (.cons (.val (.int .i64)) .nil))
def disk_Disk_do_b.run (N : Nat) (room_ : Int) (used : Int) (files : (List ((List UInt8) × ((List UInt8) × Int)))) (steps : Int) (left : Int) (dead : Bool) (name : (List UInt8)) (why : Int) (done : (List UInt8)) : Option ((Int × Int × (List ((List UInt8) × ((List UInt8) × Int))) × Int × Int × Bool × Unit) × Int × Unit) :=
  bif dead then
    some ((room_, used, files, steps, left, dead, ()), (44 : Int), ())
  else
    bif !(mapHas files name) then
      some ((room_, used, files, steps, left, dead, ()), (42 : Int), ())
    else
      obind (disk_Disk_Truncate_f1.run N (mapGet files name (([] : List UInt8), (0 : Int))) why) fun (n_, _) =>
        bif !(decide (n_ = (0 : Int))) then
          some ((room_, used, files, steps, left, dead, ()), n_, ())
        else
          obind (disk_Disk_step.run N room_ used files steps left dead) fun ((room1, used1, files1, steps1, left1, dead1, _), b, _) =>
            bif b then
              some ((room1, used1, files1, steps1, left1, dead1, ()), (44 : Int), ())
            else
              obind (disk_Disk_Truncate_f2.run N (mapGet files name (([] : List UInt8), (0 : Int))) room1 used1 files1 steps1 left1 dead1 done why) fun ((room2, used2, files2, steps2, left2, dead2, _), _) =>
                some ((room2, used2, files2, steps2, left2, dead2, ()), (0 : Int), ())
def disk_Disk_do_b.fn (N : Nat) (x : Sh.den disk_Disk_do_b.ins) : Option (Sh.den disk_Disk_do_b.outs) := disk_Disk_do_b.run N x.1.1 x.1.2.1 x.1.2.2.1 x.1.2.2.2.1 x.1.2.2.2.2.1 x.1.2.2.2.2.2.1 x.2.1 x.2.2.1.1.1 x.2.2.2.1.2.1.1
def disk_Disk_do_b.S (N : Nat) : Fs := ⟨disk_Disk_do_b.ins, disk_Disk_do_b.outs, disk_Disk_do_b.fn N⟩
def disk_Disk_do_b.lam (N : Nat) : Pcs := pcs []
theorem disk_Disk_do_b.pok (N : Nat) : (disk_Disk_do_b.lam N).Ok Try.prog (disk_Disk_do_b.C N) disk_Disk_do_b.code := pcsOk_nil
theorem disk_Disk_do_b.ev (N : Nat) (x : Sh.den disk_Disk_do_b.ins) : evC (disk_Disk_do_b.C N) disk_Disk_do_b.code (disk_Disk_do_b.lam N) ⟨envOf 0 (bld (fun k => k) disk_Disk_do_b.ins x 0).1, (bld (fun k => k) disk_Disk_do_b.ins x 0).2.1, 1000⟩ (endF U disk_Disk_do_b.outs Try.f46.results.toList []) = disk_Disk_do_b.fn N x := by kernel_rfl
theorem disk_Disk_do_b.ok (N : Nat) : (disk_Disk_do_b.S N).con.Ok Try.prog 46 := fn_ok (F := disk_Disk_do_b.S N) (n0 := 1000) Try.func46 (by kernel_rfl) (show Try.f46.body = some disk_Disk_do_b.code by rfl) mix (disk_Disk_do_b.cok N) (fun _ => rfl) (fun _ => rfl) (disk_Disk_do_b.pok N) (fun x y h => (disk_Disk_do_b.ev N x).trans h)
/-- (*hayloft/disk.Disk).Truncate -/
def disk_Disk_Truncate.ins : Sh := (.cons (.box 67 (.cons (.val (.int .i64)) (.cons (.val (.int .i64)) (.cons (.own 3000000 (.pair .str (.pair (.slice .byte) (.int .i64)))) (.cons (.val (.int .i64)) (.cons (.val (.int .i64)) (.cons (.val .bool) .nil))))))) (.cons (.val .str) (.cons (.val (.int .i64)) .nil)))
def disk_Disk_Truncate.C (N : Nat) : Ctx := ⟨U, 12, fun _ => true, gam [(46, (disk_Disk_do_b.S N).con)], gamY []⟩
theorem disk_Disk_Truncate.cok (N : Nat) : (disk_Disk_Truncate.C N).Ok Try.prog := ⟨U_ok, GamOk.cons (disk_Disk_do_b.ok N) (GamOk.nil), GamYOk.nil⟩
def disk_Disk_Truncate.code : Code := Try.f40.body.getD .skip
def disk_Disk_Truncate.outs : Sh := (.cons (.upd 0 67 (.cons (.val (.int .i64)) (.cons (.val (.int .i64)) (.cons (.own 3000000 (.pair .str (.pair (.slice .byte) (.int .i64)))) (.cons (.val (.int .i64)) (.cons (.val (.int .i64)) (.cons (.val .bool) .nil))))))) (.cons (.val (.int .i64)) .nil))
def disk_Disk_Truncate.run (N : Nat) (room_ : Int) (used : Int) (files : (List ((List UInt8) × ((List UInt8) × Int)))) (steps : Int) (left : Int) (dead : Bool) (name : (List UInt8)) (n_ : Int) : Option ((Int × Int × (List ((List UInt8) × ((List UInt8) × Int))) × Int × Int × Bool × Unit) × Int × Unit) :=
  obind (disk_Disk_do_b.run N room_ used files steps left dead name n_ name) fun ((room1, used1, files1, steps1, left1, dead1, _), n1, _) =>
    some ((room1, used1, files1, steps1, left1, dead1, ()), n1, ())
def disk_Disk_Truncate.fn (N : Nat) (x : Sh.den disk_Disk_Truncate.ins) : Option (Sh.den disk_Disk_Truncate.outs) := disk_Disk_Truncate.run N x.1.1 x.1.2.1 x.1.2.2.1 x.1.2.2.2.1 x.1.2.2.2.2.1 x.1.2.2.2.2.2.1 x.2.1 x.2.2.1
def disk_Disk_Truncate.S (N : Nat) : Fs := ⟨disk_Disk_Truncate.ins, disk_Disk_Truncate.outs, disk_Disk_Truncate.fn N⟩
def disk_Disk_Truncate.lam (N : Nat) : Pcs := pcs []
theorem disk_Disk_Truncate.pok (N : Nat) : (disk_Disk_Truncate.lam N).Ok Try.prog (disk_Disk_Truncate.C N) disk_Disk_Truncate.code := pcsOk_nil
theorem disk_Disk_Truncate.ev (N : Nat) (x : Sh.den disk_Disk_Truncate.ins) : evC (disk_Disk_Truncate.C N) disk_Disk_Truncate.code (disk_Disk_Truncate.lam N) ⟨envOf 0 (bld (fun k => k) disk_Disk_Truncate.ins x 0).1, (bld (fun k => k) disk_Disk_Truncate.ins x 0).2.1, 1000⟩ (endF U disk_Disk_Truncate.outs Try.f40.results.toList []) = disk_Disk_Truncate.fn N x := by kernel_rfl
theorem disk_Disk_Truncate.ok (N : Nat) : (disk_Disk_Truncate.S N).con.Ok Try.prog 40 := fn_ok (F := disk_Disk_Truncate.S N) (n0 := 1000) Try.func40 (by kernel_rfl) (show Try.f40.body = some disk_Disk_Truncate.code by rfl) mix (disk_Disk_Truncate.cok N) (fun _ => rfl) (fun _ => rfl) (disk_Disk_Truncate.pok N) (fun x y h => (disk_Disk_Truncate.ev N x).trans h)
/-- (*hayloft/disk.Disk).Rename$1 -/
def disk_Disk_Rename_f1.ins : Sh := (.cons (.val (.pair (.slice .byte) (.int .i64))) (.cons (.rbox 9 (.cons (.val .str) .nil)) .nil))
def disk_Disk_Rename_f1.C (N : Nat) : Ctx := ⟨U, 7, fun _ => true, gam [(32, (disk_named.S N).con)], gamY []⟩
theorem disk_Disk_Rename_f1.cok (N : Nat) : (disk_Disk_Rename_f1.C N).Ok Try.prog := ⟨U_ok, GamOk.cons (disk_named.ok N) (GamOk.nil), GamYOk.nil⟩
def disk_Disk_Rename_f1.code : Code := Try.f66.body.getD .skip
def disk_Disk_Rename_f1.outs : Sh := (.cons (.val (.int .i64)) .nil)
def disk_Disk_Rename_f1.run (N : Nat) (t0 : ((List UInt8) × Int)) (t1 : (List UInt8)) : Option (Int × Unit) :=
  obind (disk_named.run N t1) fun (b, _) =>
    bif !b then
      some ((40 : Int), ())
    else some ((0 : Int), ())
def disk_Disk_Rename_f1.fn (N : Nat) (x : Sh.den disk_Disk_Rename_f1.ins) : Option (Sh.den disk_Disk_Rename_f1.outs) := disk_Disk_Rename_f1.run N x.1 x.2.1.1
def disk_Disk_Rename_f1.S (N : Nat) : Fs := ⟨disk_Disk_Rename_f1.ins, disk_Disk_Rename_f1.outs, disk_Disk_Rename_f1.fn N⟩
def disk_Disk_Rename_f1.lam (N : Nat) : Pcs := pcs []
theorem disk_Disk_Rename_f1.pok (N : Nat) : (disk_Disk_Rename_f1.lam N).Ok Try.prog (disk_Disk_Rename_f1.C N) disk_Disk_Rename_f1.code := pcsOk_nil
theorem disk_Disk_Rename_f1.ev (N : Nat) (x : Sh.den disk_Disk_Rename_f1.ins) : evC (disk_Disk_Rename_f1.C N) disk_Disk_Rename_f1.code (disk_Disk_Rename_f1.lam N) ⟨envOf 0 (bld (fun k => k) disk_Disk_Rename_f1.ins x 0).1, (bld (fun k => k) disk_Disk_Rename_f1.ins x 0).2.1, 1000⟩ (endF U disk_Disk_Rename_f1.outs Try.f66.results.toList []) = disk_Disk_Rename_f1.fn N x := by kernel_rfl
theorem disk_Disk_Rename_f1.ok (N : Nat) : (disk_Disk_Rename_f1.S N).con.Ok Try.prog 66 := fn_ok (F := disk_Disk_Rename_f1.S N) (n0 := 1000) Try.func66 (by kernel_rfl) (show Try.f66.body = some disk_Disk_Rename_f1.code by rfl) mix (disk_Disk_Rename_f1.cok N) (fun _ => rfl) (fun _ => rfl) (disk_Disk_Rename_f1.pok N) (fun x y h => (disk_Disk_Rename_f1.ev N x).trans h)
/-- (*hayloft/disk.Disk).take -/
def disk_Disk_take.ins : Sh := (.cons (.box 67 (.cons (.val (.int .i64)) (.cons (.val (.int .i64)) (.cons (.own 3000000 (.pair .str (.pair (.slice .byte) (.int .i64)))) (.cons (.val (.int .i64)) (.cons (.val (.int .i64)) (.cons (.val .bool) .nil))))))) (.cons (.val .str) .nil))
def disk_Disk_take.C (N : Nat) : Ctx := ⟨U, 28, fun _ => true, gam [], gamY []⟩
theorem disk_Disk_take.cok (N : Nat) : (disk_Disk_take.C N).Ok Try.prog := ⟨U_ok, GamOk.nil, GamYOk.nil⟩
def disk_Disk_take.code : Code := Try.f49.body.getD .skip
def disk_Disk_take.outs : Sh := (.cons (.upd 0 67 (.cons (.val (.int .i64)) (.cons (.val (.int .i64)) (.cons (.own 3000000 (.pair .str (.pair (.slice .byte) (.int .i64)))) (.cons (.val (.int .i64)) (.cons (.val (.int .i64)) (.cons (.val .bool) .nil))))))) (.cons (.val (.pair (.slice .byte) (.int .i64))) .nil))
def disk_Disk_take.run (N : Nat) (room_ : Int) (used : Int) (files : (List ((List UInt8) × ((List UInt8) × Int)))) (steps : Int) (left : Int) (dead : Bool) (name : (List UInt8)) : Option ((Int × Int × (List ((List UInt8) × ((List UInt8) × Int))) × Int × Int × Bool × Unit) × ((List UInt8) × Int) × Unit) :=
  some ((room_, IntKind.i64.wrap (used - ((mapGet files name (([] : List UInt8), (0 : Int))).1.length : Int)), mapDel files name, steps, left, dead, ()), mapGet files name (([] : List UInt8), (0 : Int)), ())
def disk_Disk_take.fn (N : Nat) (x : Sh.den disk_Disk_take.ins) : Option (Sh.den disk_Disk_take.outs) := disk_Disk_take.run N x.1.1 x.1.2.1 x.1.2.2.1 x.1.2.2.2.1 x.1.2.2.2.2.1 x.1.2.2.2.2.2.1 x.2.1
def disk_Disk_take.S (N : Nat) : Fs := ⟨disk_Disk_take.ins, disk_Disk_take.outs, disk_Disk_take.fn N⟩
def disk_Disk_take.lam (N : Nat) : Pcs := pcs []
theorem disk_Disk_take.pok (N : Nat) : (disk_Disk_take.lam N).Ok Try.prog (disk_Disk_take.C N) disk_Disk_take.code := pcsOk_nil
theorem disk_Disk_take.ev (N : Nat) (x : Sh.den disk_Disk_take.ins) : evC (disk_Disk_take.C N) disk_Disk_take.code (disk_Disk_take.lam N) ⟨envOf 0 (bld (fun k => k) disk_Disk_take.ins x 0).1, (bld (fun k => k) disk_Disk_take.ins x 0).2.1, 1000⟩ (endF U disk_Disk_take.outs Try.f49.results.toList []) = disk_Disk_take.fn N x := by kernel_rfl
theorem disk_Disk_take.ok (N : Nat) : (disk_Disk_take.S N).con.Ok Try.prog 49 := fn_ok (F := disk_Disk_take.S N) (n0 := 1000) Try.func49 (by kernel_rfl) (show Try.f49.body = some disk_Disk_take.code by rfl) mix (disk_Disk_take.cok N) (fun _ => rfl) (fun _ => rfl) (disk_Disk_take.pok N) (fun x y h => (disk_Disk_take.ev N x).trans h)
/-- (*hayloft/disk.Disk).Rename$2 -/
def disk_Disk_Rename_f2.ins : Sh := (.cons (.val (.pair (.slice .byte) (.int .i64))) (.cons (.rbox 23 (.cons (.box 67 (.cons (.val (.int .i64)) (.cons (.val (.int .i64)) (.cons (.own 3000000 (.pair .str (.pair (.slice .byte) (.int .i64)))) (.cons (.val (.int .i64)) (.cons (.val (.int .i64)) (.cons (.val .bool) .nil))))))) .nil)) (.cons (.rbox 9 (.cons (.val .str) .nil)) (.cons (.rbox 9 (.cons (.val .str) .nil)) .nil))))
def disk_Disk_Rename_f2.C (N : Nat) : Ctx := ⟨U, 16, fun _ => true, gam [(49, (disk_Disk_take.S N).con), (34, (disk_Disk_lay.S N).con)], gamY []⟩
theorem disk_Disk_Rename_f2.cok (N : Nat) : (disk_Disk_Rename_f2.C N).Ok Try.prog := ⟨U_ok, GamOk.cons (disk_Disk_take.ok N) (GamOk.cons (disk_Disk_lay.ok N) (GamOk.nil)), GamYOk.nil⟩
def disk_Disk_Rename_f2.code : Code := Try.f67.body.getD .skip
def disk_Disk_Rename_f2.outs : Sh := (.cons (.upd 1 67 (.cons (.val (.int .i64)) (.cons (.val (.int .i64)) (.cons (.own 3000000 (.pair .str (.pair (.slice .byte) (.int .i64)))) (.cons (.val (.int .i64)) (.cons (.val (.int .i64)) (.cons (.val .bool) .nil))))))) .nil)
def disk_Disk_Rename_f2.run (N : Nat) (t0 : ((List UInt8) × Int)) (room_ : Int) (used : Int) (files : (List ((List UInt8) × ((List UInt8) × Int)))) (steps : Int) (left : Int) (dead : Bool) (t2 : (List UInt8)) (t3 : (List UInt8)) : Option ((Int × Int × (List ((List UInt8) × ((List UInt8) × Int))) × Int × Int × Bool × Unit) × Unit) :=
  obind (disk_Disk_take.run N room_ used files steps left dead t2) fun ((room1, used1, files1, steps1, left1, dead1, _), v, _) =>
    obind (disk_Disk_take.run N room1 used1 files1 steps1 left1 dead1 t3) fun ((room2, used2, files2, steps2, left2, dead2, _), v1, _) =>
      obind (disk_Disk_lay.run N room2 used2 files2 steps2 left2 dead2 t3 v) fun ((room3, used3, files3, steps3, left3, dead3, _), _) =>
        some ((room3, used3, files3, steps3, left3, dead3, ()), ())
def disk_Disk_Rename_f2.fn (N : Nat) (x : Sh.den disk_Disk_Rename_f2.ins) : Option (Sh.den disk_Disk_Rename_f2.outs) := disk_Disk_Rename_f2.run N x.1 x.2.1.1.1 x.2.1.1.2.1 x.2.1.1.2.2.1 x.2.1.1.2.2.2.1 x.2.1.1.2.2.2.2.1 x.2.1.1.2.2.2.2.2.1 x.2.2.1.1 x.2.2.2.1.1
def disk_Disk_Rename_f2.S (N : Nat) : Fs := ⟨disk_Disk_Rename_f2.ins, disk_Disk_Rename_f2.outs, disk_Disk_Rename_f2.fn N⟩
def disk_Disk_Rename_f2.lam (N : Nat) : Pcs := pcs []
theorem disk_Disk_Rename_f2.pok (N : Nat) : (disk_Disk_Rename_f2.lam N).Ok Try.prog (disk_Disk_Rename_f2.C N) disk_Disk_Rename_f2.code := pcsOk_nil
theorem disk_Disk_Rename_f2.ev (N : Nat) (x : Sh.den disk_Disk_Rename_f2.ins) : evC (disk_Disk_Rename_f2.C N) disk_Disk_Rename_f2.code (disk_Disk_Rename_f2.lam N) ⟨envOf 0 (bld (fun k => k) disk_Disk_Rename_f2.ins x 0).1, (bld (fun k => k) disk_Disk_Rename_f2.ins x 0).2.1, 1000⟩ (endF U disk_Disk_Rename_f2.outs Try.f67.results.toList []) = disk_Disk_Rename_f2.fn N x := by kernel_rfl
theorem disk_Disk_Rename_f2.ok (N : Nat) : (disk_Disk_Rename_f2.S N).con.Ok Try.prog 67 := fn_ok (F := disk_Disk_Rename_f2.S N) (n0 := 1000) Try.func67 (by kernel_rfl) (show Try.f67.body = some disk_Disk_Rename_f2.code by rfl) mix (disk_Disk_Rename_f2.cok N) (fun _ => rfl) (fun _ => rfl) (disk_Disk_Rename_f2.pok N) (fun x y h => (disk_Disk_Rename_f2.ev N x).trans h)
/-- (*hayloft/disk.Disk).do -/
def disk_Disk_do_c.ins : Sh := (.cons (.box 67 (.cons (.val (.int .i64)) (.cons (.val (.int .i64)) (.cons (.own 3000000 (.pair .str (.pair (.slice .byte) (.int .i64)))) (.cons (.val (.int .i64)) (.cons (.val (.int .i64)) (.cons (.val .bool) .nil))))))) (.cons (.val .str) (.cons (.fn 66 (.cons (.rbox 9 (.cons (.val .str) .nil)) .nil)) (.cons (.fn 67 (.cons (.rbox 23 (.cons (.ref 0) .nil)) (.cons (.rbox 9 (.cons (.val .str) .nil)) (.cons (.ref 2) .nil)))) .nil))))
def disk_Disk_do_c.C (N : Nat) : Ctx := ⟨U, 40, fun _ => true, gam [(66, (disk_Disk_Rename_f1.S N).con), (35, (disk_Disk_step.S N).con), (67, (disk_Disk_Rename_f2.S N).con)], gamY []⟩
theorem disk_Disk_do_c.cok (N : Nat) : (disk_Disk_do_c.C N).Ok Try.prog := ⟨U_ok, GamOk.cons (disk_Disk_Rename_f1.ok N) (GamOk.cons (disk_Disk_step.ok N) (GamOk.cons (disk_Disk_Rename_f2.ok N) (GamOk.nil))), GamYOk.nil⟩
def disk_Disk_do_c.code : Code := Try.f46.body.getD .skip
def disk_Disk_do_c.outs : Sh := (.cons (.upd 0 67 (.cons (.val (.int .i64)) (.cons (.val (.int .i64)) (.cons (.own 3000000 (.pair .str (.pair (.slice .byte) (.int .i64)))) (.cons (.val (.int .i64)) (.cons (.val (.int .i64)) (.cons (.val .bool) .nil))))))) (.cons (.val (.int .i64)) .nil))
def disk_Disk_do_c.run (N : Nat) (room_ : Int) (used : Int) (files : (List ((List UInt8) × ((List UInt8) × Int)))) (steps : Int) (left : Int) (dead : Bool) (name : (List UInt8)) (why : (List UInt8)) (done : (List UInt8)) : Option ((Int × Int × (List ((List UInt8) × ((List UInt8) × Int))) × Int × Int × Bool × Unit) × Int × Unit) :=
  bif dead then
    some ((room_, used, files, steps, left, dead, ()), (44 : Int), ())
  else
    bif !(mapHas files name) then
      some ((room_, used, files, steps, left, dead, ()), (42 : Int), ())
    else
      obind (disk_Disk_Rename_f1.run N (mapGet files name (([] : List UInt8), (0 : Int))) why) fun (n_, _) =>
        bif !(decide (n_ = (0 : Int))) then
          some ((room_, used, files, steps, left, dead, ()), n_, ())
        else
          obind (disk_Disk_step.run N room_ used files steps left dead) fun ((room1, used1, files1, steps1, left1, dead1, _), b, _) =>
            bif b then
              some ((room1, used1, files1, steps1, left1, dead1, ()), (44 : Int), ())
            else
              obind (disk_Disk_Rename_f2.run N (mapGet files name (([] : List UInt8), (0 : Int))) room1 used1 files1 steps1 left1 dead1 done why) fun ((room2, used2, files2, steps2, left2, dead2, _), _) =>
                some ((room2, used2, files2, steps2, left2, dead2, ()), (0 : Int), ())
def disk_Disk_do_c.fn (N : Nat) (x : Sh.den disk_Disk_do_c.ins) : Option (Sh.den disk_Disk_do_c.outs) := disk_Disk_do_c.run N x.1.1 x.1.2.1 x.1.2.2.1 x.1.2.2.2.1 x.1.2.2.2.2.1 x.1.2.2.2.2.2.1 x.2.1 x.2.2.1.1.1 x.2.2.2.1.2.1.1
def disk_Disk_do_c.S (N : Nat) : Fs := ⟨disk_Disk_do_c.ins, disk_Disk_do_c.outs, disk_Disk_do_c.fn N⟩
def disk_Disk_do_c.lam (N : Nat) : Pcs := pcs []
theorem disk_Disk_do_c.pok (N : Nat) : (disk_Disk_do_c.lam N).Ok Try.prog (disk_Disk_do_c.C N) disk_Disk_do_c.code := pcsOk_nil
theorem disk_Disk_do_c.ev (N : Nat) (x : Sh.den disk_Disk_do_c.ins) : evC (disk_Disk_do_c.C N) disk_Disk_do_c.code (disk_Disk_do_c.lam N) ⟨envOf 0 (bld (fun k => k) disk_Disk_do_c.ins x 0).1, (bld (fun k => k) disk_Disk_do_c.ins x 0).2.1, 1000⟩ (endF U disk_Disk_do_c.outs Try.f46.results.toList []) = disk_Disk_do_c.fn N x := by kernel_rfl
theorem disk_Disk_do_c.ok (N : Nat) : (disk_Disk_do_c.S N).con.Ok Try.prog 46 := fn_ok (F := disk_Disk_do_c.S N) (n0 := 1000) Try.func46 (by kernel_rfl) (show Try.f46.body = some disk_Disk_do_c.code by rfl) mix (disk_Disk_do_c.cok N) (fun _ => rfl) (fun _ => rfl) (disk_Disk_do_c.pok N) (fun x y h => (disk_Disk_do_c.ev N x).trans h)
/-- (*hayloft/disk.Disk).Rename -/
def disk_Disk_Rename.ins : Sh := (.cons (.box 67 (.cons (.val (.int .i64)) (.cons (.val (.int .i64)) (.cons (.own 3000000 (.pair .str (.pair (.slice .byte) (.int .i64)))) (.cons (.val (.int .i64)) (.cons (.val (.int .i64)) (.cons (.val .bool) .nil))))))) (.cons (.val .str) (.cons (.val .str) .nil)))
def disk_Disk_Rename.C (N : Nat) : Ctx := ⟨U, 12, fun _ => true, gam [(46, (disk_Disk_do_c.S N).con)], gamY []⟩
theorem disk_Disk_Rename.cok (N : Nat) : (disk_Disk_Rename.C N).Ok Try.prog := ⟨U_ok, GamOk.cons (disk_Disk_do_c.ok N) (GamOk.nil), GamYOk.nil⟩
def disk_Disk_Rename.code : Code := Try.f41.body.getD .skip
def disk_Disk_Rename.outs : Sh := (.cons (.upd 0 67 (.cons (.val (.int .i64)) (.cons (.val (.int .i64)) (.cons (.own 3000000 (.pair .str (.pair (.slice .byte) (.int .i64)))) (.cons (.val (.int .i64)) (.cons (.val (.int .i64)) (.cons (.val .bool) .nil))))))) (.cons (.val (.int .i64)) .nil))
def disk_Disk_Rename.run (N : Nat) (room_ : Int) (used : Int) (files : (List ((List UInt8) × ((List UInt8) × Int)))) (steps : Int) (left : Int) (dead : Bool) (from_ : (List UInt8)) (to_ : (List UInt8)) : Option ((Int × Int × (List ((List UInt8) × ((List UInt8) × Int))) × Int × Int × Bool × Unit) × Int × Unit) :=
  obind (disk_Disk_do_c.run N room_ used files steps left dead from_ to_ from_) fun ((room1, used1, files1, steps1, left1, dead1, _), n_, _) =>
    some ((room1, used1, files1, steps1, left1, dead1, ()), n_, ())
def disk_Disk_Rename.fn (N : Nat) (x : Sh.den disk_Disk_Rename.ins) : Option (Sh.den disk_Disk_Rename.outs) := disk_Disk_Rename.run N x.1.1 x.1.2.1 x.1.2.2.1 x.1.2.2.2.1 x.1.2.2.2.2.1 x.1.2.2.2.2.2.1 x.2.1 x.2.2.1
def disk_Disk_Rename.S (N : Nat) : Fs := ⟨disk_Disk_Rename.ins, disk_Disk_Rename.outs, disk_Disk_Rename.fn N⟩
def disk_Disk_Rename.lam (N : Nat) : Pcs := pcs []
theorem disk_Disk_Rename.pok (N : Nat) : (disk_Disk_Rename.lam N).Ok Try.prog (disk_Disk_Rename.C N) disk_Disk_Rename.code := pcsOk_nil
theorem disk_Disk_Rename.ev (N : Nat) (x : Sh.den disk_Disk_Rename.ins) : evC (disk_Disk_Rename.C N) disk_Disk_Rename.code (disk_Disk_Rename.lam N) ⟨envOf 0 (bld (fun k => k) disk_Disk_Rename.ins x 0).1, (bld (fun k => k) disk_Disk_Rename.ins x 0).2.1, 1000⟩ (endF U disk_Disk_Rename.outs Try.f41.results.toList []) = disk_Disk_Rename.fn N x := by kernel_rfl
theorem disk_Disk_Rename.ok (N : Nat) : (disk_Disk_Rename.S N).con.Ok Try.prog 41 := fn_ok (F := disk_Disk_Rename.S N) (n0 := 1000) Try.func41 (by kernel_rfl) (show Try.f41.body = some disk_Disk_Rename.code by rfl) mix (disk_Disk_Rename.cok N) (fun _ => rfl) (fun _ => rfl) (disk_Disk_Rename.pok N) (fun x y h => (disk_Disk_Rename.ev N x).trans h)
/-- (*hayloft/disk.Disk).Remove$1 -/
def disk_Disk_Remove_f1.ins : Sh := (.cons (.val (.pair (.slice .byte) (.int .i64))) (.cons (.rbox 23 (.cons (.box 67 (.cons (.val (.int .i64)) (.cons (.val (.int .i64)) (.cons (.own 3000000 (.pair .str (.pair (.slice .byte) (.int .i64)))) (.cons (.val (.int .i64)) (.cons (.val (.int .i64)) (.cons (.val .bool) .nil))))))) .nil)) (.cons (.rbox 9 (.cons (.val .str) .nil)) .nil)))
def disk_Disk_Remove_f1.C (N : Nat) : Ctx := ⟨U, 7, fun _ => true, gam [(49, (disk_Disk_take.S N).con)], gamY []⟩
theorem disk_Disk_Remove_f1.cok (N : Nat) : (disk_Disk_Remove_f1.C N).Ok Try.prog := ⟨U_ok, GamOk.cons (disk_Disk_take.ok N) (GamOk.nil), GamYOk.nil⟩
def disk_Disk_Remove_f1.code : Code := Try.f48.body.getD .skip
def disk_Disk_Remove_f1.outs : Sh := (.cons (.upd 1 67 (.cons (.val (.int .i64)) (.cons (.val (.int .i64)) (.cons (.own 3000000 (.pair .str (.pair (.slice .byte) (.int .i64)))) (.cons (.val (.int .i64)) (.cons (.val (.int .i64)) (.cons (.val .bool) .nil))))))) .nil)
def disk_Disk_Remove_f1.run (N : Nat) (t0 : ((List UInt8) × Int)) (room_ : Int) (used : Int) (files : (List ((List UInt8) × ((List UInt8) × Int)))) (steps : Int) (left : Int) (dead : Bool) (t2 : (List UInt8)) : Option ((Int × Int × (List ((List UInt8) × ((List UInt8) × Int))) × Int × Int × Bool × Unit) × Unit) :=
  obind (disk_Disk_take.run N room_ used files steps left dead t2) fun ((room1, used1, files1, steps1, left1, dead1, _), v, _) =>
    some ((room1, used1, files1, steps1, left1, dead1, ()), ())
def disk_Disk_Remove_f1.fn (N : Nat) (x : Sh.den disk_Disk_Remove_f1.ins) : Option (Sh.den disk_Disk_Remove_f1.outs) := disk_Disk_Remove_f1.run N x.1 x.2.1.1.1 x.2.1.1.2.1 x.2.1.1.2.2.1 x.2.1.1.2.2.2.1 x.2.1.1.2.2.2.2.1 x.2.1.1.2.2.2.2.2.1 x.2.2.1.1
def disk_Disk_Remove_f1.S (N : Nat) : Fs := ⟨disk_Disk_Remove_f1.ins, disk_Disk_Remove_f1.outs, disk_Disk_Remove_f1.fn N⟩
def disk_Disk_Remove_f1.lam (N : Nat) : Pcs := pcs []
theorem disk_Disk_Remove_f1.pok (N : Nat) : (disk_Disk_Remove_f1.lam N).Ok Try.prog (disk_Disk_Remove_f1.C N) disk_Disk_Remove_f1.code := pcsOk_nil
theorem disk_Disk_Remove_f1.ev (N : Nat) (x : Sh.den disk_Disk_Remove_f1.ins) : evC (disk_Disk_Remove_f1.C N) disk_Disk_Remove_f1.code (disk_Disk_Remove_f1.lam N) ⟨envOf 0 (bld (fun k => k) disk_Disk_Remove_f1.ins x 0).1, (bld (fun k => k) disk_Disk_Remove_f1.ins x 0).2.1, 1000⟩ (endF U disk_Disk_Remove_f1.outs Try.f48.results.toList []) = disk_Disk_Remove_f1.fn N x := by kernel_rfl
theorem disk_Disk_Remove_f1.ok (N : Nat) : (disk_Disk_Remove_f1.S N).con.Ok Try.prog 48 := fn_ok (F := disk_Disk_Remove_f1.S N) (n0 := 1000) Try.func48 (by kernel_rfl) (show Try.f48.body = some disk_Disk_Remove_f1.code by rfl) mix (disk_Disk_Remove_f1.cok N) (fun _ => rfl) (fun _ => rfl) (disk_Disk_Remove_f1.pok N) (fun x y h => (disk_Disk_Remove_f1.ev N x).trans h)
/-- (*hayloft/disk.Disk).do -/
def disk_Disk_do_d.ins : Sh := (.cons (.box 67 (.cons (.val (.int .i64)) (.cons (.val (.int .i64)) (.cons (.own 3000000 (.pair .str (.pair (.slice .byte) (.int .i64)))) (.cons (.val (.int .i64)) (.cons (.val (.int .i64)) (.cons (.val .bool) .nil))))))) (.cons (.val .str) (.cons (.fn 47 .nil) (.cons (.fn 48 (.cons (.rbox 23 (.cons (.ref 0) .nil)) (.cons (.rbox 9 (.cons (.val .str) .nil)) .nil))) .nil))))
def disk_Disk_do_d.C (N : Nat) : Ctx := ⟨U, 40, fun _ => true, gam [(47, (disk_fine.S N).con), (35, (disk_Disk_step.S N).con), (48, (disk_Disk_Remove_f1.S N).con)], gamY []⟩
theorem disk_Disk_do_d.cok (N : Nat) : (disk_Disk_do_d.C N).Ok Try.prog := ⟨U_ok, GamOk.cons (disk_fine.ok N) (GamOk.cons (disk_Disk_step.ok N) (GamOk.cons (disk_Disk_Remove_f1.ok N) (GamOk.nil))), GamYOk.nil⟩
def disk_Disk_do_d.code : Code := Try.f46.body.getD .skip
def disk_Disk_do_d.outs : Sh := (.cons (.upd 0 67 (.cons (.val (.int .i64)) (.cons (.val (.int .i64)) (.cons (.own 3000000 (.pair .str (.pair (.slice .byte) (.int .i64)))) (.cons (.val (.int .i64)) (.cons (.val (.int .i64)) (.cons (.val .bool) .nil))))))) (.cons (.val (.int .i64)) .nil))
def disk_Disk_do_d.run (N : Nat) (room_ : Int) (used : Int) (files : (List ((List UInt8) × ((List UInt8) × Int)))) (steps : Int) (left : Int) (dead : Bool) (name : (List UInt8)) (done : (List UInt8)) : Option ((Int × Int × (List ((List UInt8) × ((List UInt8) × Int))) × Int × Int × Bool × Unit) × Int × Unit) :=
  bif dead then
    some ((room_, used, files, steps, left, dead, ()), (44 : Int), ())
  else
    bif !(mapHas files name) then
      some ((room_, used, files, steps, left, dead, ()), (42 : Int), ())
    else
      obind (disk_fine.run N (mapGet files name (([] : List UInt8), (0 : Int)))) fun (n_, _) =>
        bif !(decide (n_ = (0 : Int))) then
          some ((room_, used, files, steps, left, dead, ()), n_, ())
        else
          obind (disk_Disk_step.run N room_ used files steps left dead) fun ((room1, used1, files1, steps1, left1, dead1, _), b, _) =>
            bif b then
              some ((room1, used1, files1, steps1, left1, dead1, ()), (44 : Int), ())
            else
              obind (disk_Disk_Remove_f1.run N (mapGet files name (([] : List UInt8), (0 : Int))) room1 used1 files1 steps1 left1 dead1 done) fun ((room2, used2, files2, steps2, left2, dead2, _), _) =>
                some ((room2, used2, files2, steps2, left2, dead2, ()), (0 : Int), ())
def disk_Disk_do_d.fn (N : Nat) (x : Sh.den disk_Disk_do_d.ins) : Option (Sh.den disk_Disk_do_d.outs) := disk_Disk_do_d.run N x.1.1 x.1.2.1 x.1.2.2.1 x.1.2.2.2.1 x.1.2.2.2.2.1 x.1.2.2.2.2.2.1 x.2.1 x.2.2.2.1.2.1.1
def disk_Disk_do_d.S (N : Nat) : Fs := ⟨disk_Disk_do_d.ins, disk_Disk_do_d.outs, disk_Disk_do_d.fn N⟩
def disk_Disk_do_d.lam (N : Nat) : Pcs := pcs []
theorem disk_Disk_do_d.pok (N : Nat) : (disk_Disk_do_d.lam N).Ok Try.prog (disk_Disk_do_d.C N) disk_Disk_do_d.code := pcsOk_nil
theorem disk_Disk_do_d.ev (N : Nat) (x : Sh.den disk_Disk_do_d.ins) : evC (disk_Disk_do_d.C N) disk_Disk_do_d.code (disk_Disk_do_d.lam N) ⟨envOf 0 (bld (fun k => k) disk_Disk_do_d.ins x 0).1, (bld (fun k => k) disk_Disk_do_d.ins x 0).2.1, 1000⟩ (endF U disk_Disk_do_d.outs Try.f46.results.toList []) = disk_Disk_do_d.fn N x := by kernel_rfl
theorem disk_Disk_do_d.ok (N : Nat) : (disk_Disk_do_d.S N).con.Ok Try.prog 46 := fn_ok (F := disk_Disk_do_d.S N) (n0 := 1000) Try.func46 (by kernel_rfl) (show Try.f46.body = some disk_Disk_do_d.code by rfl) mix (disk_Disk_do_d.cok N) (fun _ => rfl) (fun _ => rfl) (disk_Disk_do_d.pok N) (fun x y h => (disk_Disk_do_d.ev N x).trans h)
/-- (*hayloft/disk.Disk).Remove -/
def disk_Disk_Remove.ins : Sh := (.cons (.box 67 (.cons (.val (.int .i64)) (.cons (.val (.int .i64)) (.cons (.own 3000000 (.pair .str (.pair (.slice .byte) (.int .i64)))) (.cons (.val (.int .i64)) (.cons (.val (.int .i64)) (.cons (.val .bool) .nil))))))) (.cons (.val .str) .nil))
def disk_Disk_Remove.C (N : Nat) : Ctx := ⟨U, 9, fun _ => true, gam [(46, (disk_Disk_do_d.S N).con)], gamY []⟩
theorem disk_Disk_Remove.cok (N : Nat) : (disk_Disk_Remove.C N).Ok Try.prog := ⟨U_ok, GamOk.cons (disk_Disk_do_d.ok N) (GamOk.nil), GamYOk.nil⟩
def disk_Disk_Remove.code : Code := Try.f17.body.getD .skip
def disk_Disk_Remove.outs : Sh := (.cons (.upd 0 67 (.cons (.val (.int .i64)) (.cons (.val (.int .i64)) (.cons (.own 3000000 (.pair .str (.pair (.slice .byte) (.int .i64)))) (.cons (.val (.int .i64)) (.cons (.val (.int .i64)) (.cons (.val .bool) .nil))))))) (.cons (.val (.int .i64)) .nil))
def disk_Disk_Remove.run (N : Nat) (room_ : Int) (used : Int) (files : (List ((List UInt8) × ((List UInt8) × Int)))) (steps : Int) (left : Int) (dead : Bool) (name : (List UInt8)) : Option ((Int × Int × (List ((List UInt8) × ((List UInt8) × Int))) × Int × Int × Bool × Unit) × Int × Unit) :=
  obind (disk_Disk_do_d.run N room_ used files steps left dead name name) fun ((room1, used1, files1, steps1, left1, dead1, _), n_, _) =>
    some ((room1, used1, files1, steps1, left1, dead1, ()), n_, ())
def disk_Disk_Remove.fn (N : Nat) (x : Sh.den disk_Disk_Remove.ins) : Option (Sh.den disk_Disk_Remove.outs) := disk_Disk_Remove.run N x.1.1 x.1.2.1 x.1.2.2.1 x.1.2.2.2.1 x.1.2.2.2.2.1 x.1.2.2.2.2.2.1 x.2.1
def disk_Disk_Remove.S (N : Nat) : Fs := ⟨disk_Disk_Remove.ins, disk_Disk_Remove.outs, disk_Disk_Remove.fn N⟩
def disk_Disk_Remove.lam (N : Nat) : Pcs := pcs []
theorem disk_Disk_Remove.pok (N : Nat) : (disk_Disk_Remove.lam N).Ok Try.prog (disk_Disk_Remove.C N) disk_Disk_Remove.code := pcsOk_nil
theorem disk_Disk_Remove.ev (N : Nat) (x : Sh.den disk_Disk_Remove.ins) : evC (disk_Disk_Remove.C N) disk_Disk_Remove.code (disk_Disk_Remove.lam N) ⟨envOf 0 (bld (fun k => k) disk_Disk_Remove.ins x 0).1, (bld (fun k => k) disk_Disk_Remove.ins x 0).2.1, 1000⟩ (endF U disk_Disk_Remove.outs Try.f17.results.toList []) = disk_Disk_Remove.fn N x := by kernel_rfl
theorem disk_Disk_Remove.ok (N : Nat) : (disk_Disk_Remove.S N).con.Ok Try.prog 17 := fn_ok (F := disk_Disk_Remove.S N) (n0 := 1000) Try.func17 (by kernel_rfl) (show Try.f17.body = some disk_Disk_Remove.code by rfl) mix (disk_Disk_Remove.cok N) (fun _ => rfl) (fun _ => rfl) (disk_Disk_Remove.pok N) (fun x y h => (disk_Disk_Remove.ev N x).trans h)
/-- (*hayloft/disk.Disk).Arm -/
def disk_Disk_Arm.ins : Sh := (.cons (.box 67 (.cons (.val (.int .i64)) (.cons (.val (.int .i64)) (.cons (.own 3000000 (.pair .str (.pair (.slice .byte) (.int .i64)))) (.cons (.val (.int .i64)) (.cons (.val (.int .i64)) (.cons (.val .bool) .nil))))))) (.cons (.val (.int .i64)) .nil))
def disk_Disk_Arm.C (N : Nat) : Ctx := ⟨U, 14, fun _ => true, gam [], gamY []⟩
theorem disk_Disk_Arm.cok (N : Nat) : (disk_Disk_Arm.C N).Ok Try.prog := ⟨U_ok, GamOk.nil, GamYOk.nil⟩
def disk_Disk_Arm.code : Code := Try.f21.body.getD .skip
def disk_Disk_Arm.outs : Sh := (.cons (.upd 0 67 (.cons (.val (.int .i64)) (.cons (.val (.int .i64)) (.cons (.own 3000000 (.pair .str (.pair (.slice .byte) (.int .i64)))) (.cons (.val (.int .i64)) (.cons (.val (.int .i64)) (.cons (.val .bool) .nil))))))) .nil)
def disk_Disk_Arm.run (N : Nat) (room_ : Int) (used : Int) (files : (List ((List UInt8) × ((List UInt8) × Int)))) (steps : Int) (left : Int) (dead : Bool) (at_ : Int) : Option ((Int × Int × (List ((List UInt8) × ((List UInt8) × Int))) × Int × Int × Bool × Unit) × Unit) :=
  bif !dead then
    some ((room_, used, files, steps, max at_ (-1 : Int), dead, ()), ())
  else some ((room_, used, files, steps, left, dead, ()), ())
def disk_Disk_Arm.fn (N : Nat) (x : Sh.den disk_Disk_Arm.ins) : Option (Sh.den disk_Disk_Arm.outs) := disk_Disk_Arm.run N x.1.1 x.1.2.1 x.1.2.2.1 x.1.2.2.2.1 x.1.2.2.2.2.1 x.1.2.2.2.2.2.1 x.2.1
def disk_Disk_Arm.S (N : Nat) : Fs := ⟨disk_Disk_Arm.ins, disk_Disk_Arm.outs, disk_Disk_Arm.fn N⟩
def disk_Disk_Arm.lam (N : Nat) : Pcs := pcs []
theorem disk_Disk_Arm.pok (N : Nat) : (disk_Disk_Arm.lam N).Ok Try.prog (disk_Disk_Arm.C N) disk_Disk_Arm.code := pcsOk_nil
theorem disk_Disk_Arm.ev (N : Nat) (x : Sh.den disk_Disk_Arm.ins) : evC (disk_Disk_Arm.C N) disk_Disk_Arm.code (disk_Disk_Arm.lam N) ⟨envOf 0 (bld (fun k => k) disk_Disk_Arm.ins x 0).1, (bld (fun k => k) disk_Disk_Arm.ins x 0).2.1, 1000⟩ (endF U disk_Disk_Arm.outs Try.f21.results.toList []) = disk_Disk_Arm.fn N x := by kernel_rfl
theorem disk_Disk_Arm.ok (N : Nat) : (disk_Disk_Arm.S N).con.Ok Try.prog 21 := fn_ok (F := disk_Disk_Arm.S N) (n0 := 1000) Try.func21 (by kernel_rfl) (show Try.f21.body = some disk_Disk_Arm.code by rfl) mix (disk_Disk_Arm.cok N) (fun _ => rfl) (fun _ => rfl) (disk_Disk_Arm.pok N) (fun x y h => (disk_Disk_Arm.ev N x).trans h)
/-- hayloft/hayloftref04.Arm -/
def ref_Arm.ins : Sh := (.cons (.val (.pair (.int .i64) (.pair (.int .i64) (.pair (.slice (.pair .str (.pair (.slice .byte) (.int .i64)))) (.pair .bool (.pair .bool (.int .i64))))))) (.cons (.val (.int .i64)) .nil))
def ref_Arm.C (N : Nat) : Ctx := ⟨U, 14, fun _ => true, gam [], gamY []⟩
theorem ref_Arm.cok (N : Nat) : (ref_Arm.C N).Ok Try.prog := ⟨U_ok, GamOk.nil, GamYOk.nil⟩
def ref_Arm.code : Code := Try.f42.body.getD .skip
def ref_Arm.outs : Sh := (.cons (.val (.pair (.int .i64) (.pair (.int .i64) (.pair (.slice (.pair .str (.pair (.slice .byte) (.int .i64)))) (.pair .bool (.pair .bool (.int .i64))))))) .nil)
def ref_Arm.run (N : Nat) (d : (Int × (Int × ((List ((List UInt8) × ((List UInt8) × Int))) × (Bool × (Bool × Int)))))) (at_ : Int) : Option ((Int × (Int × ((List ((List UInt8) × ((List UInt8) × Int))) × (Bool × (Bool × Int))))) × Unit) :=
  bif !d.2.2.2.2.1 then
    some ((d.1, d.2.1, d.2.2.1, decide (at_ ≥ (0 : Int)), d.2.2.2.2.1, at_), ())
  else some (d, ())
def ref_Arm.fn (N : Nat) (x : Sh.den ref_Arm.ins) : Option (Sh.den ref_Arm.outs) := ref_Arm.run N x.1 x.2.1
def ref_Arm.S (N : Nat) : Fs := ⟨ref_Arm.ins, ref_Arm.outs, ref_Arm.fn N⟩
def ref_Arm.lam (N : Nat) : Pcs := pcs []
theorem ref_Arm.pok (N : Nat) : (ref_Arm.lam N).Ok Try.prog (ref_Arm.C N) ref_Arm.code := pcsOk_nil
theorem ref_Arm.ev (N : Nat) (x : Sh.den ref_Arm.ins) : evC (ref_Arm.C N) ref_Arm.code (ref_Arm.lam N) ⟨envOf 0 (bld (fun k => k) ref_Arm.ins x 0).1, (bld (fun k => k) ref_Arm.ins x 0).2.1, 1000⟩ (endF U ref_Arm.outs Try.f42.results.toList []) = ref_Arm.fn N x := by kernel_rfl
theorem ref_Arm.ok (N : Nat) : (ref_Arm.S N).con.Ok Try.prog 42 := fn_ok (F := ref_Arm.S N) (n0 := 1000) Try.func42 (by kernel_rfl) (show Try.f42.body = some ref_Arm.code by rfl) mix (ref_Arm.cok N) (fun _ => rfl) (fun _ => rfl) (ref_Arm.pok N) (fun x y h => (ref_Arm.ev N x).trans h)
/-- (*hayloft/disk.Disk).Wipe -/
def disk_Disk_Wipe.ins : Sh := (.cons (.box 67 (.cons (.val (.int .i64)) (.cons (.val (.int .i64)) (.cons (.own 3000000 (.pair .str (.pair (.slice .byte) (.int .i64)))) (.cons (.val (.int .i64)) (.cons (.val (.int .i64)) (.cons (.val .bool) .nil))))))) .nil)
def disk_Disk_Wipe.C (N : Nat) : Ctx := ⟨U, 9, fun _ => true, gam [], gamY []⟩
theorem disk_Disk_Wipe.cok (N : Nat) : (disk_Disk_Wipe.C N).Ok Try.prog := ⟨U_ok, GamOk.nil, GamYOk.nil⟩
def disk_Disk_Wipe.code : Code := Try.f18.body.getD .skip
def disk_Disk_Wipe.outs : Sh := (.cons (.upd 0 67 (.cons (.val (.int .i64)) (.cons (.val (.int .i64)) (.cons (.own 3000000 (.pair .str (.pair (.slice .byte) (.int .i64)))) (.cons (.val (.int .i64)) (.cons (.val (.int .i64)) (.cons (.val .bool) .nil))))))) .nil)
def disk_Disk_Wipe.run (N : Nat) (room_ : Int) (used : Int) (files : (List ((List UInt8) × ((List UInt8) × Int)))) (steps : Int) (left : Int) (dead : Bool) : Option ((Int × Int × (List ((List UInt8) × ((List UInt8) × Int))) × Int × Int × Bool × Unit) × Unit) :=
  some ((room_, (0 : Int), ([] : List ((List UInt8) × ((List UInt8) × Int))), steps, left, dead, ()), ())
def disk_Disk_Wipe.fn (N : Nat) (x : Sh.den disk_Disk_Wipe.ins) : Option (Sh.den disk_Disk_Wipe.outs) := disk_Disk_Wipe.run N x.1.1 x.1.2.1 x.1.2.2.1 x.1.2.2.2.1 x.1.2.2.2.2.1 x.1.2.2.2.2.2.1
def disk_Disk_Wipe.S (N : Nat) : Fs := ⟨disk_Disk_Wipe.ins, disk_Disk_Wipe.outs, disk_Disk_Wipe.fn N⟩
def disk_Disk_Wipe.lam (N : Nat) : Pcs := pcs []
theorem disk_Disk_Wipe.pok (N : Nat) : (disk_Disk_Wipe.lam N).Ok Try.prog (disk_Disk_Wipe.C N) disk_Disk_Wipe.code := pcsOk_nil
theorem disk_Disk_Wipe.ev (N : Nat) (x : Sh.den disk_Disk_Wipe.ins) : evC (disk_Disk_Wipe.C N) disk_Disk_Wipe.code (disk_Disk_Wipe.lam N) ⟨envOf 0 (bld (fun k => k) disk_Disk_Wipe.ins x 0).1, (bld (fun k => k) disk_Disk_Wipe.ins x 0).2.1, 1000⟩ (endF U disk_Disk_Wipe.outs Try.f18.results.toList []) = disk_Disk_Wipe.fn N x := by kernel_rfl
theorem disk_Disk_Wipe.ok (N : Nat) : (disk_Disk_Wipe.S N).con.Ok Try.prog 18 := fn_ok (F := disk_Disk_Wipe.S N) (n0 := 1000) Try.func18 (by kernel_rfl) (show Try.f18.body = some disk_Disk_Wipe.code by rfl) mix (disk_Disk_Wipe.cok N) (fun _ => rfl) (fun _ => rfl) (disk_Disk_Wipe.pok N) (fun x y h => (disk_Disk_Wipe.ev N x).trans h)
/-- hayloft/hayloftref04.Wipe -/
def ref_Wipe.ins : Sh := (.cons (.val (.pair (.int .i64) (.pair (.int .i64) (.pair (.slice (.pair .str (.pair (.slice .byte) (.int .i64)))) (.pair .bool (.pair .bool (.int .i64))))))) .nil)
def ref_Wipe.C (N : Nat) : Ctx := ⟨U, 5, fun _ => true, gam [], gamY []⟩
theorem ref_Wipe.cok (N : Nat) : (ref_Wipe.C N).Ok Try.prog := ⟨U_ok, GamOk.nil, GamYOk.nil⟩
def ref_Wipe.code : Code := Try.f43.body.getD .skip
def ref_Wipe.outs : Sh := (.cons (.val (.pair (.int .i64) (.pair (.int .i64) (.pair (.slice (.pair .str (.pair (.slice .byte) (.int .i64)))) (.pair .bool (.pair .bool (.int .i64))))))) .nil)
def ref_Wipe.run (N : Nat) (d : (Int × (Int × ((List ((List UInt8) × ((List UInt8) × Int))) × (Bool × (Bool × Int)))))) : Option ((Int × (Int × ((List ((List UInt8) × ((List UInt8) × Int))) × (Bool × (Bool × Int))))) × Unit) :=
  some ((d.1, d.2.1, ([] : List ((List UInt8) × ((List UInt8) × Int))), d.2.2.2), ())
def ref_Wipe.fn (N : Nat) (x : Sh.den ref_Wipe.ins) : Option (Sh.den ref_Wipe.outs) := ref_Wipe.run N x.1
def ref_Wipe.S (N : Nat) : Fs := ⟨ref_Wipe.ins, ref_Wipe.outs, ref_Wipe.fn N⟩
def ref_Wipe.lam (N : Nat) : Pcs := pcs []
theorem ref_Wipe.pok (N : Nat) : (ref_Wipe.lam N).Ok Try.prog (ref_Wipe.C N) ref_Wipe.code := pcsOk_nil
theorem ref_Wipe.ev (N : Nat) (x : Sh.den ref_Wipe.ins) : evC (ref_Wipe.C N) ref_Wipe.code (ref_Wipe.lam N) ⟨envOf 0 (bld (fun k => k) ref_Wipe.ins x 0).1, (bld (fun k => k) ref_Wipe.ins x 0).2.1, 1000⟩ (endF U ref_Wipe.outs Try.f43.results.toList []) = ref_Wipe.fn N x := by kernel_rfl
theorem ref_Wipe.ok (N : Nat) : (ref_Wipe.S N).con.Ok Try.prog 43 := fn_ok (F := ref_Wipe.S N) (n0 := 1000) Try.func43 (by kernel_rfl) (show Try.f43.body = some ref_Wipe.code by rfl) mix (ref_Wipe.cok N) (fun _ => rfl) (fun _ => rfl) (ref_Wipe.pok N) (fun x y h => (ref_Wipe.ev N x).trans h)
/-- hayloft/hayloftref04.Flip -/
def ref_Flip.ins : Sh := (.cons (.val (.pair (.int .i64) (.pair (.int .i64) (.pair (.slice (.pair .str (.pair (.slice .byte) (.int .i64)))) (.pair .bool (.pair .bool (.int .i64))))))) (.cons (.val .str) (.cons (.val (.int .i64)) (.cons (.val (.int .i64)) .nil))))
def ref_Flip.C (N : Nat) : Ctx := ⟨U, 65, fun _ => true, gam [(53, (ref_At.S N).con), (52, (ref_joined.S N).con), (61, (ref_With.S N).con)], gamY []⟩
theorem ref_Flip.cok (N : Nat) : (ref_Flip.C N).Ok Try.prog := ⟨U_ok, GamOk.cons (ref_At.ok N) (GamOk.cons (ref_joined.ok N) (GamOk.cons (ref_With.ok N) (GamOk.nil))), GamYOk.nil⟩
def ref_Flip.code : Code := Try.f44.body.getD .skip
def ref_Flip_0.ins : Sh := (.cons (.val (.int .i64)) (.cons (.val (.int .i64)) (.cons (.rbox 39 (.cons (.val (.int .i64)) (.cons (.val (.int .i64)) (.cons (.val (.slice (.pair .str (.pair (.slice .byte) (.int .i64))))) (.cons (.val .bool) (.cons (.val .bool) (.cons (.val (.int .i64)) .nil))))))) (.cons (.val (.int .i64)) .nil))))
def ref_Flip_0.ts : List Tmp := [2, 3, 4, 10]
def ref_Flip_0.asg : List Tmp := [15, 16, 17, 18, 19, 20, 21, 22, 23, 24, 25, 26, 27, 28, 29, 30, 31, 32, 33, 34, 35, 36, 37, 38, 39]
def ref_Flip_0.C (N : Nat) : Ctx := { ref_Flip.C N with may := fun t => ref_Flip_0.asg.any (Nat.beq t) }
def ref_Flip_0.code : Code := (sub ref_Flip.code [true, true, false, false]).getD .skip
theorem ref_Flip_0.cok (N : Nat) : (ref_Flip_0.C N).Ok Try.prog := ⟨(ref_Flip.cok N).U, (ref_Flip.cok N).Γ, (ref_Flip.cok N).Y⟩
def ref_Flip_0.alts : List Alt := [⟨.normal, [39], (.cons (.val .bool) .nil)⟩]
def ref_Flip_0.run (N : Nat) (at_ : Int) (bit : Int) (room_ : Int) (steps : Int) (files : (List ((List UInt8) × ((List UInt8) × Int)))) (armed : Bool) (dead : Bool) (left : Int) (k : Int) : Option ((Bool × Unit)) :=
  bif decide (k < (0 : Int)) then
    some (true, ())
  else
    bif decide (at_ < (0 : Int)) then
      some (true, ())
    else
      bif inB k files.length then
        bif decide (at_ ≥ ((files.getD k.toNat (([] : List UInt8), ([] : List UInt8), (0 : Int))).2.1.length : Int)) then
          some (true, ())
        else
          bif decide (bit < (0 : Int)) then
            some (true, ())
          else some (decide (bit > (7 : Int)), ())
      else none
def ref_Flip_0.fn (N : Nat) (x : Sh.den ref_Flip_0.ins) : Option (altsDen ref_Flip_0.alts) := ref_Flip_0.run N x.1 x.2.1 x.2.2.1.1 x.2.2.1.2.1 x.2.2.1.2.2.1 x.2.2.1.2.2.2.1 x.2.2.1.2.2.2.2.1 x.2.2.1.2.2.2.2.2.1 x.2.2.2.1
def ref_Flip_0.P (N : Nat) : Ps := ⟨ref_Flip_0.ts, ref_Flip_0.ins, ref_Flip_0.asg, ref_Flip_0.alts, ref_Flip_0.fn N⟩
def ref_Flip_0.lam (N : Nat) : Pcs := pcs []
theorem ref_Flip_0.pok (N : Nat) : (ref_Flip_0.lam N).Ok Try.prog (ref_Flip_0.C N) ref_Flip_0.code := pcsOk_nil
theorem ref_Flip_0.ev (N : Nat) (x : Sh.den ref_Flip_0.ins) : evC (ref_Flip_0.C N) ref_Flip_0.code (ref_Flip_0.lam N) ((ref_Flip_0.P N).canon 1000 x) (altK (ref_Flip_0.P N).alts) = ref_Flip_0.fn N x := by kernel_rfl
theorem ref_Flip_0.ok (N : Nat) : ((ref_Flip_0.P N).pc (ref_Flip.C N)).Ok Try.prog (ref_Flip.C N) ref_Flip_0.code := ps_ok (F := ref_Flip_0.P N) (n0 := 1000) (ref_Flip.cok N) mix (ref_Flip_0.pok N) (fun x y h => (ref_Flip_0.ev N x).trans h)
def ref_Flip.outs : Sh := (.cons (.val (.pair (.int .i64) (.pair (.int .i64) (.pair (.slice (.pair .str (.pair (.slice .byte) (.int .i64)))) (.pair .bool (.pair .bool (.int .i64))))))) (.cons (.val .bool) .nil))
def ref_Flip.run (N : Nat) (d : (Int × (Int × ((List ((List UInt8) × ((List UInt8) × Int))) × (Bool × (Bool × Int)))))) (name : (List UInt8)) (at_ : Int) (bit : Int) : Option ((Int × (Int × ((List ((List UInt8) × ((List UInt8) × Int))) × (Bool × (Bool × Int))))) × Bool × Unit) :=
  obind (ref_At.run N d name) fun (n_, _) =>
    obind (ref_Flip_0.run N at_ bit d.1 d.2.1 d.2.2.1 d.2.2.2.1 d.2.2.2.2.1 d.2.2.2.2.2 n_) fun (t39, _) =>
      bif t39 then
        some (d, false, ())
      else
        bif inB n_ d.2.2.1.length then
          obind (ref_joined.run N (d.2.2.1.getD n_.toNat (([] : List UInt8), ([] : List UInt8), (0 : Int))).2.1 ([] : List UInt8)) fun (l, _) =>
            bif inB at_ l.length then
              bif decide (at_.toNat < l.length) then
                bif decide ((0 : Int) ≤ bit) then
                  bif inB at_ l.length then
                    bif decide (at_.toNat < l.length) then
                      obind (ref_With.run N d ((d.2.2.1.getD n_.toNat (([] : List UInt8), ([] : List UInt8), (0 : Int))).1, l.set at_.toNat (Hay.u8 (IntKind.u8.wrap ((BitVec.ofInt 8 ((l.getD at_.toNat (0 : UInt8)).toNat : Int) ^^^ BitVec.ofInt 8 (IntKind.u8.wrap ((1 : Int) * (2 ^ (min bit.toNat 8))))).toNat : Int))), (d.2.2.1.getD n_.toNat (([] : List UInt8), ([] : List UInt8), (0 : Int))).2.2)) fun (v, _) =>
                        some (v, true, ())
                    else none
                  else none
                else none
              else none
            else none
        else none
def ref_Flip.fn (N : Nat) (x : Sh.den ref_Flip.ins) : Option (Sh.den ref_Flip.outs) := ref_Flip.run N x.1 x.2.1 x.2.2.1 x.2.2.2.1
def ref_Flip.S (N : Nat) : Fs := ⟨ref_Flip.ins, ref_Flip.outs, ref_Flip.fn N⟩
def ref_Flip.lam (N : Nat) : Pcs := pcs [([true, true, false, false], (ref_Flip_0.P N).pc (ref_Flip.C N))]
theorem ref_Flip.pok (N : Nat) : (ref_Flip.lam N).Ok Try.prog (ref_Flip.C N) ref_Flip.code := pcsOk_cons (c1 := ref_Flip_0.code) (by kernel_rfl) (ref_Flip_0.ok N) (pcsOk_nil)
theorem ref_Flip.ev (N : Nat) (x : Sh.den ref_Flip.ins) : evC (ref_Flip.C N) ref_Flip.code (ref_Flip.lam N) ⟨envOf 0 (bld (fun k => k) ref_Flip.ins x 0).1, (bld (fun k => k) ref_Flip.ins x 0).2.1, 1000⟩ (endF U ref_Flip.outs Try.f44.results.toList []) = ref_Flip.fn N x := by kernel_rfl
theorem ref_Flip.ok (N : Nat) : (ref_Flip.S N).con.Ok Try.prog 44 := fn_ok (F := ref_Flip.S N) (n0 := 1000) Try.func44 (by kernel_rfl) (show Try.f44.body = some ref_Flip.code by rfl) mix (ref_Flip.cok N) (fun _ => rfl) (fun _ => rfl) (ref_Flip.pok N) (fun x y h => (ref_Flip.ev N x).trans h)
/-- (*hayloft/disk.Disk).Flip -/
def disk_Disk_Flip.ins : Sh := (.cons (.rbox 67 (.cons (.val (.int .i64)) (.cons (.val (.int .i64)) (.cons (.own 3000000 (.pair .str (.pair (.slice .byte) (.int .i64)))) (.cons (.val (.int .i64)) (.cons (.val (.int .i64)) (.cons (.val .bool) .nil))))))) (.cons (.val .str) (.cons (.val (.int .i64)) (.cons (.val (.int .i64)) .nil))))
def disk_Disk_Flip.C (N : Nat) : Ctx := ⟨U, 60, fun _ => true, gam [(36, (slices_Clone_byte_byte.S N).con)], gamY []⟩
theorem disk_Disk_Flip.cok (N : Nat) : (disk_Disk_Flip.C N).Ok Try.prog := ⟨U_ok, GamOk.cons (slices_Clone_byte_byte.ok N) (GamOk.nil), GamYOk.nil⟩
def disk_Disk_Flip.code : Code := Try.f45.body.getD .skip
def disk_Disk_Flip.outs : Sh := (.cons (.updr 1 3000000 (.pair .str (.pair (.slice .byte) (.int .i64)))) (.cons (.val .bool) .nil))
def disk_Disk_Flip.run (N : Nat) (room_ : Int) (used : Int) (files : (List ((List UInt8) × ((List UInt8) × Int)))) (steps : Int) (left : Int) (dead : Bool) (name : (List UInt8)) (at_ : Int) (bit : Int) : Option ((List ((List UInt8) × ((List UInt8) × Int))) × Bool × Unit) :=
  bif !(mapHas files name) then
    some (files, false, ())
  else
    bif decide (at_ < (0 : Int)) then
      some (files, false, ())
    else
      bif decide (at_ ≥ ((mapGet files name (([] : List UInt8), (0 : Int))).1.length : Int)) then
        some (files, false, ())
      else
        bif decide (bit < (0 : Int)) then
          some (files, false, ())
        else
          bif decide (bit > (7 : Int)) then
            some (files, false, ())
          else
            obind (slices_Clone_byte_byte.run N (mapGet files name (([] : List UInt8), (0 : Int))).1) fun (l, _) =>
              bif inB at_ l.length then
                bif decide (at_.toNat < l.length) then
                  bif decide ((0 : Int) ≤ bit) then
                    bif inB at_ l.length then
                      bif decide (at_.toNat < l.length) then
                        some (mapPut files name (l.set at_.toNat (Hay.u8 (IntKind.u8.wrap ((BitVec.ofInt 8 ((l.getD at_.toNat (0 : UInt8)).toNat : Int) ^^^ BitVec.ofInt 8 (IntKind.u8.wrap ((1 : Int) * (2 ^ (min bit.toNat 8))))).toNat : Int))), (mapGet files name (([] : List UInt8), (0 : Int))).2), true, ())
                      else none
                    else none
                  else none
                else none
              else none
def disk_Disk_Flip.fn (N : Nat) (x : Sh.den disk_Disk_Flip.ins) : Option (Sh.den disk_Disk_Flip.outs) := disk_Disk_Flip.run N x.1.1 x.1.2.1 x.1.2.2.1 x.1.2.2.2.1 x.1.2.2.2.2.1 x.1.2.2.2.2.2.1 x.2.1 x.2.2.1 x.2.2.2.1
def disk_Disk_Flip.S (N : Nat) : Fs := ⟨disk_Disk_Flip.ins, disk_Disk_Flip.outs, disk_Disk_Flip.fn N⟩
def disk_Disk_Flip.lam (N : Nat) : Pcs := pcs []
theorem disk_Disk_Flip.pok (N : Nat) : (disk_Disk_Flip.lam N).Ok Try.prog (disk_Disk_Flip.C N) disk_Disk_Flip.code := pcsOk_nil
theorem disk_Disk_Flip.ev (N : Nat) (x : Sh.den disk_Disk_Flip.ins) : evC (disk_Disk_Flip.C N) disk_Disk_Flip.code (disk_Disk_Flip.lam N) ⟨envOf 0 (bld (fun k => k) disk_Disk_Flip.ins x 0).1, (bld (fun k => k) disk_Disk_Flip.ins x 0).2.1, 1000⟩ (endF U disk_Disk_Flip.outs Try.f45.results.toList []) = disk_Disk_Flip.fn N x := by kernel_rfl
theorem disk_Disk_Flip.ok (N : Nat) : (disk_Disk_Flip.S N).con.Ok Try.prog 45 := fn_ok (F := disk_Disk_Flip.S N) (n0 := 1000) Try.func45 (by kernel_rfl) (show Try.f45.body = some disk_Disk_Flip.code by rfl) mix (disk_Disk_Flip.cok N) (fun _ => rfl) (fun _ => rfl) (disk_Disk_Flip.pok N) (fun x y h => (disk_Disk_Flip.ev N x).trans h)
/-- hayloft/hayloftlaw04.change -/
def law_change.ins : Sh := (.cons (.box 67 (.cons (.val (.int .i64)) (.cons (.val (.int .i64)) (.cons (.own 3000000 (.pair .str (.pair (.slice .byte) (.int .i64)))) (.cons (.val (.int .i64)) (.cons (.val (.int .i64)) (.cons (.val .bool) .nil))))))) (.cons (.val (.pair (.int .i64) (.pair (.int .i64) (.pair (.slice (.pair .str (.pair (.slice .byte) (.int .i64)))) (.pair .bool (.pair .bool (.int .i64))))))) (.cons (.val (.pair (.int .i64) (.pair .str (.pair .str (.pair (.slice .byte) (.pair (.int .i64) (.pair (.int .i64) (.slice (.int .i64))))))))) .nil)))
def law_change.C (N : Nat) : Ctx := ⟨U, 152, fun _ => true, gam [(38, (ref_Append.S N).con), (12, (disk_Disk_Append.S N).con), (39, (ref_Do.S N).con), (31, (disk_Disk_Sync.S N).con), (40, (disk_Disk_Truncate.S N).con), (41, (disk_Disk_Rename.S N).con), (17, (disk_Disk_Remove.S N).con), (21, (disk_Disk_Arm.S N).con), (42, (ref_Arm.S N).con), (18, (disk_Disk_Wipe.S N).con), (43, (ref_Wipe.S N).con), (44, (ref_Flip.S N).con), (45, (disk_Disk_Flip.S N).con)], gamY []⟩
theorem law_change.cok (N : Nat) : (law_change.C N).Ok Try.prog := ⟨U_ok, GamOk.cons (ref_Append.ok N) (GamOk.cons (disk_Disk_Append.ok N) (GamOk.cons (ref_Do.ok N) (GamOk.cons (disk_Disk_Sync.ok N) (GamOk.cons (disk_Disk_Truncate.ok N) (GamOk.cons (disk_Disk_Rename.ok N) (GamOk.cons (disk_Disk_Remove.ok N) (GamOk.cons (disk_Disk_Arm.ok N) (GamOk.cons (ref_Arm.ok N) (GamOk.cons (disk_Disk_Wipe.ok N) (GamOk.cons (ref_Wipe.ok N) (GamOk.cons (ref_Flip.ok N) (GamOk.cons (disk_Disk_Flip.ok N) (GamOk.nil))))))))))))), GamYOk.nil⟩
def law_change.code : Code := Try.f15.body.getD .skip
def law_change.outs : Sh := (.cons (.upd 0 67 (.cons (.val (.int .i64)) (.cons (.val (.int .i64)) (.cons (.own 3000000 (.pair .str (.pair (.slice .byte) (.int .i64)))) (.cons (.val (.int .i64)) (.cons (.val (.int .i64)) (.cons (.val .bool) .nil))))))) (.cons (.val (.pair (.int .i64) (.pair (.int .i64) (.pair (.slice (.pair .str (.pair (.slice .byte) (.int .i64)))) (.pair .bool (.pair .bool (.int .i64))))))) (.cons (.val .bool) .nil)))
def law_change.run (N : Nat) (room_ : Int) (used : Int) (files : (List ((List UInt8) × ((List UInt8) × Int)))) (steps : Int) (left : Int) (dead : Bool) (r : (Int × (Int × ((List ((List UInt8) × ((List UInt8) × Int))) × (Bool × (Bool × Int)))))) (o : (Int × ((List UInt8) × ((List UInt8) × ((List UInt8) × (Int × (Int × (List Int)))))))) : Option ((Int × Int × (List ((List UInt8) × ((List UInt8) × Int))) × Int × Int × Bool × Unit) × (Int × (Int × ((List ((List UInt8) × ((List UInt8) × Int))) × (Bool × (Bool × Int))))) × Bool × Unit) :=
  bif decide (o.1 = (0 : Int)) then
    obind (ref_Append.run N r o.2.1 o.2.2.2.1) fun (v, n_, _) =>
      obind (disk_Disk_Append.run N room_ used files steps left dead o.2.1 o.2.2.2.1) fun ((room1, used1, files1, steps1, left1, dead1, _), n1, _) =>
        some ((room1, used1, files1, steps1, left1, dead1, ()), v, decide (n1 = n_), ())
  else
    bif decide (o.1 = (1 : Int)) then
      obind (ref_Do.run N r (1 : Int) o.2.1 ([] : List UInt8) (0 : Int)) fun (v1, n2, _) =>
        obind (disk_Disk_Sync.run N room_ used files steps left dead o.2.1) fun ((room2, used2, files2, steps2, left2, dead2, _), n3, _) =>
          some ((room2, used2, files2, steps2, left2, dead2, ()), v1, decide (n3 = n2), ())
    else
      bif decide (o.1 = (2 : Int)) then
        obind (ref_Do.run N r (2 : Int) o.2.1 ([] : List UInt8) o.2.2.2.2.1) fun (v2, n4, _) =>
          obind (disk_Disk_Truncate.run N room_ used files steps left dead o.2.1 o.2.2.2.2.1) fun ((room3, used3, files3, steps3, left3, dead3, _), n5, _) =>
            some ((room3, used3, files3, steps3, left3, dead3, ()), v2, decide (n5 = n4), ())
      else
        bif decide (o.1 = (3 : Int)) then
          obind (ref_Do.run N r (3 : Int) o.2.1 o.2.2.1 (0 : Int)) fun (v3, n6, _) =>
            obind (disk_Disk_Rename.run N room_ used files steps left dead o.2.1 o.2.2.1) fun ((room4, used4, files4, steps4, left4, dead4, _), n7, _) =>
              some ((room4, used4, files4, steps4, left4, dead4, ()), v3, decide (n7 = n6), ())
        else
          bif decide (o.1 = (4 : Int)) then
            obind (ref_Do.run N r (4 : Int) o.2.1 ([] : List UInt8) (0 : Int)) fun (v4, n8, _) =>
              obind (disk_Disk_Remove.run N room_ used files steps left dead o.2.1) fun ((room5, used5, files5, steps5, left5, dead5, _), n9, _) =>
                some ((room5, used5, files5, steps5, left5, dead5, ()), v4, decide (n9 = n8), ())
          else
            bif decide (o.1 = (7 : Int)) then
              obind (disk_Disk_Arm.run N room_ used files steps left dead o.2.2.2.2.1) fun ((room6, used6, files6, steps6, left6, dead6, _), _) =>
                obind (ref_Arm.run N r o.2.2.2.2.1) fun (v5, _) =>
                  some ((room6, used6, files6, steps6, left6, dead6, ()), v5, true, ())
            else
              bif decide (o.1 = (11 : Int)) then
                obind (disk_Disk_Wipe.run N room_ used files steps left dead) fun ((room7, used7, files7, steps7, left7, dead7, _), _) =>
                  obind (ref_Wipe.run N r) fun (v6, _) =>
                    some ((room7, used7, files7, steps7, left7, dead7, ()), v6, true, ())
              else
                obind (ref_Flip.run N r o.2.1 o.2.2.2.2.1 o.2.2.2.2.2.1) fun (v7, b, _) =>
                  obind (disk_Disk_Flip.run N room_ used files steps left dead o.2.1 o.2.2.2.2.1 o.2.2.2.2.2.1) fun (v8, b1, _) =>
                    some ((room_, used, v8, steps, left, dead, ()), v7, b1 == b, ())
def law_change.fn (N : Nat) (x : Sh.den law_change.ins) : Option (Sh.den law_change.outs) := law_change.run N x.1.1 x.1.2.1 x.1.2.2.1 x.1.2.2.2.1 x.1.2.2.2.2.1 x.1.2.2.2.2.2.1 x.2.1 x.2.2.1
def law_change.S (N : Nat) : Fs := ⟨law_change.ins, law_change.outs, law_change.fn N⟩
def law_change.lam (N : Nat) : Pcs := pcs []
theorem law_change.pok (N : Nat) : (law_change.lam N).Ok Try.prog (law_change.C N) law_change.code := pcsOk_nil
theorem law_change.ev (N : Nat) (x : Sh.den law_change.ins) : evC (law_change.C N) law_change.code (law_change.lam N) ⟨envOf 0 (bld (fun k => k) law_change.ins x 0).1, (bld (fun k => k) law_change.ins x 0).2.1, 1000⟩ (endF U law_change.outs Try.f15.results.toList []) = law_change.fn N x := by kernel_rfl
theorem law_change.ok (N : Nat) : (law_change.S N).con.Ok Try.prog 15 := fn_ok (F := law_change.S N) (n0 := 1000) Try.func15 (by kernel_rfl) (show Try.f15.body = some law_change.code by rfl) mix (law_change.cok N) (fun _ => rfl) (fun _ => rfl) (law_change.pok N) (fun x y h => (law_change.ev N x).trans h)
/-- hayloft/hayloftlaw04.step -/
def law_step.ins : Sh := (.cons (.box 67 (.cons (.val (.int .i64)) (.cons (.val (.int .i64)) (.cons (.own 3000000 (.pair .str (.pair (.slice .byte) (.int .i64)))) (.cons (.val (.int .i64)) (.cons (.val (.int .i64)) (.cons (.val .bool) .nil))))))) (.cons (.val (.pair (.int .i64) (.pair (.int .i64) (.pair (.slice (.pair .str (.pair (.slice .byte) (.int .i64)))) (.pair .bool (.pair .bool (.int .i64))))))) (.cons (.val (.pair (.int .i64) (.pair .str (.pair .str (.pair (.slice .byte) (.pair (.int .i64) (.pair (.int .i64) (.slice (.int .i64))))))))) .nil)))
def law_step.C (N : Nat) : Ctx := ⟨U, 95, fun _ => true, gam [(13, (disk_Disk_Read.S N).con), (53, (ref_At.S N).con), (24, (law_stands.S N).con), (28, (disk_Disk_Clone.S N).con), (27, (disk_Disk_Crash.S N).con), (29, (ref_Crash.S N).con), (15, (law_change.S N).con)], gamY []⟩
theorem law_step.cok (N : Nat) : (law_step.C N).Ok Try.prog := ⟨U_ok, GamOk.cons (disk_Disk_Read.ok N) (GamOk.cons (ref_At.ok N) (GamOk.cons (law_stands.ok N) (GamOk.cons (disk_Disk_Clone.ok N) (GamOk.cons (disk_Disk_Crash.ok N) (GamOk.cons (ref_Crash.ok N) (GamOk.cons (law_change.ok N) (GamOk.nil))))))), GamYOk.nil⟩
def law_step.code : Code := Try.f30.body.getD .skip
def law_step.outs : Sh := (.cons (.box 67 (.cons (.val (.int .i64)) (.cons (.val (.int .i64)) (.cons (.own 3000000 (.pair .str (.pair (.slice .byte) (.int .i64)))) (.cons (.val (.int .i64)) (.cons (.val (.int .i64)) (.cons (.val .bool) .nil))))))) (.cons (.val (.pair (.int .i64) (.pair (.int .i64) (.pair (.slice (.pair .str (.pair (.slice .byte) (.int .i64)))) (.pair .bool (.pair .bool (.int .i64))))))) (.cons (.val .bool) .nil)))
def law_step.run (N : Nat) (room_ : Int) (used : Int) (files : (List ((List UInt8) × ((List UInt8) × Int)))) (steps : Int) (left : Int) (dead : Bool) (r : (Int × (Int × ((List ((List UInt8) × ((List UInt8) × Int))) × (Bool × (Bool × Int)))))) (o : (Int × ((List UInt8) × ((List UInt8) × ((List UInt8) × (Int × (Int × (List Int)))))))) : Option ((Int × Int × (List ((List UInt8) × ((List UInt8) × Int))) × Int × Int × Bool × Unit) × (Int × (Int × ((List ((List UInt8) × ((List UInt8) × Int))) × (Bool × (Bool × Int))))) × Bool × Unit) :=
  bif decide (o.1 = (5 : Int)) then
    obind (disk_Disk_Read.run N room_ used files steps left dead o.2.1) fun (l, b, _) =>
      obind (ref_At.run N r o.2.1) fun (n_, _) =>
        bif decide (n_ < (0 : Int)) then
          bif decide ((l.length : Int) = (0 : Int)) then
            some ((room_, used, files, steps, left, dead, ()), r, !b, ())
          else some ((room_, used, files, steps, left, dead, ()), r, false, ())
        else
          bif b then
            bif inB n_ r.2.2.1.length then
              some ((room_, used, files, steps, left, dead, ()), r, decide (l = (r.2.2.1.getD n_.toNat (([] : List UInt8), ([] : List UInt8), (0 : Int))).2.1), ())
            else none
          else some ((room_, used, files, steps, left, dead, ()), r, false, ())
  else
    bif decide (o.1 = (6 : Int)) then
      obind (law_stands.run N room_ used files steps left dead r) fun ((room1, used1, files1, steps1, left1, dead1, _), b1, _) =>
        some ((room1, used1, files1, steps1, left1, dead1, ()), r, b1, ())
    else
      bif decide (o.1 = (9 : Int)) then
        obind (disk_Disk_Clone.run N room_ used files steps left dead) fun ((room2, used2, files2, steps2, left2, dead2, _), _) =>
          some ((room2, used2, files2, steps2, left2, dead2, ()), r, true, ())
      else
        bif decide (o.1 = (10 : Int)) then
          obind (disk_Disk_Crash.run N room_ used files steps left dead o.2.2.2.2.2.2) fun ((room3, used3, files3, steps3, left3, dead3, _), (room4, used4, files4, steps4, left4, dead4, _), _) =>
            obind (ref_Crash.run N r o.2.2.2.2.2.2) fun (v, _) =>
              some ((room4, used4, files4, steps4, left4, dead4, ()), v, true, ())
        else
          obind (law_change.run N room_ used files steps left dead r o) fun ((room5, used5, files5, steps5, left5, dead5, _), v1, b2, _) =>
            some ((room5, used5, files5, steps5, left5, dead5, ()), v1, b2, ())
def law_step.fn (N : Nat) (x : Sh.den law_step.ins) : Option (Sh.den law_step.outs) := law_step.run N x.1.1 x.1.2.1 x.1.2.2.1 x.1.2.2.2.1 x.1.2.2.2.2.1 x.1.2.2.2.2.2.1 x.2.1 x.2.2.1
def law_step.S (N : Nat) : Fs := ⟨law_step.ins, law_step.outs, law_step.fn N⟩
def law_step.lam (N : Nat) : Pcs := pcs []
theorem law_step.pok (N : Nat) : (law_step.lam N).Ok Try.prog (law_step.C N) law_step.code := pcsOk_nil
theorem law_step.ev (N : Nat) (x : Sh.den law_step.ins) : evC (law_step.C N) law_step.code (law_step.lam N) ⟨envOf 0 (bld (fun k => k) law_step.ins x 0).1, (bld (fun k => k) law_step.ins x 0).2.1, 1000⟩ (endF U law_step.outs Try.f30.results.toList []) = law_step.fn N x := by kernel_rfl
theorem law_step.ok (N : Nat) : (law_step.S N).con.Ok Try.prog 30 := fn_ok (F := law_step.S N) (n0 := 1000) Try.func30 (by kernel_rfl) (show Try.f30.body = some law_step.code by rfl) mix (law_step.cok N) (fun _ => rfl) (fun _ => rfl) (law_step.pok N) (fun x y h => (law_step.ev N x).trans h)
/-- hayloft/hayloftlaw04.run -/
def law_run.ins : Sh := (.cons (.box 67 (.cons (.val (.int .i64)) (.cons (.val (.int .i64)) (.cons (.own 3000000 (.pair .str (.pair (.slice .byte) (.int .i64)))) (.cons (.val (.int .i64)) (.cons (.val (.int .i64)) (.cons (.val .bool) .nil))))))) (.cons (.val (.pair (.int .i64) (.pair (.int .i64) (.pair (.slice (.pair .str (.pair (.slice .byte) (.int .i64)))) (.pair .bool (.pair .bool (.int .i64))))))) (.cons (.val (.slice (.pair (.int .i64) (.pair .str (.pair .str (.pair (.slice .byte) (.pair (.int .i64) (.pair (.int .i64) (.slice (.int .i64)))))))))) .nil)))
def law_run.C (N : Nat) : Ctx := ⟨U, 36, fun _ => true, gam [(30, (law_step.S N).con), (24, (law_stands.S N).con)], gamY []⟩
theorem law_run.cok (N : Nat) : (law_run.C N).Ok Try.prog := ⟨U_ok, GamOk.cons (law_step.ok N) (GamOk.cons (law_stands.ok N) (GamOk.nil)), GamYOk.nil⟩
def law_run.code : Code := Try.f25.body.getD .skip
def law_run_0.ins : Sh := (.cons (.box 67 (.cons (.val (.int .i64)) (.cons (.val (.int .i64)) (.cons (.own 3000000 (.pair .str (.pair (.slice .byte) (.int .i64)))) (.cons (.val (.int .i64)) (.cons (.val (.int .i64)) (.cons (.val .bool) .nil))))))) (.cons (.box 39 (.cons (.val (.int .i64)) (.cons (.val (.int .i64)) (.cons (.val (.slice (.pair .str (.pair (.slice .byte) (.int .i64))))) (.cons (.val .bool) (.cons (.val .bool) (.cons (.val (.int .i64)) .nil))))))) (.cons (.box 39 (.cons (.val (.int .i64)) (.cons (.val (.int .i64)) (.cons (.own 57 (.pair .str (.pair (.slice .byte) (.int .i64)))) (.cons (.val .bool) (.cons (.val .bool) (.cons (.val (.int .i64)) .nil))))))) (.cons (.val (.slice (.pair (.int .i64) (.pair .str (.pair .str (.pair (.slice .byte) (.pair (.int .i64) (.pair (.int .i64) (.slice (.int .i64)))))))))) (.cons (.val (.int .i64)) (.cons (.val (.int .i64)) .nil))))))
def law_run_0.ts : List Tmp := [0, 4, 7, 12, 13, 14]
def law_run_0.asg : List Tmp := [0, 6, 8, 9, 11, 14, 15, 16, 17, 18, 19, 20, 21, 22, 23, 24, 25, 26, 27, 28, 29, 30]
def law_run_0.C (N : Nat) : Ctx := { law_run.C N with may := fun t => law_run_0.asg.any (Nat.beq t) }
def law_run_0.code : Code := loopBody (sub law_run.code [true, true, false, true, false])
theorem law_run_0.cok (N : Nat) : (law_run_0.C N).Ok Try.prog := ⟨(law_run.cok N).U, (law_run.cok N).Γ, (law_run.cok N).Y⟩
def law_run_0.alts : List Alt := [⟨.ret, [6, 8], (.cons (.upd 2 39 (.cons (.val (.int .i64)) (.cons (.val (.int .i64)) (.cons (.val (.slice (.pair .str (.pair (.slice .byte) (.int .i64))))) (.cons (.val .bool) (.cons (.val .bool) (.cons (.val (.int .i64)) .nil))))))) (.cons (.upd 3 39 (.cons (.val (.int .i64)) (.cons (.val (.int .i64)) (.cons (.val (.slice (.pair .str (.pair (.slice .byte) (.int .i64))))) (.cons (.val .bool) (.cons (.val .bool) (.cons (.val (.int .i64)) .nil))))))) (.cons (.box 67 (.cons (.val (.int .i64)) (.cons (.val (.int .i64)) (.cons (.own 3000000 (.pair .str (.pair (.slice .byte) (.int .i64)))) (.cons (.val (.int .i64)) (.cons (.val (.int .i64)) (.cons (.val .bool) .nil))))))) (.cons (.val .bool) .nil))))⟩, ⟨(.exit 0), [0], (.cons (.upd 2 39 (.cons (.val (.int .i64)) (.cons (.val (.int .i64)) (.cons (.val (.slice (.pair .str (.pair (.slice .byte) (.int .i64))))) (.cons (.val .bool) (.cons (.val .bool) (.cons (.val (.int .i64)) .nil))))))) (.cons (.upd 3 39 (.cons (.val (.int .i64)) (.cons (.val (.int .i64)) (.cons (.own 57 (.pair .str (.pair (.slice .byte) (.int .i64)))) (.cons (.val .bool) (.cons (.val .bool) (.cons (.val (.int .i64)) .nil))))))) (.cons (.box 67 (.cons (.val (.int .i64)) (.cons (.val (.int .i64)) (.cons (.own 3000000 (.pair .str (.pair (.slice .byte) (.int .i64)))) (.cons (.val (.int .i64)) (.cons (.val (.int .i64)) (.cons (.val .bool) .nil))))))) .nil)))⟩]
def law_run_0.go (N : Nat) : Nat → Int → Int → (List ((List UInt8) × ((List UInt8) × Int))) → Int → Int → Bool → Int → Int → (List ((List UInt8) × ((List UInt8) × Int))) → Bool → Bool → Int → Int → Int → (List ((List UInt8) × ((List UInt8) × Int))) → Bool → Bool → Int → (List (Int × ((List UInt8) × ((List UInt8) × ((List UInt8) × (Int × (Int × (List Int)))))))) → Int → Int → Option (((Int × Int × (List ((List UInt8) × ((List UInt8) × Int))) × Bool × Bool × Int × Unit) × (Int × Int × (List ((List UInt8) × ((List UInt8) × Int))) × Bool × Bool × Int × Unit) × (Int × Int × (List ((List UInt8) × ((List UInt8) × Int))) × Int × Int × Bool × Unit) × Bool × Unit) ⊕ ((Int × Int × (List ((List UInt8) × ((List UInt8) × Int))) × Bool × Bool × Int × Unit) × (Int × Int × (List ((List UInt8) × ((List UInt8) × Int))) × Bool × Bool × Int × Unit) × (Int × Int × (List ((List UInt8) × ((List UInt8) × Int))) × Int × Int × Bool × Unit) × Unit))
  | 0, _, _, _, _, _, _, _, _, _, _, _, _, _, _, _, _, _, _, _, _, _ => none
  | fuel + 1, room_, used, files, steps, left, dead, room1, steps1, files1, armed, dead1, left1, room2, steps2, files2, armed1, dead2, left2, t12, t13, t14 =>
    bif decide (t14 < t13) then
      bif inB t14 t12.length then
        obind (law_step.run N room_ used files steps left dead (room1, steps1, files1, armed, dead1, left1) (t12.getD t14.toNat ((0 : Int), ([] : List UInt8), ([] : List UInt8), ([] : List UInt8), (0 : Int), (0 : Int), ([] : List Int)))) fun ((room3, used1, files3, steps3, left3, dead3, _), v, b, _) =>
          bif !b then
            some (.inl ((v.1, v.2.1, v.2.2.1, v.2.2.2.1, v.2.2.2.2.1, v.2.2.2.2.2, ()), (v.1, v.2.1, v.2.2.1, v.2.2.2.1, v.2.2.2.2.1, v.2.2.2.2.2, ()), (room3, used1, files3, steps3, left3, dead3, ()), false, ()))
          else law_run_0.go N fuel room3 used1 files3 steps3 left3 dead3 v.1 v.2.1 v.2.2.1 v.2.2.2.1 v.2.2.2.2.1 v.2.2.2.2.2 room2 steps2 files2 armed1 dead2 left2 t12 t13 (IntKind.i64.wrap (t14 + (1 : Int)))
      else none
    else some (.inr ((room1, steps1, files1, armed, dead1, left1, ()), (room2, steps2, files2, armed1, dead2, left2, ()), (room_, used, files, steps, left, dead, ()), ()))
def law_run_0.g (N n : Nat) (x : Sh.den law_run_0.ins) : Option (altsDen law_run_0.alts) := law_run_0.go N n x.1.1 x.1.2.1 x.1.2.2.1 x.1.2.2.2.1 x.1.2.2.2.2.1 x.1.2.2.2.2.2.1 x.2.1.1 x.2.1.2.1 x.2.1.2.2.1 x.2.1.2.2.2.1 x.2.1.2.2.2.2.1 x.2.1.2.2.2.2.2.1 x.2.2.1.1 x.2.2.1.2.1 x.2.2.1.2.2.1 x.2.2.1.2.2.2.1 x.2.2.1.2.2.2.2.1 x.2.2.1.2.2.2.2.2.1 x.2.2.2.1 x.2.2.2.2.1 x.2.2.2.2.2.1
def law_run_0.P (N : Nat) : Ps := ⟨law_run_0.ts, law_run_0.ins, law_run_0.asg, law_run_0.alts, law_run_0.g N N⟩
def law_run_0.lam (N : Nat) : Pcs := pcs []
theorem law_run_0.pok (N : Nat) : (law_run_0.lam N).Ok Try.prog (law_run_0.C N) law_run_0.code := pcsOk_nil
theorem law_run_0.ev (N n : Nat) (x : Sh.den law_run_0.ins) : evC (law_run_0.C N) law_run_0.code (law_run_0.lam N) ((law_run_0.P N).canon 1000 x) (loopK (law_run_0.P N) (law_run_0.g N n)) = law_run_0.g N (n + 1) x := by kernel_rfl
theorem law_run_0.ok (N : Nat) : ((law_run_0.P N).pc (law_run.C N)).Ok Try.prog (law_run.C N) (.loop law_run_0.code) := loop_ok (F := law_run_0.P N) (n0 := 1000) (N := N) (law_run.cok N) mix (law_run_0.pok N) (law_run_0.g N) (fun x => by rfl) rfl (fun n x y h => (law_run_0.ev N n x).trans h)
def law_run.outs : Sh := (.cons (.box 67 (.cons (.val (.int .i64)) (.cons (.val (.int .i64)) (.cons (.own 3000000 (.pair .str (.pair (.slice .byte) (.int .i64)))) (.cons (.val (.int .i64)) (.cons (.val (.int .i64)) (.cons (.val .bool) .nil))))))) (.cons (.val (.pair (.int .i64) (.pair (.int .i64) (.pair (.slice (.pair .str (.pair (.slice .byte) (.int .i64)))) (.pair .bool (.pair .bool (.int .i64))))))) (.cons (.val .bool) .nil)))
def law_run.run (N : Nat) (room_ : Int) (used : Int) (files : (List ((List UInt8) × ((List UInt8) × Int)))) (steps : Int) (left : Int) (dead : Bool) (r : (Int × (Int × ((List ((List UInt8) × ((List UInt8) × Int))) × (Bool × (Bool × Int)))))) (script : (List (Int × ((List UInt8) × ((List UInt8) × ((List UInt8) × (Int × (Int × (List Int))))))))) : Option ((Int × Int × (List ((List UInt8) × ((List UInt8) × Int))) × Int × Int × Bool × Unit) × (Int × (Int × ((List ((List UInt8) × ((List UInt8) × Int))) × (Bool × (Bool × Int))))) × Bool × Unit) :=
  obind (law_run_0.go N N room_ used files steps left dead r.1 r.2.1 r.2.2.1 r.2.2.2.1 r.2.2.2.2.1 r.2.2.2.2.2 (0 : Int) (0 : Int) ([] : List ((List UInt8) × ((List UInt8) × Int))) false false (0 : Int) script (script.length : Int) (0 : Int)) fun y => match y with
  | .inl ((room1, steps1, files1, armed, dead1, left1, _), (room2, steps2, files2, armed1, dead2, left2, _), (room3, used1, files3, steps3, left3, dead3, _), t8, _) =>
      some ((room3, used1, files3, steps3, left3, dead3, ()), (room2, steps2, files2, armed1, dead2, left2), t8, ())
  | .inr ((room4, steps4, files4, armed2, dead4, left4, _), (room5, steps5, files5, armed3, dead5, left5, _), (room6, used2, files6, steps6, left6, dead6, _), _) =>
      obind (law_stands.run N room6 used2 files6 steps6 left6 dead6 (room4, steps4, files4, armed2, dead4, left4)) fun ((room7, used3, files7, steps7, left7, dead7, _), b, _) =>
        some ((room7, used3, files7, steps7, left7, dead7, ()), (room4, steps4, files4, armed2, dead4, left4), b, ())
def law_run.fn (N : Nat) (x : Sh.den law_run.ins) : Option (Sh.den law_run.outs) := law_run.run N x.1.1 x.1.2.1 x.1.2.2.1 x.1.2.2.2.1 x.1.2.2.2.2.1 x.1.2.2.2.2.2.1 x.2.1 x.2.2.1
def law_run.S (N : Nat) : Fs := ⟨law_run.ins, law_run.outs, law_run.fn N⟩
def law_run.lam (N : Nat) : Pcs := pcs [([true, true, false, true, false], (law_run_0.P N).pc (law_run.C N))]
theorem law_run.pok (N : Nat) : (law_run.lam N).Ok Try.prog (law_run.C N) law_run.code := pcsOk_cons (c1 := .loop law_run_0.code) (by kernel_rfl) (law_run_0.ok N) (pcsOk_nil)
theorem law_run.ev (N : Nat) (x : Sh.den law_run.ins) : evC (law_run.C N) law_run.code (law_run.lam N) ⟨envOf 0 (bld (fun k => k) law_run.ins x 0).1, (bld (fun k => k) law_run.ins x 0).2.1, 1000⟩ (endF U law_run.outs Try.f25.results.toList []) = law_run.fn N x := by kernel_rfl
theorem law_run.ok (N : Nat) : (law_run.S N).con.Ok Try.prog 25 := fn_ok (F := law_run.S N) (n0 := 1000) Try.func25 (by kernel_rfl) (show Try.f25.body = some law_run.code by rfl) mix (law_run.cok N) (fun _ => rfl) (fun _ => rfl) (law_run.pok N) (fun x y h => (law_run.ev N x).trans h)
/-- hayloft/hayloftlaw04.DiskAll -/
def law_DiskAll.ins : Sh := (.cons (.val (.int .i64)) (.cons (.val (.slice (.pair (.int .i64) (.pair .str (.pair .str (.pair (.slice .byte) (.pair (.int .i64) (.pair (.int .i64) (.slice (.int .i64)))))))))) .nil))
def law_DiskAll.C (N : Nat) : Ctx := ⟨U, 24, fun _ => true, gam [(11, (law_begun.S N).con), (16, (ref_New.S N).con), (25, (law_run.S N).con)], gamY []⟩
theorem law_DiskAll.cok (N : Nat) : (law_DiskAll.C N).Ok Try.prog := ⟨U_ok, GamOk.cons (law_begun.ok N) (GamOk.cons (ref_New.ok N) (GamOk.cons (law_run.ok N) (GamOk.nil))), GamYOk.nil⟩
def law_DiskAll.code : Code := Try.f7.body.getD .skip
def law_DiskAll.outs : Sh := (.cons (.val .bool) .nil)
def law_DiskAll.run (N : Nat) (room_ : Int) (script : (List (Int × ((List UInt8) × ((List UInt8) × ((List UInt8) × (Int × (Int × (List Int))))))))) : Option (Bool × Unit) :=
  obind (law_begun.run N room_) fun ((room1, used, files, steps, left, dead, _), b, _) =>
    bif !b then
      some (false, ())
    else
      obind (ref_New.run N room_) fun (v, _) =>
        obind (law_run.run N room1 used files steps left dead v script) fun ((room2, used1, files1, steps1, left1, dead1, _), v1, b1, _) =>
          some (b1, ())
def law_DiskAll.fn (N : Nat) (x : Sh.den law_DiskAll.ins) : Option (Sh.den law_DiskAll.outs) := law_DiskAll.run N x.1 x.2.1
def law_DiskAll.S (N : Nat) : Fs := ⟨law_DiskAll.ins, law_DiskAll.outs, law_DiskAll.fn N⟩
def law_DiskAll.lam (N : Nat) : Pcs := pcs []
theorem law_DiskAll.pok (N : Nat) : (law_DiskAll.lam N).Ok Try.prog (law_DiskAll.C N) law_DiskAll.code := pcsOk_nil
theorem law_DiskAll.ev (N : Nat) (x : Sh.den law_DiskAll.ins) : evC (law_DiskAll.C N) law_DiskAll.code (law_DiskAll.lam N) ⟨envOf 0 (bld (fun k => k) law_DiskAll.ins x 0).1, (bld (fun k => k) law_DiskAll.ins x 0).2.1, 1000⟩ (endF U law_DiskAll.outs Try.f7.results.toList []) = law_DiskAll.fn N x := by kernel_rfl
theorem law_DiskAll.ok (N : Nat) : (law_DiskAll.S N).con.Ok Try.prog 7 := fn_ok (F := law_DiskAll.S N) (n0 := 1000) Try.func7 (by kernel_rfl) (show Try.f7.body = some law_DiskAll.code by rfl) mix (law_DiskAll.cok N) (fun _ => rfl) (fun _ => rfl) (law_DiskAll.pok N) (fun x y h => (law_DiskAll.ev N x).trans h)
/-- hayloft/hayloftlaw04.step -/
def law_step_b.ins : Sh := (.cons (.box 67 (.cons (.val (.int .i64)) (.cons (.val (.int .i64)) (.cons (.own 3000000 (.pair .str (.pair (.slice .byte) (.int .i64)))) (.cons (.val (.int .i64)) (.cons (.val (.int .i64)) (.cons (.val .bool) .nil))))))) (.cons (.val (.pair (.int .i64) (.pair (.int .i64) (.pair (.slice (.pair .str (.pair (.slice .byte) (.int .i64)))) (.pair .bool (.pair .bool (.int .i64))))))) (.cons (.val (.pair (.int .i64) (.pair .str (.pair .str (.pair (.slice .byte) (.pair (.int .i64) (.pair (.int .i64) (.slice (.int .i64))))))))) .nil)))
def law_step_b.C (N : Nat) : Ctx := ⟨U, 95, fun _ => true, gam [(13, (disk_Disk_Read.S N).con), (53, (ref_At.S N).con), (24, (law_stands.S N).con), (28, (disk_Disk_Clone.S N).con), (27, (disk_Disk_Crash.S N).con), (29, (ref_Crash.S N).con), (15, (law_change.S N).con)], gamY []⟩
theorem law_step_b.cok (N : Nat) : (law_step_b.C N).Ok Try.prog := ⟨U_ok, GamOk.cons (disk_Disk_Read.ok N) (GamOk.cons (ref_At.ok N) (GamOk.cons (law_stands.ok N) (GamOk.cons (disk_Disk_Clone.ok N) (GamOk.cons (disk_Disk_Crash.ok N) (GamOk.cons (ref_Crash.ok N) (GamOk.cons (law_change.ok N) (GamOk.nil))))))), GamYOk.nil⟩
def law_step_b.code : Code := Try.f30.body.getD .skip
def law_step_b.outs : Sh := (.cons (.upd 0 67 (.cons (.val (.int .i64)) (.cons (.val (.int .i64)) (.cons (.own 3000000 (.pair .str (.pair (.slice .byte) (.int .i64)))) (.cons (.val (.int .i64)) (.cons (.val (.int .i64)) (.cons (.val .bool) .nil))))))) (.cons (.ref 0) (.cons (.val (.pair (.int .i64) (.pair (.int .i64) (.pair (.slice (.pair .str (.pair (.slice .byte) (.int .i64)))) (.pair .bool (.pair .bool (.int .i64))))))) (.cons (.val .bool) .nil))))
def law_step_b.run (N : Nat) (room_ : Int) (used : Int) (files : (List ((List UInt8) × ((List UInt8) × Int)))) (steps : Int) (left : Int) (dead : Bool) (r : (Int × (Int × ((List ((List UInt8) × ((List UInt8) × Int))) × (Bool × (Bool × Int)))))) (o : (Int × ((List UInt8) × ((List UInt8) × ((List UInt8) × (Int × (Int × (List Int)))))))) : Option ((Int × Int × (List ((List UInt8) × ((List UInt8) × Int))) × Int × Int × Bool × Unit) × Unit × (Int × (Int × ((List ((List UInt8) × ((List UInt8) × Int))) × (Bool × (Bool × Int))))) × Bool × Unit) :=
  bif decide (o.1 = (5 : Int)) then
    obind (disk_Disk_Read.run N room_ used files steps left dead o.2.1) fun (l, b, _) =>
      obind (ref_At.run N r o.2.1) fun (n_, _) =>
        bif decide (n_ < (0 : Int)) then
          bif decide ((l.length : Int) = (0 : Int)) then
            some ((room_, used, files, steps, left, dead, ()), (), r, !b, ())
          else some ((room_, used, files, steps, left, dead, ()), (), r, false, ())
        else
          bif b then
            bif inB n_ r.2.2.1.length then
              some ((room_, used, files, steps, left, dead, ()), (), r, decide (l = (r.2.2.1.getD n_.toNat (([] : List UInt8), ([] : List UInt8), (0 : Int))).2.1), ())
            else none
          else some ((room_, used, files, steps, left, dead, ()), (), r, false, ())
  else
    bif decide (o.1 = (6 : Int)) then
      obind (law_stands.run N room_ used files steps left dead r) fun ((room1, used1, files1, steps1, left1, dead1, _), b1, _) =>
        some ((room1, used1, files1, steps1, left1, dead1, ()), (), r, b1, ())
    else
      bif decide (o.1 = (9 : Int)) then
        obind (disk_Disk_Clone.run N room_ used files steps left dead) fun ((room2, used2, files2, steps2, left2, dead2, _), _) =>
          none
      else
        bif decide (o.1 = (10 : Int)) then
          obind (disk_Disk_Crash.run N room_ used files steps left dead o.2.2.2.2.2.2) fun ((room3, used3, files3, steps3, left3, dead3, _), (room4, used4, files4, steps4, left4, dead4, _), _) =>
            obind (ref_Crash.run N r o.2.2.2.2.2.2) fun (v, _) =>
              none
        else
          obind (law_change.run N room_ used files steps left dead r o) fun ((room5, used5, files5, steps5, left5, dead5, _), v1, b2, _) =>
            some ((room5, used5, files5, steps5, left5, dead5, ()), (), v1, b2, ())
def law_step_b.fn (N : Nat) (x : Sh.den law_step_b.ins) : Option (Sh.den law_step_b.outs) := law_step_b.run N x.1.1 x.1.2.1 x.1.2.2.1 x.1.2.2.2.1 x.1.2.2.2.2.1 x.1.2.2.2.2.2.1 x.2.1 x.2.2.1
def law_step_b.S (N : Nat) : Fs := ⟨law_step_b.ins, law_step_b.outs, law_step_b.fn N⟩
def law_step_b.lam (N : Nat) : Pcs := pcs []
theorem law_step_b.pok (N : Nat) : (law_step_b.lam N).Ok Try.prog (law_step_b.C N) law_step_b.code := pcsOk_nil
theorem law_step_b.ev (N : Nat) (x : Sh.den law_step_b.ins) : evC (law_step_b.C N) law_step_b.code (law_step_b.lam N) ⟨envOf 0 (bld (fun k => k) law_step_b.ins x 0).1, (bld (fun k => k) law_step_b.ins x 0).2.1, 1000⟩ (endF U law_step_b.outs Try.f30.results.toList []) = law_step_b.fn N x := by kernel_rfl
end
end Go.Hay.Ytccbcmamcdegmaa
