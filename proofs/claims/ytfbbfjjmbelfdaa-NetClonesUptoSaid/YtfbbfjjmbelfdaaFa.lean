/- Functions of the program as functions of Lean, and that they are what the program computes. Conditions: none. -/
import Derived.Test.YtfbbfjjmbelfdaaU
set_option linter.unusedVariables false
namespace Go.Hay.Ytfbbfjjmbelfdaa
open Go Go.Hay Go.Proofs
noncomputable section
set_option maxRecDepth 100000
def site0 : Site := siteOf [4, 6, 7, 10] 78 (sub (Try.f33.body.getD .skip) [true, true, true, true, false, true, false])
def site1 : Site := siteOf [2, 3] 27 (sub (Try.f34.body.getD .skip) [true, true, false])
def site2 : Site := siteOf [] 103 (sub (Try.f7.body.getD .skip) [true, true, true, true, true, false, true, false])
def site3 : Site := siteOf [2, 3] 27 (sub (Try.f34.body.getD .skip) [true, true, false])
def site4 : Site := siteOf [] 103 (sub ((some ((sub (Try.f7.body.getD .skip) [true, true, true, true, true, false]).getD .skip)).getD .skip) [true, false])
def site5 : Site := siteOf [2, 3] 27 (sub (Try.f34.body.getD .skip) [true, true, false])
def site6 : Site := siteOf [5, 6, 7, 9, 10] 103 (sub (Try.f7.body.getD .skip) [true, true, true, true, true, true, true, false, true, false])
def site7 : Site := siteOf [2, 3] 27 (sub (Try.f34.body.getD .skip) [true, true, false])
def sites : List Site := [site0, site1, site2, site3, site4, site5, site6, site7]
instance : Sites := ⟨fun k us => loopObj (sites.getD k ⟨#[], .skip, .skip, [], 0⟩) us, fun _ _ _ => loopObj_ne _ _ _⟩
/-- hayloft/net.New -/
def net_New.ins : Sh := (.cons (.val (.int .i64)) .nil)
def net_New.C (N : Nat) : Ctx := ⟨U, 7, fun _ => true, gam [], gamY []⟩
theorem net_New.cok (N : Nat) : (net_New.C N).Ok Try.prog := ⟨U_ok, GamOk.nil, GamYOk.nil⟩
def net_New.code : Code := Try.f23.body.getD .skip
def net_New.outs : Sh := (.cons (.box 65 (.cons (.val (.int .i64)) (.cons (.own 62 (.pair (.int .i64) (.slice .byte))) .nil))) .nil)
def net_New.run (N : Nat) (room_ : Int) : Option ((Int × (List (Int × (List UInt8))) × Unit) × Unit) :=
  some ((max room_ (0 : Int), ([] : List (Int × (List UInt8))), ()), ())
def net_New.fn (N : Nat) (x : Sh.den net_New.ins) : Option (Sh.den net_New.outs) := net_New.run N x.1
def net_New.S (N : Nat) : Fs := ⟨net_New.ins, net_New.outs, net_New.fn N⟩
def net_New.lam (N : Nat) : Pcs := pcs []
theorem net_New.pok (N : Nat) : (net_New.lam N).Ok Try.prog (net_New.C N) net_New.code := pcsOk_nil
theorem net_New.ev (N : Nat) (x : Sh.den net_New.ins) : evC (net_New.C N) net_New.code (net_New.lam N) ⟨envOf 0 (bld (fun k => k) net_New.ins x 0).1, (bld (fun k => k) net_New.ins x 0).2.1, 1000⟩ (endF U net_New.outs Try.f23.results.toList []) = net_New.fn N x := by kernel_rfl
theorem net_New.ok (N : Nat) : (net_New.S N).con.Ok Try.prog 23 := fn_ok (F := net_New.S N) (n0 := 1000) Try.func23 (by kernel_rfl) (show Try.f23.body = some net_New.code by rfl) mix (net_New.cok N) (fun _ => rfl) (fun _ => rfl) (net_New.pok N) (fun x y h => (net_New.ev N x).trans h)
/-- slices.Clone[[]byte,byte] -/
def slices_Clone_byte_byte.ins : Sh := (.cons (.rown 5 .byte) .nil)
def slices_Clone_byte_byte.C (N : Nat) : Ctx := ⟨U, 8, fun _ => true, gam [], gamY []⟩
theorem slices_Clone_byte_byte.cok (N : Nat) : (slices_Clone_byte_byte.C N).Ok Try.prog := ⟨U_ok, GamOk.nil, GamYOk.nil⟩
def slices_Clone_byte_byte.code : Code := Try.f25.body.getD .skip
def slices_Clone_byte_byte.outs : Sh := (.cons (.own 5 .byte) .nil)
def slices_Clone_byte_byte.run (N : Nat) (s : (List UInt8)) : Option ((List UInt8) × Unit) :=
  pick2 (Nat.beq s.length 0)
    (
      some (([] : List UInt8), ()))
    (
      bif room (0 + s.length) 1 then
        some (s, ())
      else none)
def slices_Clone_byte_byte.fn (N : Nat) (x : Sh.den slices_Clone_byte_byte.ins) : Option (Sh.den slices_Clone_byte_byte.outs) := slices_Clone_byte_byte.run N x.1
def slices_Clone_byte_byte.S (N : Nat) : Fs := ⟨slices_Clone_byte_byte.ins, slices_Clone_byte_byte.outs, slices_Clone_byte_byte.fn N⟩
def slices_Clone_byte_byte.lam (N : Nat) : Pcs := pcs []
theorem slices_Clone_byte_byte.pok (N : Nat) : (slices_Clone_byte_byte.lam N).Ok Try.prog (slices_Clone_byte_byte.C N) slices_Clone_byte_byte.code := pcsOk_nil
theorem slices_Clone_byte_byte.ev (N : Nat) (x : Sh.den slices_Clone_byte_byte.ins) : evC (slices_Clone_byte_byte.C N) slices_Clone_byte_byte.code (slices_Clone_byte_byte.lam N) ⟨envOf 0 (bld (fun k => k) slices_Clone_byte_byte.ins x 0).1, (bld (fun k => k) slices_Clone_byte_byte.ins x 0).2.1, 1000⟩ (endF U slices_Clone_byte_byte.outs Try.f25.results.toList []) = slices_Clone_byte_byte.fn N x := by kernel_rfl
theorem slices_Clone_byte_byte.ok (N : Nat) : (slices_Clone_byte_byte.S N).con.Ok Try.prog 25 := fn_ok (F := slices_Clone_byte_byte.S N) (n0 := 1000) Try.func25 (by kernel_rfl) (show Try.f25.body = some slices_Clone_byte_byte.code by rfl) mix (slices_Clone_byte_byte.cok N) (fun _ => rfl) (fun _ => rfl) (slices_Clone_byte_byte.pok N) (fun x y h => (slices_Clone_byte_byte.ev N x).trans h)
/-- (*hayloft/net.Net).Send -/
def net_Net_Send.ins : Sh := (.cons (.box 65 (.cons (.val (.int .i64)) (.cons (.own 62 (.pair (.int .i64) (.slice .byte))) .nil))) (.cons (.val (.int .i64)) (.cons (.rown 5 .byte) .nil)))
def net_Net_Send.C (N : Nat) : Ctx := ⟨U, 30, fun _ => true, gam [(25, (slices_Clone_byte_byte.S N).con)], gamY []⟩
theorem net_Net_Send.cok (N : Nat) : (net_Net_Send.C N).Ok Try.prog := ⟨U_ok, GamOk.cons (slices_Clone_byte_byte.ok N) (GamOk.nil), GamYOk.nil⟩
def net_Net_Send.code : Code := Try.f11.body.getD .skip
def net_Net_Send.outs : Sh := (.cons (.upd 0 65 (.cons (.val (.int .i64)) (.cons (.own 62 (.pair (.int .i64) (.slice .byte))) .nil))) (.cons (.val (.int .i64)) .nil))
def net_Net_Send.run (N : Nat) (room_ : Int) (l : (List (Int × (List UInt8)))) (to_ : Int) (b : (List UInt8)) : Option ((Int × (List (Int × (List UInt8))) × Unit) × Int × Unit) :=
  bif decide ((l.length : Int) = room_) then
    some ((room_, l, ()), (50 : Int), ())
  else
    obind (slices_Clone_byte_byte.run N b) fun (l1, _) =>
      bif room (l.length + 1) 32 then
        some ((room_, l ++ ([(to_, l1)] : List (Int × (List UInt8))), ()), (0 : Int), ())
      else none
def net_Net_Send.fn (N : Nat) (x : Sh.den net_Net_Send.ins) : Option (Sh.den net_Net_Send.outs) := net_Net_Send.run N x.1.1 x.1.2.1 x.2.1 x.2.2.1
def net_Net_Send.S (N : Nat) : Fs := ⟨net_Net_Send.ins, net_Net_Send.outs, net_Net_Send.fn N⟩
def net_Net_Send.lam (N : Nat) : Pcs := pcs []
theorem net_Net_Send.pok (N : Nat) : (net_Net_Send.lam N).Ok Try.prog (net_Net_Send.C N) net_Net_Send.code := pcsOk_nil
theorem net_Net_Send.ev (N : Nat) (x : Sh.den net_Net_Send.ins) : evC (net_Net_Send.C N) net_Net_Send.code (net_Net_Send.lam N) ⟨envOf 0 (bld (fun k => k) net_Net_Send.ins x 0).1, (bld (fun k => k) net_Net_Send.ins x 0).2.1, 1000⟩ (endF U net_Net_Send.outs Try.f11.results.toList []) = net_Net_Send.fn N x := by kernel_rfl
theorem net_Net_Send.ok (N : Nat) : (net_Net_Send.S N).con.Ok Try.prog 11 := fn_ok (F := net_Net_Send.S N) (n0 := 1000) Try.func11 (by kernel_rfl) (show Try.f11.body = some net_Net_Send.code by rfl) mix (net_Net_Send.cok N) (fun _ => rfl) (fun _ => rfl) (net_Net_Send.pok N) (fun x y h => (net_Net_Send.ev N x).trans h)
/-- (*hayloft/net.Net).there -/
def net_Net_there.ins : Sh := (.cons (.rbox 65 (.cons (.val (.int .i64)) (.cons (.rown 62 (.pair (.int .i64) (.slice .byte))) .nil))) (.cons (.val (.int .i64)) .nil))
def net_Net_there.C (N : Nat) : Ctx := ⟨U, 16, fun _ => true, gam [], gamY []⟩
theorem net_Net_there.cok (N : Nat) : (net_Net_there.C N).Ok Try.prog := ⟨U_ok, GamOk.nil, GamYOk.nil⟩
def net_Net_there.code : Code := Try.f24.body.getD .skip
def net_Net_there.outs : Sh := (.cons (.val .bool) .nil)
def net_Net_there.run (N : Nat) (room_ : Int) (l : (List (Int × (List UInt8)))) (i : Int) : Option (Bool × Unit) :=
  bif decide (i ≥ (0 : Int)) then
    some (decide (i < (l.length : Int)), ())
  else some (false, ())
def net_Net_there.fn (N : Nat) (x : Sh.den net_Net_there.ins) : Option (Sh.den net_Net_there.outs) := net_Net_there.run N x.1.1 x.1.2.1 x.2.1
def net_Net_there.S (N : Nat) : Fs := ⟨net_Net_there.ins, net_Net_there.outs, net_Net_there.fn N⟩
def net_Net_there.lam (N : Nat) : Pcs := pcs []
theorem net_Net_there.pok (N : Nat) : (net_Net_there.lam N).Ok Try.prog (net_Net_there.C N) net_Net_there.code := pcsOk_nil
theorem net_Net_there.ev (N : Nat) (x : Sh.den net_Net_there.ins) : evC (net_Net_there.C N) net_Net_there.code (net_Net_there.lam N) ⟨envOf 0 (bld (fun k => k) net_Net_there.ins x 0).1, (bld (fun k => k) net_Net_there.ins x 0).2.1, 1000⟩ (endF U net_Net_there.outs Try.f24.results.toList []) = net_Net_there.fn N x := by kernel_rfl
theorem net_Net_there.ok (N : Nat) : (net_Net_there.S N).con.Ok Try.prog 24 := fn_ok (F := net_Net_there.S N) (n0 := 1000) Try.func24 (by kernel_rfl) (show Try.f24.body = some net_Net_there.code by rfl) mix (net_Net_there.cok N) (fun _ => rfl) (fun _ => rfl) (net_Net_there.pok N) (fun x y h => (net_Net_there.ev N x).trans h)
/-- slices.Clone[[]byte,byte] -/
def slices_Clone_byte_byte_b.ins : Sh := (.cons (.val (.slice .byte)) .nil)
def slices_Clone_byte_byte_b.C (N : Nat) : Ctx := ⟨U, 8, fun _ => true, gam [], gamY []⟩
theorem slices_Clone_byte_byte_b.cok (N : Nat) : (slices_Clone_byte_byte_b.C N).Ok Try.prog := ⟨U_ok, GamOk.nil, GamYOk.nil⟩
def slices_Clone_byte_byte_b.code : Code := Try.f25.body.getD .skip
def slices_Clone_byte_byte_b.outs : Sh := (.cons (.own 5 .byte) .nil)
def slices_Clone_byte_byte_b.run (N : Nat) (s : (List UInt8)) : Option ((List UInt8) × Unit) :=
  pick2 (Nat.beq s.length 0)
    (
      some (([] : List UInt8), ()))
    (
      bif room (0 + s.length) 1 then
        some (s, ())
      else none)
def slices_Clone_byte_byte_b.fn (N : Nat) (x : Sh.den slices_Clone_byte_byte_b.ins) : Option (Sh.den slices_Clone_byte_byte_b.outs) := slices_Clone_byte_byte_b.run N x.1
def slices_Clone_byte_byte_b.S (N : Nat) : Fs := ⟨slices_Clone_byte_byte_b.ins, slices_Clone_byte_byte_b.outs, slices_Clone_byte_byte_b.fn N⟩
def slices_Clone_byte_byte_b.lam (N : Nat) : Pcs := pcs []
theorem slices_Clone_byte_byte_b.pok (N : Nat) : (slices_Clone_byte_byte_b.lam N).Ok Try.prog (slices_Clone_byte_byte_b.C N) slices_Clone_byte_byte_b.code := pcsOk_nil
theorem slices_Clone_byte_byte_b.ev (N : Nat) (x : Sh.den slices_Clone_byte_byte_b.ins) : evC (slices_Clone_byte_byte_b.C N) slices_Clone_byte_byte_b.code (slices_Clone_byte_byte_b.lam N) ⟨envOf 0 (bld (fun k => k) slices_Clone_byte_byte_b.ins x 0).1, (bld (fun k => k) slices_Clone_byte_byte_b.ins x 0).2.1, 1000⟩ (endF U slices_Clone_byte_byte_b.outs Try.f25.results.toList []) = slices_Clone_byte_byte_b.fn N x := by kernel_rfl
theorem slices_Clone_byte_byte_b.ok (N : Nat) : (slices_Clone_byte_byte_b.S N).con.Ok Try.prog 25 := fn_ok (F := slices_Clone_byte_byte_b.S N) (n0 := 1000) Try.func25 (by kernel_rfl) (show Try.f25.body = some slices_Clone_byte_byte_b.code by rfl) mix (slices_Clone_byte_byte_b.cok N) (fun _ => rfl) (fun _ => rfl) (slices_Clone_byte_byte_b.pok N) (fun x y h => (slices_Clone_byte_byte_b.ev N x).trans h)
/-- (*hayloft/net.Net).Send -/
def net_Net_Send_b.ins : Sh := (.cons (.box 65 (.cons (.val (.int .i64)) (.cons (.own 62 (.pair (.int .i64) (.slice .byte))) .nil))) (.cons (.val (.int .i64)) (.cons (.val (.slice .byte)) .nil)))
def net_Net_Send_b.C (N : Nat) : Ctx := ⟨U, 30, fun _ => true, gam [(25, (slices_Clone_byte_byte_b.S N).con)], gamY []⟩
theorem net_Net_Send_b.cok (N : Nat) : (net_Net_Send_b.C N).Ok Try.prog := ⟨U_ok, GamOk.cons (slices_Clone_byte_byte_b.ok N) (GamOk.nil), GamYOk.nil⟩
def net_Net_Send_b.code : Code := Try.f11.body.getD .skip
def net_Net_Send_b.outs : Sh := (.cons (.upd 0 65 (.cons (.val (.int .i64)) (.cons (.own 62 (.pair (.int .i64) (.slice .byte))) .nil))) (.cons (.val (.int .i64)) .nil))
def net_Net_Send_b.run (N : Nat) (room_ : Int) (l : (List (Int × (List UInt8)))) (to_ : Int) (b : (List UInt8)) : Option ((Int × (List (Int × (List UInt8))) × Unit) × Int × Unit) :=
  bif decide ((l.length : Int) = room_) then
    some ((room_, l, ()), (50 : Int), ())
  else
    obind (slices_Clone_byte_byte_b.run N b) fun (l1, _) =>
      bif room (l.length + 1) 32 then
        some ((room_, l ++ ([(to_, l1)] : List (Int × (List UInt8))), ()), (0 : Int), ())
      else none
def net_Net_Send_b.fn (N : Nat) (x : Sh.den net_Net_Send_b.ins) : Option (Sh.den net_Net_Send_b.outs) := net_Net_Send_b.run N x.1.1 x.1.2.1 x.2.1 x.2.2.1
def net_Net_Send_b.S (N : Nat) : Fs := ⟨net_Net_Send_b.ins, net_Net_Send_b.outs, net_Net_Send_b.fn N⟩
def net_Net_Send_b.lam (N : Nat) : Pcs := pcs []
theorem net_Net_Send_b.pok (N : Nat) : (net_Net_Send_b.lam N).Ok Try.prog (net_Net_Send_b.C N) net_Net_Send_b.code := pcsOk_nil
theorem net_Net_Send_b.ev (N : Nat) (x : Sh.den net_Net_Send_b.ins) : evC (net_Net_Send_b.C N) net_Net_Send_b.code (net_Net_Send_b.lam N) ⟨envOf 0 (bld (fun k => k) net_Net_Send_b.ins x 0).1, (bld (fun k => k) net_Net_Send_b.ins x 0).2.1, 1000⟩ (endF U net_Net_Send_b.outs Try.f11.results.toList []) = net_Net_Send_b.fn N x := by kernel_rfl
theorem net_Net_Send_b.ok (N : Nat) : (net_Net_Send_b.S N).con.Ok Try.prog 11 := fn_ok (F := net_Net_Send_b.S N) (n0 := 1000) Try.func11 (by kernel_rfl) (show Try.f11.body = some net_Net_Send_b.code by rfl) mix (net_Net_Send_b.cok N) (fun _ => rfl) (fun _ => rfl) (net_Net_Send_b.pok N) (fun x y h => (net_Net_Send_b.ev N x).trans h)
/-- (*hayloft/net.Net).Double -/
def net_Net_Double.ins : Sh := (.cons (.box 65 (.cons (.val (.int .i64)) (.cons (.own 62 (.pair (.int .i64) (.slice .byte))) .nil))) (.cons (.val (.int .i64)) .nil))
def net_Net_Double.C (N : Nat) : Ctx := ⟨U, 27, fun _ => true, gam [(24, (net_Net_there.S N).con), (11, (net_Net_Send_b.S N).con)], gamY []⟩
theorem net_Net_Double.cok (N : Nat) : (net_Net_Double.C N).Ok Try.prog := ⟨U_ok, GamOk.cons (net_Net_there.ok N) (GamOk.cons (net_Net_Send_b.ok N) (GamOk.nil)), GamYOk.nil⟩
def net_Net_Double.code : Code := Try.f14.body.getD .skip
def net_Net_Double.outs : Sh := (.cons (.upd 0 65 (.cons (.val (.int .i64)) (.cons (.own 62 (.pair (.int .i64) (.slice .byte))) .nil))) (.cons (.val (.int .i64)) .nil))
def net_Net_Double.run (N : Nat) (room_ : Int) (l : (List (Int × (List UInt8)))) (i : Int) : Option ((Int × (List (Int × (List UInt8))) × Unit) × Int × Unit) :=
  obind (net_Net_there.run N room_ l i) fun (b, _) =>
    bif !b then
      some ((room_, l, ()), (51 : Int), ())
    else
      bif inB i l.length then
        bif decide (i.toNat < l.length) then
          bif inB i l.length then
            bif decide (i.toNat < l.length) then
              obind (net_Net_Send_b.run N room_ l (l.getD i.toNat ((0 : Int), ([] : List UInt8))).1 (l.getD i.toNat ((0 : Int), ([] : List UInt8))).2) fun ((room1, l1, _), n_, _) =>
                some ((room1, l1, ()), n_, ())
            else none
          else none
        else none
      else none
def net_Net_Double.fn (N : Nat) (x : Sh.den net_Net_Double.ins) : Option (Sh.den net_Net_Double.outs) := net_Net_Double.run N x.1.1 x.1.2.1 x.2.1
def net_Net_Double.S (N : Nat) : Fs := ⟨net_Net_Double.ins, net_Net_Double.outs, net_Net_Double.fn N⟩
def net_Net_Double.lam (N : Nat) : Pcs := pcs []
theorem net_Net_Double.pok (N : Nat) : (net_Net_Double.lam N).Ok Try.prog (net_Net_Double.C N) net_Net_Double.code := pcsOk_nil
theorem net_Net_Double.ev (N : Nat) (x : Sh.den net_Net_Double.ins) : evC (net_Net_Double.C N) net_Net_Double.code (net_Net_Double.lam N) ⟨envOf 0 (bld (fun k => k) net_Net_Double.ins x 0).1, (bld (fun k => k) net_Net_Double.ins x 0).2.1, 1000⟩ (endF U net_Net_Double.outs Try.f14.results.toList []) = net_Net_Double.fn N x := by kernel_rfl
theorem net_Net_Double.ok (N : Nat) : (net_Net_Double.S N).con.Ok Try.prog 14 := fn_ok (F := net_Net_Double.S N) (n0 := 1000) Try.func14 (by kernel_rfl) (show Try.f14.body = some net_Net_Double.code by rfl) mix (net_Net_Double.cok N) (fun _ => rfl) (fun _ => rfl) (net_Net_Double.pok N) (fun x y h => (net_Net_Double.ev N x).trans h)
/-- (*hayloft/net.Net).At -/
def net_Net_At.ins : Sh := (.cons (.rbox 65 (.cons (.val (.int .i64)) (.cons (.rown 62 (.pair (.int .i64) (.slice .byte))) .nil))) (.cons (.val (.int .i64)) .nil))
def net_Net_At.C (N : Nat) : Ctx := ⟨U, 28, fun _ => true, gam [(24, (net_Net_there.S N).con), (25, (slices_Clone_byte_byte_b.S N).con)], gamY []⟩
theorem net_Net_At.cok (N : Nat) : (net_Net_At.C N).Ok Try.prog := ⟨U_ok, GamOk.cons (net_Net_there.ok N) (GamOk.cons (slices_Clone_byte_byte_b.ok N) (GamOk.nil)), GamYOk.nil⟩
def net_Net_At.code : Code := Try.f10.body.getD .skip
def net_Net_At.outs : Sh := (.cons (.val (.int .i64)) (.cons (.own 5 .byte) (.cons (.val .bool) .nil)))
def net_Net_At.run (N : Nat) (room_ : Int) (l : (List (Int × (List UInt8)))) (i : Int) : Option (Int × (List UInt8) × Bool × Unit) :=
  obind (net_Net_there.run N room_ l i) fun (b, _) =>
    bif !b then
      some ((0 : Int), ([] : List UInt8), false, ())
    else
      bif inB i l.length then
        bif decide (i.toNat < l.length) then
          bif inB i l.length then
            bif decide (i.toNat < l.length) then
              obind (slices_Clone_byte_byte_b.run N (l.getD i.toNat ((0 : Int), ([] : List UInt8))).2) fun (l1, _) =>
                some ((l.getD i.toNat ((0 : Int), ([] : List UInt8))).1, l1, true, ())
            else none
          else none
        else none
      else none
def net_Net_At.fn (N : Nat) (x : Sh.den net_Net_At.ins) : Option (Sh.den net_Net_At.outs) := net_Net_At.run N x.1.1 x.1.2.1 x.2.1
def net_Net_At.S (N : Nat) : Fs := ⟨net_Net_At.ins, net_Net_At.outs, net_Net_At.fn N⟩
def net_Net_At.lam (N : Nat) : Pcs := pcs []
theorem net_Net_At.pok (N : Nat) : (net_Net_At.lam N).Ok Try.prog (net_Net_At.C N) net_Net_At.code := pcsOk_nil
theorem net_Net_At.ev (N : Nat) (x : Sh.den net_Net_At.ins) : evC (net_Net_At.C N) net_Net_At.code (net_Net_At.lam N) ⟨envOf 0 (bld (fun k => k) net_Net_At.ins x 0).1, (bld (fun k => k) net_Net_At.ins x 0).2.1, 1000⟩ (endF U net_Net_At.outs Try.f10.results.toList []) = net_Net_At.fn N x := by kernel_rfl
theorem net_Net_At.ok (N : Nat) : (net_Net_At.S N).con.Ok Try.prog 10 := fn_ok (F := net_Net_At.S N) (n0 := 1000) Try.func10 (by kernel_rfl) (show Try.f10.body = some net_Net_At.code by rfl) mix (net_Net_At.cok N) (fun _ => rfl) (fun _ => rfl) (net_Net_At.pok N) (fun x y h => (net_Net_At.ev N x).trans h)
/-- slices.Grow[[]hayloft/net.one,hayloft/net.one] -/
def slices_Grow_net_one_net_one.ins : Sh := (.cons (.nils) (.cons (.val (.int .i64)) .nil))
def slices_Grow_net_one_net_one.C (N : Nat) : Ctx := ⟨U, 27, fun _ => true, gam [], gamY []⟩
theorem slices_Grow_net_one_net_one.cok (N : Nat) : (slices_Grow_net_one_net_one.C N).Ok Try.prog := ⟨U_ok, GamOk.nil, GamYOk.nil⟩
def slices_Grow_net_one_net_one.code : Code := Try.f36.body.getD .skip
def slices_Grow_net_one_net_one.outs : Sh := (.cons (.own 62 (.pair (.int .i64) (.slice .byte))) .nil)
def slices_Grow_net_one_net_one.run (N : Nat) (n_ : Int) : Option ((List (Int × (List UInt8))) × Unit) :=
  bif decide (n_ < (0 : Int)) then
    none
  else
    bif decide ((IntKind.i64.wrap (n_ - (0 : Int))) > (0 : Int)) then
      bif (decide ((0 : Int) ≤ (IntKind.i64.wrap (n_ - (0 : Int))))) && (room (IntKind.i64.wrap (n_ - (0 : Int))).toNat 32) then
        bif okB (0 : Int) (0 : Int) (List.replicate (IntKind.i64.wrap (n_ - (0 : Int))).toNat ((0 : Int), ([] : List UInt8))).length then
          some ((List.replicate (IntKind.i64.wrap (n_ - (0 : Int))).toNat ((0 : Int), ([] : List UInt8))).take 0, ())
        else none
      else none
    else some (([] : List (Int × (List UInt8))), ())
def slices_Grow_net_one_net_one.fn (N : Nat) (x : Sh.den slices_Grow_net_one_net_one.ins) : Option (Sh.den slices_Grow_net_one_net_one.outs) := slices_Grow_net_one_net_one.run N x.2.1
def slices_Grow_net_one_net_one.S (N : Nat) : Fs := ⟨slices_Grow_net_one_net_one.ins, slices_Grow_net_one_net_one.outs, slices_Grow_net_one_net_one.fn N⟩
def slices_Grow_net_one_net_one.lam (N : Nat) : Pcs := pcs []
theorem slices_Grow_net_one_net_one.pok (N : Nat) : (slices_Grow_net_one_net_one.lam N).Ok Try.prog (slices_Grow_net_one_net_one.C N) slices_Grow_net_one_net_one.code := pcsOk_nil
theorem slices_Grow_net_one_net_one.ev (N : Nat) (x : Sh.den slices_Grow_net_one_net_one.ins) : evC (slices_Grow_net_one_net_one.C N) slices_Grow_net_one_net_one.code (slices_Grow_net_one_net_one.lam N) ⟨envOf 0 (bld (fun k => k) slices_Grow_net_one_net_one.ins x 0).1, (bld (fun k => k) slices_Grow_net_one_net_one.ins x 0).2.1, 1000⟩ (endF U slices_Grow_net_one_net_one.outs Try.f36.results.toList [4]) = slices_Grow_net_one_net_one.fn N x := by kernel_rfl
theorem slices_Grow_net_one_net_one.ok (N : Nat) : (slices_Grow_net_one_net_one.S N).con.Ok Try.prog 36 := fn_ok (F := slices_Grow_net_one_net_one.S N) (n0 := 1000) Try.func36 (by kernel_rfl) (show Try.f36.body = some slices_Grow_net_one_net_one.code by rfl) mix (slices_Grow_net_one_net_one.cok N) (fun _ => rfl) (fun _ => rfl) (slices_Grow_net_one_net_one.pok N) (fun x y h => (slices_Grow_net_one_net_one.ev N x).trans h)
/-- slices.Concat[[]hayloft/net.one,hayloft/net.one] -/
def slices_Concat_net_one_net_one.ins : Sh := (.cons (.rown 63 (.slice (.pair (.int .i64) (.slice .byte)))) .nil)
def slices_Concat_net_one_net_one.C (N : Nat) : Ctx := ⟨U, 36, fun _ => true, gam [(36, (slices_Grow_net_one_net_one.S N).con)], gamY []⟩
theorem slices_Concat_net_one_net_one.cok (N : Nat) : (slices_Concat_net_one_net_one.C N).Ok Try.prog := ⟨U_ok, GamOk.cons (slices_Grow_net_one_net_one.ok N) (GamOk.nil), GamYOk.nil⟩
def slices_Concat_net_one_net_one.code : Code := Try.f26.body.getD .skip
def slices_Concat_net_one_net_one_0.ins : Sh := (.cons (.val (.int .i64)) (.cons (.rown 63 (.slice (.pair (.int .i64) (.slice .byte)))) (.cons (.val (.int .i64)) (.cons (.val (.int .i64)) .nil))))
def slices_Concat_net_one_net_one_0.ts : List Tmp := [3, 9, 10, 11]
def slices_Concat_net_one_net_one_0.asg : List Tmp := [3, 5, 11, 12, 13, 14, 15, 16, 17, 18, 19, 20, 21, 22]
def slices_Concat_net_one_net_one_0.C (N : Nat) : Ctx := { slices_Concat_net_one_net_one.C N with may := fun t => slices_Concat_net_one_net_one_0.asg.any (Nat.beq t) }
def slices_Concat_net_one_net_one_0.code : Code := loopBody (sub slices_Concat_net_one_net_one.code [true, true, false, true, false])
theorem slices_Concat_net_one_net_one_0.cok (N : Nat) : (slices_Concat_net_one_net_one_0.C N).Ok Try.prog := ⟨(slices_Concat_net_one_net_one.cok N).U, (slices_Concat_net_one_net_one.cok N).Γ, (slices_Concat_net_one_net_one.cok N).Y⟩
def slices_Concat_net_one_net_one_0.alts : List Alt := [⟨(.exit 0), [3], (.cons (.val (.int .i64)) .nil)⟩]
def slices_Concat_net_one_net_one_0.go (N : Nat) : Nat → Int → (List (List (Int × (List UInt8)))) → Int → Int → Option ((Int × Unit))
  | 0, _, _, _, _ => none
  | fuel + 1, size, t9, t10, t11 =>
    bif decide (t11 < t10) then
      bif inB t11 t9.length then
        bif decide (t11.toNat < t9.length) then
          bif decide ((IntKind.i64.wrap (size + ((t9.getD t11.toNat ([] : List (Int × (List UInt8)))).length : Int))) < (0 : Int)) then
            none
          else slices_Concat_net_one_net_one_0.go N fuel (IntKind.i64.wrap (size + ((t9.getD t11.toNat ([] : List (Int × (List UInt8)))).length : Int))) t9 t10 (IntKind.i64.wrap (t11 + (1 : Int)))
        else none
      else none
    else some (size, ())
def slices_Concat_net_one_net_one_0.g (N n : Nat) (x : Sh.den slices_Concat_net_one_net_one_0.ins) : Option (altsDen slices_Concat_net_one_net_one_0.alts) := slices_Concat_net_one_net_one_0.go N n x.1 x.2.1 x.2.2.1 x.2.2.2.1
def slices_Concat_net_one_net_one_0.P (N : Nat) : Ps := ⟨slices_Concat_net_one_net_one_0.ts, slices_Concat_net_one_net_one_0.ins, slices_Concat_net_one_net_one_0.asg, slices_Concat_net_one_net_one_0.alts, slices_Concat_net_one_net_one_0.g N N⟩
def slices_Concat_net_one_net_one_0.lam (N : Nat) : Pcs := pcs []
theorem slices_Concat_net_one_net_one_0.pok (N : Nat) : (slices_Concat_net_one_net_one_0.lam N).Ok Try.prog (slices_Concat_net_one_net_one_0.C N) slices_Concat_net_one_net_one_0.code := pcsOk_nil
theorem slices_Concat_net_one_net_one_0.ev (N n : Nat) (x : Sh.den slices_Concat_net_one_net_one_0.ins) : evC (slices_Concat_net_one_net_one_0.C N) slices_Concat_net_one_net_one_0.code (slices_Concat_net_one_net_one_0.lam N) ((slices_Concat_net_one_net_one_0.P N).canon 1000 x) (loopK (slices_Concat_net_one_net_one_0.P N) (slices_Concat_net_one_net_one_0.g N n)) = slices_Concat_net_one_net_one_0.g N (n + 1) x := by kernel_rfl
theorem slices_Concat_net_one_net_one_0.ok (N : Nat) : ((slices_Concat_net_one_net_one_0.P N).pc (slices_Concat_net_one_net_one.C N)).Ok Try.prog (slices_Concat_net_one_net_one.C N) (.loop slices_Concat_net_one_net_one_0.code) := loop_ok (F := slices_Concat_net_one_net_one_0.P N) (n0 := 1000) (N := N) (slices_Concat_net_one_net_one.cok N) mix (slices_Concat_net_one_net_one_0.pok N) (slices_Concat_net_one_net_one_0.g N) (fun x => by rfl) rfl (fun n x y h => (slices_Concat_net_one_net_one_0.ev N n x).trans h)
def slices_Concat_net_one_net_one_1.ins : Sh := (.cons (.own 62 (.pair (.int .i64) (.slice .byte))) (.cons (.rown 63 (.slice (.pair (.int .i64) (.slice .byte)))) (.cons (.val (.int .i64)) (.cons (.val (.int .i64)) .nil))))
def slices_Concat_net_one_net_one_1.ts : List Tmp := [6, 25, 26, 27]
def slices_Concat_net_one_net_one_1.asg : List Tmp := [6, 8, 27, 28, 29, 30, 31, 32, 33, 34]
def slices_Concat_net_one_net_one_1.C (N : Nat) : Ctx := { slices_Concat_net_one_net_one.C N with may := fun t => slices_Concat_net_one_net_one_1.asg.any (Nat.beq t) }
def slices_Concat_net_one_net_one_1.code : Code := loopBody (sub slices_Concat_net_one_net_one.code [true, true, true, true, false, true, false])
theorem slices_Concat_net_one_net_one_1.cok (N : Nat) : (slices_Concat_net_one_net_one_1.C N).Ok Try.prog := ⟨(slices_Concat_net_one_net_one.cok N).U, (slices_Concat_net_one_net_one.cok N).Γ, (slices_Concat_net_one_net_one.cok N).Y⟩
def slices_Concat_net_one_net_one_1.alts : List Alt := [⟨(.exit 2), [6], (.cons (.own 62 (.pair (.int .i64) (.slice .byte))) .nil)⟩]
def slices_Concat_net_one_net_one_1.go (N : Nat) : Nat → (List (Int × (List UInt8))) → (List (List (Int × (List UInt8)))) → Int → Int → Option (((List (Int × (List UInt8))) × Unit))
  | 0, _, _, _, _ => none
  | fuel + 1, newslice, t25, t26, t27 =>
    bif decide (t27 < t26) then
      bif inB t27 t25.length then
        bif decide (t27.toNat < t25.length) then
          bif room (newslice.length + (t25.getD t27.toNat ([] : List (Int × (List UInt8)))).length) 32 then
            slices_Concat_net_one_net_one_1.go N fuel (newslice ++ (t25.getD t27.toNat ([] : List (Int × (List UInt8))))) t25 t26 (IntKind.i64.wrap (t27 + (1 : Int)))
          else none
        else none
      else none
    else some (newslice, ())
def slices_Concat_net_one_net_one_1.g (N n : Nat) (x : Sh.den slices_Concat_net_one_net_one_1.ins) : Option (altsDen slices_Concat_net_one_net_one_1.alts) := slices_Concat_net_one_net_one_1.go N n x.1 x.2.1 x.2.2.1 x.2.2.2.1
def slices_Concat_net_one_net_one_1.P (N : Nat) : Ps := ⟨slices_Concat_net_one_net_one_1.ts, slices_Concat_net_one_net_one_1.ins, slices_Concat_net_one_net_one_1.asg, slices_Concat_net_one_net_one_1.alts, slices_Concat_net_one_net_one_1.g N N⟩
def slices_Concat_net_one_net_one_1.lam (N : Nat) : Pcs := pcs []
theorem slices_Concat_net_one_net_one_1.pok (N : Nat) : (slices_Concat_net_one_net_one_1.lam N).Ok Try.prog (slices_Concat_net_one_net_one_1.C N) slices_Concat_net_one_net_one_1.code := pcsOk_nil
theorem slices_Concat_net_one_net_one_1.ev (N n : Nat) (x : Sh.den slices_Concat_net_one_net_one_1.ins) : evC (slices_Concat_net_one_net_one_1.C N) slices_Concat_net_one_net_one_1.code (slices_Concat_net_one_net_one_1.lam N) ((slices_Concat_net_one_net_one_1.P N).canon 1000 x) (loopK (slices_Concat_net_one_net_one_1.P N) (slices_Concat_net_one_net_one_1.g N n)) = slices_Concat_net_one_net_one_1.g N (n + 1) x := by kernel_rfl
theorem slices_Concat_net_one_net_one_1.ok (N : Nat) : ((slices_Concat_net_one_net_one_1.P N).pc (slices_Concat_net_one_net_one.C N)).Ok Try.prog (slices_Concat_net_one_net_one.C N) (.loop slices_Concat_net_one_net_one_1.code) := loop_ok (F := slices_Concat_net_one_net_one_1.P N) (n0 := 1000) (N := N) (slices_Concat_net_one_net_one.cok N) mix (slices_Concat_net_one_net_one_1.pok N) (slices_Concat_net_one_net_one_1.g N) (fun x => by rfl) rfl (fun n x y h => (slices_Concat_net_one_net_one_1.ev N n x).trans h)
def slices_Concat_net_one_net_one.outs : Sh := (.cons (.own 62 (.pair (.int .i64) (.slice .byte))) .nil)
def slices_Concat_net_one_net_one.run (N : Nat) (slices : (List (List (Int × (List UInt8))))) : Option ((List (Int × (List UInt8))) × Unit) :=
  obind (slices_Concat_net_one_net_one_0.go N N (0 : Int) slices (slices.length : Int) (0 : Int)) fun (size, _) =>
    obind (slices_Grow_net_one_net_one.run N size) fun (l, _) =>
      obind (slices_Concat_net_one_net_one_1.go N N l slices (slices.length : Int) (0 : Int)) fun (newslice, _) =>
        some (newslice, ())
def slices_Concat_net_one_net_one.fn (N : Nat) (x : Sh.den slices_Concat_net_one_net_one.ins) : Option (Sh.den slices_Concat_net_one_net_one.outs) := slices_Concat_net_one_net_one.run N x.1
def slices_Concat_net_one_net_one.S (N : Nat) : Fs := ⟨slices_Concat_net_one_net_one.ins, slices_Concat_net_one_net_one.outs, slices_Concat_net_one_net_one.fn N⟩
def slices_Concat_net_one_net_one.lam (N : Nat) : Pcs := pcs [([true, true, false, true, false], (slices_Concat_net_one_net_one_0.P N).pc (slices_Concat_net_one_net_one.C N)), ([true, true, true, true, false, true, false], (slices_Concat_net_one_net_one_1.P N).pc (slices_Concat_net_one_net_one.C N))]
theorem slices_Concat_net_one_net_one.pok (N : Nat) : (slices_Concat_net_one_net_one.lam N).Ok Try.prog (slices_Concat_net_one_net_one.C N) slices_Concat_net_one_net_one.code := pcsOk_cons (c1 := .loop slices_Concat_net_one_net_one_0.code) (by kernel_rfl) (slices_Concat_net_one_net_one_0.ok N) (pcsOk_cons (c1 := .loop slices_Concat_net_one_net_one_1.code) (by kernel_rfl) (slices_Concat_net_one_net_one_1.ok N) (pcsOk_nil))
theorem slices_Concat_net_one_net_one.ev (N : Nat) (x : Sh.den slices_Concat_net_one_net_one.ins) : evC (slices_Concat_net_one_net_one.C N) slices_Concat_net_one_net_one.code (slices_Concat_net_one_net_one.lam N) ⟨envOf 0 (bld (fun k => k) slices_Concat_net_one_net_one.ins x 0).1, (bld (fun k => k) slices_Concat_net_one_net_one.ins x 0).2.1, 1000⟩ (endF U slices_Concat_net_one_net_one.outs Try.f26.results.toList []) = slices_Concat_net_one_net_one.fn N x := by kernel_rfl
theorem slices_Concat_net_one_net_one.ok (N : Nat) : (slices_Concat_net_one_net_one.S N).con.Ok Try.prog 26 := fn_ok (F := slices_Concat_net_one_net_one.S N) (n0 := 1000) Try.func26 (by kernel_rfl) (show Try.f26.body = some slices_Concat_net_one_net_one.code by rfl) mix (slices_Concat_net_one_net_one.cok N) (fun _ => rfl) (fun _ => rfl) (slices_Concat_net_one_net_one.pok N) (fun x y h => (slices_Concat_net_one_net_one.ev N x).trans h)
/-- (*hayloft/net.Net).Drop -/
def net_Net_Drop.ins : Sh := (.cons (.box 65 (.cons (.val (.int .i64)) (.cons (.own 62 (.pair (.int .i64) (.slice .byte))) .nil))) (.cons (.val (.int .i64)) .nil))
def net_Net_Drop.C (N : Nat) : Ctx := ⟨U, 27, fun _ => true, gam [(24, (net_Net_there.S N).con), (26, (slices_Concat_net_one_net_one.S N).con)], gamY []⟩
theorem net_Net_Drop.cok (N : Nat) : (net_Net_Drop.C N).Ok Try.prog := ⟨U_ok, GamOk.cons (net_Net_there.ok N) (GamOk.cons (slices_Concat_net_one_net_one.ok N) (GamOk.nil)), GamYOk.nil⟩
def net_Net_Drop.code : Code := Try.f13.body.getD .skip
def net_Net_Drop.outs : Sh := (.cons (.upd 0 65 (.cons (.val (.int .i64)) (.cons (.own 62 (.pair (.int .i64) (.slice .byte))) .nil))) (.cons (.val .bool) .nil))
def net_Net_Drop.run (N : Nat) (room_ : Int) (l : (List (Int × (List UInt8)))) (i : Int) : Option ((Int × (List (Int × (List UInt8))) × Unit) × Bool × Unit) :=
  obind (net_Net_there.run N room_ l i) fun (b, _) =>
    bif !b then
      some ((room_, l, ()), false, ())
    else
      bif okB (0 : Int) i l.length then
        bif okB (IntKind.i64.wrap (i + (1 : Int))) (l.length : Int) l.length then
          obind (slices_Concat_net_one_net_one.run N ([(l.drop 0).take (i - (0 : Int)).toNat, (l.drop (IntKind.i64.wrap (i + (1 : Int))).toNat).take ((l.length : Int) - (IntKind.i64.wrap (i + (1 : Int)))).toNat] : List (List (Int × (List UInt8))))) fun (l1, _) =>
            some ((room_, l1, ()), true, ())
        else none
      else none
def net_Net_Drop.fn (N : Nat) (x : Sh.den net_Net_Drop.ins) : Option (Sh.den net_Net_Drop.outs) := net_Net_Drop.run N x.1.1 x.1.2.1 x.2.1
def net_Net_Drop.S (N : Nat) : Fs := ⟨net_Net_Drop.ins, net_Net_Drop.outs, net_Net_Drop.fn N⟩
def net_Net_Drop.lam (N : Nat) : Pcs := pcs []
theorem net_Net_Drop.pok (N : Nat) : (net_Net_Drop.lam N).Ok Try.prog (net_Net_Drop.C N) net_Net_Drop.code := pcsOk_nil
theorem net_Net_Drop.ev (N : Nat) (x : Sh.den net_Net_Drop.ins) : evC (net_Net_Drop.C N) net_Net_Drop.code (net_Net_Drop.lam N) ⟨envOf 0 (bld (fun k => k) net_Net_Drop.ins x 0).1, (bld (fun k => k) net_Net_Drop.ins x 0).2.1, 1000⟩ (endF U net_Net_Drop.outs Try.f13.results.toList []) = net_Net_Drop.fn N x := by kernel_rfl
theorem net_Net_Drop.ok (N : Nat) : (net_Net_Drop.S N).con.Ok Try.prog 13 := fn_ok (F := net_Net_Drop.S N) (n0 := 1000) Try.func13 (by kernel_rfl) (show Try.f13.body = some net_Net_Drop.code by rfl) mix (net_Net_Drop.cok N) (fun _ => rfl) (fun _ => rfl) (net_Net_Drop.pok N) (fun x y h => (net_Net_Drop.ev N x).trans h)
/-- (*hayloft/net.Net).Take -/
def net_Net_Take.ins : Sh := (.cons (.box 65 (.cons (.val (.int .i64)) (.cons (.own 62 (.pair (.int .i64) (.slice .byte))) .nil))) (.cons (.val (.int .i64)) .nil))
def net_Net_Take.C (N : Nat) : Ctx := ⟨U, 23, fun _ => true, gam [(10, (net_Net_At.S N).con), (13, (net_Net_Drop.S N).con)], gamY []⟩
theorem net_Net_Take.cok (N : Nat) : (net_Net_Take.C N).Ok Try.prog := ⟨U_ok, GamOk.cons (net_Net_At.ok N) (GamOk.cons (net_Net_Drop.ok N) (GamOk.nil)), GamYOk.nil⟩
def net_Net_Take.code : Code := Try.f12.body.getD .skip
def net_Net_Take.outs : Sh := (.cons (.upd 0 65 (.cons (.val (.int .i64)) (.cons (.own 62 (.pair (.int .i64) (.slice .byte))) .nil))) (.cons (.val (.int .i64)) (.cons (.own 5 .byte) (.cons (.val .bool) .nil))))
def net_Net_Take.run (N : Nat) (room_ : Int) (l : (List (Int × (List UInt8)))) (i : Int) : Option ((Int × (List (Int × (List UInt8))) × Unit) × Int × (List UInt8) × Bool × Unit) :=
  obind (net_Net_At.run N room_ l i) fun (n_, l1, b, _) =>
    obind (net_Net_Drop.run N room_ l i) fun ((room1, l2, _), b1, _) =>
      some ((room1, l2, ()), n_, l1, b, ())
def net_Net_Take.fn (N : Nat) (x : Sh.den net_Net_Take.ins) : Option (Sh.den net_Net_Take.outs) := net_Net_Take.run N x.1.1 x.1.2.1 x.2.1
def net_Net_Take.S (N : Nat) : Fs := ⟨net_Net_Take.ins, net_Net_Take.outs, net_Net_Take.fn N⟩
def net_Net_Take.lam (N : Nat) : Pcs := pcs []
theorem net_Net_Take.pok (N : Nat) : (net_Net_Take.lam N).Ok Try.prog (net_Net_Take.C N) net_Net_Take.code := pcsOk_nil
theorem net_Net_Take.ev (N : Nat) (x : Sh.den net_Net_Take.ins) : evC (net_Net_Take.C N) net_Net_Take.code (net_Net_Take.lam N) ⟨envOf 0 (bld (fun k => k) net_Net_Take.ins x 0).1, (bld (fun k => k) net_Net_Take.ins x 0).2.1, 1000⟩ (endF U net_Net_Take.outs Try.f12.results.toList []) = net_Net_Take.fn N x := by kernel_rfl
theorem net_Net_Take.ok (N : Nat) : (net_Net_Take.S N).con.Ok Try.prog 12 := fn_ok (F := net_Net_Take.S N) (n0 := 1000) Try.func12 (by kernel_rfl) (show Try.f12.body = some net_Net_Take.code by rfl) mix (net_Net_Take.cok N) (fun _ => rfl) (fun _ => rfl) (net_Net_Take.pok N) (fun x y h => (net_Net_Take.ev N x).trans h)
/-- (*hayloft/net.Net).Len -/
def net_Net_Len.ins : Sh := (.cons (.rbox 65 (.cons (.val (.int .i64)) (.cons (.rown 62 (.pair (.int .i64) (.slice .byte))) .nil))) .nil)
def net_Net_Len.C (N : Nat) : Ctx := ⟨U, 8, fun _ => true, gam [], gamY []⟩
theorem net_Net_Len.cok (N : Nat) : (net_Net_Len.C N).Ok Try.prog := ⟨U_ok, GamOk.nil, GamYOk.nil⟩
def net_Net_Len.code : Code := Try.f15.body.getD .skip
def net_Net_Len.outs : Sh := (.cons (.val (.int .i64)) .nil)
def net_Net_Len.run (N : Nat) (room_ : Int) (l : (List (Int × (List UInt8)))) : Option (Int × Unit) :=
  some ((l.length : Int), ())
def net_Net_Len.fn (N : Nat) (x : Sh.den net_Net_Len.ins) : Option (Sh.den net_Net_Len.outs) := net_Net_Len.run N x.1.1 x.1.2.1
def net_Net_Len.S (N : Nat) : Fs := ⟨net_Net_Len.ins, net_Net_Len.outs, net_Net_Len.fn N⟩
def net_Net_Len.lam (N : Nat) : Pcs := pcs []
theorem net_Net_Len.pok (N : Nat) : (net_Net_Len.lam N).Ok Try.prog (net_Net_Len.C N) net_Net_Len.code := pcsOk_nil
theorem net_Net_Len.ev (N : Nat) (x : Sh.den net_Net_Len.ins) : evC (net_Net_Len.C N) net_Net_Len.code (net_Net_Len.lam N) ⟨envOf 0 (bld (fun k => k) net_Net_Len.ins x 0).1, (bld (fun k => k) net_Net_Len.ins x 0).2.1, 1000⟩ (endF U net_Net_Len.outs Try.f15.results.toList []) = net_Net_Len.fn N x := by kernel_rfl
theorem net_Net_Len.ok (N : Nat) : (net_Net_Len.S N).con.Ok Try.prog 15 := fn_ok (F := net_Net_Len.S N) (n0 := 1000) Try.func15 (by kernel_rfl) (show Try.f15.body = some net_Net_Len.code by rfl) mix (net_Net_Len.cok N) (fun _ => rfl) (fun _ => rfl) (net_Net_Len.pok N) (fun x y h => (net_Net_Len.ev N x).trans h)
/-- hayloft/hayloftlaw05.begun -/
def law_begun.ins : Sh := (.cons (.val (.int .i64)) .nil)
def law_begun.C (N : Nat) : Ctx := ⟨U, 62, fun _ => true, gam [(23, (net_New.S N).con), (11, (net_Net_Send.S N).con), (14, (net_Net_Double.S N).con), (12, (net_Net_Take.S N).con), (15, (net_Net_Len.S N).con)], gamY []⟩
theorem law_begun.cok (N : Nat) : (law_begun.C N).Ok Try.prog := ⟨U_ok, GamOk.cons (net_New.ok N) (GamOk.cons (net_Net_Send.ok N) (GamOk.cons (net_Net_Double.ok N) (GamOk.cons (net_Net_Take.ok N) (GamOk.cons (net_Net_Len.ok N) (GamOk.nil))))), GamYOk.nil⟩
def law_begun.code : Code := Try.f9.body.getD .skip
def law_begun.outs : Sh := (.cons (.box 65 (.cons (.val (.int .i64)) (.cons (.own 62 (.pair (.int .i64) (.slice .byte))) .nil))) (.cons (.val .bool) .nil))
def law_begun.run (N : Nat) (room_ : Int) : Option ((Int × (List (Int × (List UInt8))) × Unit) × Bool × Unit) :=
  obind (net_New.run N (2 : Int)) fun ((room1, l, _), _) =>
    obind (net_Net_Send.run N room1 l (3 : Int) ([(7 : UInt8)] : List UInt8)) fun ((room2, l1, _), n_, _) =>
      bif !(decide (n_ = (0 : Int))) then
        none
      else
        obind (net_Net_Double.run N room2 l1 (0 : Int)) fun ((room3, l2, _), n1, _) =>
          bif !(decide (n1 = (0 : Int))) then
            none
          else
            obind (net_Net_Send.run N room3 l2 (3 : Int) ([] : List UInt8)) fun ((room4, l3, _), n2, _) =>
              bif !(decide (n2 = (50 : Int))) then
                none
              else
                obind (net_Net_Take.run N room4 l3 (1 : Int)) fun ((room5, l4, _), n3, l5, b, _) =>
                  obind (net_New.run N room_) fun ((room6, l6, _), _) =>
                    bif b then
                      bif decide (n3 = (3 : Int)) then
                        bif decide ((l5.length : Int) = (1 : Int)) then
                          bif inB (0 : Int) l5.length then
                            bif decide (0 < l5.length) then
                              bif decide (((l5.getD 0 (0 : UInt8)).toNat : Int) = (7 : Int)) then
                                obind (net_Net_Len.run N room5 l4) fun (n4, _) =>
                                  some ((room6, l6, ()), decide (n4 = (1 : Int)), ())
                              else some ((room6, l6, ()), false, ())
                            else none
                          else none
                        else some ((room6, l6, ()), false, ())
                      else some ((room6, l6, ()), false, ())
                    else some ((room6, l6, ()), false, ())
def law_begun.fn (N : Nat) (x : Sh.den law_begun.ins) : Option (Sh.den law_begun.outs) := law_begun.run N x.1
def law_begun.S (N : Nat) : Fs := ⟨law_begun.ins, law_begun.outs, law_begun.fn N⟩
def law_begun.lam (N : Nat) : Pcs := pcs []
theorem law_begun.pok (N : Nat) : (law_begun.lam N).Ok Try.prog (law_begun.C N) law_begun.code := pcsOk_nil
theorem law_begun.ev (N : Nat) (x : Sh.den law_begun.ins) : evC (law_begun.C N) law_begun.code (law_begun.lam N) ⟨envOf 0 (bld (fun k => k) law_begun.ins x 0).1, (bld (fun k => k) law_begun.ins x 0).2.1, 1000⟩ (endF U law_begun.outs Try.f9.results.toList []) = law_begun.fn N x := by kernel_rfl
theorem law_begun.ok (N : Nat) : (law_begun.S N).con.Ok Try.prog 9 := fn_ok (F := law_begun.S N) (n0 := 1000) Try.func9 (by kernel_rfl) (show Try.f9.body = some law_begun.code by rfl) mix (law_begun.cok N) (fun _ => rfl) (fun _ => rfl) (law_begun.pok N) (fun x y h => (law_begun.ev N x).trans h)
/-- hayloft/hayloftlaw05.count -/
def law_count.ins : Sh := (.cons (.rown 27 (.slice .byte)) (.cons (.val (.slice .byte)) .nil))
def law_count.C (N : Nat) : Ctx := ⟨U, 24, fun _ => true, gam [], gamY []⟩
theorem law_count.cok (N : Nat) : (law_count.C N).Ok Try.prog := ⟨U_ok, GamOk.nil, GamYOk.nil⟩
def law_count.code : Code := Try.f16.body.getD .skip
def law_count_0.ins : Sh := (.cons (.rown 27 (.slice .byte)) (.cons (.val (.slice .byte)) (.cons (.val (.int .i64)) (.cons (.val (.int .i64)) (.cons (.val (.int .i64)) .nil)))))
def law_count_0.ts : List Tmp := [0, 1, 5, 8, 9]
def law_count_0.asg : List Tmp := [5, 6, 9, 10, 11, 12, 13, 14, 15, 16, 17, 18, 19, 20, 21, 22]
def law_count_0.C (N : Nat) : Ctx := { law_count.C N with may := fun t => law_count_0.asg.any (Nat.beq t) }
def law_count_0.code : Code := loopBody (sub law_count.code [true, true, false, true, false])
theorem law_count_0.cok (N : Nat) : (law_count_0.C N).Ok Try.prog := ⟨(law_count.cok N).U, (law_count.cok N).Γ, (law_count.cok N).Y⟩
def law_count_0.alts : List Alt := [⟨(.exit 0), [5], (.cons (.val (.int .i64)) .nil)⟩]
def law_count_0.go (N : Nat) : Nat → (List (List UInt8)) → (List UInt8) → Int → Int → Int → Option ((Int × Unit))
  | 0, _, _, _, _, _ => none
  | fuel + 1, l, b, n_, t8, t9 =>
    bif decide (t9 < t8) then
      bif inB t9 l.length then
        bif decide (t9.toNat < l.length) then
          bif decide ((l.getD t9.toNat ([] : List UInt8)) = b) then
            law_count_0.go N fuel l b (IntKind.i64.wrap (n_ + (1 : Int))) t8 (IntKind.i64.wrap (t9 + (1 : Int)))
          else law_count_0.go N fuel l b n_ t8 (IntKind.i64.wrap (t9 + (1 : Int)))
        else none
      else none
    else some (n_, ())
def law_count_0.g (N n : Nat) (x : Sh.den law_count_0.ins) : Option (altsDen law_count_0.alts) := law_count_0.go N n x.1 x.2.1 x.2.2.1 x.2.2.2.1 x.2.2.2.2.1
def law_count_0.P (N : Nat) : Ps := ⟨law_count_0.ts, law_count_0.ins, law_count_0.asg, law_count_0.alts, law_count_0.g N N⟩
def law_count_0.lam (N : Nat) : Pcs := pcs []
theorem law_count_0.pok (N : Nat) : (law_count_0.lam N).Ok Try.prog (law_count_0.C N) law_count_0.code := pcsOk_nil
theorem law_count_0.ev (N n : Nat) (x : Sh.den law_count_0.ins) : evC (law_count_0.C N) law_count_0.code (law_count_0.lam N) ((law_count_0.P N).canon 1000 x) (loopK (law_count_0.P N) (law_count_0.g N n)) = law_count_0.g N (n + 1) x := by kernel_rfl
theorem law_count_0.ok (N : Nat) : ((law_count_0.P N).pc (law_count.C N)).Ok Try.prog (law_count.C N) (.loop law_count_0.code) := loop_ok (F := law_count_0.P N) (n0 := 1000) (N := N) (law_count.cok N) mix (law_count_0.pok N) (law_count_0.g N) (fun x => by rfl) rfl (fun n x y h => (law_count_0.ev N n x).trans h)
def law_count.outs : Sh := (.cons (.val (.int .i64)) .nil)
def law_count.run (N : Nat) (l : (List (List UInt8))) (b : (List UInt8)) : Option (Int × Unit) :=
  obind (law_count_0.go N N l b (0 : Int) (l.length : Int) (0 : Int)) fun (n_, _) =>
    some (n_, ())
def law_count.fn (N : Nat) (x : Sh.den law_count.ins) : Option (Sh.den law_count.outs) := law_count.run N x.1 x.2.1
def law_count.S (N : Nat) : Fs := ⟨law_count.ins, law_count.outs, law_count.fn N⟩
def law_count.lam (N : Nat) : Pcs := pcs [([true, true, false, true, false], (law_count_0.P N).pc (law_count.C N))]
theorem law_count.pok (N : Nat) : (law_count.lam N).Ok Try.prog (law_count.C N) law_count.code := pcsOk_cons (c1 := .loop law_count_0.code) (by kernel_rfl) (law_count_0.ok N) (pcsOk_nil)
theorem law_count.ev (N : Nat) (x : Sh.den law_count.ins) : evC (law_count.C N) law_count.code (law_count.lam N) ⟨envOf 0 (bld (fun k => k) law_count.ins x 0).1, (bld (fun k => k) law_count.ins x 0).2.1, 1000⟩ (endF U law_count.outs Try.f16.results.toList []) = law_count.fn N x := by kernel_rfl
theorem law_count.ok (N : Nat) : (law_count.S N).con.Ok Try.prog 16 := fn_ok (F := law_count.S N) (n0 := 1000) Try.func16 (by kernel_rfl) (show Try.f16.body = some law_count.code by rfl) mix (law_count.cok N) (fun _ => rfl) (fun _ => rfl) (law_count.pok N) (fun x y h => (law_count.ev N x).trans h)
/-- hayloft/hayloftlaw05.NetCounts -/
def law_NetCounts.ins : Sh := (.cons (.val (.int .i64)) (.cons (.val (.slice (.pair (.int .i64) (.pair (.int .i64) (.pair (.int .i64) (.slice .byte)))))) .nil))
def law_NetCounts.C (N : Nat) : Ctx := ⟨U, 144, fun _ => true, gam [(9, (law_begun.S N).con), (10, (net_Net_At.S N).con), (11, (net_Net_Send_b.S N).con), (12, (net_Net_Take.S N).con), (13, (net_Net_Drop.S N).con), (14, (net_Net_Double.S N).con), (15, (net_Net_Len.S N).con), (16, (law_count.S N).con)], gamY []⟩
theorem law_NetCounts.cok (N : Nat) : (law_NetCounts.C N).Ok Try.prog := ⟨U_ok, GamOk.cons (law_begun.ok N) (GamOk.cons (net_Net_At.ok N) (GamOk.cons (net_Net_Send_b.ok N) (GamOk.cons (net_Net_Take.ok N) (GamOk.cons (net_Net_Drop.ok N) (GamOk.cons (net_Net_Double.ok N) (GamOk.cons (net_Net_Len.ok N) (GamOk.cons (law_count.ok N) (GamOk.nil)))))))), GamYOk.nil⟩
def law_NetCounts.code : Code := Try.f3.body.getD .skip
def law_NetCounts_0.ins : Sh := (.cons (.box 65 (.cons (.val (.int .i64)) (.cons (.own 62 (.pair (.int .i64) (.slice .byte))) .nil))) (.cons (.own 27 (.slice .byte)) (.cons (.own 27 (.slice .byte)) (.cons (.val (.slice (.pair (.int .i64) (.pair (.int .i64) (.pair (.int .i64) (.slice .byte)))))) (.cons (.val (.int .i64)) (.cons (.val (.int .i64)) .nil))))))
def law_NetCounts_0.ts : List Tmp := [5, 7, 8, 31, 32, 33]
def law_NetCounts_0.asg : List Tmp := [4, 7, 8, 10, 11, 12, 13, 14, 15, 16, 33, 34, 35, 36, 37, 38, 39, 40, 41, 42, 43, 44, 45, 46, 47, 48, 49, 50, 51, 52, 53, 54, 55, 56, 57, 58, 59, 60, 61, 62, 63, 64, 65, 66, 67, 68, 69, 70, 71, 72, 73, 74, 75, 76, 77, 78, 79, 80, 81, 82, 83, 84, 85, 86, 87, 88, 89, 90, 91, 92, 93, 94, 95, 96, 97, 98, 99, 100]
def law_NetCounts_0.C (N : Nat) : Ctx := { law_NetCounts.C N with may := fun t => law_NetCounts_0.asg.any (Nat.beq t) }
def law_NetCounts_0.code : Code := loopBody (sub law_NetCounts.code [true, true, true, true, false, true, false])
theorem law_NetCounts_0.cok (N : Nat) : (law_NetCounts_0.C N).Ok Try.prog := ⟨(law_NetCounts.cok N).U, (law_NetCounts.cok N).Γ, (law_NetCounts.cok N).Y⟩
def law_NetCounts_0_0.ins : Sh := (.cons (.box 65 (.cons (.val (.int .i64)) (.cons (.own 62 (.pair (.int .i64) (.slice .byte))) .nil))) (.cons (.own 27 (.slice .byte)) (.cons (.own 27 (.slice .byte)) (.cons (.val (.slice (.pair (.int .i64) (.pair (.int .i64) (.pair (.int .i64) (.slice .byte)))))) (.cons (.val (.int .i64)) .nil)))))
def law_NetCounts_0_0.ts : List Tmp := [5, 7, 8, 31, 33]
def law_NetCounts_0_0.asg : List Tmp := [4, 7, 8, 10, 11, 12, 13, 14, 15, 16, 35, 36, 37, 38, 39, 40, 41, 42, 43, 44, 45, 46, 47, 48, 49, 50, 51, 52, 53, 54, 55, 56, 57, 58, 59, 60, 61, 62, 63, 64, 65, 66, 67, 68, 69, 70, 71, 72, 73, 74, 75, 76, 77, 78, 79, 80, 81, 82, 83, 84, 85, 86, 87, 88, 89, 90, 91, 92, 93, 94, 95, 96, 97, 98, 99]
def law_NetCounts_0_0.C (N : Nat) : Ctx := { law_NetCounts_0.C N with may := fun t => law_NetCounts_0_0.asg.any (Nat.beq t) }
def law_NetCounts_0_0.code : Code := (sub law_NetCounts_0.code [true, true, false]).getD .skip
theorem law_NetCounts_0_0.cok (N : Nat) : (law_NetCounts_0_0.C N).Ok Try.prog := ⟨(law_NetCounts_0.cok N).U, (law_NetCounts_0.cok N).Γ, (law_NetCounts_0.cok N).Y⟩
def law_NetCounts_0_0.alts : List Alt := [⟨.normal, [7, 8], (.cons (.upd 0 65 (.cons (.val (.int .i64)) (.cons (.own 62 (.pair (.int .i64) (.slice .byte))) .nil))) (.cons (.own 27 (.slice .byte)) (.cons (.own 27 (.slice .byte)) .nil)))⟩, ⟨.ret, [4], (.cons (.upd 0 65 (.cons (.val (.int .i64)) (.cons (.own 62 (.pair (.int .i64) (.slice .byte))) .nil))) (.cons (.val .bool) .nil))⟩]
def law_NetCounts_0_0.run (N : Nat) (room_ : Int) (l : (List (Int × (List UInt8)))) (in_ : (List (List UInt8))) (out : (List (List UInt8))) (t31 : (List (Int × (Int × (Int × (List UInt8)))))) (t33 : Int) : Option (((Int × (List (Int × (List UInt8))) × Unit) × (List (List UInt8)) × (List (List UInt8)) × Unit) ⊕ ((Int × (List (Int × (List UInt8))) × Unit) × Bool × Unit)) :=
  bif inB t33 t31.length then
    obind (net_Net_At.run N room_ l (t31.getD t33.toNat ((0 : Int), (0 : Int), (0 : Int), ([] : List UInt8))).2.2.1) fun (n_, l1, b, _) =>
      bif decide ((t31.getD t33.toNat ((0 : Int), (0 : Int), (0 : Int), ([] : List UInt8))).1 = (0 : Int)) then
        obind (net_Net_Send_b.run N room_ l (t31.getD t33.toNat ((0 : Int), (0 : Int), (0 : Int), ([] : List UInt8))).2.1 (t31.getD t33.toNat ((0 : Int), (0 : Int), (0 : Int), ([] : List UInt8))).2.2.2) fun ((room1, l2, _), n1, _) =>
          bif decide (n1 = (0 : Int)) then
            bif room (in_.length + 1) 24 then
              some (.inl ((room1, l2, ()), in_ ++ ([(t31.getD t33.toNat ((0 : Int), (0 : Int), (0 : Int), ([] : List UInt8))).2.2.2] : List (List UInt8)), out, ()))
            else none
          else some (.inl ((room1, l2, ()), in_, out, ()))
      else
        bif decide ((t31.getD t33.toNat ((0 : Int), (0 : Int), (0 : Int), ([] : List UInt8))).1 = (2 : Int)) then
          obind (net_Net_Take.run N room_ l (t31.getD t33.toNat ((0 : Int), (0 : Int), (0 : Int), ([] : List UInt8))).2.2.1) fun ((room2, l3, _), n2, l4, b1, _) =>
            bif b1 then
              bif room (out.length + 1) 24 then
                some (.inl ((room2, l3, ()), in_, out ++ ([l4] : List (List UInt8)), ()))
              else none
            else some (.inl ((room2, l3, ()), in_, out, ()))
        else
          bif decide ((t31.getD t33.toNat ((0 : Int), (0 : Int), (0 : Int), ([] : List UInt8))).1 = (3 : Int)) then
            obind (net_Net_Drop.run N room_ l (t31.getD t33.toNat ((0 : Int), (0 : Int), (0 : Int), ([] : List UInt8))).2.2.1) fun ((room3, l5, _), b2, _) =>
              bif !(b2 == b) then
                some (.inr ((room3, l5, ()), false, ()))
              else
                bif b then
                  bif room (out.length + 1) 24 then
                    some (.inl ((room3, l5, ()), in_, out ++ ([l1] : List (List UInt8)), ()))
                  else none
                else some (.inl ((room3, l5, ()), in_, out, ()))
          else
            bif decide ((t31.getD t33.toNat ((0 : Int), (0 : Int), (0 : Int), ([] : List UInt8))).1 = (4 : Int)) then
              obind (net_Net_Double.run N room_ l (t31.getD t33.toNat ((0 : Int), (0 : Int), (0 : Int), ([] : List UInt8))).2.2.1) fun ((room4, l6, _), n3, _) =>
                bif decide (n3 = (0 : Int)) then
                  bif room (in_.length + 1) 24 then
                    some (.inl ((room4, l6, ()), in_ ++ ([l1] : List (List UInt8)), out, ()))
                  else none
                else some (.inl ((room4, l6, ()), in_, out, ()))
            else some (.inl ((room_, l, ()), in_, out, ()))
  else none
def law_NetCounts_0_0.fn (N : Nat) (x : Sh.den law_NetCounts_0_0.ins) : Option (altsDen law_NetCounts_0_0.alts) := law_NetCounts_0_0.run N x.1.1 x.1.2.1 x.2.1 x.2.2.1 x.2.2.2.1 x.2.2.2.2.1
def law_NetCounts_0_0.P (N : Nat) : Ps := ⟨law_NetCounts_0_0.ts, law_NetCounts_0_0.ins, law_NetCounts_0_0.asg, law_NetCounts_0_0.alts, law_NetCounts_0_0.fn N⟩
def law_NetCounts_0_0.lam (N : Nat) : Pcs := pcs []
theorem law_NetCounts_0_0.pok (N : Nat) : (law_NetCounts_0_0.lam N).Ok Try.prog (law_NetCounts_0_0.C N) law_NetCounts_0_0.code := pcsOk_nil
theorem law_NetCounts_0_0.ev (N : Nat) (x : Sh.den law_NetCounts_0_0.ins) : evC (law_NetCounts_0_0.C N) law_NetCounts_0_0.code (law_NetCounts_0_0.lam N) ((law_NetCounts_0_0.P N).canon 1000 x) (altK (law_NetCounts_0_0.P N).alts) = law_NetCounts_0_0.fn N x := by kernel_rfl
theorem law_NetCounts_0_0.ok (N : Nat) : ((law_NetCounts_0_0.P N).pc (law_NetCounts_0.C N)).Ok Try.prog (law_NetCounts_0.C N) law_NetCounts_0_0.code := ps_ok (F := law_NetCounts_0_0.P N) (n0 := 1000) (law_NetCounts_0.cok N) mix (law_NetCounts_0_0.pok N) (fun x y h => (law_NetCounts_0_0.ev N x).trans h)
def law_NetCounts_0.alts : List Alt := [⟨.ret, [4], (.cons (.upd 0 65 (.cons (.val (.int .i64)) (.cons (.own 62 (.pair (.int .i64) (.slice .byte))) .nil))) (.cons (.val .bool) .nil))⟩, ⟨(.exit 0), [7, 8], (.cons (.upd 0 65 (.cons (.val (.int .i64)) (.cons (.own 62 (.pair (.int .i64) (.slice .byte))) .nil))) (.cons (.own 27 (.slice .byte)) (.cons (.own 27 (.slice .byte)) .nil)))⟩]
def law_NetCounts_0.go (N : Nat) : Nat → Int → (List (Int × (List UInt8))) → (List (List UInt8)) → (List (List UInt8)) → (List (Int × (Int × (Int × (List UInt8))))) → Int → Int → Option (((Int × (List (Int × (List UInt8))) × Unit) × Bool × Unit) ⊕ ((Int × (List (Int × (List UInt8))) × Unit) × (List (List UInt8)) × (List (List UInt8)) × Unit))
  | 0, _, _, _, _, _, _, _ => none
  | fuel + 1, room_, l, in_, out, t31, t32, t33 =>
    bif decide (t33 < t32) then
      obind (law_NetCounts_0_0.run N room_ l in_ out t31 t33) fun y => match y with
      | .inl ((room5, l7, _), in1, out1, _) =>
          law_NetCounts_0.go N fuel room5 l7 in1 out1 t31 t32 (IntKind.i64.wrap (t33 + (1 : Int)))
      | .inr ((room6, l8, _), t4, _) =>
          some (.inl ((room6, l8, ()), t4, ()))
    else some (.inr ((room_, l, ()), in_, out, ()))
def law_NetCounts_0.g (N n : Nat) (x : Sh.den law_NetCounts_0.ins) : Option (altsDen law_NetCounts_0.alts) := law_NetCounts_0.go N n x.1.1 x.1.2.1 x.2.1 x.2.2.1 x.2.2.2.1 x.2.2.2.2.1 x.2.2.2.2.2.1
def law_NetCounts_0.P (N : Nat) : Ps := ⟨law_NetCounts_0.ts, law_NetCounts_0.ins, law_NetCounts_0.asg, law_NetCounts_0.alts, law_NetCounts_0.g N N⟩
def law_NetCounts_0.lam (N : Nat) : Pcs := pcs [([true, true, false], (law_NetCounts_0_0.P N).pc (law_NetCounts_0.C N))]
theorem law_NetCounts_0.pok (N : Nat) : (law_NetCounts_0.lam N).Ok Try.prog (law_NetCounts_0.C N) law_NetCounts_0.code := pcsOk_cons (c1 := law_NetCounts_0_0.code) (by kernel_rfl) (law_NetCounts_0_0.ok N) (pcsOk_nil)
theorem law_NetCounts_0.ev (N n : Nat) (x : Sh.den law_NetCounts_0.ins) : evC (law_NetCounts_0.C N) law_NetCounts_0.code (law_NetCounts_0.lam N) ((law_NetCounts_0.P N).canon 1000 x) (loopK (law_NetCounts_0.P N) (law_NetCounts_0.g N n)) = law_NetCounts_0.g N (n + 1) x := by kernel_rfl
theorem law_NetCounts_0.ok (N : Nat) : ((law_NetCounts_0.P N).pc (law_NetCounts.C N)).Ok Try.prog (law_NetCounts.C N) (.loop law_NetCounts_0.code) := loop_ok (F := law_NetCounts_0.P N) (n0 := 1000) (N := N) (law_NetCounts.cok N) mix (law_NetCounts_0.pok N) (law_NetCounts_0.g N) (fun x => by rfl) rfl (fun n x y h => (law_NetCounts_0.ev N n x).trans h)
def law_NetCounts_1.ins : Sh := (.cons (.rbox 65 (.cons (.val (.int .i64)) (.cons (.rown 62 (.pair (.int .i64) (.slice .byte))) .nil))) (.cons (.own 27 (.slice .byte)) (.cons (.val (.int .i64)) (.cons (.val (.int .i64)) .nil))))
def law_NetCounts_1.ts : List Tmp := [5, 17, 102, 103]
def law_NetCounts_1.asg : List Tmp := [17, 18, 19, 20, 21, 103, 104, 105, 106, 107, 108, 109, 110, 111, 112, 113, 114, 115, 116, 117]
def law_NetCounts_1.C (N : Nat) : Ctx := { law_NetCounts.C N with may := fun t => law_NetCounts_1.asg.any (Nat.beq t) }
def law_NetCounts_1.code : Code := loopBody (sub law_NetCounts.code [true, true, true, true, true, true, false, true, false])
theorem law_NetCounts_1.cok (N : Nat) : (law_NetCounts_1.C N).Ok Try.prog := ⟨(law_NetCounts.cok N).U, (law_NetCounts.cok N).Γ, (law_NetCounts.cok N).Y⟩
def law_NetCounts_1.alts : List Alt := [⟨(.exit 3), [17], (.cons (.own 27 (.slice .byte)) .nil)⟩]
def law_NetCounts_1.go (N : Nat) : Nat → Int → (List (Int × (List UInt8))) → (List (List UInt8)) → Int → Int → Option (((List (List UInt8)) × Unit))
  | 0, _, _, _, _, _ => none
  | fuel + 1, room_, l, rest, t102, t103 =>
    bif decide (t103 < t102) then
      obind (net_Net_At.run N room_ l t103) fun (n_, l1, b, _) =>
        bif room (rest.length + 1) 24 then
          law_NetCounts_1.go N fuel room_ l (rest ++ ([l1] : List (List UInt8))) t102 (IntKind.i64.wrap (t103 + (1 : Int)))
        else none
    else some (rest, ())
def law_NetCounts_1.g (N n : Nat) (x : Sh.den law_NetCounts_1.ins) : Option (altsDen law_NetCounts_1.alts) := law_NetCounts_1.go N n x.1.1 x.1.2.1 x.2.1 x.2.2.1 x.2.2.2.1
def law_NetCounts_1.P (N : Nat) : Ps := ⟨law_NetCounts_1.ts, law_NetCounts_1.ins, law_NetCounts_1.asg, law_NetCounts_1.alts, law_NetCounts_1.g N N⟩
def law_NetCounts_1.lam (N : Nat) : Pcs := pcs []
theorem law_NetCounts_1.pok (N : Nat) : (law_NetCounts_1.lam N).Ok Try.prog (law_NetCounts_1.C N) law_NetCounts_1.code := pcsOk_nil
theorem law_NetCounts_1.ev (N n : Nat) (x : Sh.den law_NetCounts_1.ins) : evC (law_NetCounts_1.C N) law_NetCounts_1.code (law_NetCounts_1.lam N) ((law_NetCounts_1.P N).canon 1000 x) (loopK (law_NetCounts_1.P N) (law_NetCounts_1.g N n)) = law_NetCounts_1.g N (n + 1) x := by kernel_rfl
theorem law_NetCounts_1.ok (N : Nat) : ((law_NetCounts_1.P N).pc (law_NetCounts.C N)).Ok Try.prog (law_NetCounts.C N) (.loop law_NetCounts_1.code) := loop_ok (F := law_NetCounts_1.P N) (n0 := 1000) (N := N) (law_NetCounts.cok N) mix (law_NetCounts_1.pok N) (law_NetCounts_1.g N) (fun x => by rfl) rfl (fun n x y h => (law_NetCounts_1.ev N n x).trans h)
def law_NetCounts_2.ins : Sh := (.cons (.rown 27 (.slice .byte)) (.cons (.rown 27 (.slice .byte)) (.cons (.rown 27 (.slice .byte)) (.cons (.refr 0) (.cons (.val (.int .i64)) (.cons (.val (.int .i64)) .nil))))))
def law_NetCounts_2.ts : List Tmp := [7, 8, 17, 118, 119, 120]
def law_NetCounts_2.asg : List Tmp := [4, 23, 120, 121, 122, 123, 124, 125, 126, 127, 128, 129, 130, 131, 132, 133, 134, 135]
def law_NetCounts_2.C (N : Nat) : Ctx := { law_NetCounts.C N with may := fun t => law_NetCounts_2.asg.any (Nat.beq t) }
def law_NetCounts_2.code : Code := loopBody (sub law_NetCounts.code [true, true, true, true, true, true, true, false, true, false])
theorem law_NetCounts_2.cok (N : Nat) : (law_NetCounts_2.C N).Ok Try.prog := ⟨(law_NetCounts.cok N).U, (law_NetCounts.cok N).Γ, (law_NetCounts.cok N).Y⟩
def law_NetCounts_2.alts : List Alt := [⟨.ret, [4], (.cons (.val .bool) .nil)⟩, ⟨(.exit 5), [], .nil⟩]
def law_NetCounts_2.go (N : Nat) : Nat → (List (List UInt8)) → (List (List UInt8)) → (List (List UInt8)) → Int → Int → Option ((Bool × Unit) ⊕ Unit)
  | 0, _, _, _, _, _ => none
  | fuel + 1, in_, out, rest, t119, t120 =>
    bif decide (t120 < t119) then
      bif inB t120 in_.length then
        bif decide (t120.toNat < in_.length) then
          obind (law_count.run N in_ (in_.getD t120.toNat ([] : List UInt8))) fun (n_, _) =>
            obind (law_count.run N out (in_.getD t120.toNat ([] : List UInt8))) fun (n1, _) =>
              obind (law_count.run N rest (in_.getD t120.toNat ([] : List UInt8))) fun (n2, _) =>
                bif !(decide (n_ = (IntKind.i64.wrap (n1 + n2)))) then
                  some (.inl (false, ()))
                else law_NetCounts_2.go N fuel in_ out rest t119 (IntKind.i64.wrap (t120 + (1 : Int)))
        else none
      else none
    else some (.inr ())
def law_NetCounts_2.g (N n : Nat) (x : Sh.den law_NetCounts_2.ins) : Option (altsDen law_NetCounts_2.alts) := law_NetCounts_2.go N n x.1 x.2.1 x.2.2.1 x.2.2.2.2.1 x.2.2.2.2.2.1
def law_NetCounts_2.P (N : Nat) : Ps := ⟨law_NetCounts_2.ts, law_NetCounts_2.ins, law_NetCounts_2.asg, law_NetCounts_2.alts, law_NetCounts_2.g N N⟩
def law_NetCounts_2.lam (N : Nat) : Pcs := pcs []
theorem law_NetCounts_2.pok (N : Nat) : (law_NetCounts_2.lam N).Ok Try.prog (law_NetCounts_2.C N) law_NetCounts_2.code := pcsOk_nil
theorem law_NetCounts_2.ev (N n : Nat) (x : Sh.den law_NetCounts_2.ins) : evC (law_NetCounts_2.C N) law_NetCounts_2.code (law_NetCounts_2.lam N) ((law_NetCounts_2.P N).canon 1000 x) (loopK (law_NetCounts_2.P N) (law_NetCounts_2.g N n)) = law_NetCounts_2.g N (n + 1) x := by kernel_rfl
theorem law_NetCounts_2.ok (N : Nat) : ((law_NetCounts_2.P N).pc (law_NetCounts.C N)).Ok Try.prog (law_NetCounts.C N) (.loop law_NetCounts_2.code) := loop_ok (F := law_NetCounts_2.P N) (n0 := 1000) (N := N) (law_NetCounts.cok N) mix (law_NetCounts_2.pok N) (law_NetCounts_2.g N) (fun x => by rfl) rfl (fun n x y h => (law_NetCounts_2.ev N n x).trans h)
def law_NetCounts.outs : Sh := (.cons (.val .bool) .nil)
def law_NetCounts.run (N : Nat) (room_ : Int) (script : (List (Int × (Int × (Int × (List UInt8)))))) : Option (Bool × Unit) :=
  obind (law_begun.run N room_) fun ((room1, l, _), b, _) =>
    bif !b then
      some (false, ())
    else
      obind (law_NetCounts_0.go N N room1 l ([] : List (List UInt8)) ([] : List (List UInt8)) script (script.length : Int) (0 : Int)) fun y => match y with
      | .inl ((room2, l1, _), t4, _) =>
          some (t4, ())
      | .inr ((room3, l2, _), in_, out, _) =>
          obind (net_Net_Len.run N room3 l2) fun (n_, _) =>
            obind (law_NetCounts_1.go N N room3 l2 ([] : List (List UInt8)) n_ (0 : Int)) fun (rest, _) =>
              obind (law_NetCounts_2.go N N in_ out rest (in_.length : Int) (0 : Int)) fun y => match y with
              | .inl (t41, _) =>
                  some (t41, ())
              | .inr (_) =>
                  some (decide ((in_.length : Int) = (IntKind.i64.wrap ((out.length : Int) + (rest.length : Int)))), ())
def law_NetCounts.fn (N : Nat) (x : Sh.den law_NetCounts.ins) : Option (Sh.den law_NetCounts.outs) := law_NetCounts.run N x.1 x.2.1
def law_NetCounts.S (N : Nat) : Fs := ⟨law_NetCounts.ins, law_NetCounts.outs, law_NetCounts.fn N⟩
def law_NetCounts.lam (N : Nat) : Pcs := pcs [([true, true, true, true, false, true, false], (law_NetCounts_0.P N).pc (law_NetCounts.C N)), ([true, true, true, true, true, true, false, true, false], (law_NetCounts_1.P N).pc (law_NetCounts.C N)), ([true, true, true, true, true, true, true, false, true, false], (law_NetCounts_2.P N).pc (law_NetCounts.C N))]
theorem law_NetCounts.pok (N : Nat) : (law_NetCounts.lam N).Ok Try.prog (law_NetCounts.C N) law_NetCounts.code := pcsOk_cons (c1 := .loop law_NetCounts_0.code) (by kernel_rfl) (law_NetCounts_0.ok N) (pcsOk_cons (c1 := .loop law_NetCounts_1.code) (by kernel_rfl) (law_NetCounts_1.ok N) (pcsOk_cons (c1 := .loop law_NetCounts_2.code) (by kernel_rfl) (law_NetCounts_2.ok N) (pcsOk_nil)))
theorem law_NetCounts.ev (N : Nat) (x : Sh.den law_NetCounts.ins) : evC (law_NetCounts.C N) law_NetCounts.code (law_NetCounts.lam N) ⟨envOf 0 (bld (fun k => k) law_NetCounts.ins x 0).1, (bld (fun k => k) law_NetCounts.ins x 0).2.1, 1000⟩ (endF U law_NetCounts.outs Try.f3.results.toList []) = law_NetCounts.fn N x := by kernel_rfl
theorem law_NetCounts.ok (N : Nat) : (law_NetCounts.S N).con.Ok Try.prog 3 := fn_ok (F := law_NetCounts.S N) (n0 := 1000) Try.func3 (by kernel_rfl) (show Try.f3.body = some law_NetCounts.code by rfl) mix (law_NetCounts.cok N) (fun _ => rfl) (fun _ => rfl) (law_NetCounts.pok N) (fun x y h => (law_NetCounts.ev N x).trans h)
/-- hayloft/hayloftlaw05.NetOrder -/
def law_NetOrder.ins : Sh := (.cons (.val (.slice (.slice .byte))) (.cons (.val (.slice .bool)) .nil))
def law_NetOrder.C (N : Nat) : Ctx := ⟨U, 104, fun _ => true, gam [(9, (law_begun.S N).con), (11, (net_Net_Send_b.S N).con), (12, (net_Net_Take.S N).con), (15, (net_Net_Len.S N).con)], gamY []⟩
theorem law_NetOrder.cok (N : Nat) : (law_NetOrder.C N).Ok Try.prog := ⟨U_ok, GamOk.cons (law_begun.ok N) (GamOk.cons (net_Net_Send_b.ok N) (GamOk.cons (net_Net_Take.ok N) (GamOk.cons (net_Net_Len.ok N) (GamOk.nil)))), GamYOk.nil⟩
def law_NetOrder.code : Code := Try.f4.body.getD .skip
def law_NetOrder_0.ins : Sh := (.cons (.val (.slice (.slice .byte))) (.cons (.val (.slice .bool)) (.cons (.box 65 (.cons (.val (.int .i64)) (.cons (.own 62 (.pair (.int .i64) (.slice .byte))) .nil))) (.cons (.val (.int .i64)) (.cons (.val (.slice (.slice .byte))) (.cons (.val (.int .i64)) (.cons (.val (.int .i64)) .nil)))))))
def law_NetOrder_0.ts : List Tmp := [0, 1, 5, 7, 24, 25, 26]
def law_NetOrder_0.asg : List Tmp := [4, 7, 8, 9, 10, 11, 12, 26, 27, 28, 29, 30, 31, 32, 33, 34, 35, 36, 37, 38, 39, 40, 41, 42, 43, 44, 45, 46, 47, 48, 49, 50, 51, 52, 53, 54, 55, 56, 57, 58, 59, 60, 61, 62, 63, 64, 65, 66, 67, 68, 69, 70, 71]
def law_NetOrder_0.C (N : Nat) : Ctx := { law_NetOrder.C N with may := fun t => law_NetOrder_0.asg.any (Nat.beq t) }
def law_NetOrder_0.code : Code := loopBody (sub law_NetOrder.code [true, true, true, true, false, true, false])
theorem law_NetOrder_0.cok (N : Nat) : (law_NetOrder_0.C N).Ok Try.prog := ⟨(law_NetOrder.cok N).U, (law_NetOrder.cok N).Γ, (law_NetOrder.cok N).Y⟩
def law_NetOrder_0_0.ins : Sh := (.cons (.val (.slice .bool)) (.cons (.val (.int .i64)) .nil))
def law_NetOrder_0_0.ts : List Tmp := [1, 8]
def law_NetOrder_0_0.asg : List Tmp := [36, 37, 38, 39, 40, 41, 42, 43, 44, 45]
def law_NetOrder_0_0.C (N : Nat) : Ctx := { law_NetOrder_0.C N with may := fun t => law_NetOrder_0_0.asg.any (Nat.beq t) }
def law_NetOrder_0_0.code : Code := (sub law_NetOrder_0.code [true, true, false, false, true, true, false]).getD .skip
theorem law_NetOrder_0_0.cok (N : Nat) : (law_NetOrder_0_0.C N).Ok Try.prog := ⟨(law_NetOrder_0.cok N).U, (law_NetOrder_0.cok N).Γ, (law_NetOrder_0.cok N).Y⟩
def law_NetOrder_0_0.alts : List Alt := [⟨.normal, [45], (.cons (.val .bool) .nil)⟩]
def law_NetOrder_0_0.run (N : Nat) (takes : (List Bool)) (i : Int) : Option ((Bool × Unit)) :=
  bif decide (i < (takes.length : Int)) then
    bif inB i takes.length then
      some (takes.getD i.toNat false, ())
    else none
  else some (false, ())
def law_NetOrder_0_0.fn (N : Nat) (x : Sh.den law_NetOrder_0_0.ins) : Option (altsDen law_NetOrder_0_0.alts) := law_NetOrder_0_0.run N x.1 x.2.1
def law_NetOrder_0_0.P (N : Nat) : Ps := ⟨law_NetOrder_0_0.ts, law_NetOrder_0_0.ins, law_NetOrder_0_0.asg, law_NetOrder_0_0.alts, law_NetOrder_0_0.fn N⟩
def law_NetOrder_0_0.lam (N : Nat) : Pcs := pcs []
theorem law_NetOrder_0_0.pok (N : Nat) : (law_NetOrder_0_0.lam N).Ok Try.prog (law_NetOrder_0_0.C N) law_NetOrder_0_0.code := pcsOk_nil
theorem law_NetOrder_0_0.ev (N : Nat) (x : Sh.den law_NetOrder_0_0.ins) : evC (law_NetOrder_0_0.C N) law_NetOrder_0_0.code (law_NetOrder_0_0.lam N) ((law_NetOrder_0_0.P N).canon 1000 x) (altK (law_NetOrder_0_0.P N).alts) = law_NetOrder_0_0.fn N x := by kernel_rfl
theorem law_NetOrder_0_0.ok (N : Nat) : ((law_NetOrder_0_0.P N).pc (law_NetOrder_0.C N)).Ok Try.prog (law_NetOrder_0.C N) law_NetOrder_0_0.code := ps_ok (F := law_NetOrder_0_0.P N) (n0 := 1000) (law_NetOrder_0.cok N) mix (law_NetOrder_0_0.pok N) (fun x y h => (law_NetOrder_0_0.ev N x).trans h)
def law_NetOrder_0.alts : List Alt := [⟨.ret, [4], (.cons (.upd 0 65 (.cons (.val (.int .i64)) (.cons (.own 62 (.pair (.int .i64) (.slice .byte))) .nil))) (.cons (.val .bool) .nil))⟩, ⟨(.exit 0), [7], (.cons (.upd 0 65 (.cons (.val (.int .i64)) (.cons (.own 62 (.pair (.int .i64) (.slice .byte))) .nil))) (.cons (.val (.int .i64)) .nil))⟩]
def law_NetOrder_0.go (N : Nat) : Nat → (List (List UInt8)) → (List Bool) → Int → (List (Int × (List UInt8))) → Int → (List (List UInt8)) → Int → Int → Option (((Int × (List (Int × (List UInt8))) × Unit) × Bool × Unit) ⊕ ((Int × (List (Int × (List UInt8))) × Unit) × Int × Unit))
  | 0, _, _, _, _, _, _, _, _ => none
  | fuel + 1, l, takes, room_, l1, next, t24, t25, t26 =>
    bif decide (t26 < t25) then
      bif inB t26 t24.length then
        obind (net_Net_Send_b.run N room_ l1 t26 (t24.getD t26.toNat ([] : List UInt8))) fun ((room1, l2, _), n_, _) =>
          bif !(decide (n_ = (0 : Int))) then
            some (.inl ((room1, l2, ()), false, ()))
          else
            obind (law_NetOrder_0_0.run N takes t26) fun (t45, _) =>
              bif t45 then
                obind (net_Net_Take.run N room1 l2 (0 : Int)) fun ((room2, l3, _), n1, l4, b, _) =>
                  bif !(decide (n1 = next)) then
                    some (.inl ((room2, l3, ()), false, ()))
                  else
                    bif !b then
                      some (.inl ((room2, l3, ()), false, ()))
                    else
                      bif inB next l.length then
                        bif !(decide (l4 = (l.getD next.toNat ([] : List UInt8)))) then
                          some (.inl ((room2, l3, ()), false, ()))
                        else law_NetOrder_0.go N fuel l takes room2 l3 (IntKind.i64.wrap (next + (1 : Int))) t24 t25 (IntKind.i64.wrap (t26 + (1 : Int)))
                      else none
              else law_NetOrder_0.go N fuel l takes room1 l2 next t24 t25 (IntKind.i64.wrap (t26 + (1 : Int)))
      else none
    else some (.inr ((room_, l1, ()), next, ()))
def law_NetOrder_0.g (N n : Nat) (x : Sh.den law_NetOrder_0.ins) : Option (altsDen law_NetOrder_0.alts) := law_NetOrder_0.go N n x.1 x.2.1 x.2.2.1.1 x.2.2.1.2.1 x.2.2.2.1 x.2.2.2.2.1 x.2.2.2.2.2.1 x.2.2.2.2.2.2.1
def law_NetOrder_0.P (N : Nat) : Ps := ⟨law_NetOrder_0.ts, law_NetOrder_0.ins, law_NetOrder_0.asg, law_NetOrder_0.alts, law_NetOrder_0.g N N⟩
def law_NetOrder_0.lam (N : Nat) : Pcs := pcs [([true, true, false, false, true, true, false], (law_NetOrder_0_0.P N).pc (law_NetOrder_0.C N))]
theorem law_NetOrder_0.pok (N : Nat) : (law_NetOrder_0.lam N).Ok Try.prog (law_NetOrder_0.C N) law_NetOrder_0.code := pcsOk_cons (c1 := law_NetOrder_0_0.code) (by kernel_rfl) (law_NetOrder_0_0.ok N) (pcsOk_nil)
theorem law_NetOrder_0.ev (N n : Nat) (x : Sh.den law_NetOrder_0.ins) : evC (law_NetOrder_0.C N) law_NetOrder_0.code (law_NetOrder_0.lam N) ((law_NetOrder_0.P N).canon 1000 x) (loopK (law_NetOrder_0.P N) (law_NetOrder_0.g N n)) = law_NetOrder_0.g N (n + 1) x := by kernel_rfl
theorem law_NetOrder_0.ok (N : Nat) : ((law_NetOrder_0.P N).pc (law_NetOrder.C N)).Ok Try.prog (law_NetOrder.C N) (.loop law_NetOrder_0.code) := loop_ok (F := law_NetOrder_0.P N) (n0 := 1000) (N := N) (law_NetOrder.cok N) mix (law_NetOrder_0.pok N) (law_NetOrder_0.g N) (fun x => by rfl) rfl (fun n x y h => (law_NetOrder_0.ev N n x).trans h)
def law_NetOrder_1.ins : Sh := (.cons (.val (.slice (.slice .byte))) (.cons (.box 65 (.cons (.val (.int .i64)) (.cons (.own 62 (.pair (.int .i64) (.slice .byte))) .nil))) (.cons (.val (.int .i64)) .nil)))
def law_NetOrder_1.ts : List Tmp := [0, 5, 7]
def law_NetOrder_1.asg : List Tmp := [4, 7, 13, 14, 15, 72, 73, 74, 75, 76, 77, 78, 79, 80, 81, 82, 83, 84, 85, 86, 87, 88, 89, 90, 91, 92, 93, 94, 95, 96, 97, 98, 99, 100]
def law_NetOrder_1.C (N : Nat) : Ctx := { law_NetOrder.C N with may := fun t => law_NetOrder_1.asg.any (Nat.beq t) }
def law_NetOrder_1.code : Code := loopBody (sub law_NetOrder.code [true, true, true, true, true, false, false])
theorem law_NetOrder_1.cok (N : Nat) : (law_NetOrder_1.C N).Ok Try.prog := ⟨(law_NetOrder.cok N).U, (law_NetOrder.cok N).Γ, (law_NetOrder.cok N).Y⟩
def law_NetOrder_1.alts : List Alt := [⟨.ret, [4], (.cons (.upd 0 65 (.cons (.val (.int .i64)) (.cons (.own 62 (.pair (.int .i64) (.slice .byte))) .nil))) (.cons (.val .bool) .nil))⟩, ⟨(.exit 2), [], (.cons (.upd 0 65 (.cons (.val (.int .i64)) (.cons (.own 62 (.pair (.int .i64) (.slice .byte))) .nil))) .nil)⟩]
def law_NetOrder_1.go (N : Nat) : Nat → (List (List UInt8)) → Int → (List (Int × (List UInt8))) → Int → Option (((Int × (List (Int × (List UInt8))) × Unit) × Bool × Unit) ⊕ ((Int × (List (Int × (List UInt8))) × Unit) × Unit))
  | 0, _, _, _, _ => none
  | fuel + 1, l, room_, l1, next =>
    bif decide (next < (l.length : Int)) then
      obind (net_Net_Take.run N room_ l1 (0 : Int)) fun ((room1, l2, _), n_, l3, b, _) =>
        bif !(decide (n_ = next)) then
          some (.inl ((room1, l2, ()), false, ()))
        else
          bif !b then
            some (.inl ((room1, l2, ()), false, ()))
          else
            bif inB next l.length then
              bif !(decide (l3 = (l.getD next.toNat ([] : List UInt8)))) then
                some (.inl ((room1, l2, ()), false, ()))
              else law_NetOrder_1.go N fuel l room1 l2 (IntKind.i64.wrap (next + (1 : Int)))
            else none
    else some (.inr ((room_, l1, ()), ()))
def law_NetOrder_1.g (N n : Nat) (x : Sh.den law_NetOrder_1.ins) : Option (altsDen law_NetOrder_1.alts) := law_NetOrder_1.go N n x.1 x.2.1.1 x.2.1.2.1 x.2.2.1
def law_NetOrder_1.P (N : Nat) : Ps := ⟨law_NetOrder_1.ts, law_NetOrder_1.ins, law_NetOrder_1.asg, law_NetOrder_1.alts, law_NetOrder_1.g N N⟩
def law_NetOrder_1.lam (N : Nat) : Pcs := pcs []
theorem law_NetOrder_1.pok (N : Nat) : (law_NetOrder_1.lam N).Ok Try.prog (law_NetOrder_1.C N) law_NetOrder_1.code := pcsOk_nil
theorem law_NetOrder_1.ev (N n : Nat) (x : Sh.den law_NetOrder_1.ins) : evC (law_NetOrder_1.C N) law_NetOrder_1.code (law_NetOrder_1.lam N) ((law_NetOrder_1.P N).canon 1000 x) (loopK (law_NetOrder_1.P N) (law_NetOrder_1.g N n)) = law_NetOrder_1.g N (n + 1) x := by kernel_rfl
theorem law_NetOrder_1.ok (N : Nat) : ((law_NetOrder_1.P N).pc (law_NetOrder.C N)).Ok Try.prog (law_NetOrder.C N) (.loop law_NetOrder_1.code) := loop_ok (F := law_NetOrder_1.P N) (n0 := 1000) (N := N) (law_NetOrder.cok N) mix (law_NetOrder_1.pok N) (law_NetOrder_1.g N) (fun x => by rfl) rfl (fun n x y h => (law_NetOrder_1.ev N n x).trans h)
def law_NetOrder.outs : Sh := (.cons (.val .bool) .nil)
def law_NetOrder.run (N : Nat) (l : (List (List UInt8))) (takes : (List Bool)) : Option (Bool × Unit) :=
  obind (law_begun.run N (l.length : Int)) fun ((room_, l1, _), b, _) =>
    bif !b then
      some (false, ())
    else
      obind (law_NetOrder_0.go N N l takes room_ l1 (0 : Int) l (l.length : Int) (0 : Int)) fun y => match y with
      | .inl ((room1, l2, _), t4, _) =>
          some (t4, ())
      | .inr ((room2, l3, _), next, _) =>
          obind (law_NetOrder_1.go N N l room2 l3 next) fun y => match y with
          | .inl ((room3, l4, _), t41, _) =>
              some (t41, ())
          | .inr ((room4, l5, _), _) =>
              obind (net_Net_Len.run N room4 l5) fun (n_, _) =>
                some (decide (n_ = (0 : Int)), ())
def law_NetOrder.fn (N : Nat) (x : Sh.den law_NetOrder.ins) : Option (Sh.den law_NetOrder.outs) := law_NetOrder.run N x.1 x.2.1
def law_NetOrder.S (N : Nat) : Fs := ⟨law_NetOrder.ins, law_NetOrder.outs, law_NetOrder.fn N⟩
def law_NetOrder.lam (N : Nat) : Pcs := pcs [([true, true, true, true, false, true, false], (law_NetOrder_0.P N).pc (law_NetOrder.C N)), ([true, true, true, true, true, false, false], (law_NetOrder_1.P N).pc (law_NetOrder.C N))]
theorem law_NetOrder.pok (N : Nat) : (law_NetOrder.lam N).Ok Try.prog (law_NetOrder.C N) law_NetOrder.code := pcsOk_cons (c1 := .loop law_NetOrder_0.code) (by kernel_rfl) (law_NetOrder_0.ok N) (pcsOk_cons (c1 := .loop law_NetOrder_1.code) (by kernel_rfl) (law_NetOrder_1.ok N) (pcsOk_nil))
theorem law_NetOrder.ev (N : Nat) (x : Sh.den law_NetOrder.ins) : evC (law_NetOrder.C N) law_NetOrder.code (law_NetOrder.lam N) ⟨envOf 0 (bld (fun k => k) law_NetOrder.ins x 0).1, (bld (fun k => k) law_NetOrder.ins x 0).2.1, 1000⟩ (endF U law_NetOrder.outs Try.f4.results.toList []) = law_NetOrder.fn N x := by kernel_rfl
theorem law_NetOrder.ok (N : Nat) : (law_NetOrder.S N).con.Ok Try.prog 4 := fn_ok (F := law_NetOrder.S N) (n0 := 1000) Try.func4 (by kernel_rfl) (show Try.f4.body = some law_NetOrder.code by rfl) mix (law_NetOrder.cok N) (fun _ => rfl) (fun _ => rfl) (law_NetOrder.pok N) (fun x y h => (law_NetOrder.ev N x).trans h)
/-- hayloft/hayloftref05.New -/
def ref_New.ins : Sh := (.cons (.val (.int .i64)) .nil)
def ref_New.C (N : Nat) : Ctx := ⟨U, 6, fun _ => true, gam [], gamY []⟩
theorem ref_New.cok (N : Nat) : (ref_New.C N).Ok Try.prog := ⟨U_ok, GamOk.nil, GamYOk.nil⟩
def ref_New.code : Code := Try.f18.body.getD .skip
def ref_New.outs : Sh := (.cons (.val (.pair (.int .i64) (.slice (.pair (.int .i64) (.slice .byte))))) .nil)
def ref_New.run (N : Nat) (room_ : Int) : Option ((Int × (List (Int × (List UInt8)))) × Unit) :=
  some ((max room_ (0 : Int), ([] : List (Int × (List UInt8)))), ())
def ref_New.fn (N : Nat) (x : Sh.den ref_New.ins) : Option (Sh.den ref_New.outs) := ref_New.run N x.1
def ref_New.S (N : Nat) : Fs := ⟨ref_New.ins, ref_New.outs, ref_New.fn N⟩
def ref_New.lam (N : Nat) : Pcs := pcs []
theorem ref_New.pok (N : Nat) : (ref_New.lam N).Ok Try.prog (ref_New.C N) ref_New.code := pcsOk_nil
theorem ref_New.ev (N : Nat) (x : Sh.den ref_New.ins) : evC (ref_New.C N) ref_New.code (ref_New.lam N) ⟨envOf 0 (bld (fun k => k) ref_New.ins x 0).1, (bld (fun k => k) ref_New.ins x 0).2.1, 1000⟩ (endF U ref_New.outs Try.f18.results.toList []) = ref_New.fn N x := by kernel_rfl
theorem ref_New.ok (N : Nat) : (ref_New.S N).con.Ok Try.prog 18 := fn_ok (F := ref_New.S N) (n0 := 1000) Try.func18 (by kernel_rfl) (show Try.f18.body = some ref_New.code by rfl) mix (ref_New.cok N) (fun _ => rfl) (fun _ => rfl) (ref_New.pok N) (fun x y h => (ref_New.ev N x).trans h)
/-- hayloft/hayloftref05.Send -/
def ref_Send.ins : Sh := (.cons (.val (.pair (.int .i64) (.slice (.pair (.int .i64) (.slice .byte))))) (.cons (.val (.int .i64)) (.cons (.val (.slice .byte)) .nil)))
def ref_Send.C (N : Nat) : Ctx := ⟨U, 29, fun _ => true, gam [], gamY []⟩
theorem ref_Send.cok (N : Nat) : (ref_Send.C N).Ok Try.prog := ⟨U_ok, GamOk.nil, GamYOk.nil⟩
def ref_Send.code : Code := Try.f28.body.getD .skip
def ref_Send.outs : Sh := (.cons (.val (.pair (.int .i64) (.slice (.pair (.int .i64) (.slice .byte))))) (.cons (.val (.int .i64)) .nil))
def ref_Send.run (N : Nat) (n_ : (Int × (List (Int × (List UInt8))))) (to_ : Int) (b : (List UInt8)) : Option ((Int × (List (Int × (List UInt8)))) × Int × Unit) :=
  bif decide ((n_.2.length : Int) ≥ n_.1) then
    some (n_, (50 : Int), ())
  else
    bif room n_.2.length 32 then
      bif room (n_.2.length + 1) 32 then
        some ((n_.1, n_.2 ++ ([(to_, b)] : List (Int × (List UInt8)))), (0 : Int), ())
      else none
    else none
def ref_Send.fn (N : Nat) (x : Sh.den ref_Send.ins) : Option (Sh.den ref_Send.outs) := ref_Send.run N x.1 x.2.1 x.2.2.1
def ref_Send.S (N : Nat) : Fs := ⟨ref_Send.ins, ref_Send.outs, ref_Send.fn N⟩
def ref_Send.lam (N : Nat) : Pcs := pcs []
theorem ref_Send.pok (N : Nat) : (ref_Send.lam N).Ok Try.prog (ref_Send.C N) ref_Send.code := pcsOk_nil
theorem ref_Send.ev (N : Nat) (x : Sh.den ref_Send.ins) : evC (ref_Send.C N) ref_Send.code (ref_Send.lam N) ⟨envOf 0 (bld (fun k => k) ref_Send.ins x 0).1, (bld (fun k => k) ref_Send.ins x 0).2.1, 1000⟩ (endF U ref_Send.outs Try.f28.results.toList []) = ref_Send.fn N x := by kernel_rfl
theorem ref_Send.ok (N : Nat) : (ref_Send.S N).con.Ok Try.prog 28 := fn_ok (F := ref_Send.S N) (n0 := 1000) Try.func28 (by kernel_rfl) (show Try.f28.body = some ref_Send.code by rfl) mix (ref_Send.cok N) (fun _ => rfl) (fun _ => rfl) (ref_Send.pok N) (fun x y h => (ref_Send.ev N x).trans h)
/-- hayloft/hayloftref05.There -/
def ref_There.ins : Sh := (.cons (.val (.pair (.int .i64) (.slice (.pair (.int .i64) (.slice .byte))))) (.cons (.val (.int .i64)) .nil))
def ref_There.C (N : Nat) : Ctx := ⟨U, 14, fun _ => true, gam [], gamY []⟩
theorem ref_There.cok (N : Nat) : (ref_There.C N).Ok Try.prog := ⟨U_ok, GamOk.nil, GamYOk.nil⟩
def ref_There.code : Code := Try.f30.body.getD .skip
def ref_There.outs : Sh := (.cons (.val .bool) .nil)
def ref_There.run (N : Nat) (n_ : (Int × (List (Int × (List UInt8))))) (i : Int) : Option (Bool × Unit) :=
  bif decide (i ≥ (0 : Int)) then
    some (decide (i < (n_.2.length : Int)), ())
  else some (false, ())
def ref_There.fn (N : Nat) (x : Sh.den ref_There.ins) : Option (Sh.den ref_There.outs) := ref_There.run N x.1 x.2.1
def ref_There.S (N : Nat) : Fs := ⟨ref_There.ins, ref_There.outs, ref_There.fn N⟩
def ref_There.lam (N : Nat) : Pcs := pcs []
theorem ref_There.pok (N : Nat) : (ref_There.lam N).Ok Try.prog (ref_There.C N) ref_There.code := pcsOk_nil
theorem ref_There.ev (N : Nat) (x : Sh.den ref_There.ins) : evC (ref_There.C N) ref_There.code (ref_There.lam N) ⟨envOf 0 (bld (fun k => k) ref_There.ins x 0).1, (bld (fun k => k) ref_There.ins x 0).2.1, 1000⟩ (endF U ref_There.outs Try.f30.results.toList []) = ref_There.fn N x := by kernel_rfl
theorem ref_There.ok (N : Nat) : (ref_There.S N).con.Ok Try.prog 30 := fn_ok (F := ref_There.S N) (n0 := 1000) Try.func30 (by kernel_rfl) (show Try.f30.body = some ref_There.code by rfl) mix (ref_There.cok N) (fun _ => rfl) (fun _ => rfl) (ref_There.pok N) (fun x y h => (ref_There.ev N x).trans h)
/-- hayloft/hayloftlaw05.asked -/
def law_asked.ins : Sh := (.cons (.val (.int .i64)) (.cons (.rown 5 .byte) (.cons (.val .bool) (.cons (.val (.pair (.int .i64) (.slice (.pair (.int .i64) (.slice .byte))))) (.cons (.val (.int .i64)) .nil)))))
def law_asked.C (N : Nat) : Ctx := ⟨U, 49, fun _ => true, gam [(30, (ref_There.S N).con)], gamY []⟩
theorem law_asked.cok (N : Nat) : (law_asked.C N).Ok Try.prog := ⟨U_ok, GamOk.cons (ref_There.ok N) (GamOk.nil), GamYOk.nil⟩
def law_asked.code : Code := Try.f29.body.getD .skip
def law_asked.outs : Sh := (.cons (.val .bool) .nil)
def law_asked.run (N : Nat) (to_ : Int) (b : (List UInt8)) (is_ : Bool) (r : (Int × (List (Int × (List UInt8))))) (i : Int) : Option (Bool × Unit) :=
  obind (ref_There.run N r i) fun (b1, _) =>
    bif !b1 then
      bif decide (to_ = (0 : Int)) then
        bif decide ((b.length : Int) = (0 : Int)) then
          some (!is_, ())
        else some (false, ())
      else some (false, ())
    else
      bif inB i r.2.length then
        bif decide (to_ = (r.2.getD i.toNat ((0 : Int), ([] : List UInt8))).1) then
          bif inB i r.2.length then
            bif decide (b = (r.2.getD i.toNat ((0 : Int), ([] : List UInt8))).2) then
              some (is_, ())
            else some (false, ())
          else none
        else some (false, ())
      else none
def law_asked.fn (N : Nat) (x : Sh.den law_asked.ins) : Option (Sh.den law_asked.outs) := law_asked.run N x.1 x.2.1 x.2.2.1 x.2.2.2.1 x.2.2.2.2.1
def law_asked.S (N : Nat) : Fs := ⟨law_asked.ins, law_asked.outs, law_asked.fn N⟩
def law_asked.lam (N : Nat) : Pcs := pcs []
theorem law_asked.pok (N : Nat) : (law_asked.lam N).Ok Try.prog (law_asked.C N) law_asked.code := pcsOk_nil
theorem law_asked.ev (N : Nat) (x : Sh.den law_asked.ins) : evC (law_asked.C N) law_asked.code (law_asked.lam N) ⟨envOf 0 (bld (fun k => k) law_asked.ins x 0).1, (bld (fun k => k) law_asked.ins x 0).2.1, 1000⟩ (endF U law_asked.outs Try.f29.results.toList []) = law_asked.fn N x := by kernel_rfl
theorem law_asked.ok (N : Nat) : (law_asked.S N).con.Ok Try.prog 29 := fn_ok (F := law_asked.S N) (n0 := 1000) Try.func29 (by kernel_rfl) (show Try.f29.body = some law_asked.code by rfl) mix (law_asked.cok N) (fun _ => rfl) (fun _ => rfl) (law_asked.pok N) (fun x y h => (law_asked.ev N x).trans h)
/-- hayloft/hayloftref05.Out -/
def ref_Out.ins : Sh := (.cons (.val (.pair (.int .i64) (.slice (.pair (.int .i64) (.slice .byte))))) (.cons (.val (.int .i64)) .nil))
def ref_Out.C (N : Nat) : Ctx := ⟨U, 28, fun _ => true, gam [], gamY []⟩
theorem ref_Out.cok (N : Nat) : (ref_Out.C N).Ok Try.prog := ⟨U_ok, GamOk.nil, GamYOk.nil⟩
def ref_Out.code : Code := Try.f31.body.getD .skip
def ref_Out_0.ins : Sh := (.cons (.val (.int .i64)) (.cons (.rbox 43 (.cons (.val (.int .i64)) (.cons (.val (.slice (.pair (.int .i64) (.slice .byte)))) .nil))) (.cons (.own 57 (.pair (.int .i64) (.slice .byte))) (.cons (.val (.int .i64)) .nil))))
def ref_Out_0.ts : List Tmp := [1, 2, 5, 6]
def ref_Out_0.asg : List Tmp := [5, 6, 7, 8, 9, 10, 11, 12, 13, 14, 15, 16, 17, 18, 19, 20, 21, 22, 23, 24]
def ref_Out_0.C (N : Nat) : Ctx := { ref_Out.C N with may := fun t => ref_Out_0.asg.any (Nat.beq t) }
def ref_Out_0.code : Code := loopBody (sub ref_Out.code [true, true, false, true, false])
theorem ref_Out_0.cok (N : Nat) : (ref_Out_0.C N).Ok Try.prog := ⟨(ref_Out.cok N).U, (ref_Out.cok N).Γ, (ref_Out.cok N).Y⟩
def ref_Out_0.alts : List Alt := [⟨(.exit 0), [5], (.cons (.own 57 (.pair (.int .i64) (.slice .byte))) .nil)⟩]
def ref_Out_0.go (N : Nat) : Nat → Int → Int → (List (Int × (List UInt8))) → (List (Int × (List UInt8))) → Int → Option (((List (Int × (List UInt8))) × Unit))
  | 0, _, _, _, _, _ => none
  | fuel + 1, i, room_, l, l1, k =>
    bif decide (k < (l.length : Int)) then
      bif !(decide (k = i)) then
        bif inB k l.length then
          bif room (l1.length + 1) 32 then
            ref_Out_0.go N fuel i room_ l (l1 ++ ([l.getD k.toNat ((0 : Int), ([] : List UInt8))] : List (Int × (List UInt8)))) (IntKind.i64.wrap (k + (1 : Int)))
          else none
        else none
      else ref_Out_0.go N fuel i room_ l l1 (IntKind.i64.wrap (k + (1 : Int)))
    else some (l1, ())
def ref_Out_0.g (N n : Nat) (x : Sh.den ref_Out_0.ins) : Option (altsDen ref_Out_0.alts) := ref_Out_0.go N n x.1 x.2.1.1 x.2.1.2.1 x.2.2.1 x.2.2.2.1
def ref_Out_0.P (N : Nat) : Ps := ⟨ref_Out_0.ts, ref_Out_0.ins, ref_Out_0.asg, ref_Out_0.alts, ref_Out_0.g N N⟩
def ref_Out_0.lam (N : Nat) : Pcs := pcs []
theorem ref_Out_0.pok (N : Nat) : (ref_Out_0.lam N).Ok Try.prog (ref_Out_0.C N) ref_Out_0.code := pcsOk_nil
theorem ref_Out_0.ev (N n : Nat) (x : Sh.den ref_Out_0.ins) : evC (ref_Out_0.C N) ref_Out_0.code (ref_Out_0.lam N) ((ref_Out_0.P N).canon 1000 x) (loopK (ref_Out_0.P N) (ref_Out_0.g N n)) = ref_Out_0.g N (n + 1) x := by kernel_rfl
theorem ref_Out_0.ok (N : Nat) : ((ref_Out_0.P N).pc (ref_Out.C N)).Ok Try.prog (ref_Out.C N) (.loop ref_Out_0.code) := loop_ok (F := ref_Out_0.P N) (n0 := 1000) (N := N) (ref_Out.cok N) mix (ref_Out_0.pok N) (ref_Out_0.g N) (fun x => by rfl) rfl (fun n x y h => (ref_Out_0.ev N n x).trans h)
def ref_Out.outs : Sh := (.cons (.val (.pair (.int .i64) (.slice (.pair (.int .i64) (.slice .byte))))) .nil)
def ref_Out.run (N : Nat) (n_ : (Int × (List (Int × (List UInt8))))) (i : Int) : Option ((Int × (List (Int × (List UInt8)))) × Unit) :=
  obind (ref_Out_0.go N N i n_.1 n_.2 ([] : List (Int × (List UInt8))) (0 : Int)) fun (l, _) =>
    some ((n_.1, l), ())
def ref_Out.fn (N : Nat) (x : Sh.den ref_Out.ins) : Option (Sh.den ref_Out.outs) := ref_Out.run N x.1 x.2.1
def ref_Out.S (N : Nat) : Fs := ⟨ref_Out.ins, ref_Out.outs, ref_Out.fn N⟩
def ref_Out.lam (N : Nat) : Pcs := pcs [([true, true, false, true, false], (ref_Out_0.P N).pc (ref_Out.C N))]
theorem ref_Out.pok (N : Nat) : (ref_Out.lam N).Ok Try.prog (ref_Out.C N) ref_Out.code := pcsOk_cons (c1 := .loop ref_Out_0.code) (by kernel_rfl) (ref_Out_0.ok N) (pcsOk_nil)
theorem ref_Out.ev (N : Nat) (x : Sh.den ref_Out.ins) : evC (ref_Out.C N) ref_Out.code (ref_Out.lam N) ⟨envOf 0 (bld (fun k => k) ref_Out.ins x 0).1, (bld (fun k => k) ref_Out.ins x 0).2.1, 1000⟩ (endF U ref_Out.outs Try.f31.results.toList []) = ref_Out.fn N x := by kernel_rfl
theorem ref_Out.ok (N : Nat) : (ref_Out.S N).con.Ok Try.prog 31 := fn_ok (F := ref_Out.S N) (n0 := 1000) Try.func31 (by kernel_rfl) (show Try.f31.body = some ref_Out.code by rfl) mix (ref_Out.cok N) (fun _ => rfl) (fun _ => rfl) (ref_Out.pok N) (fun x y h => (ref_Out.ev N x).trans h)
/-- hayloft/hayloftref05.Double -/
def ref_Double.ins : Sh := (.cons (.val (.pair (.int .i64) (.slice (.pair (.int .i64) (.slice .byte))))) (.cons (.val (.int .i64)) .nil))
def ref_Double.C (N : Nat) : Ctx := ⟨U, 27, fun _ => true, gam [(30, (ref_There.S N).con), (28, (ref_Send.S N).con)], gamY []⟩
theorem ref_Double.cok (N : Nat) : (ref_Double.C N).Ok Try.prog := ⟨U_ok, GamOk.cons (ref_There.ok N) (GamOk.cons (ref_Send.ok N) (GamOk.nil)), GamYOk.nil⟩
def ref_Double.code : Code := Try.f32.body.getD .skip
def ref_Double.outs : Sh := (.cons (.val (.pair (.int .i64) (.slice (.pair (.int .i64) (.slice .byte))))) (.cons (.val (.int .i64)) .nil))
def ref_Double.run (N : Nat) (n_ : (Int × (List (Int × (List UInt8))))) (i : Int) : Option ((Int × (List (Int × (List UInt8)))) × Int × Unit) :=
  obind (ref_There.run N n_ i) fun (b, _) =>
    bif !b then
      some (n_, (51 : Int), ())
    else
      bif inB i n_.2.length then
        bif inB i n_.2.length then
          obind (ref_Send.run N n_ (n_.2.getD i.toNat ((0 : Int), ([] : List UInt8))).1 (n_.2.getD i.toNat ((0 : Int), ([] : List UInt8))).2) fun (v, n1, _) =>
            some (v, n1, ())
        else none
      else none
def ref_Double.fn (N : Nat) (x : Sh.den ref_Double.ins) : Option (Sh.den ref_Double.outs) := ref_Double.run N x.1 x.2.1
def ref_Double.S (N : Nat) : Fs := ⟨ref_Double.ins, ref_Double.outs, ref_Double.fn N⟩
def ref_Double.lam (N : Nat) : Pcs := pcs []
theorem ref_Double.pok (N : Nat) : (ref_Double.lam N).Ok Try.prog (ref_Double.C N) ref_Double.code := pcsOk_nil
theorem ref_Double.ev (N : Nat) (x : Sh.den ref_Double.ins) : evC (ref_Double.C N) ref_Double.code (ref_Double.lam N) ⟨envOf 0 (bld (fun k => k) ref_Double.ins x 0).1, (bld (fun k => k) ref_Double.ins x 0).2.1, 1000⟩ (endF U ref_Double.outs Try.f32.results.toList []) = ref_Double.fn N x := by kernel_rfl
theorem ref_Double.ok (N : Nat) : (ref_Double.S N).con.Ok Try.prog 32 := fn_ok (F := ref_Double.S N) (n0 := 1000) Try.func32 (by kernel_rfl) (show Try.f32.body = some ref_Double.code by rfl) mix (ref_Double.cok N) (fun _ => rfl) (fun _ => rfl) (ref_Double.pok N) (fun x y h => (ref_Double.ev N x).trans h)
/-- (*hayloft/net.Net).To -/
def net_Net_To.ins : Sh := (.cons (.box 65 (.cons (.val (.int .i64)) (.cons (.own 62 (.pair (.int .i64) (.slice .byte))) .nil))) (.cons (.val (.int .i64)) .nil))
def net_Net_To.C (N : Nat) : Ctx := ⟨U, 6, fun _ => true, gam [], gamY []⟩
theorem net_Net_To.cok (N : Nat) : (net_Net_To.C N).Ok Try.prog := ⟨U_ok, GamOk.nil, GamYOk.nil⟩
def net_Net_To.code : Code := Try.f22.body.getD .skip
def net_Net_To.outs : Sh := (.cons (.upd 0 65 (.cons (.val (.int .i64)) (.cons (.own 62 (.pair (.int .i64) (.slice .byte))) .nil))) (.cons (.fn 34 (.cons (.box 23 (.cons (.ref 0) .nil)) (.cons (.box 3 (.cons (.val (.int .i64)) .nil)) .nil))) .nil))
def net_Net_To.run (N : Nat) (room_ : Int) (l : (List (Int × (List UInt8)))) (to_ : Int) : Option ((Int × (List (Int × (List UInt8))) × Unit) × ((Unit × Unit) × (Int × Unit) × Unit) × Unit) :=
  some ((room_, l, ()), (((), ()), (to_, ()), ()), ())
def net_Net_To.fn (N : Nat) (x : Sh.den net_Net_To.ins) : Option (Sh.den net_Net_To.outs) := net_Net_To.run N x.1.1 x.1.2.1 x.2.1
def net_Net_To.S (N : Nat) : Fs := ⟨net_Net_To.ins, net_Net_To.outs, net_Net_To.fn N⟩
def net_Net_To.lam (N : Nat) : Pcs := pcs []
theorem net_Net_To.pok (N : Nat) : (net_Net_To.lam N).Ok Try.prog (net_Net_To.C N) net_Net_To.code := pcsOk_nil
theorem net_Net_To.ev (N : Nat) (x : Sh.den net_Net_To.ins) : evC (net_Net_To.C N) net_Net_To.code (net_Net_To.lam N) ⟨envOf 0 (bld (fun k => k) net_Net_To.ins x 0).1, (bld (fun k => k) net_Net_To.ins x 0).2.1, 1000⟩ (endF U net_Net_To.outs Try.f22.results.toList []) = net_Net_To.fn N x := by kernel_rfl
theorem net_Net_To.ok (N : Nat) : (net_Net_To.S N).con.Ok Try.prog 22 := fn_ok (F := net_Net_To.S N) (n0 := 1000) Try.func22 (by kernel_rfl) (show Try.f22.body = some net_Net_To.code by rfl) mix (net_Net_To.cok N) (fun _ => rfl) (fun _ => rfl) (net_Net_To.pok N) (fun x y h => (net_Net_To.ev N x).trans h)
/-- slices.Clone[[]hayloft/net.one,hayloft/net.one] -/
def slices_Clone_net_one_net_one.ins : Sh := (.cons (.rown 62 (.pair (.int .i64) (.slice .byte))) .nil)
def slices_Clone_net_one_net_one.C (N : Nat) : Ctx := ⟨U, 8, fun _ => true, gam [], gamY []⟩
theorem slices_Clone_net_one_net_one.cok (N : Nat) : (slices_Clone_net_one_net_one.C N).Ok Try.prog := ⟨U_ok, GamOk.nil, GamYOk.nil⟩
def slices_Clone_net_one_net_one.code : Code := Try.f27.body.getD .skip
def slices_Clone_net_one_net_one.outs : Sh := (.cons (.own 62 (.pair (.int .i64) (.slice .byte))) .nil)
def slices_Clone_net_one_net_one.run (N : Nat) (s : (List (Int × (List UInt8)))) : Option ((List (Int × (List UInt8))) × Unit) :=
  pick2 (Nat.beq s.length 0)
    (
      some (([] : List (Int × (List UInt8))), ()))
    (
      bif room (0 + s.length) 32 then
        some (s, ())
      else none)
def slices_Clone_net_one_net_one.fn (N : Nat) (x : Sh.den slices_Clone_net_one_net_one.ins) : Option (Sh.den slices_Clone_net_one_net_one.outs) := slices_Clone_net_one_net_one.run N x.1
def slices_Clone_net_one_net_one.S (N : Nat) : Fs := ⟨slices_Clone_net_one_net_one.ins, slices_Clone_net_one_net_one.outs, slices_Clone_net_one_net_one.fn N⟩
def slices_Clone_net_one_net_one.lam (N : Nat) : Pcs := pcs []
theorem slices_Clone_net_one_net_one.pok (N : Nat) : (slices_Clone_net_one_net_one.lam N).Ok Try.prog (slices_Clone_net_one_net_one.C N) slices_Clone_net_one_net_one.code := pcsOk_nil
theorem slices_Clone_net_one_net_one.ev (N : Nat) (x : Sh.den slices_Clone_net_one_net_one.ins) : evC (slices_Clone_net_one_net_one.C N) slices_Clone_net_one_net_one.code (slices_Clone_net_one_net_one.lam N) ⟨envOf 0 (bld (fun k => k) slices_Clone_net_one_net_one.ins x 0).1, (bld (fun k => k) slices_Clone_net_one_net_one.ins x 0).2.1, 1000⟩ (endF U slices_Clone_net_one_net_one.outs Try.f27.results.toList []) = slices_Clone_net_one_net_one.fn N x := by kernel_rfl
theorem slices_Clone_net_one_net_one.ok (N : Nat) : (slices_Clone_net_one_net_one.S N).con.Ok Try.prog 27 := fn_ok (F := slices_Clone_net_one_net_one.S N) (n0 := 1000) Try.func27 (by kernel_rfl) (show Try.f27.body = some slices_Clone_net_one_net_one.code by rfl) mix (slices_Clone_net_one_net_one.cok N) (fun _ => rfl) (fun _ => rfl) (slices_Clone_net_one_net_one.pok N) (fun x y h => (slices_Clone_net_one_net_one.ev N x).trans h)
/-- slices.All[[]hayloft/net.one,hayloft/net.one] -/
def slices_All_net_one_net_one.ins : Sh := (.cons (.own 62 (.pair (.int .i64) (.slice .byte))) .nil)
def slices_All_net_one_net_one.C (N : Nat) : Ctx := ⟨U, 4, fun _ => true, gam [], gamY []⟩
theorem slices_All_net_one_net_one.cok (N : Nat) : (slices_All_net_one_net_one.C N).Ok Try.prog := ⟨U_ok, GamOk.nil, GamYOk.nil⟩
def slices_All_net_one_net_one.code : Code := Try.f35.body.getD .skip
def slices_All_net_one_net_one.outs : Sh := (.cons (.fn 37 (.cons (.box 63 (.cons (.own 62 (.pair (.int .i64) (.slice .byte))) .nil)) .nil)) .nil)
def slices_All_net_one_net_one.run (N : Nat) (s : (List (Int × (List UInt8)))) : Option ((((List (Int × (List UInt8))) × Unit) × Unit) × Unit) :=
  some (((s, ()), ()), ())
def slices_All_net_one_net_one.fn (N : Nat) (x : Sh.den slices_All_net_one_net_one.ins) : Option (Sh.den slices_All_net_one_net_one.outs) := slices_All_net_one_net_one.run N x.1
def slices_All_net_one_net_one.S (N : Nat) : Fs := ⟨slices_All_net_one_net_one.ins, slices_All_net_one_net_one.outs, slices_All_net_one_net_one.fn N⟩
def slices_All_net_one_net_one.lam (N : Nat) : Pcs := pcs []
theorem slices_All_net_one_net_one.pok (N : Nat) : (slices_All_net_one_net_one.lam N).Ok Try.prog (slices_All_net_one_net_one.C N) slices_All_net_one_net_one.code := pcsOk_nil
theorem slices_All_net_one_net_one.ev (N : Nat) (x : Sh.den slices_All_net_one_net_one.ins) : evC (slices_All_net_one_net_one.C N) slices_All_net_one_net_one.code (slices_All_net_one_net_one.lam N) ⟨envOf 0 (bld (fun k => k) slices_All_net_one_net_one.ins x 0).1, (bld (fun k => k) slices_All_net_one_net_one.ins x 0).2.1, 1000⟩ (endF U slices_All_net_one_net_one.outs Try.f35.results.toList []) = slices_All_net_one_net_one.fn N x := by kernel_rfl
theorem slices_All_net_one_net_one.ok (N : Nat) : (slices_All_net_one_net_one.S N).con.Ok Try.prog 35 := fn_ok (F := slices_All_net_one_net_one.S N) (n0 := 1000) Try.func35 (by kernel_rfl) (show Try.f35.body = some slices_All_net_one_net_one.code by rfl) mix (slices_All_net_one_net_one.cok N) (fun _ => rfl) (fun _ => rfl) (slices_All_net_one_net_one.pok N) (fun x y h => (slices_All_net_one_net_one.ev N x).trans h)
def Y0.ins : Sh := (.cons (.rbox 43 (.cons (.val (.int .i64)) (.cons (.val (.slice (.pair (.int .i64) (.slice .byte)))) .nil))) (.cons (.box 4 (.cons (.val .bool) .nil)) (.cons (.rbox 82 (.cons (.rown 3 (.int .i64)) .nil)) (.cons (.box 3 (.cons (.val (.int .i64)) .nil)) (.cons (.val (.int .i64)) (.cons (.own 5 .byte) .nil))))))
def Y0.C (N : Nat) : Ctx := ⟨U, 78, fun _ => true, gam [], gamY []⟩
theorem Y0.cok (N : Nat) : (Y0.C N).Ok Try.prog := ⟨U_ok, GamOk.nil, GamYOk.nil⟩
def Y0.code : Code := site0.body
def Y0_0.ins : Sh := (.cons (.own 5 .byte) (.cons (.val (.int .i64)) (.cons (.val (.int .i64)) .nil)))
def Y0_0.ts : List Tmp := [12, 61, 62]
def Y0_0.asg : List Tmp := [13, 62, 63, 64, 65, 66, 67, 68, 69, 70, 71]
def Y0_0.C (N : Nat) : Ctx := { Y0.C N with may := fun t => Y0_0.asg.any (Nat.beq t) }
def Y0_0.code : Code := loopBody (sub Y0.code [false, true, false, true, false])
theorem Y0_0.cok (N : Nat) : (Y0_0.C N).Ok Try.prog := ⟨(Y0.cok N).U, (Y0.cok N).Γ, (Y0.cok N).Y⟩
def Y0_0.alts : List Alt := [⟨(.exit 4), [], .nil⟩]
def Y0_0.go (N : Nat) : Nat → (List UInt8) → Int → Int → Option (Unit)
  | 0, _, _, _ => none
  | fuel + 1, b, t61, t62 =>
    bif decide (t62 < t61) then
      bif inB t62 b.length then
        bif decide (t62.toNat < b.length) then
          bif inB t62 b.length then
            bif decide (t62.toNat < b.length) then
              Y0_0.go N fuel (b.set t62.toNat (Hay.u8 (IntKind.u8.wrap (((b.getD t62.toNat (0 : UInt8)).toNat : Int) + (1 : Int))))) t61 (IntKind.i64.wrap (t62 + (1 : Int)))
            else none
          else none
        else none
      else none
    else some ()
def Y0_0.g (N n : Nat) (x : Sh.den Y0_0.ins) : Option (altsDen Y0_0.alts) := Y0_0.go N n x.1 x.2.1 x.2.2.1
def Y0_0.P (N : Nat) : Ps := ⟨Y0_0.ts, Y0_0.ins, Y0_0.asg, Y0_0.alts, Y0_0.g N N⟩
def Y0_0.lam (N : Nat) : Pcs := pcs []
theorem Y0_0.pok (N : Nat) : (Y0_0.lam N).Ok Try.prog (Y0_0.C N) Y0_0.code := pcsOk_nil
theorem Y0_0.ev (N n : Nat) (x : Sh.den Y0_0.ins) : evC (Y0_0.C N) Y0_0.code (Y0_0.lam N) ((Y0_0.P N).canon 1000 x) (loopK (Y0_0.P N) (Y0_0.g N n)) = Y0_0.g N (n + 1) x := by kernel_rfl
theorem Y0_0.ok (N : Nat) : ((Y0_0.P N).pc (Y0.C N)).Ok Try.prog (Y0.C N) (.loop Y0_0.code) := loop_ok (F := Y0_0.P N) (n0 := 1000) (N := N) (Y0.cok N) mix (Y0_0.pok N) (Y0_0.g N) (fun x => by rfl) rfl (fun n x y h => (Y0_0.ev N n x).trans h)
def Y0.alts : List Alt := [⟨.normal, [], (.cons (.upd 1 4 (.cons (.val .bool) .nil)) (.cons (.upd 4 3 (.cons (.val (.int .i64)) .nil)) .nil))⟩, ⟨.ret, [], (.cons (.upd 1 4 (.cons (.val .bool) .nil)) (.cons (.upd 4 3 (.cons (.val (.int .i64)) .nil)) (.cons (.updr 5 5 .byte) .nil)))⟩]
def Y0.run (N : Nat) (room_ : Int) (l : (List (Int × (List UInt8)))) (t6 : Bool) (at_ : (List Int)) (k : Int) (t34 : Int) (t35 : (List UInt8)) : Option (((Bool × Unit) × (Int × Unit) × Unit) ⊕ ((Bool × Unit) × (Int × Unit) × (List UInt8) × Unit)) :=
  bif decide (k ≥ (at_.length : Int)) then
    some (.inr ((false, ()), (k, ()), t35, ()))
  else
    bif inB k at_.length then
      bif decide (k.toNat < at_.length) then
        bif !(decide (t34 = (at_.getD k.toNat (0 : Int)))) then
          some (.inr ((false, ()), (k, ()), t35, ()))
        else
          bif inB t34 l.length then
            bif !(decide (t35 = (l.getD t34.toNat ((0 : Int), ([] : List UInt8))).2)) then
              some (.inr ((false, ()), (k, ()), t35, ()))
            else
              obind (Y0_0.go N N t35 (t35.length : Int) (0 : Int)) fun _ =>
                some (.inl ((t6, ()), (IntKind.i64.wrap (k + (1 : Int)), ()), ()))
          else none
      else none
    else none
def Y0.fn (N : Nat) (x : Sh.den Y0.ins) : Option (altsDen Y0.alts) := Y0.run N x.1.1 x.1.2.1 x.2.1.1 x.2.2.1.1 x.2.2.2.1.1 x.2.2.2.2.1 x.2.2.2.2.2.1
def Y0.F (N : Nat) : Ys := ⟨[4, 6, 7, 10], [34, 35], Y0.ins, Y0.alts, Y0.fn N⟩
def Y0.yc (N : Nat) : Yc := (Y0.F N).yc
def Y0.lam (N : Nat) : Pcs := pcs [([false, true, false, true, false], (Y0_0.P N).pc (Y0.C N))]
theorem Y0.pok (N : Nat) : (Y0.lam N).Ok Try.prog (Y0.C N) site0.body := pcsOk_cons (c1 := .loop Y0_0.code) (by kernel_rfl) (Y0_0.ok N) (pcsOk_nil)
theorem Y0.ev (N : Nat) (x : Sh.den Y0.ins) : evC (Y0.C N) site0.assign (pcs []) ⟨addT [4, 6, 7, 10, 34, 35] (bld (fun k => k) Y0.ins x 0).1 [], (bld (fun k => k) Y0.ins x 0).2.1, 1000⟩ (thenC fun s => evC (Y0.C N) site0.body (Y0.lam N) s (altK Y0.alts)) = Y0.fn N x := by kernel_rfl
theorem Y0.ok (N : Nat) : (Y0.yc N).Ok Try.prog 1000000 := ys_ok (σ := site0) (k := 0) (C := Y0.C N) (F := Y0.F N) (n0 := 1000) (fun _ => rfl) (Y0.cok N) mix (fun _ => rfl) (show site0.ps.toList = [34, 35] by kernel_rfl) (show site0.ts = [4, 6, 7, 10] by kernel_rfl) (show site0.nt = 78 by kernel_rfl) rfl rfl rfl rfl rfl pcsOk_nil (Y0.pok N) (fun x y h => (Y0.ev N x).trans h)
def Y1.ins : Sh := (.cons (.rbox 3 (.cons (.val (.int .i64)) .nil)) (.cons (.rbox 76 (.cons (.box 1000000 (.cons (.val (.int .i64)) (.cons (.junk) (.cons (.junk) (.cons (.junk) (.cons (.rbox 43 (.cons (.val (.int .i64)) (.cons (.val (.slice (.pair (.int .i64) (.slice .byte)))) .nil))) (.cons (.box 4 (.cons (.val .bool) .nil)) (.cons (.rbox 82 (.cons (.rown 3 (.int .i64)) .nil)) (.cons (.box 3 (.cons (.val (.int .i64)) .nil)) .nil))))))))) .nil)) (.cons (.val (.int .i64)) (.cons (.agg (.cons (.val (.int .i64)) (.cons (.val (.slice .byte)) .nil))) .nil))))
def Y1.C (N : Nat) : Ctx := ⟨U, 27, fun _ => true, gam [(25, (slices_Clone_byte_byte_b.S N).con)], gamY [(1000000, Y0.yc N)]⟩
theorem Y1.cok (N : Nat) : (Y1.C N).Ok Try.prog := ⟨U_ok, GamOk.cons (slices_Clone_byte_byte_b.ok N) (GamOk.nil), GamYOk.cons (Y0.ok N) (GamYOk.nil)⟩
def Y1.code : Code := site1.body
def Y1.alts : List Alt := [⟨.normal, [], (.cons (.upd 4 4 (.cons (.val .bool) .nil)) (.cons (.upd 7 3 (.cons (.val (.int .i64)) .nil)) (.cons (.upd 2 1000000 (.cons (.val (.int .i64)) (.cons (.junk) (.cons (.junk) (.cons (.junk) (.cons (.keep 0 3) (.cons (.ref 0) (.cons (.keep 0 5) (.cons (.ref 1) .nil))))))))) .nil)))⟩, ⟨.ret, [], (.cons (.upd 4 4 (.cons (.val .bool) .nil)) (.cons (.upd 7 3 (.cons (.val (.int .i64)) .nil)) (.cons (.upd 2 1000000 (.cons (.val (.int .i64)) (.cons (.junk) (.cons (.junk) (.cons (.junk) (.cons (.keep 0 3) (.cons (.ref 0) (.cons (.keep 0 5) (.cons (.ref 1) .nil))))))))) .nil)))⟩]
def Y1.run (N : Nat) (t2 : Int) (yield : Int) (room_ : Int) (l : (List (Int × (List UInt8)))) (yield1 : Bool) (yield2 : (List Int)) (yield3 : Int) (t12 : Int) (t13 : Int) (t131 : (List UInt8)) : Option (((Bool × Unit) × (Int × Unit) × (Int × Unit × Unit × Unit × Unit × Unit × Unit × Unit × Unit) × Unit) ⊕ ((Bool × Unit) × (Int × Unit) × (Int × Unit × Unit × Unit × Unit × Unit × Unit × Unit × Unit) × Unit)) :=
  bif decide (t13 = t2) then
    obind (slices_Clone_byte_byte_b.run N t131) fun (l1, _) =>
      bif decide (yield = (0 : Int)) then
        obind (Y0.run N room_ l yield1 yield2 yield3 t12 l1) fun y => match y with
        | .inl ((v, _), (v1, _), _) =>
            some (.inl ((v, ()), (v1, ()), ((0 : Int), (), (), (), (), (), (), (), ()), ()))
        | .inr ((v2, _), (v3, _), v4, _) =>
            some (.inr ((v2, ()), (v3, ()), ((1 : Int), (), (), (), (), (), (), (), ()), ()))
      else none
  else some (.inl ((yield1, ()), (yield3, ()), (yield, (), (), (), (), (), (), (), ()), ()))
def Y1.fn (N : Nat) (x : Sh.den Y1.ins) : Option (altsDen Y1.alts) := Y1.run N x.1.1 x.2.1.1.1 x.2.1.1.2.2.2.2.1.1 x.2.1.1.2.2.2.2.1.2.1 x.2.1.1.2.2.2.2.2.1.1 x.2.1.1.2.2.2.2.2.2.1.1 x.2.1.1.2.2.2.2.2.2.2.1.1 x.2.2.1 x.2.2.2.1.1 x.2.2.2.1.2.1
def Y1.F (N : Nat) : Ys := ⟨[2, 3], [12, 13], Y1.ins, Y1.alts, Y1.fn N⟩
def Y1.yc (N : Nat) : Yc := (Y1.F N).yc
def Y1.lam (N : Nat) : Pcs := pcs []
theorem Y1.pok (N : Nat) : (Y1.lam N).Ok Try.prog (Y1.C N) site1.body := pcsOk_nil
theorem Y1.ev (N : Nat) (x : Sh.den Y1.ins) : evC (Y1.C N) site1.assign (pcs []) ⟨addT [2, 3, 12, 13] (bld (fun k => k) Y1.ins x 0).1 [], (bld (fun k => k) Y1.ins x 0).2.1, 1000⟩ (thenC fun s => evC (Y1.C N) site1.body (Y1.lam N) s (altK Y1.alts)) = Y1.fn N x := by kernel_rfl
theorem Y1.ok (N : Nat) : (Y1.yc N).Ok Try.prog 1000001 := ys_ok (σ := site1) (k := 1) (C := Y1.C N) (F := Y1.F N) (n0 := 1000) (fun _ => rfl) (Y1.cok N) mix (fun _ => rfl) (show site1.ps.toList = [12, 13] by kernel_rfl) (show site1.ts = [2, 3] by kernel_rfl) (show site1.nt = 27 by kernel_rfl) rfl rfl rfl rfl rfl pcsOk_nil (Y1.pok N) (fun x y h => (Y1.ev N x).trans h)
/-- slices.All[[]hayloft/net.one,hayloft/net.one]$1 -/
def slices_All_net_one_net_one_1_f1.ins : Sh := (.cons (.box 1000001 (.cons (.val (.int .i64)) (.cons (.junk) (.cons (.junk) (.cons (.junk) (.cons (.rbox 3 (.cons (.val (.int .i64)) .nil)) (.cons (.rbox 76 (.cons (.box 1000000 (.cons (.val (.int .i64)) (.cons (.junk) (.cons (.junk) (.cons (.junk) (.cons (.rbox 43 (.cons (.val (.int .i64)) (.cons (.val (.slice (.pair (.int .i64) (.slice .byte)))) .nil))) (.cons (.box 4 (.cons (.val .bool) .nil)) (.cons (.rbox 82 (.cons (.rown 3 (.int .i64)) .nil)) (.cons (.box 3 (.cons (.val (.int .i64)) .nil)) .nil))))))))) .nil)) .nil))))))) (.cons (.rbox 63 (.cons (.rown 62 (.pair (.int .i64) (.slice .byte))) .nil)) .nil))
def slices_All_net_one_net_one_1_f1.C (N : Nat) : Ctx := ⟨U, 18, fun _ => true, gam [], gamY [(1000001, Y1.yc N)]⟩
theorem slices_All_net_one_net_one_1_f1.cok (N : Nat) : (slices_All_net_one_net_one_1_f1.C N).Ok Try.prog := ⟨U_ok, GamOk.nil, GamYOk.cons (Y1.ok N) (GamYOk.nil)⟩
def slices_All_net_one_net_one_1_f1.code : Code := Try.f37.body.getD .skip
def slices_All_net_one_net_one_1_f1_0.ins : Sh := (.cons (.box 1000001 (.cons (.val (.int .i64)) (.cons (.junk) (.cons (.junk) (.cons (.junk) (.cons (.rbox 3 (.cons (.val (.int .i64)) .nil)) (.cons (.rbox 76 (.cons (.box 1000000 (.cons (.val (.int .i64)) (.cons (.junk) (.cons (.junk) (.cons (.junk) (.cons (.rbox 43 (.cons (.val (.int .i64)) (.cons (.val (.slice (.pair (.int .i64) (.slice .byte)))) .nil))) (.cons (.box 4 (.cons (.val .bool) .nil)) (.cons (.rbox 82 (.cons (.rown 3 (.int .i64)) .nil)) (.cons (.box 3 (.cons (.val (.int .i64)) .nil)) .nil))))))))) .nil)) .nil))))))) (.cons (.rown 62 (.pair (.int .i64) (.slice .byte))) (.cons (.val (.int .i64)) (.cons (.val (.int .i64)) .nil))))
def slices_All_net_one_net_one_1_f1_0.ts : List Tmp := [0, 5, 6, 7]
def slices_All_net_one_net_one_1_f1_0.asg : List Tmp := [3, 4, 7, 8, 9, 10, 11, 12, 13, 14, 15, 16, 17]
def slices_All_net_one_net_one_1_f1_0.C (N : Nat) : Ctx := { slices_All_net_one_net_one_1_f1.C N with may := fun t => slices_All_net_one_net_one_1_f1_0.asg.any (Nat.beq t) }
def slices_All_net_one_net_one_1_f1_0.code : Code := loopBody (sub slices_All_net_one_net_one_1_f1.code [true, false])
theorem slices_All_net_one_net_one_1_f1_0.cok (N : Nat) : (slices_All_net_one_net_one_1_f1_0.C N).Ok Try.prog := ⟨(slices_All_net_one_net_one_1_f1.cok N).U, (slices_All_net_one_net_one_1_f1.cok N).Γ, (slices_All_net_one_net_one_1_f1.cok N).Y⟩
def slices_All_net_one_net_one_1_f1_0.alts : List Alt := [⟨.ret, [], (.cons (.upd 5 4 (.cons (.val .bool) .nil)) (.cons (.upd 8 3 (.cons (.val (.int .i64)) .nil)) (.cons (.upd 0 1000001 (.cons (.val (.int .i64)) (.cons (.junk) (.cons (.junk) (.cons (.junk) (.cons (.keep 0 1) (.cons (.keep 0 2) .nil))))))) (.cons (.upd 3 1000000 (.cons (.val (.int .i64)) (.cons (.junk) (.cons (.junk) (.cons (.junk) (.cons (.keep 0 4) (.cons (.ref 0) (.cons (.keep 0 6) (.cons (.ref 1) .nil))))))))) .nil))))⟩, ⟨(.exit 0), [], (.cons (.upd 5 4 (.cons (.val .bool) .nil)) (.cons (.upd 8 3 (.cons (.val (.int .i64)) .nil)) (.cons (.upd 0 1000001 (.cons (.val (.int .i64)) (.cons (.junk) (.cons (.junk) (.cons (.junk) (.cons (.keep 0 1) (.cons (.keep 0 2) .nil))))))) (.cons (.upd 3 1000000 (.cons (.val (.int .i64)) (.cons (.junk) (.cons (.junk) (.cons (.junk) (.cons (.keep 0 4) (.cons (.ref 0) (.cons (.keep 0 6) (.cons (.ref 1) .nil))))))))) .nil))))⟩]
def slices_All_net_one_net_one_1_f1_0.go (N : Nat) : Nat → Int → Int → Int → Int → (List (Int × (List UInt8))) → Bool → (List Int) → Int → (List (Int × (List UInt8))) → Int → Int → Option (((Bool × Unit) × (Int × Unit) × (Int × Unit × Unit × Unit × Unit × Unit × Unit) × (Int × Unit × Unit × Unit × Unit × Unit × Unit × Unit × Unit) × Unit) ⊕ ((Bool × Unit) × (Int × Unit) × (Int × Unit × Unit × Unit × Unit × Unit × Unit) × (Int × Unit × Unit × Unit × Unit × Unit × Unit × Unit × Unit) × Unit))
  | 0, _, _, _, _, _, _, _, _, _, _, _ => none
  | fuel + 1, yield, yield1, yield2, room_, l, yield3, yield4, yield5, t5, t6, t7 =>
    bif decide (t7 < t6) then
      bif inB t7 t5.length then
        bif decide (t7.toNat < t5.length) then
          bif decide (yield = (0 : Int)) then
            obind (Y1.run N yield1 yield2 room_ l yield3 yield4 yield5 t7 (t5.getD t7.toNat ((0 : Int), ([] : List UInt8))).1 (t5.getD t7.toNat ((0 : Int), ([] : List UInt8))).2) fun y => match y with
            | .inl ((v, _), (v1, _), (v2, _, _, _, _, _, _, _, _), _) =>
                slices_All_net_one_net_one_1_f1_0.go N fuel (0 : Int) yield1 v2 room_ l v yield4 v1 t5 t6 (IntKind.i64.wrap (t7 + (1 : Int)))
            | .inr ((v3, _), (v4, _), (v5, _, _, _, _, _, _, _, _), _) =>
                some (.inl ((v3, ()), (v4, ()), ((1 : Int), (), (), (), (), (), ()), (v5, (), (), (), (), (), (), (), ()), ()))
          else none
        else none
      else none
    else some (.inr ((yield3, ()), (yield5, ()), (yield, (), (), (), (), (), ()), (yield2, (), (), (), (), (), (), (), ()), ()))
def slices_All_net_one_net_one_1_f1_0.g (N n : Nat) (x : Sh.den slices_All_net_one_net_one_1_f1_0.ins) : Option (altsDen slices_All_net_one_net_one_1_f1_0.alts) := slices_All_net_one_net_one_1_f1_0.go N n x.1.1 x.1.2.2.2.2.1.1 x.1.2.2.2.2.2.1.1.1 x.1.2.2.2.2.2.1.1.2.2.2.2.1.1 x.1.2.2.2.2.2.1.1.2.2.2.2.1.2.1 x.1.2.2.2.2.2.1.1.2.2.2.2.2.1.1 x.1.2.2.2.2.2.1.1.2.2.2.2.2.2.1.1 x.1.2.2.2.2.2.1.1.2.2.2.2.2.2.2.1.1 x.2.1 x.2.2.1 x.2.2.2.1
def slices_All_net_one_net_one_1_f1_0.P (N : Nat) : Ps := ⟨slices_All_net_one_net_one_1_f1_0.ts, slices_All_net_one_net_one_1_f1_0.ins, slices_All_net_one_net_one_1_f1_0.asg, slices_All_net_one_net_one_1_f1_0.alts, slices_All_net_one_net_one_1_f1_0.g N N⟩
def slices_All_net_one_net_one_1_f1_0.lam (N : Nat) : Pcs := pcs []
theorem slices_All_net_one_net_one_1_f1_0.pok (N : Nat) : (slices_All_net_one_net_one_1_f1_0.lam N).Ok Try.prog (slices_All_net_one_net_one_1_f1_0.C N) slices_All_net_one_net_one_1_f1_0.code := pcsOk_nil
theorem slices_All_net_one_net_one_1_f1_0.ev (N n : Nat) (x : Sh.den slices_All_net_one_net_one_1_f1_0.ins) : evC (slices_All_net_one_net_one_1_f1_0.C N) slices_All_net_one_net_one_1_f1_0.code (slices_All_net_one_net_one_1_f1_0.lam N) ((slices_All_net_one_net_one_1_f1_0.P N).canon 1000 x) (loopK (slices_All_net_one_net_one_1_f1_0.P N) (slices_All_net_one_net_one_1_f1_0.g N n)) = slices_All_net_one_net_one_1_f1_0.g N (n + 1) x := by kernel_rfl
theorem slices_All_net_one_net_one_1_f1_0.ok (N : Nat) : ((slices_All_net_one_net_one_1_f1_0.P N).pc (slices_All_net_one_net_one_1_f1.C N)).Ok Try.prog (slices_All_net_one_net_one_1_f1.C N) (.loop slices_All_net_one_net_one_1_f1_0.code) := loop_ok (F := slices_All_net_one_net_one_1_f1_0.P N) (n0 := 1000) (N := N) (slices_All_net_one_net_one_1_f1.cok N) mix (slices_All_net_one_net_one_1_f1_0.pok N) (slices_All_net_one_net_one_1_f1_0.g N) (fun x => by rfl) rfl (fun n x y h => (slices_All_net_one_net_one_1_f1_0.ev N n x).trans h)
def slices_All_net_one_net_one_1_f1.outs : Sh := (.cons (.upd 5 4 (.cons (.val .bool) .nil)) (.cons (.upd 8 3 (.cons (.val (.int .i64)) .nil)) (.cons (.upd 0 1000001 (.cons (.val (.int .i64)) (.cons (.junk) (.cons (.junk) (.cons (.junk) (.cons (.keep 0 1) (.cons (.keep 0 2) .nil))))))) (.cons (.upd 3 1000000 (.cons (.val (.int .i64)) (.cons (.junk) (.cons (.junk) (.cons (.junk) (.cons (.keep 0 4) (.cons (.ref 0) (.cons (.keep 0 6) (.cons (.ref 1) .nil))))))))) .nil))))
def slices_All_net_one_net_one_1_f1.run (N : Nat) (yield : Int) (yield1 : Int) (yield2 : Int) (room_ : Int) (l : (List (Int × (List UInt8)))) (yield3 : Bool) (yield4 : (List Int)) (yield5 : Int) (t1 : (List (Int × (List UInt8)))) : Option ((Bool × Unit) × (Int × Unit) × (Int × Unit × Unit × Unit × Unit × Unit × Unit) × (Int × Unit × Unit × Unit × Unit × Unit × Unit × Unit × Unit) × Unit) :=
  obind (slices_All_net_one_net_one_1_f1_0.go N N yield yield1 yield2 room_ l yield3 yield4 yield5 t1 (t1.length : Int) (0 : Int)) fun y => match y with
  | .inl ((v, _), (v1, _), (v2, _, _, _, _, _, _), (v3, _, _, _, _, _, _, _, _), _) =>
      some ((v, ()), (v1, ()), (v2, (), (), (), (), (), ()), (v3, (), (), (), (), (), (), (), ()), ())
  | .inr ((v4, _), (v5, _), (v6, _, _, _, _, _, _), (v7, _, _, _, _, _, _, _, _), _) =>
      some ((v4, ()), (v5, ()), (v6, (), (), (), (), (), ()), (v7, (), (), (), (), (), (), (), ()), ())
def slices_All_net_one_net_one_1_f1.fn (N : Nat) (x : Sh.den slices_All_net_one_net_one_1_f1.ins) : Option (Sh.den slices_All_net_one_net_one_1_f1.outs) := slices_All_net_one_net_one_1_f1.run N x.1.1 x.1.2.2.2.2.1.1 x.1.2.2.2.2.2.1.1.1 x.1.2.2.2.2.2.1.1.2.2.2.2.1.1 x.1.2.2.2.2.2.1.1.2.2.2.2.1.2.1 x.1.2.2.2.2.2.1.1.2.2.2.2.2.1.1 x.1.2.2.2.2.2.1.1.2.2.2.2.2.2.1.1 x.1.2.2.2.2.2.1.1.2.2.2.2.2.2.2.1.1 x.2.1.1
def slices_All_net_one_net_one_1_f1.S (N : Nat) : Fs := ⟨slices_All_net_one_net_one_1_f1.ins, slices_All_net_one_net_one_1_f1.outs, slices_All_net_one_net_one_1_f1.fn N⟩
def slices_All_net_one_net_one_1_f1.lam (N : Nat) : Pcs := pcs [([true, false], (slices_All_net_one_net_one_1_f1_0.P N).pc (slices_All_net_one_net_one_1_f1.C N))]
theorem slices_All_net_one_net_one_1_f1.pok (N : Nat) : (slices_All_net_one_net_one_1_f1.lam N).Ok Try.prog (slices_All_net_one_net_one_1_f1.C N) slices_All_net_one_net_one_1_f1.code := pcsOk_cons (c1 := .loop slices_All_net_one_net_one_1_f1_0.code) (by kernel_rfl) (slices_All_net_one_net_one_1_f1_0.ok N) (pcsOk_nil)
theorem slices_All_net_one_net_one_1_f1.ev (N : Nat) (x : Sh.den slices_All_net_one_net_one_1_f1.ins) : evC (slices_All_net_one_net_one_1_f1.C N) slices_All_net_one_net_one_1_f1.code (slices_All_net_one_net_one_1_f1.lam N) ⟨envOf 0 (bld (fun k => k) slices_All_net_one_net_one_1_f1.ins x 0).1, (bld (fun k => k) slices_All_net_one_net_one_1_f1.ins x 0).2.1, 1000⟩ (endF U slices_All_net_one_net_one_1_f1.outs Try.f37.results.toList []) = slices_All_net_one_net_one_1_f1.fn N x := by kernel_rfl
theorem slices_All_net_one_net_one_1_f1.ok (N : Nat) : (slices_All_net_one_net_one_1_f1.S N).con.Ok Try.prog 37 := fn_ok (F := slices_All_net_one_net_one_1_f1.S N) (n0 := 1000) Try.func37 (by kernel_rfl) (show Try.f37.body = some slices_All_net_one_net_one_1_f1.code by rfl) mix (slices_All_net_one_net_one_1_f1.cok N) (fun _ => rfl) (fun _ => rfl) (slices_All_net_one_net_one_1_f1.pok N) (fun x y h => (slices_All_net_one_net_one_1_f1.ev N x).trans h)
/-- (*hayloft/net.Net).To$1 -/
def net_Net_To_f1.ins : Sh := (.cons (.box 1000000 (.cons (.val (.int .i64)) (.cons (.junk) (.cons (.junk) (.cons (.junk) (.cons (.rbox 43 (.cons (.val (.int .i64)) (.cons (.val (.slice (.pair (.int .i64) (.slice .byte)))) .nil))) (.cons (.box 4 (.cons (.val .bool) .nil)) (.cons (.rbox 82 (.cons (.rown 3 (.int .i64)) .nil)) (.cons (.box 3 (.cons (.val (.int .i64)) .nil)) .nil))))))))) (.cons (.rbox 23 (.cons (.rbox 65 (.cons (.val (.int .i64)) (.cons (.rown 62 (.pair (.int .i64) (.slice .byte))) .nil))) .nil)) (.cons (.rbox 3 (.cons (.val (.int .i64)) .nil)) .nil)))
def net_Net_To_f1.C (N : Nat) : Ctx := ⟨U, 27, fun _ => true, gam [(27, (slices_Clone_net_one_net_one.S N).con), (35, (slices_All_net_one_net_one.S N).con), (37, (slices_All_net_one_net_one_1_f1.S N).con)], gamY []⟩
theorem net_Net_To_f1.cok (N : Nat) : (net_Net_To_f1.C N).Ok Try.prog := ⟨U_ok, GamOk.cons (slices_Clone_net_one_net_one.ok N) (GamOk.cons (slices_All_net_one_net_one.ok N) (GamOk.cons (slices_All_net_one_net_one_1_f1.ok N) (GamOk.nil))), GamYOk.nil⟩
def net_Net_To_f1.code : Code := Try.f34.body.getD .skip
def net_Net_To_f1.outs : Sh := (.cons (.upd 2 4 (.cons (.val .bool) .nil)) (.cons (.upd 5 3 (.cons (.val (.int .i64)) .nil)) (.cons (.upd 0 1000000 (.cons (.val (.int .i64)) (.cons (.junk) (.cons (.junk) (.cons (.junk) (.cons (.keep 0 1) (.cons (.ref 0) (.cons (.keep 0 3) (.cons (.ref 1) .nil))))))))) .nil)))
def net_Net_To_f1.run (N : Nat) (yield : Int) (room_ : Int) (l : (List (Int × (List UInt8)))) (yield1 : Bool) (yield2 : (List Int)) (yield3 : Int) (room1 : Int) (l1 : (List (Int × (List UInt8)))) (t2 : Int) : Option ((Bool × Unit) × (Int × Unit) × (Int × Unit × Unit × Unit × Unit × Unit × Unit × Unit × Unit) × Unit) :=
  obind (slices_Clone_net_one_net_one.run N l1) fun (l2, _) =>
    obind (slices_All_net_one_net_one.run N l2) fun (((v, _), _), _) =>
      obind (slices_All_net_one_net_one_1_f1.run N (0 : Int) t2 yield room_ l yield1 yield2 yield3 v) fun ((v1, _), (v2, _), (v3, _, _, _, _, _, _), (v4, _, _, _, _, _, _, _, _), _) =>
        bif decide (v3 = (0 : Int)) then
          some ((v1, ()), (v2, ()), (v4, (), (), (), (), (), (), (), ()), ())
        else
          bif decide (v3 = (1 : Int)) then
            some ((v1, ()), (v2, ()), (v4, (), (), (), (), (), (), (), ()), ())
          else none
def net_Net_To_f1.fn (N : Nat) (x : Sh.den net_Net_To_f1.ins) : Option (Sh.den net_Net_To_f1.outs) := net_Net_To_f1.run N x.1.1 x.1.2.2.2.2.1.1 x.1.2.2.2.2.1.2.1 x.1.2.2.2.2.2.1.1 x.1.2.2.2.2.2.2.1.1 x.1.2.2.2.2.2.2.2.1.1 x.2.1.1.1 x.2.1.1.2.1 x.2.2.1.1
def net_Net_To_f1.S (N : Nat) : Fs := ⟨net_Net_To_f1.ins, net_Net_To_f1.outs, net_Net_To_f1.fn N⟩
def net_Net_To_f1.lam (N : Nat) : Pcs := pcs [([true, true, false], rfPc (net_Net_To_f1.C N) 1000001 (.tmp 11) [2, 3] [.normal, .ret])]
theorem net_Net_To_f1.pok (N : Nat) : (net_Net_To_f1.lam N).Ok Try.prog (net_Net_To_f1.C N) net_Net_To_f1.code := pcsOk_cons (c1 := .rangeFunc (.tmp 11) site1.ps site1.assign site1.body) (by kernel_rfl) (rf_ok (k := 1) (fun _ => rfl) (net_Net_To_f1.cok N)) (pcsOk_nil)
theorem net_Net_To_f1.ev (N : Nat) (x : Sh.den net_Net_To_f1.ins) : evC (net_Net_To_f1.C N) net_Net_To_f1.code (net_Net_To_f1.lam N) ⟨envOf 0 (bld (fun k => k) net_Net_To_f1.ins x 0).1, (bld (fun k => k) net_Net_To_f1.ins x 0).2.1, 1000⟩ (endF U net_Net_To_f1.outs Try.f34.results.toList []) = net_Net_To_f1.fn N x := by kernel_rfl
theorem net_Net_To_f1.ok (N : Nat) : (net_Net_To_f1.S N).con.Ok Try.prog 34 := fn_ok (F := net_Net_To_f1.S N) (n0 := 1000) Try.func34 (by kernel_rfl) (show Try.f34.body = some net_Net_To_f1.code by rfl) mix (net_Net_To_f1.cok N) (fun _ => rfl) (fun _ => rfl) (net_Net_To_f1.pok N) (fun x y h => (net_Net_To_f1.ev N x).trans h)
/-- hayloft/hayloftlaw05.told -/
def law_told.ins : Sh := (.cons (.box 65 (.cons (.val (.int .i64)) (.cons (.own 62 (.pair (.int .i64) (.slice .byte))) .nil))) (.cons (.val (.pair (.int .i64) (.slice (.pair (.int .i64) (.slice .byte))))) (.cons (.val (.int .i64)) .nil)))
def law_told.C (N : Nat) : Ctx := ⟨U, 78, fun _ => true, gam [(22, (net_Net_To.S N).con), (34, (net_Net_To_f1.S N).con)], gamY []⟩
theorem law_told.cok (N : Nat) : (law_told.C N).Ok Try.prog := ⟨U_ok, GamOk.cons (net_Net_To.ok N) (GamOk.cons (net_Net_To_f1.ok N) (GamOk.nil)), GamYOk.nil⟩
def law_told.code : Code := Try.f33.body.getD .skip
def law_told_0.ins : Sh := (.cons (.val (.int .i64)) (.cons (.box 82 (.cons (.own 3 (.int .i64)) .nil)) (.cons (.val (.slice (.pair (.int .i64) (.slice .byte)))) (.cons (.val (.int .i64)) (.cons (.val (.int .i64)) .nil)))))
def law_told_0.ts : List Tmp := [2, 7, 15, 16, 17]
def law_told_0.asg : List Tmp := [8, 9, 17, 18, 19, 20, 21, 22, 23, 24, 25, 26, 27, 28, 29, 30]
def law_told_0.C (N : Nat) : Ctx := { law_told.C N with may := fun t => law_told_0.asg.any (Nat.beq t) }
def law_told_0.code : Code := loopBody (sub law_told.code [true, true, false, true, false])
theorem law_told_0.cok (N : Nat) : (law_told_0.C N).Ok Try.prog := ⟨(law_told.cok N).U, (law_told.cok N).Γ, (law_told.cok N).Y⟩
def law_told_0.alts : List Alt := [⟨(.exit 0), [], (.cons (.upd 0 82 (.cons (.own 3 (.int .i64)) .nil)) .nil)⟩]
def law_told_0.go (N : Nat) : Nat → Int → (List Int) → (List (Int × (List UInt8))) → Int → Int → Option ((((List Int) × Unit) × Unit))
  | 0, _, _, _, _, _ => none
  | fuel + 1, to_, at_, t15, t16, t17 =>
    bif decide (t17 < t16) then
      bif inB t17 t15.length then
        bif decide ((t15.getD t17.toNat ((0 : Int), ([] : List UInt8))).1 = to_) then
          bif room (at_.length + 1) 8 then
            law_told_0.go N fuel to_ (at_ ++ ([t17] : List Int)) t15 t16 (IntKind.i64.wrap (t17 + (1 : Int)))
          else none
        else law_told_0.go N fuel to_ at_ t15 t16 (IntKind.i64.wrap (t17 + (1 : Int)))
      else none
    else some ((at_, ()), ())
def law_told_0.g (N n : Nat) (x : Sh.den law_told_0.ins) : Option (altsDen law_told_0.alts) := law_told_0.go N n x.1 x.2.1.1 x.2.2.1 x.2.2.2.1 x.2.2.2.2.1
def law_told_0.P (N : Nat) : Ps := ⟨law_told_0.ts, law_told_0.ins, law_told_0.asg, law_told_0.alts, law_told_0.g N N⟩
def law_told_0.lam (N : Nat) : Pcs := pcs []
theorem law_told_0.pok (N : Nat) : (law_told_0.lam N).Ok Try.prog (law_told_0.C N) law_told_0.code := pcsOk_nil
theorem law_told_0.ev (N n : Nat) (x : Sh.den law_told_0.ins) : evC (law_told_0.C N) law_told_0.code (law_told_0.lam N) ((law_told_0.P N).canon 1000 x) (loopK (law_told_0.P N) (law_told_0.g N n)) = law_told_0.g N (n + 1) x := by kernel_rfl
theorem law_told_0.ok (N : Nat) : ((law_told_0.P N).pc (law_told.C N)).Ok Try.prog (law_told.C N) (.loop law_told_0.code) := loop_ok (F := law_told_0.P N) (n0 := 1000) (N := N) (law_told.cok N) mix (law_told_0.pok N) (law_told_0.g N) (fun x => by rfl) rfl (fun n x y h => (law_told_0.ev N n x).trans h)
def law_told.outs : Sh := (.cons (.upd 0 65 (.cons (.val (.int .i64)) (.cons (.own 62 (.pair (.int .i64) (.slice .byte))) .nil))) (.cons (.val .bool) .nil))
def law_told.run (N : Nat) (room_ : Int) (l : (List (Int × (List UInt8)))) (r : (Int × (List (Int × (List UInt8))))) (to_ : Int) : Option ((Int × (List (Int × (List UInt8))) × Unit) × Bool × Unit) :=
  obind (law_told_0.go N N to_ ([] : List Int) r.2 (r.2.length : Int) (0 : Int)) fun ((v, _), _) =>
    obind (net_Net_To.run N room_ l to_) fun ((room1, l1, _), ((_, _), (v1, _), _), _) =>
      obind (net_Net_To_f1.run N (0 : Int) r.1 r.2 false v (0 : Int) room1 l1 v1) fun ((v2, _), (v3, _), (v4, _, _, _, _, _, _, _, _), _) =>
        bif decide (v4 = (0 : Int)) then
          some ((room1, l1, ()), decide (v3 = (v.length : Int)), ())
        else
          bif decide (v4 = (1 : Int)) then
            some ((room1, l1, ()), v2, ())
          else none
def law_told.fn (N : Nat) (x : Sh.den law_told.ins) : Option (Sh.den law_told.outs) := law_told.run N x.1.1 x.1.2.1 x.2.1 x.2.2.1
def law_told.S (N : Nat) : Fs := ⟨law_told.ins, law_told.outs, law_told.fn N⟩
def law_told.lam (N : Nat) : Pcs := pcs [([true, true, true, true, false, true, false], rfPc (law_told.C N) 1000000 (.tmp 33) [4, 6, 7, 10] [.normal, .ret]), ([true, true, false, true, false], (law_told_0.P N).pc (law_told.C N))]
theorem law_told.pok (N : Nat) : (law_told.lam N).Ok Try.prog (law_told.C N) law_told.code := pcsOk_cons (c1 := .rangeFunc (.tmp 33) site0.ps site0.assign site0.body) (by kernel_rfl) (rf_ok (k := 0) (fun _ => rfl) (law_told.cok N)) (pcsOk_cons (c1 := .loop law_told_0.code) (by kernel_rfl) (law_told_0.ok N) (pcsOk_nil))
theorem law_told.ev (N : Nat) (x : Sh.den law_told.ins) : evC (law_told.C N) law_told.code (law_told.lam N) ⟨envOf 0 (bld (fun k => k) law_told.ins x 0).1, (bld (fun k => k) law_told.ins x 0).2.1, 1000⟩ (endF U law_told.outs Try.f33.results.toList []) = law_told.fn N x := by kernel_rfl
theorem law_told.ok (N : Nat) : (law_told.S N).con.Ok Try.prog 33 := fn_ok (F := law_told.S N) (n0 := 1000) Try.func33 (by kernel_rfl) (show Try.f33.body = some law_told.code by rfl) mix (law_told.cok N) (fun _ => rfl) (fun _ => rfl) (law_told.pok N) (fun x y h => (law_told.ev N x).trans h)
/-- (*hayloft/net.Net).Clone -/
def net_Net_Clone.ins : Sh := (.cons (.rbox 65 (.cons (.val (.int .i64)) (.cons (.rown 62 (.pair (.int .i64) (.slice .byte))) .nil))) .nil)
def net_Net_Clone.C (N : Nat) : Ctx := ⟨U, 14, fun _ => true, gam [(27, (slices_Clone_net_one_net_one.S N).con)], gamY []⟩
theorem net_Net_Clone.cok (N : Nat) : (net_Net_Clone.C N).Ok Try.prog := ⟨U_ok, GamOk.cons (slices_Clone_net_one_net_one.ok N) (GamOk.nil), GamYOk.nil⟩
def net_Net_Clone.code : Code := Try.f19.body.getD .skip
def net_Net_Clone.outs : Sh := (.cons (.box 65 (.cons (.val (.int .i64)) (.cons (.own 62 (.pair (.int .i64) (.slice .byte))) .nil))) .nil)
def net_Net_Clone.run (N : Nat) (room_ : Int) (l : (List (Int × (List UInt8)))) : Option ((Int × (List (Int × (List UInt8))) × Unit) × Unit) :=
  obind (slices_Clone_net_one_net_one.run N l) fun (l1, _) =>
    some ((room_, l1, ()), ())
def net_Net_Clone.fn (N : Nat) (x : Sh.den net_Net_Clone.ins) : Option (Sh.den net_Net_Clone.outs) := net_Net_Clone.run N x.1.1 x.1.2.1
def net_Net_Clone.S (N : Nat) : Fs := ⟨net_Net_Clone.ins, net_Net_Clone.outs, net_Net_Clone.fn N⟩
def net_Net_Clone.lam (N : Nat) : Pcs := pcs []
theorem net_Net_Clone.pok (N : Nat) : (net_Net_Clone.lam N).Ok Try.prog (net_Net_Clone.C N) net_Net_Clone.code := pcsOk_nil
theorem net_Net_Clone.ev (N : Nat) (x : Sh.den net_Net_Clone.ins) : evC (net_Net_Clone.C N) net_Net_Clone.code (net_Net_Clone.lam N) ⟨envOf 0 (bld (fun k => k) net_Net_Clone.ins x 0).1, (bld (fun k => k) net_Net_Clone.ins x 0).2.1, 1000⟩ (endF U net_Net_Clone.outs Try.f19.results.toList []) = net_Net_Clone.fn N x := by kernel_rfl
theorem net_Net_Clone.ok (N : Nat) : (net_Net_Clone.S N).con.Ok Try.prog 19 := fn_ok (F := net_Net_Clone.S N) (n0 := 1000) Try.func19 (by kernel_rfl) (show Try.f19.body = some net_Net_Clone.code by rfl) mix (net_Net_Clone.cok N) (fun _ => rfl) (fun _ => rfl) (net_Net_Clone.pok N) (fun x y h => (net_Net_Clone.ev N x).trans h)
/-- hayloft/hayloftlaw05.stands -/
def law_stands.ins : Sh := (.cons (.rbox 65 (.cons (.val (.int .i64)) (.cons (.rown 62 (.pair (.int .i64) (.slice .byte))) .nil))) (.cons (.val (.pair (.int .i64) (.slice (.pair (.int .i64) (.slice .byte))))) .nil))
def law_stands.C (N : Nat) : Ctx := ⟨U, 64, fun _ => true, gam [(10, (net_Net_At.S N).con), (15, (net_Net_Len.S N).con)], gamY []⟩
theorem law_stands.cok (N : Nat) : (law_stands.C N).Ok Try.prog := ⟨U_ok, GamOk.cons (net_Net_At.ok N) (GamOk.cons (net_Net_Len.ok N) (GamOk.nil)), GamYOk.nil⟩
def law_stands.code : Code := Try.f21.body.getD .skip
def law_stands_0.ins : Sh := (.cons (.rbox 65 (.cons (.val (.int .i64)) (.cons (.rown 62 (.pair (.int .i64) (.slice .byte))) .nil))) (.cons (.val (.slice (.pair (.int .i64) (.slice .byte)))) (.cons (.val (.int .i64)) (.cons (.val (.int .i64)) .nil))))
def law_stands_0.ts : List Tmp := [0, 14, 15, 16]
def law_stands_0.asg : List Tmp := [4, 5, 6, 7, 8, 9, 16, 17, 18, 19, 20, 21, 22, 23, 24, 25, 26, 27, 28, 29, 30, 31, 32, 33, 34, 35, 36, 37, 38, 39, 40, 41, 42, 43, 44]
def law_stands_0.C (N : Nat) : Ctx := { law_stands.C N with may := fun t => law_stands_0.asg.any (Nat.beq t) }
def law_stands_0.code : Code := loopBody (sub law_stands.code [true, false, true, false])
theorem law_stands_0.cok (N : Nat) : (law_stands_0.C N).Ok Try.prog := ⟨(law_stands.cok N).U, (law_stands.cok N).Γ, (law_stands.cok N).Y⟩
def law_stands_0.alts : List Alt := [⟨.ret, [4], (.cons (.val .bool) .nil)⟩, ⟨(.exit 0), [], .nil⟩]
def law_stands_0.go (N : Nat) : Nat → Int → (List (Int × (List UInt8))) → (List (Int × (List UInt8))) → Int → Int → Option ((Bool × Unit) ⊕ Unit)
  | 0, _, _, _, _, _ => none
  | fuel + 1, room_, l, t14, t15, t16 =>
    bif decide (t16 < t15) then
      bif inB t16 t14.length then
        obind (net_Net_At.run N room_ l t16) fun (n_, l1, b, _) =>
          bif !(decide (n_ = (t14.getD t16.toNat ((0 : Int), ([] : List UInt8))).1)) then
            some (.inl (false, ()))
          else
            bif !(decide (l1 = (t14.getD t16.toNat ((0 : Int), ([] : List UInt8))).2)) then
              some (.inl (false, ()))
            else
              bif !b then
                some (.inl (false, ()))
              else law_stands_0.go N fuel room_ l t14 t15 (IntKind.i64.wrap (t16 + (1 : Int)))
      else none
    else some (.inr ())
def law_stands_0.g (N n : Nat) (x : Sh.den law_stands_0.ins) : Option (altsDen law_stands_0.alts) := law_stands_0.go N n x.1.1 x.1.2.1 x.2.1 x.2.2.1 x.2.2.2.1
def law_stands_0.P (N : Nat) : Ps := ⟨law_stands_0.ts, law_stands_0.ins, law_stands_0.asg, law_stands_0.alts, law_stands_0.g N N⟩
def law_stands_0.lam (N : Nat) : Pcs := pcs []
theorem law_stands_0.pok (N : Nat) : (law_stands_0.lam N).Ok Try.prog (law_stands_0.C N) law_stands_0.code := pcsOk_nil
theorem law_stands_0.ev (N n : Nat) (x : Sh.den law_stands_0.ins) : evC (law_stands_0.C N) law_stands_0.code (law_stands_0.lam N) ((law_stands_0.P N).canon 1000 x) (loopK (law_stands_0.P N) (law_stands_0.g N n)) = law_stands_0.g N (n + 1) x := by kernel_rfl
theorem law_stands_0.ok (N : Nat) : ((law_stands_0.P N).pc (law_stands.C N)).Ok Try.prog (law_stands.C N) (.loop law_stands_0.code) := loop_ok (F := law_stands_0.P N) (n0 := 1000) (N := N) (law_stands.cok N) mix (law_stands_0.pok N) (law_stands_0.g N) (fun x => by rfl) rfl (fun n x y h => (law_stands_0.ev N n x).trans h)
def law_stands.outs : Sh := (.cons (.val .bool) .nil)
def law_stands.run (N : Nat) (room_ : Int) (l : (List (Int × (List UInt8)))) (r : (Int × (List (Int × (List UInt8))))) : Option (Bool × Unit) :=
  obind (law_stands_0.go N N room_ l r.2 (r.2.length : Int) (0 : Int)) fun y => match y with
  | .inl (t4, _) =>
      some (t4, ())
  | .inr (_) =>
      obind (net_Net_At.run N room_ l (r.2.length : Int)) fun (n_, l1, b, _) =>
        obind (net_Net_Len.run N room_ l) fun (n1, _) =>
          bif decide (n1 = (r.2.length : Int)) then
            some (!b, ())
          else some (false, ())
def law_stands.fn (N : Nat) (x : Sh.den law_stands.ins) : Option (Sh.den law_stands.outs) := law_stands.run N x.1.1 x.1.2.1 x.2.1
def law_stands.S (N : Nat) : Fs := ⟨law_stands.ins, law_stands.outs, law_stands.fn N⟩
def law_stands.lam (N : Nat) : Pcs := pcs [([true, false, true, false], (law_stands_0.P N).pc (law_stands.C N))]
theorem law_stands.pok (N : Nat) : (law_stands.lam N).Ok Try.prog (law_stands.C N) law_stands.code := pcsOk_cons (c1 := .loop law_stands_0.code) (by kernel_rfl) (law_stands_0.ok N) (pcsOk_nil)
theorem law_stands.ev (N : Nat) (x : Sh.den law_stands.ins) : evC (law_stands.C N) law_stands.code (law_stands.lam N) ⟨envOf 0 (bld (fun k => k) law_stands.ins x 0).1, (bld (fun k => k) law_stands.ins x 0).2.1, 1000⟩ (endF U law_stands.outs Try.f21.results.toList []) = law_stands.fn N x := by kernel_rfl
theorem law_stands.ok (N : Nat) : (law_stands.S N).con.Ok Try.prog 21 := fn_ok (F := law_stands.S N) (n0 := 1000) Try.func21 (by kernel_rfl) (show Try.f21.body = some law_stands.code by rfl) mix (law_stands.cok N) (fun _ => rfl) (fun _ => rfl) (law_stands.pok N) (fun x y h => (law_stands.ev N x).trans h)
/-- hayloft/hayloftlaw05.step -/
def law_step.ins : Sh := (.cons (.box 65 (.cons (.val (.int .i64)) (.cons (.own 62 (.pair (.int .i64) (.slice .byte))) .nil))) (.cons (.val (.pair (.int .i64) (.slice (.pair (.int .i64) (.slice .byte))))) (.cons (.val (.pair (.int .i64) (.pair (.int .i64) (.pair (.int .i64) (.slice .byte))))) .nil)))
def law_step.C (N : Nat) : Ctx := ⟨U, 187, fun _ => true, gam [(11, (net_Net_Send.S N).con), (28, (ref_Send.S N).con), (10, (net_Net_At.S N).con), (29, (law_asked.S N).con), (12, (net_Net_Take.S N).con), (30, (ref_There.S N).con), (31, (ref_Out.S N).con), (13, (net_Net_Drop.S N).con), (14, (net_Net_Double.S N).con), (32, (ref_Double.S N).con), (33, (law_told.S N).con), (19, (net_Net_Clone.S N).con), (21, (law_stands.S N).con)], gamY []⟩
theorem law_step.cok (N : Nat) : (law_step.C N).Ok Try.prog := ⟨U_ok, GamOk.cons (net_Net_Send.ok N) (GamOk.cons (ref_Send.ok N) (GamOk.cons (net_Net_At.ok N) (GamOk.cons (law_asked.ok N) (GamOk.cons (net_Net_Take.ok N) (GamOk.cons (ref_There.ok N) (GamOk.cons (ref_Out.ok N) (GamOk.cons (net_Net_Drop.ok N) (GamOk.cons (net_Net_Double.ok N) (GamOk.cons (ref_Double.ok N) (GamOk.cons (law_told.ok N) (GamOk.cons (net_Net_Clone.ok N) (GamOk.cons (law_stands.ok N) (GamOk.nil))))))))))))), GamYOk.nil⟩
def law_step.code : Code := Try.f20.body.getD .skip
def law_step_0.ins : Sh := (.cons (.own 5 .byte) (.cons (.val (.int .i64)) (.cons (.val (.int .i64)) .nil)))
def law_step_0.ts : List Tmp := [9, 42, 43]
def law_step_0.asg : List Tmp := [11, 43, 44, 45, 46, 47, 48, 49, 50, 51, 52]
def law_step_0.C (N : Nat) : Ctx := { law_step.C N with may := fun t => law_step_0.asg.any (Nat.beq t) }
def law_step_0.code : Code := loopBody (sub law_step.code [true, false, true, false, true, false, true, true, false, true, false])
theorem law_step_0.cok (N : Nat) : (law_step_0.C N).Ok Try.prog := ⟨(law_step.cok N).U, (law_step.cok N).Γ, (law_step.cok N).Y⟩
def law_step_0.alts : List Alt := [⟨(.exit 1), [], .nil⟩]
def law_step_0.go (N : Nat) : Nat → (List UInt8) → Int → Int → Option (Unit)
  | 0, _, _, _ => none
  | fuel + 1, own, t42, t43 =>
    bif decide (t43 < t42) then
      bif inB t43 own.length then
        bif decide (t43.toNat < own.length) then
          bif inB t43 own.length then
            bif decide (t43.toNat < own.length) then
              law_step_0.go N fuel (own.set t43.toNat (Hay.u8 (IntKind.u8.wrap (((own.getD t43.toNat (0 : UInt8)).toNat : Int) + (1 : Int))))) t42 (IntKind.i64.wrap (t43 + (1 : Int)))
            else none
          else none
        else none
      else none
    else some ()
def law_step_0.g (N n : Nat) (x : Sh.den law_step_0.ins) : Option (altsDen law_step_0.alts) := law_step_0.go N n x.1 x.2.1 x.2.2.1
def law_step_0.P (N : Nat) : Ps := ⟨law_step_0.ts, law_step_0.ins, law_step_0.asg, law_step_0.alts, law_step_0.g N N⟩
def law_step_0.lam (N : Nat) : Pcs := pcs []
theorem law_step_0.pok (N : Nat) : (law_step_0.lam N).Ok Try.prog (law_step_0.C N) law_step_0.code := pcsOk_nil
theorem law_step_0.ev (N n : Nat) (x : Sh.den law_step_0.ins) : evC (law_step_0.C N) law_step_0.code (law_step_0.lam N) ((law_step_0.P N).canon 1000 x) (loopK (law_step_0.P N) (law_step_0.g N n)) = law_step_0.g N (n + 1) x := by kernel_rfl
theorem law_step_0.ok (N : Nat) : ((law_step_0.P N).pc (law_step.C N)).Ok Try.prog (law_step.C N) (.loop law_step_0.code) := loop_ok (F := law_step_0.P N) (n0 := 1000) (N := N) (law_step.cok N) mix (law_step_0.pok N) (law_step_0.g N) (fun x => by rfl) rfl (fun n x y h => (law_step_0.ev N n x).trans h)
def law_step_1.ins : Sh := (.cons (.own 5 .byte) (.cons (.val (.int .i64)) (.cons (.val (.int .i64)) .nil)))
def law_step_1.ts : List Tmp := [15, 85, 86]
def law_step_1.asg : List Tmp := [18, 86, 87, 88, 89, 90, 91, 92, 93, 94, 95]
def law_step_1.C (N : Nat) : Ctx := { law_step.C N with may := fun t => law_step_1.asg.any (Nat.beq t) }
def law_step_1.code : Code := loopBody (sub law_step.code [true, false, true, false, true, true, true, false, true, true, false, true, false])
theorem law_step_1.cok (N : Nat) : (law_step_1.C N).Ok Try.prog := ⟨(law_step.cok N).U, (law_step.cok N).Γ, (law_step.cok N).Y⟩
def law_step_1.alts : List Alt := [⟨(.exit 3), [], .nil⟩]
def law_step_1.go (N : Nat) : Nat → (List UInt8) → Int → Int → Option (Unit)
  | 0, _, _, _ => none
  | fuel + 1, b, t85, t86 =>
    bif decide (t86 < t85) then
      bif inB t86 b.length then
        bif decide (t86.toNat < b.length) then
          bif inB t86 b.length then
            bif decide (t86.toNat < b.length) then
              law_step_1.go N fuel (b.set t86.toNat (Hay.u8 (IntKind.u8.wrap (((b.getD t86.toNat (0 : UInt8)).toNat : Int) + (1 : Int))))) t85 (IntKind.i64.wrap (t86 + (1 : Int)))
            else none
          else none
        else none
      else none
    else some ()
def law_step_1.g (N n : Nat) (x : Sh.den law_step_1.ins) : Option (altsDen law_step_1.alts) := law_step_1.go N n x.1 x.2.1 x.2.2.1
def law_step_1.P (N : Nat) : Ps := ⟨law_step_1.ts, law_step_1.ins, law_step_1.asg, law_step_1.alts, law_step_1.g N N⟩
def law_step_1.lam (N : Nat) : Pcs := pcs []
theorem law_step_1.pok (N : Nat) : (law_step_1.lam N).Ok Try.prog (law_step_1.C N) law_step_1.code := pcsOk_nil
theorem law_step_1.ev (N n : Nat) (x : Sh.den law_step_1.ins) : evC (law_step_1.C N) law_step_1.code (law_step_1.lam N) ((law_step_1.P N).canon 1000 x) (loopK (law_step_1.P N) (law_step_1.g N n)) = law_step_1.g N (n + 1) x := by kernel_rfl
theorem law_step_1.ok (N : Nat) : ((law_step_1.P N).pc (law_step.C N)).Ok Try.prog (law_step.C N) (.loop law_step_1.code) := loop_ok (F := law_step_1.P N) (n0 := 1000) (N := N) (law_step.cok N) mix (law_step_1.pok N) (law_step_1.g N) (fun x => by rfl) rfl (fun n x y h => (law_step_1.ev N n x).trans h)
def law_step.outs : Sh := (.cons (.box 65 (.cons (.val (.int .i64)) (.cons (.own 62 (.pair (.int .i64) (.slice .byte))) .nil))) (.cons (.val (.pair (.int .i64) (.slice (.pair (.int .i64) (.slice .byte))))) (.cons (.val .bool) .nil)))
def law_step.run (N : Nat) (room_ : Int) (l : (List (Int × (List UInt8)))) (r : (Int × (List (Int × (List UInt8))))) (o : (Int × (Int × (Int × (List UInt8))))) : Option ((Int × (List (Int × (List UInt8))) × Unit) × (Int × (List (Int × (List UInt8)))) × Bool × Unit) :=
  bif decide (o.1 = (0 : Int)) then
    bif room o.2.2.2.length 1 then
      obind (net_Net_Send.run N room_ l o.2.1 o.2.2.2) fun ((room1, l1, _), n_, _) =>
        obind (law_step_0.go N N o.2.2.2 (o.2.2.2.length : Int) (0 : Int)) fun _ =>
          obind (ref_Send.run N r o.2.1 o.2.2.2) fun (v, n1, _) =>
            some ((room1, l1, ()), v, decide (n_ = n1), ())
    else none
  else
    bif decide (o.1 = (1 : Int)) then
      obind (net_Net_At.run N room_ l o.2.2.1) fun (n2, l2, b, _) =>
        obind (law_asked.run N n2 l2 b r o.2.2.1) fun (b1, _) =>
          obind (law_step_1.go N N l2 (l2.length : Int) (0 : Int)) fun _ =>
            some ((room_, l, ()), r, b1, ())
    else
      bif decide (o.1 = (2 : Int)) then
        obind (net_Net_Take.run N room_ l o.2.2.1) fun ((room2, l3, _), n3, l4, b2, _) =>
          obind (law_asked.run N n3 l4 b2 r o.2.2.1) fun (b3, _) =>
            obind (ref_There.run N r o.2.2.1) fun (b4, _) =>
              bif b4 then
                obind (ref_Out.run N r o.2.2.1) fun (v1, _) =>
                  some ((room2, l3, ()), v1, b3, ())
              else some ((room2, l3, ()), r, b3, ())
      else
        bif decide (o.1 = (3 : Int)) then
          obind (net_Net_Drop.run N room_ l o.2.2.1) fun ((room3, l5, _), b5, _) =>
            obind (ref_There.run N r o.2.2.1) fun (b6, _) =>
              bif b6 then
                obind (ref_Out.run N r o.2.2.1) fun (v2, _) =>
                  some ((room3, l5, ()), v2, b5 == b6, ())
              else some ((room3, l5, ()), r, b5 == b6, ())
        else
          bif decide (o.1 = (4 : Int)) then
            obind (net_Net_Double.run N room_ l o.2.2.1) fun ((room4, l6, _), n4, _) =>
              obind (ref_Double.run N r o.2.2.1) fun (v3, n5, _) =>
                some ((room4, l6, ()), v3, decide (n4 = n5), ())
          else
            bif decide (o.1 = (5 : Int)) then
              obind (law_told.run N room_ l r o.2.1) fun ((room5, l7, _), b7, _) =>
                some ((room5, l7, ()), r, b7, ())
            else
              bif decide (o.1 = (7 : Int)) then
                obind (net_Net_Clone.run N room_ l) fun ((room6, l8, _), _) =>
                  some ((room6, l8, ()), r, true, ())
              else
                obind (law_stands.run N room_ l r) fun (b8, _) =>
                  some ((room_, l, ()), r, b8, ())
def law_step.fn (N : Nat) (x : Sh.den law_step.ins) : Option (Sh.den law_step.outs) := law_step.run N x.1.1 x.1.2.1 x.2.1 x.2.2.1
def law_step.S (N : Nat) : Fs := ⟨law_step.ins, law_step.outs, law_step.fn N⟩
def law_step.lam (N : Nat) : Pcs := pcs [([true, false, true, false, true, false, true, true, false, true, false], (law_step_0.P N).pc (law_step.C N)), ([true, false, true, false, true, true, true, false, true, true, false, true, false], (law_step_1.P N).pc (law_step.C N))]
theorem law_step.pok (N : Nat) : (law_step.lam N).Ok Try.prog (law_step.C N) law_step.code := pcsOk_cons (c1 := .loop law_step_0.code) (by kernel_rfl) (law_step_0.ok N) (pcsOk_cons (c1 := .loop law_step_1.code) (by kernel_rfl) (law_step_1.ok N) (pcsOk_nil))
theorem law_step.ev (N : Nat) (x : Sh.den law_step.ins) : evC (law_step.C N) law_step.code (law_step.lam N) ⟨envOf 0 (bld (fun k => k) law_step.ins x 0).1, (bld (fun k => k) law_step.ins x 0).2.1, 1000⟩ (endF U law_step.outs Try.f20.results.toList []) = law_step.fn N x := by kernel_rfl
theorem law_step.ok (N : Nat) : (law_step.S N).con.Ok Try.prog 20 := fn_ok (F := law_step.S N) (n0 := 1000) Try.func20 (by kernel_rfl) (show Try.f20.body = some law_step.code by rfl) mix (law_step.cok N) (fun _ => rfl) (fun _ => rfl) (law_step.pok N) (fun x y h => (law_step.ev N x).trans h)
/-- hayloft/hayloftlaw05.run -/
def law_run.ins : Sh := (.cons (.box 65 (.cons (.val (.int .i64)) (.cons (.own 62 (.pair (.int .i64) (.slice .byte))) .nil))) (.cons (.val (.pair (.int .i64) (.slice (.pair (.int .i64) (.slice .byte))))) (.cons (.val (.slice (.pair (.int .i64) (.pair (.int .i64) (.pair (.int .i64) (.slice .byte)))))) .nil)))
def law_run.C (N : Nat) : Ctx := ⟨U, 36, fun _ => true, gam [(20, (law_step.S N).con), (21, (law_stands.S N).con)], gamY []⟩
theorem law_run.cok (N : Nat) : (law_run.C N).Ok Try.prog := ⟨U_ok, GamOk.cons (law_step.ok N) (GamOk.cons (law_stands.ok N) (GamOk.nil)), GamYOk.nil⟩
def law_run.code : Code := Try.f17.body.getD .skip
def law_run_0.ins : Sh := (.cons (.box 65 (.cons (.val (.int .i64)) (.cons (.own 62 (.pair (.int .i64) (.slice .byte))) .nil))) (.cons (.box 43 (.cons (.val (.int .i64)) (.cons (.val (.slice (.pair (.int .i64) (.slice .byte)))) .nil))) (.cons (.box 43 (.cons (.val (.int .i64)) (.cons (.own 57 (.pair (.int .i64) (.slice .byte))) .nil))) (.cons (.val (.slice (.pair (.int .i64) (.pair (.int .i64) (.pair (.int .i64) (.slice .byte)))))) (.cons (.val (.int .i64)) (.cons (.val (.int .i64)) .nil))))))
def law_run_0.ts : List Tmp := [0, 4, 7, 12, 13, 14]
def law_run_0.asg : List Tmp := [0, 6, 8, 9, 11, 14, 15, 16, 17, 18, 19, 20, 21, 22, 23, 24, 25, 26, 27, 28, 29, 30]
def law_run_0.C (N : Nat) : Ctx := { law_run.C N with may := fun t => law_run_0.asg.any (Nat.beq t) }
def law_run_0.code : Code := loopBody (sub law_run.code [true, true, false, true, false])
theorem law_run_0.cok (N : Nat) : (law_run_0.C N).Ok Try.prog := ⟨(law_run.cok N).U, (law_run.cok N).Γ, (law_run.cok N).Y⟩
def law_run_0.alts : List Alt := [⟨.ret, [6, 8], (.cons (.upd 2 43 (.cons (.val (.int .i64)) (.cons (.val (.slice (.pair (.int .i64) (.slice .byte)))) .nil))) (.cons (.upd 3 43 (.cons (.val (.int .i64)) (.cons (.val (.slice (.pair (.int .i64) (.slice .byte)))) .nil))) (.cons (.box 65 (.cons (.val (.int .i64)) (.cons (.own 62 (.pair (.int .i64) (.slice .byte))) .nil))) (.cons (.val .bool) .nil))))⟩, ⟨(.exit 0), [0], (.cons (.upd 2 43 (.cons (.val (.int .i64)) (.cons (.val (.slice (.pair (.int .i64) (.slice .byte)))) .nil))) (.cons (.upd 3 43 (.cons (.val (.int .i64)) (.cons (.own 57 (.pair (.int .i64) (.slice .byte))) .nil))) (.cons (.box 65 (.cons (.val (.int .i64)) (.cons (.own 62 (.pair (.int .i64) (.slice .byte))) .nil))) .nil)))⟩]
def law_run_0.go (N : Nat) : Nat → Int → (List (Int × (List UInt8))) → Int → (List (Int × (List UInt8))) → Int → (List (Int × (List UInt8))) → (List (Int × (Int × (Int × (List UInt8))))) → Int → Int → Option (((Int × (List (Int × (List UInt8))) × Unit) × (Int × (List (Int × (List UInt8))) × Unit) × (Int × (List (Int × (List UInt8))) × Unit) × Bool × Unit) ⊕ ((Int × (List (Int × (List UInt8))) × Unit) × (Int × (List (Int × (List UInt8))) × Unit) × (Int × (List (Int × (List UInt8))) × Unit) × Unit))
  | 0, _, _, _, _, _, _, _, _, _ => none
  | fuel + 1, room_, l, room1, l1, room2, l2, t12, t13, t14 =>
    bif decide (t14 < t13) then
      bif inB t14 t12.length then
        obind (law_step.run N room_ l (room1, l1) (t12.getD t14.toNat ((0 : Int), (0 : Int), (0 : Int), ([] : List UInt8)))) fun ((room3, l3, _), v, b, _) =>
          bif !b then
            some (.inl ((v.1, v.2, ()), (v.1, v.2, ()), (room3, l3, ()), false, ()))
          else law_run_0.go N fuel room3 l3 v.1 v.2 room2 l2 t12 t13 (IntKind.i64.wrap (t14 + (1 : Int)))
      else none
    else some (.inr ((room1, l1, ()), (room2, l2, ()), (room_, l, ()), ()))
def law_run_0.g (N n : Nat) (x : Sh.den law_run_0.ins) : Option (altsDen law_run_0.alts) := law_run_0.go N n x.1.1 x.1.2.1 x.2.1.1 x.2.1.2.1 x.2.2.1.1 x.2.2.1.2.1 x.2.2.2.1 x.2.2.2.2.1 x.2.2.2.2.2.1
def law_run_0.P (N : Nat) : Ps := ⟨law_run_0.ts, law_run_0.ins, law_run_0.asg, law_run_0.alts, law_run_0.g N N⟩
def law_run_0.lam (N : Nat) : Pcs := pcs []
theorem law_run_0.pok (N : Nat) : (law_run_0.lam N).Ok Try.prog (law_run_0.C N) law_run_0.code := pcsOk_nil
theorem law_run_0.ev (N n : Nat) (x : Sh.den law_run_0.ins) : evC (law_run_0.C N) law_run_0.code (law_run_0.lam N) ((law_run_0.P N).canon 1000 x) (loopK (law_run_0.P N) (law_run_0.g N n)) = law_run_0.g N (n + 1) x := by kernel_rfl
theorem law_run_0.ok (N : Nat) : ((law_run_0.P N).pc (law_run.C N)).Ok Try.prog (law_run.C N) (.loop law_run_0.code) := loop_ok (F := law_run_0.P N) (n0 := 1000) (N := N) (law_run.cok N) mix (law_run_0.pok N) (law_run_0.g N) (fun x => by rfl) rfl (fun n x y h => (law_run_0.ev N n x).trans h)
def law_run.outs : Sh := (.cons (.box 65 (.cons (.val (.int .i64)) (.cons (.own 62 (.pair (.int .i64) (.slice .byte))) .nil))) (.cons (.val (.pair (.int .i64) (.slice (.pair (.int .i64) (.slice .byte))))) (.cons (.val .bool) .nil)))
def law_run.run (N : Nat) (room_ : Int) (l : (List (Int × (List UInt8)))) (r : (Int × (List (Int × (List UInt8))))) (script : (List (Int × (Int × (Int × (List UInt8)))))) : Option ((Int × (List (Int × (List UInt8))) × Unit) × (Int × (List (Int × (List UInt8)))) × Bool × Unit) :=
  obind (law_run_0.go N N room_ l r.1 r.2 (0 : Int) ([] : List (Int × (List UInt8))) script (script.length : Int) (0 : Int)) fun y => match y with
  | .inl ((room1, l1, _), (room2, l2, _), (room3, l3, _), t8, _) =>
      some ((room3, l3, ()), (room2, l2), t8, ())
  | .inr ((room4, l4, _), (room5, l5, _), (room6, l6, _), _) =>
      obind (law_stands.run N room6 l6 (room4, l4)) fun (b, _) =>
        some ((room6, l6, ()), (room4, l4), b, ())
def law_run.fn (N : Nat) (x : Sh.den law_run.ins) : Option (Sh.den law_run.outs) := law_run.run N x.1.1 x.1.2.1 x.2.1 x.2.2.1
def law_run.S (N : Nat) : Fs := ⟨law_run.ins, law_run.outs, law_run.fn N⟩
def law_run.lam (N : Nat) : Pcs := pcs [([true, true, false, true, false], (law_run_0.P N).pc (law_run.C N))]
theorem law_run.pok (N : Nat) : (law_run.lam N).Ok Try.prog (law_run.C N) law_run.code := pcsOk_cons (c1 := .loop law_run_0.code) (by kernel_rfl) (law_run_0.ok N) (pcsOk_nil)
theorem law_run.ev (N : Nat) (x : Sh.den law_run.ins) : evC (law_run.C N) law_run.code (law_run.lam N) ⟨envOf 0 (bld (fun k => k) law_run.ins x 0).1, (bld (fun k => k) law_run.ins x 0).2.1, 1000⟩ (endF U law_run.outs Try.f17.results.toList []) = law_run.fn N x := by kernel_rfl
theorem law_run.ok (N : Nat) : (law_run.S N).con.Ok Try.prog 17 := fn_ok (F := law_run.S N) (n0 := 1000) Try.func17 (by kernel_rfl) (show Try.f17.body = some law_run.code by rfl) mix (law_run.cok N) (fun _ => rfl) (fun _ => rfl) (law_run.pok N) (fun x y h => (law_run.ev N x).trans h)
/-- hayloft/hayloftlaw05.NetAll -/
def law_NetAll.ins : Sh := (.cons (.val (.int .i64)) (.cons (.val (.slice (.pair (.int .i64) (.pair (.int .i64) (.pair (.int .i64) (.slice .byte)))))) .nil))
def law_NetAll.C (N : Nat) : Ctx := ⟨U, 24, fun _ => true, gam [(9, (law_begun.S N).con), (18, (ref_New.S N).con), (17, (law_run.S N).con)], gamY []⟩
theorem law_NetAll.cok (N : Nat) : (law_NetAll.C N).Ok Try.prog := ⟨U_ok, GamOk.cons (law_begun.ok N) (GamOk.cons (ref_New.ok N) (GamOk.cons (law_run.ok N) (GamOk.nil))), GamYOk.nil⟩
def law_NetAll.code : Code := Try.f5.body.getD .skip
def law_NetAll.outs : Sh := (.cons (.val .bool) .nil)
def law_NetAll.run (N : Nat) (room_ : Int) (script : (List (Int × (Int × (Int × (List UInt8)))))) : Option (Bool × Unit) :=
  obind (law_begun.run N room_) fun ((room1, l, _), b, _) =>
    bif !b then
      some (false, ())
    else
      obind (ref_New.run N room_) fun (v, _) =>
        obind (law_run.run N room1 l v script) fun ((room2, l1, _), v1, b1, _) =>
          some (b1, ())
def law_NetAll.fn (N : Nat) (x : Sh.den law_NetAll.ins) : Option (Sh.den law_NetAll.outs) := law_NetAll.run N x.1 x.2.1
def law_NetAll.S (N : Nat) : Fs := ⟨law_NetAll.ins, law_NetAll.outs, law_NetAll.fn N⟩
def law_NetAll.lam (N : Nat) : Pcs := pcs []
theorem law_NetAll.pok (N : Nat) : (law_NetAll.lam N).Ok Try.prog (law_NetAll.C N) law_NetAll.code := pcsOk_nil
theorem law_NetAll.ev (N : Nat) (x : Sh.den law_NetAll.ins) : evC (law_NetAll.C N) law_NetAll.code (law_NetAll.lam N) ⟨envOf 0 (bld (fun k => k) law_NetAll.ins x 0).1, (bld (fun k => k) law_NetAll.ins x 0).2.1, 1000⟩ (endF U law_NetAll.outs Try.f5.results.toList []) = law_NetAll.fn N x := by kernel_rfl
theorem law_NetAll.ok (N : Nat) : (law_NetAll.S N).con.Ok Try.prog 5 := fn_ok (F := law_NetAll.S N) (n0 := 1000) Try.func5 (by kernel_rfl) (show Try.f5.body = some law_NetAll.code by rfl) mix (law_NetAll.cok N) (fun _ => rfl) (fun _ => rfl) (law_NetAll.pok N) (fun x y h => (law_NetAll.ev N x).trans h)
/-- hayloft/hayloftlaw05.NetUndone -/
def law_NetUndone.ins : Sh := (.cons (.val (.int .i64)) (.cons (.val (.slice (.pair (.int .i64) (.pair (.int .i64) (.pair (.int .i64) (.slice .byte)))))) (.cons (.val (.pair (.int .i64) (.pair (.int .i64) (.pair (.int .i64) (.slice .byte))))) .nil)))
def law_NetUndone.C (N : Nat) : Ctx := ⟨U, 56, fun _ => true, gam [(9, (law_begun.S N).con), (18, (ref_New.S N).con), (17, (law_run.S N).con), (11, (net_Net_Send_b.S N).con), (14, (net_Net_Double.S N).con), (21, (law_stands.S N).con), (15, (net_Net_Len.S N).con), (13, (net_Net_Drop.S N).con)], gamY []⟩
theorem law_NetUndone.cok (N : Nat) : (law_NetUndone.C N).Ok Try.prog := ⟨U_ok, GamOk.cons (law_begun.ok N) (GamOk.cons (ref_New.ok N) (GamOk.cons (law_run.ok N) (GamOk.cons (net_Net_Send_b.ok N) (GamOk.cons (net_Net_Double.ok N) (GamOk.cons (law_stands.ok N) (GamOk.cons (net_Net_Len.ok N) (GamOk.cons (net_Net_Drop.ok N) (GamOk.nil)))))))), GamYOk.nil⟩
def law_NetUndone.code : Code := Try.f8.body.getD .skip
def law_NetUndone_0.ins : Sh := (.cons (.rbox 29 (.cons (.val (.int .i64)) (.cons (.val (.int .i64)) (.cons (.val (.int .i64)) (.cons (.val (.slice .byte)) .nil))))) (.cons (.box 65 (.cons (.val (.int .i64)) (.cons (.own 62 (.pair (.int .i64) (.slice .byte))) .nil))) .nil))
def law_NetUndone_0.ts : List Tmp := [5, 7]
def law_NetUndone_0.asg : List Tmp := [10, 29, 30, 31, 32, 33, 34, 35, 36, 37, 38, 39, 40, 41]
def law_NetUndone_0.C (N : Nat) : Ctx := { law_NetUndone.C N with may := fun t => law_NetUndone_0.asg.any (Nat.beq t) }
def law_NetUndone_0.code : Code := (sub law_NetUndone.code [true, true, true, true, true, true, false]).getD .skip
theorem law_NetUndone_0.cok (N : Nat) : (law_NetUndone_0.C N).Ok Try.prog := ⟨(law_NetUndone.cok N).U, (law_NetUndone.cok N).Γ, (law_NetUndone.cok N).Y⟩
def law_NetUndone_0.alts : List Alt := [⟨.normal, [10], (.cons (.upd 1 65 (.cons (.val (.int .i64)) (.cons (.own 62 (.pair (.int .i64) (.slice .byte))) .nil))) (.cons (.val (.int .i64)) .nil))⟩]
def law_NetUndone_0.run (N : Nat) (kind : Int) (to_ : Int) (n_ : Int) (raw : (List UInt8)) (room_ : Int) (l : (List (Int × (List UInt8)))) : Option (((Int × (List (Int × (List UInt8))) × Unit) × Int × Unit)) :=
  bif decide (kind = (0 : Int)) then
    obind (net_Net_Send_b.run N room_ l to_ raw) fun ((room1, l1, _), n1, _) =>
      some ((room1, l1, ()), n1, ())
  else
    obind (net_Net_Double.run N room_ l n_) fun ((room2, l2, _), n2, _) =>
      some ((room2, l2, ()), n2, ())
def law_NetUndone_0.fn (N : Nat) (x : Sh.den law_NetUndone_0.ins) : Option (altsDen law_NetUndone_0.alts) := law_NetUndone_0.run N x.1.1 x.1.2.1 x.1.2.2.1 x.1.2.2.2.1 x.2.1.1 x.2.1.2.1
def law_NetUndone_0.P (N : Nat) : Ps := ⟨law_NetUndone_0.ts, law_NetUndone_0.ins, law_NetUndone_0.asg, law_NetUndone_0.alts, law_NetUndone_0.fn N⟩
def law_NetUndone_0.lam (N : Nat) : Pcs := pcs []
theorem law_NetUndone_0.pok (N : Nat) : (law_NetUndone_0.lam N).Ok Try.prog (law_NetUndone_0.C N) law_NetUndone_0.code := pcsOk_nil
theorem law_NetUndone_0.ev (N : Nat) (x : Sh.den law_NetUndone_0.ins) : evC (law_NetUndone_0.C N) law_NetUndone_0.code (law_NetUndone_0.lam N) ((law_NetUndone_0.P N).canon 1000 x) (altK (law_NetUndone_0.P N).alts) = law_NetUndone_0.fn N x := by kernel_rfl
theorem law_NetUndone_0.ok (N : Nat) : ((law_NetUndone_0.P N).pc (law_NetUndone.C N)).Ok Try.prog (law_NetUndone.C N) law_NetUndone_0.code := ps_ok (F := law_NetUndone_0.P N) (n0 := 1000) (law_NetUndone.cok N) mix (law_NetUndone_0.pok N) (fun x y h => (law_NetUndone_0.ev N x).trans h)
def law_NetUndone.outs : Sh := (.cons (.val .bool) .nil)
def law_NetUndone.run (N : Nat) (room_ : Int) (script : (List (Int × (Int × (Int × (List UInt8)))))) (o : (Int × (Int × (Int × (List UInt8))))) : Option (Bool × Unit) :=
  obind (law_begun.run N room_) fun ((room1, l, _), b, _) =>
    bif !b then
      some (false, ())
    else
      obind (ref_New.run N room_) fun (v, _) =>
        obind (law_run.run N room1 l v script) fun ((room2, l1, _), v1, b1, _) =>
          bif !b1 then
            some (false, ())
          else
            obind (law_NetUndone_0.run N o.1 o.2.1 o.2.2.1 o.2.2.2 room2 l1) fun ((room5, l4, _), e, _) =>
              bif !(decide (e = (0 : Int))) then
                obind (law_stands.run N room5 l4 v1) fun (b2, _) =>
                  some (b2, ())
              else
                obind (net_Net_Len.run N room5 l4) fun (n2, _) =>
                  obind (net_Net_Drop.run N room5 l4 (IntKind.i64.wrap (n2 - (1 : Int)))) fun ((room6, l5, _), b3, _) =>
                    bif b3 then
                      obind (law_stands.run N room6 l5 v1) fun (b4, _) =>
                        some (b4, ())
                    else some (false, ())
def law_NetUndone.fn (N : Nat) (x : Sh.den law_NetUndone.ins) : Option (Sh.den law_NetUndone.outs) := law_NetUndone.run N x.1 x.2.1 x.2.2.1
def law_NetUndone.S (N : Nat) : Fs := ⟨law_NetUndone.ins, law_NetUndone.outs, law_NetUndone.fn N⟩
def law_NetUndone.lam (N : Nat) : Pcs := pcs [([true, true, true, true, true, true, false], (law_NetUndone_0.P N).pc (law_NetUndone.C N))]
theorem law_NetUndone.pok (N : Nat) : (law_NetUndone.lam N).Ok Try.prog (law_NetUndone.C N) law_NetUndone.code := pcsOk_cons (c1 := law_NetUndone_0.code) (by kernel_rfl) (law_NetUndone_0.ok N) (pcsOk_nil)
theorem law_NetUndone.ev (N : Nat) (x : Sh.den law_NetUndone.ins) : evC (law_NetUndone.C N) law_NetUndone.code (law_NetUndone.lam N) ⟨envOf 0 (bld (fun k => k) law_NetUndone.ins x 0).1, (bld (fun k => k) law_NetUndone.ins x 0).2.1, 1000⟩ (endF U law_NetUndone.outs Try.f8.results.toList []) = law_NetUndone.fn N x := by kernel_rfl
theorem law_NetUndone.ok (N : Nat) : (law_NetUndone.S N).con.Ok Try.prog 8 := fn_ok (F := law_NetUndone.S N) (n0 := 1000) Try.func8 (by kernel_rfl) (show Try.f8.body = some law_NetUndone.code by rfl) mix (law_NetUndone.cok N) (fun _ => rfl) (fun _ => rfl) (law_NetUndone.pok N) (fun x y h => (law_NetUndone.ev N x).trans h)
/-- hayloft/hayloftlaw05.NetClones -/
def law_NetClones.ins : Sh := (.cons (.val (.int .i64)) (.cons (.val (.pair (.slice (.pair (.int .i64) (.pair (.int .i64) (.pair (.int .i64) (.slice .byte))))) (.pair (.slice (.pair (.int .i64) (.pair (.int .i64) (.pair (.int .i64) (.slice .byte))))) (.slice (.pair (.int .i64) (.pair (.int .i64) (.pair (.int .i64) (.slice .byte)))))))) .nil))
def law_NetClones.C (N : Nat) : Ctx := ⟨U, 95, fun _ => true, gam [(9, (law_begun.S N).con), (18, (ref_New.S N).con), (17, (law_run.S N).con), (19, (net_Net_Clone.S N).con), (20, (law_step.S N).con), (21, (law_stands.S N).con)], gamY []⟩
theorem law_NetClones.cok (N : Nat) : (law_NetClones.C N).Ok Try.prog := ⟨U_ok, GamOk.cons (law_begun.ok N) (GamOk.cons (ref_New.ok N) (GamOk.cons (law_run.ok N) (GamOk.cons (net_Net_Clone.ok N) (GamOk.cons (law_step.ok N) (GamOk.cons (law_stands.ok N) (GamOk.nil)))))), GamYOk.nil⟩
def law_NetClones.code : Code := Try.f6.body.getD .skip
def law_NetClones_0.ins : Sh := (.cons (.rbox 48 (.cons (.val (.slice (.pair (.int .i64) (.pair (.int .i64) (.pair (.int .i64) (.slice .byte)))))) (.cons (.val (.slice (.pair (.int .i64) (.pair (.int .i64) (.pair (.int .i64) (.slice .byte)))))) (.cons (.val (.slice (.pair (.int .i64) (.pair (.int .i64) (.pair (.int .i64) (.slice .byte)))))) .nil)))) (.cons (.box 65 (.cons (.val (.int .i64)) (.cons (.own 62 (.pair (.int .i64) (.slice .byte))) .nil))) (.cons (.box 43 (.cons (.val (.int .i64)) (.cons (.val (.slice (.pair (.int .i64) (.slice .byte)))) .nil))) (.cons (.box 65 (.cons (.val (.int .i64)) (.cons (.own 62 (.pair (.int .i64) (.slice .byte))) .nil))) (.cons (.box 43 (.cons (.val (.int .i64)) (.cons (.val (.slice (.pair (.int .i64) (.slice .byte)))) .nil))) (.cons (.val (.int .i64)) .nil))))))
def law_NetClones_0.ts : List Tmp := [3, 5, 7, 8, 9, 10]
def law_NetClones_0.asg : List Tmp := [4, 5, 6, 8, 10, 35, 36, 37, 38, 39, 40, 41, 42, 43, 44, 45, 46, 47, 48, 49, 50, 51, 52, 53, 54, 55, 56, 57, 58, 59, 60, 61, 62, 63, 64, 65, 66, 67, 68, 69, 70, 71, 72, 73, 74, 75, 76, 77, 78, 79, 80, 81, 82, 83, 84, 85, 86]
def law_NetClones_0.C (N : Nat) : Ctx := { law_NetClones.C N with may := fun t => law_NetClones_0.asg.any (Nat.beq t) }
def law_NetClones_0.code : Code := loopBody (sub law_NetClones.code [true, true, true, true, true, true, true, true, false, true, false])
theorem law_NetClones_0.cok (N : Nat) : (law_NetClones_0.C N).Ok Try.prog := ⟨(law_NetClones.cok N).U, (law_NetClones.cok N).Γ, (law_NetClones.cok N).Y⟩
def law_NetClones_0_0.ins : Sh := (.cons (.rbox 48 (.cons (.val (.slice (.pair (.int .i64) (.pair (.int .i64) (.pair (.int .i64) (.slice .byte)))))) (.cons (.val (.slice (.pair (.int .i64) (.pair (.int .i64) (.pair (.int .i64) (.slice .byte)))))) (.cons (.val (.slice (.pair (.int .i64) (.pair (.int .i64) (.pair (.int .i64) (.slice .byte)))))) .nil)))) (.cons (.val (.int .i64)) .nil))
def law_NetClones_0_0.ts : List Tmp := [3, 10]
def law_NetClones_0_0.asg : List Tmp := [35, 36, 37, 38, 39, 40, 41, 42, 43, 44, 45, 46]
def law_NetClones_0_0.C (N : Nat) : Ctx := { law_NetClones_0.C N with may := fun t => law_NetClones_0_0.asg.any (Nat.beq t) }
def law_NetClones_0_0.code : Code := (sub law_NetClones_0.code [false]).getD .skip
theorem law_NetClones_0_0.cok (N : Nat) : (law_NetClones_0_0.C N).Ok Try.prog := ⟨(law_NetClones_0.cok N).U, (law_NetClones_0.cok N).Γ, (law_NetClones_0.cok N).Y⟩
def law_NetClones_0_0.alts : List Alt := [⟨.normal, [], .nil⟩, ⟨(.exit 0), [], .nil⟩]
def law_NetClones_0_0.run (N : Nat) (ahead : (List (Int × (Int × (Int × (List UInt8)))))) (one : (List (Int × (Int × (Int × (List UInt8)))))) (two : (List (Int × (Int × (Int × (List UInt8)))))) (i : Int) : Option (Unit ⊕ Unit) :=
  bif decide (i < (one.length : Int)) then
    some (.inl ())
  else
    bif decide (i < (two.length : Int)) then
      some (.inl ())
    else some (.inr ())
def law_NetClones_0_0.fn (N : Nat) (x : Sh.den law_NetClones_0_0.ins) : Option (altsDen law_NetClones_0_0.alts) := law_NetClones_0_0.run N x.1.1 x.1.2.1 x.1.2.2.1 x.2.1
def law_NetClones_0_0.P (N : Nat) : Ps := ⟨law_NetClones_0_0.ts, law_NetClones_0_0.ins, law_NetClones_0_0.asg, law_NetClones_0_0.alts, law_NetClones_0_0.fn N⟩
def law_NetClones_0_0.lam (N : Nat) : Pcs := pcs []
theorem law_NetClones_0_0.pok (N : Nat) : (law_NetClones_0_0.lam N).Ok Try.prog (law_NetClones_0_0.C N) law_NetClones_0_0.code := pcsOk_nil
theorem law_NetClones_0_0.ev (N : Nat) (x : Sh.den law_NetClones_0_0.ins) : evC (law_NetClones_0_0.C N) law_NetClones_0_0.code (law_NetClones_0_0.lam N) ((law_NetClones_0_0.P N).canon 1000 x) (altK (law_NetClones_0_0.P N).alts) = law_NetClones_0_0.fn N x := by kernel_rfl
theorem law_NetClones_0_0.ok (N : Nat) : ((law_NetClones_0_0.P N).pc (law_NetClones_0.C N)).Ok Try.prog (law_NetClones_0.C N) law_NetClones_0_0.code := ps_ok (F := law_NetClones_0_0.P N) (n0 := 1000) (law_NetClones_0.cok N) mix (law_NetClones_0_0.pok N) (fun x y h => (law_NetClones_0_0.ev N x).trans h)
def law_NetClones_0_1.ins : Sh := (.cons (.rbox 48 (.cons (.val (.slice (.pair (.int .i64) (.pair (.int .i64) (.pair (.int .i64) (.slice .byte)))))) (.cons (.val (.slice (.pair (.int .i64) (.pair (.int .i64) (.pair (.int .i64) (.slice .byte)))))) (.cons (.val (.slice (.pair (.int .i64) (.pair (.int .i64) (.pair (.int .i64) (.slice .byte)))))) .nil)))) (.cons (.box 65 (.cons (.val (.int .i64)) (.cons (.own 62 (.pair (.int .i64) (.slice .byte))) .nil))) (.cons (.box 43 (.cons (.val (.int .i64)) (.cons (.val (.slice (.pair (.int .i64) (.slice .byte)))) .nil))) (.cons (.val (.int .i64)) .nil))))
def law_NetClones_0_1.ts : List Tmp := [3, 5, 7, 10]
def law_NetClones_0_1.asg : List Tmp := [4, 5, 6, 49, 50, 51, 52, 53, 54, 55, 56, 57, 58, 59, 60, 61, 62, 63, 64, 65, 66, 67]
def law_NetClones_0_1.C (N : Nat) : Ctx := { law_NetClones_0.C N with may := fun t => law_NetClones_0_1.asg.any (Nat.beq t) }
def law_NetClones_0_1.code : Code := (sub law_NetClones_0.code [true, false, false, false]).getD .skip
theorem law_NetClones_0_1.cok (N : Nat) : (law_NetClones_0_1.C N).Ok Try.prog := ⟨(law_NetClones_0.cok N).U, (law_NetClones_0.cok N).Γ, (law_NetClones_0.cok N).Y⟩
def law_NetClones_0_1.alts : List Alt := [⟨.normal, [5], (.cons (.upd 3 43 (.cons (.val (.int .i64)) (.cons (.val (.slice (.pair (.int .i64) (.slice .byte)))) .nil))) (.cons (.box 65 (.cons (.val (.int .i64)) (.cons (.own 62 (.pair (.int .i64) (.slice .byte))) .nil))) .nil))⟩, ⟨.ret, [4], (.cons (.upd 3 43 (.cons (.val (.int .i64)) (.cons (.val (.slice (.pair (.int .i64) (.slice .byte)))) .nil))) (.cons (.val .bool) .nil))⟩]
def law_NetClones_0_1.run (N : Nat) (ahead : (List (Int × (Int × (Int × (List UInt8)))))) (one : (List (Int × (Int × (Int × (List UInt8)))))) (two : (List (Int × (Int × (Int × (List UInt8)))))) (room_ : Int) (l : (List (Int × (List UInt8)))) (room1 : Int) (l1 : (List (Int × (List UInt8)))) (i : Int) : Option (((Int × (List (Int × (List UInt8))) × Unit) × (Int × (List (Int × (List UInt8))) × Unit) × Unit) ⊕ ((Int × (List (Int × (List UInt8))) × Unit) × Bool × Unit)) :=
  bif decide (i < (one.length : Int)) then
    bif inB i one.length then
      obind (law_step.run N room_ l (room1, l1) (one.getD i.toNat ((0 : Int), (0 : Int), (0 : Int), ([] : List UInt8)))) fun ((room2, l2, _), v, b, _) =>
        bif !b then
          some (.inr ((v.1, v.2, ()), false, ()))
        else some (.inl ((v.1, v.2, ()), (room2, l2, ()), ()))
    else none
  else some (.inl ((room1, l1, ()), (room_, l, ()), ()))
def law_NetClones_0_1.fn (N : Nat) (x : Sh.den law_NetClones_0_1.ins) : Option (altsDen law_NetClones_0_1.alts) := law_NetClones_0_1.run N x.1.1 x.1.2.1 x.1.2.2.1 x.2.1.1 x.2.1.2.1 x.2.2.1.1 x.2.2.1.2.1 x.2.2.2.1
def law_NetClones_0_1.P (N : Nat) : Ps := ⟨law_NetClones_0_1.ts, law_NetClones_0_1.ins, law_NetClones_0_1.asg, law_NetClones_0_1.alts, law_NetClones_0_1.fn N⟩
def law_NetClones_0_1.lam (N : Nat) : Pcs := pcs []
theorem law_NetClones_0_1.pok (N : Nat) : (law_NetClones_0_1.lam N).Ok Try.prog (law_NetClones_0_1.C N) law_NetClones_0_1.code := pcsOk_nil
theorem law_NetClones_0_1.ev (N : Nat) (x : Sh.den law_NetClones_0_1.ins) : evC (law_NetClones_0_1.C N) law_NetClones_0_1.code (law_NetClones_0_1.lam N) ((law_NetClones_0_1.P N).canon 1000 x) (altK (law_NetClones_0_1.P N).alts) = law_NetClones_0_1.fn N x := by kernel_rfl
theorem law_NetClones_0_1.ok (N : Nat) : ((law_NetClones_0_1.P N).pc (law_NetClones_0.C N)).Ok Try.prog (law_NetClones_0.C N) law_NetClones_0_1.code := ps_ok (F := law_NetClones_0_1.P N) (n0 := 1000) (law_NetClones_0.cok N) mix (law_NetClones_0_1.pok N) (fun x y h => (law_NetClones_0_1.ev N x).trans h)
def law_NetClones_0.alts : List Alt := [⟨.ret, [4], (.cons (.upd 3 43 (.cons (.val (.int .i64)) (.cons (.val (.slice (.pair (.int .i64) (.slice .byte)))) .nil))) (.cons (.upd 6 43 (.cons (.val (.int .i64)) (.cons (.val (.slice (.pair (.int .i64) (.slice .byte)))) .nil))) (.cons (.val .bool) .nil)))⟩, ⟨(.exit 0), [5, 8], (.cons (.upd 3 43 (.cons (.val (.int .i64)) (.cons (.val (.slice (.pair (.int .i64) (.slice .byte)))) .nil))) (.cons (.upd 6 43 (.cons (.val (.int .i64)) (.cons (.val (.slice (.pair (.int .i64) (.slice .byte)))) .nil))) (.cons (.box 65 (.cons (.val (.int .i64)) (.cons (.own 62 (.pair (.int .i64) (.slice .byte))) .nil))) (.cons (.box 65 (.cons (.val (.int .i64)) (.cons (.own 62 (.pair (.int .i64) (.slice .byte))) .nil))) .nil))))⟩]
def law_NetClones_0.go (N : Nat) : Nat → (List (Int × (Int × (Int × (List UInt8))))) → (List (Int × (Int × (Int × (List UInt8))))) → (List (Int × (Int × (Int × (List UInt8))))) → Int → (List (Int × (List UInt8))) → Int → (List (Int × (List UInt8))) → Int → (List (Int × (List UInt8))) → Int → (List (Int × (List UInt8))) → Int → Option (((Int × (List (Int × (List UInt8))) × Unit) × (Int × (List (Int × (List UInt8))) × Unit) × Bool × Unit) ⊕ ((Int × (List (Int × (List UInt8))) × Unit) × (Int × (List (Int × (List UInt8))) × Unit) × (Int × (List (Int × (List UInt8))) × Unit) × (Int × (List (Int × (List UInt8))) × Unit) × Unit))
  | 0, _, _, _, _, _, _, _, _, _, _, _, _ => none
  | fuel + 1, ahead, one, two, room_, l, room1, l1, room2, l2, room3, l3, i =>
    obind (law_NetClones_0_0.run N ahead one two i) fun y => match y with
    | .inl _ =>
        obind (law_NetClones_0_1.run N ahead one two room_ l room1 l1 i) fun y => match y with
        | .inl ((room5, l5, _), (room6, l6, _), _) =>
            bif decide (i < (two.length : Int)) then
              bif inB i two.length then
                obind (law_step.run N room2 l2 (room3, l3) (two.getD i.toNat ((0 : Int), (0 : Int), (0 : Int), ([] : List UInt8)))) fun ((room8, l8, _), v1, b1, _) =>
                  bif !b1 then
                    some (.inl ((room5, l5, ()), (v1.1, v1.2, ()), false, ()))
                  else law_NetClones_0.go N fuel ahead one two room6 l6 room5 l5 room8 l8 v1.1 v1.2 (IntKind.i64.wrap (i + (1 : Int)))
              else none
            else law_NetClones_0.go N fuel ahead one two room6 l6 room5 l5 room2 l2 room3 l3 (IntKind.i64.wrap (i + (1 : Int)))
        | .inr ((room7, l7, _), t4, _) =>
            some (.inl ((room7, l7, ()), (room3, l3, ()), t4, ()))
    | .inr (_) =>
        some (.inr ((room1, l1, ()), (room3, l3, ()), (room_, l, ()), (room2, l2, ()), ()))
def law_NetClones_0.g (N n : Nat) (x : Sh.den law_NetClones_0.ins) : Option (altsDen law_NetClones_0.alts) := law_NetClones_0.go N n x.1.1 x.1.2.1 x.1.2.2.1 x.2.1.1 x.2.1.2.1 x.2.2.1.1 x.2.2.1.2.1 x.2.2.2.1.1 x.2.2.2.1.2.1 x.2.2.2.2.1.1 x.2.2.2.2.1.2.1 x.2.2.2.2.2.1
def law_NetClones_0.P (N : Nat) : Ps := ⟨law_NetClones_0.ts, law_NetClones_0.ins, law_NetClones_0.asg, law_NetClones_0.alts, law_NetClones_0.g N N⟩
def law_NetClones_0.lam (N : Nat) : Pcs := pcs [([false], (law_NetClones_0_0.P N).pc (law_NetClones_0.C N)), ([true, false, false, false], (law_NetClones_0_1.P N).pc (law_NetClones_0.C N))]
theorem law_NetClones_0.pok (N : Nat) : (law_NetClones_0.lam N).Ok Try.prog (law_NetClones_0.C N) law_NetClones_0.code := pcsOk_cons (c1 := law_NetClones_0_0.code) (by kernel_rfl) (law_NetClones_0_0.ok N) (pcsOk_cons (c1 := law_NetClones_0_1.code) (by kernel_rfl) (law_NetClones_0_1.ok N) (pcsOk_nil))
theorem law_NetClones_0.ev (N n : Nat) (x : Sh.den law_NetClones_0.ins) : evC (law_NetClones_0.C N) law_NetClones_0.code (law_NetClones_0.lam N) ((law_NetClones_0.P N).canon 1000 x) (loopK (law_NetClones_0.P N) (law_NetClones_0.g N n)) = law_NetClones_0.g N (n + 1) x := by kernel_rfl
theorem law_NetClones_0.ok (N : Nat) : ((law_NetClones_0.P N).pc (law_NetClones.C N)).Ok Try.prog (law_NetClones.C N) (.loop law_NetClones_0.code) := loop_ok (F := law_NetClones_0.P N) (n0 := 1000) (N := N) (law_NetClones.cok N) mix (law_NetClones_0.pok N) (law_NetClones_0.g N) (fun x => by rfl) rfl (fun n x y h => (law_NetClones_0.ev N n x).trans h)
def law_NetClones.outs : Sh := (.cons (.val .bool) .nil)
def law_NetClones.run (N : Nat) (room_ : Int) (w : ((List (Int × (Int × (Int × (List UInt8))))) × ((List (Int × (Int × (Int × (List UInt8))))) × (List (Int × (Int × (Int × (List UInt8)))))))) : Option (Bool × Unit) :=
  obind (law_begun.run N room_) fun ((room1, l, _), b, _) =>
    bif !b then
      some (false, ())
    else
      obind (ref_New.run N room_) fun (v, _) =>
        obind (law_run.run N room1 l v w.1) fun ((room2, l1, _), v1, b1, _) =>
          bif !b1 then
            some (false, ())
          else
            obind (net_Net_Clone.run N room2 l1) fun ((room3, l2, _), _) =>
              obind (law_NetClones_0.go N N w.1 w.2.1 w.2.2 room2 l1 v1.1 v1.2 room3 l2 v1.1 v1.2 (0 : Int)) fun y => match y with
              | .inl ((room4, l3, _), (room5, l4, _), t4, _) =>
                  some (t4, ())
              | .inr ((room6, l5, _), (room7, l6, _), (room8, l7, _), (room9, l8, _), _) =>
                  obind (law_stands.run N room8 l7 (room6, l5)) fun (b2, _) =>
                    bif b2 then
                      obind (law_stands.run N room9 l8 (room7, l6)) fun (b3, _) =>
                        some (b3, ())
                    else some (false, ())
def law_NetClones.fn (N : Nat) (x : Sh.den law_NetClones.ins) : Option (Sh.den law_NetClones.outs) := law_NetClones.run N x.1 x.2.1
def law_NetClones.S (N : Nat) : Fs := ⟨law_NetClones.ins, law_NetClones.outs, law_NetClones.fn N⟩
def law_NetClones.lam (N : Nat) : Pcs := pcs [([true, true, true, true, true, true, true, true, false, true, false], (law_NetClones_0.P N).pc (law_NetClones.C N))]
theorem law_NetClones.pok (N : Nat) : (law_NetClones.lam N).Ok Try.prog (law_NetClones.C N) law_NetClones.code := pcsOk_cons (c1 := .loop law_NetClones_0.code) (by kernel_rfl) (law_NetClones_0.ok N) (pcsOk_nil)
theorem law_NetClones.ev (N : Nat) (x : Sh.den law_NetClones.ins) : evC (law_NetClones.C N) law_NetClones.code (law_NetClones.lam N) ⟨envOf 0 (bld (fun k => k) law_NetClones.ins x 0).1, (bld (fun k => k) law_NetClones.ins x 0).2.1, 1000⟩ (endF U law_NetClones.outs Try.f6.results.toList []) = law_NetClones.fn N x := by kernel_rfl
theorem law_NetClones.ok (N : Nat) : (law_NetClones.S N).con.Ok Try.prog 6 := fn_ok (F := law_NetClones.S N) (n0 := 1000) Try.func6 (by kernel_rfl) (show Try.f6.body = some law_NetClones.code by rfl) mix (law_NetClones.cok N) (fun _ => rfl) (fun _ => rfl) (law_NetClones.pok N) (fun x y h => (law_NetClones.ev N x).trans h)
def Y2.ins : Sh := (.cons (.val (.int .i64)) (.cons (.rown 5 .byte) .nil))
def Y2.C (N : Nat) : Ctx := ⟨U, 103, fun _ => true, gam [], gamY []⟩
theorem Y2.cok (N : Nat) : (Y2.C N).Ok Try.prog := ⟨U_ok, GamOk.nil, GamYOk.nil⟩
def Y2.code : Code := site2.body
def Y2.alts : List Alt := [⟨(.exit 0), [], .nil⟩]
def Y2.run (N : Nat) (t34 : Int) (t35 : (List UInt8)) : Option (Unit) :=
  some ()
def Y2.fn (N : Nat) (x : Sh.den Y2.ins) : Option (altsDen Y2.alts) := Y2.run N x.1 x.2.1
def Y2.F (N : Nat) : Ys := ⟨[], [34, 35], Y2.ins, Y2.alts, Y2.fn N⟩
def Y2.yc (N : Nat) : Yc := (Y2.F N).yc
def Y2.lam (N : Nat) : Pcs := pcs []
theorem Y2.pok (N : Nat) : (Y2.lam N).Ok Try.prog (Y2.C N) site2.body := pcsOk_nil
theorem Y2.ev (N : Nat) (x : Sh.den Y2.ins) : evC (Y2.C N) site2.assign (pcs []) ⟨addT [34, 35] (bld (fun k => k) Y2.ins x 0).1 [], (bld (fun k => k) Y2.ins x 0).2.1, 1000⟩ (thenC fun s => evC (Y2.C N) site2.body (Y2.lam N) s (altK Y2.alts)) = Y2.fn N x := by kernel_rfl
theorem Y2.ok (N : Nat) : (Y2.yc N).Ok Try.prog 1000002 := ys_ok (σ := site2) (k := 2) (C := Y2.C N) (F := Y2.F N) (n0 := 1000) (fun _ => rfl) (Y2.cok N) mix (fun _ => rfl) (show site2.ps.toList = [34, 35] by kernel_rfl) (show site2.ts = [] by kernel_rfl) (show site2.nt = 103 by kernel_rfl) rfl rfl rfl rfl rfl pcsOk_nil (Y2.pok N) (fun x y h => (Y2.ev N x).trans h)
def Y3.ins : Sh := (.cons (.rbox 3 (.cons (.val (.int .i64)) .nil)) (.cons (.rbox 76 (.cons (.box 1000002 (.cons (.val (.int .i64)) (.cons (.junk) (.cons (.junk) (.cons (.junk) .nil))))) .nil)) (.cons (.val (.int .i64)) (.cons (.agg (.cons (.val (.int .i64)) (.cons (.val (.slice .byte)) .nil))) .nil))))
def Y3.C (N : Nat) : Ctx := ⟨U, 27, fun _ => true, gam [(25, (slices_Clone_byte_byte_b.S N).con)], gamY [(1000002, Y2.yc N)]⟩
theorem Y3.cok (N : Nat) : (Y3.C N).Ok Try.prog := ⟨U_ok, GamOk.cons (slices_Clone_byte_byte_b.ok N) (GamOk.nil), GamYOk.cons (Y2.ok N) (GamYOk.nil)⟩
def Y3.code : Code := site3.body
def Y3.alts : List Alt := [⟨.normal, [], (.cons (.upd 2 1000002 (.cons (.val (.int .i64)) (.cons (.junk) (.cons (.junk) (.cons (.junk) .nil))))) .nil)⟩, ⟨.ret, [], (.cons (.upd 2 1000002 (.cons (.val (.int .i64)) (.cons (.junk) (.cons (.junk) (.cons (.junk) .nil))))) .nil)⟩]
def Y3.run (N : Nat) (t2 : Int) (yield : Int) (t12 : Int) (t13 : Int) (t131 : (List UInt8)) : Option (((Int × Unit × Unit × Unit × Unit) × Unit) ⊕ ((Int × Unit × Unit × Unit × Unit) × Unit)) :=
  bif decide (t13 = t2) then
    obind (slices_Clone_byte_byte_b.run N t131) fun (l, _) =>
      bif decide (yield = (0 : Int)) then
        obind (Y2.run N t12 l) fun _ =>
          some (.inr (((2 : Int), (), (), (), ()), ()))
      else none
  else some (.inl ((yield, (), (), (), ()), ()))
def Y3.fn (N : Nat) (x : Sh.den Y3.ins) : Option (altsDen Y3.alts) := Y3.run N x.1.1 x.2.1.1.1 x.2.2.1 x.2.2.2.1.1 x.2.2.2.1.2.1
def Y3.F (N : Nat) : Ys := ⟨[2, 3], [12, 13], Y3.ins, Y3.alts, Y3.fn N⟩
def Y3.yc (N : Nat) : Yc := (Y3.F N).yc
def Y3.lam (N : Nat) : Pcs := pcs []
theorem Y3.pok (N : Nat) : (Y3.lam N).Ok Try.prog (Y3.C N) site3.body := pcsOk_nil
theorem Y3.ev (N : Nat) (x : Sh.den Y3.ins) : evC (Y3.C N) site3.assign (pcs []) ⟨addT [2, 3, 12, 13] (bld (fun k => k) Y3.ins x 0).1 [], (bld (fun k => k) Y3.ins x 0).2.1, 1000⟩ (thenC fun s => evC (Y3.C N) site3.body (Y3.lam N) s (altK Y3.alts)) = Y3.fn N x := by kernel_rfl
theorem Y3.ok (N : Nat) : (Y3.yc N).Ok Try.prog 1000003 := ys_ok (σ := site3) (k := 3) (C := Y3.C N) (F := Y3.F N) (n0 := 1000) (fun _ => rfl) (Y3.cok N) mix (fun _ => rfl) (show site3.ps.toList = [12, 13] by kernel_rfl) (show site3.ts = [2, 3] by kernel_rfl) (show site3.nt = 27 by kernel_rfl) rfl rfl rfl rfl rfl pcsOk_nil (Y3.pok N) (fun x y h => (Y3.ev N x).trans h)
/-- slices.All[[]hayloft/net.one,hayloft/net.one]$1 -/
def slices_All_net_one_net_one_1_f1_b.ins : Sh := (.cons (.box 1000003 (.cons (.val (.int .i64)) (.cons (.junk) (.cons (.junk) (.cons (.junk) (.cons (.rbox 3 (.cons (.val (.int .i64)) .nil)) (.cons (.rbox 76 (.cons (.box 1000002 (.cons (.val (.int .i64)) (.cons (.junk) (.cons (.junk) (.cons (.junk) .nil))))) .nil)) .nil))))))) (.cons (.rbox 63 (.cons (.rown 62 (.pair (.int .i64) (.slice .byte))) .nil)) .nil))
def slices_All_net_one_net_one_1_f1_b.C (N : Nat) : Ctx := ⟨U, 18, fun _ => true, gam [], gamY [(1000003, Y3.yc N)]⟩
theorem slices_All_net_one_net_one_1_f1_b.cok (N : Nat) : (slices_All_net_one_net_one_1_f1_b.C N).Ok Try.prog := ⟨U_ok, GamOk.nil, GamYOk.cons (Y3.ok N) (GamYOk.nil)⟩
def slices_All_net_one_net_one_1_f1_b.code : Code := Try.f37.body.getD .skip
def slices_All_net_one_net_one_1_f1_b_0.ins : Sh := (.cons (.box 1000003 (.cons (.val (.int .i64)) (.cons (.junk) (.cons (.junk) (.cons (.junk) (.cons (.rbox 3 (.cons (.val (.int .i64)) .nil)) (.cons (.rbox 76 (.cons (.box 1000002 (.cons (.val (.int .i64)) (.cons (.junk) (.cons (.junk) (.cons (.junk) .nil))))) .nil)) .nil))))))) (.cons (.rown 62 (.pair (.int .i64) (.slice .byte))) (.cons (.val (.int .i64)) (.cons (.val (.int .i64)) .nil))))
def slices_All_net_one_net_one_1_f1_b_0.ts : List Tmp := [0, 5, 6, 7]
def slices_All_net_one_net_one_1_f1_b_0.asg : List Tmp := [3, 4, 7, 8, 9, 10, 11, 12, 13, 14, 15, 16, 17]
def slices_All_net_one_net_one_1_f1_b_0.C (N : Nat) : Ctx := { slices_All_net_one_net_one_1_f1_b.C N with may := fun t => slices_All_net_one_net_one_1_f1_b_0.asg.any (Nat.beq t) }
def slices_All_net_one_net_one_1_f1_b_0.code : Code := loopBody (sub slices_All_net_one_net_one_1_f1_b.code [true, false])
theorem slices_All_net_one_net_one_1_f1_b_0.cok (N : Nat) : (slices_All_net_one_net_one_1_f1_b_0.C N).Ok Try.prog := ⟨(slices_All_net_one_net_one_1_f1_b.cok N).U, (slices_All_net_one_net_one_1_f1_b.cok N).Γ, (slices_All_net_one_net_one_1_f1_b.cok N).Y⟩
def slices_All_net_one_net_one_1_f1_b_0.alts : List Alt := [⟨.ret, [], (.cons (.upd 0 1000003 (.cons (.val (.int .i64)) (.cons (.junk) (.cons (.junk) (.cons (.junk) (.cons (.keep 0 1) (.cons (.keep 0 2) .nil))))))) (.cons (.upd 3 1000002 (.cons (.val (.int .i64)) (.cons (.junk) (.cons (.junk) (.cons (.junk) .nil))))) .nil))⟩, ⟨(.exit 0), [], (.cons (.upd 0 1000003 (.cons (.val (.int .i64)) (.cons (.junk) (.cons (.junk) (.cons (.junk) (.cons (.keep 0 1) (.cons (.keep 0 2) .nil))))))) (.cons (.upd 3 1000002 (.cons (.val (.int .i64)) (.cons (.junk) (.cons (.junk) (.cons (.junk) .nil))))) .nil))⟩]
def slices_All_net_one_net_one_1_f1_b_0.go (N : Nat) : Nat → Int → Int → Int → (List (Int × (List UInt8))) → Int → Int → Option (((Int × Unit × Unit × Unit × Unit × Unit × Unit) × (Int × Unit × Unit × Unit × Unit) × Unit) ⊕ ((Int × Unit × Unit × Unit × Unit × Unit × Unit) × (Int × Unit × Unit × Unit × Unit) × Unit))
  | 0, _, _, _, _, _, _ => none
  | fuel + 1, yield, yield1, yield2, t5, t6, t7 =>
    bif decide (t7 < t6) then
      bif inB t7 t5.length then
        bif decide (t7.toNat < t5.length) then
          bif decide (yield = (0 : Int)) then
            obind (Y3.run N yield1 yield2 t7 (t5.getD t7.toNat ((0 : Int), ([] : List UInt8))).1 (t5.getD t7.toNat ((0 : Int), ([] : List UInt8))).2) fun y => match y with
            | .inl ((v, _, _, _, _), _) =>
                slices_All_net_one_net_one_1_f1_b_0.go N fuel (0 : Int) yield1 v t5 t6 (IntKind.i64.wrap (t7 + (1 : Int)))
            | .inr ((v1, _, _, _, _), _) =>
                some (.inl (((1 : Int), (), (), (), (), (), ()), (v1, (), (), (), ()), ()))
          else none
        else none
      else none
    else some (.inr ((yield, (), (), (), (), (), ()), (yield2, (), (), (), ()), ()))
def slices_All_net_one_net_one_1_f1_b_0.g (N n : Nat) (x : Sh.den slices_All_net_one_net_one_1_f1_b_0.ins) : Option (altsDen slices_All_net_one_net_one_1_f1_b_0.alts) := slices_All_net_one_net_one_1_f1_b_0.go N n x.1.1 x.1.2.2.2.2.1.1 x.1.2.2.2.2.2.1.1.1 x.2.1 x.2.2.1 x.2.2.2.1
def slices_All_net_one_net_one_1_f1_b_0.P (N : Nat) : Ps := ⟨slices_All_net_one_net_one_1_f1_b_0.ts, slices_All_net_one_net_one_1_f1_b_0.ins, slices_All_net_one_net_one_1_f1_b_0.asg, slices_All_net_one_net_one_1_f1_b_0.alts, slices_All_net_one_net_one_1_f1_b_0.g N N⟩
def slices_All_net_one_net_one_1_f1_b_0.lam (N : Nat) : Pcs := pcs []
theorem slices_All_net_one_net_one_1_f1_b_0.pok (N : Nat) : (slices_All_net_one_net_one_1_f1_b_0.lam N).Ok Try.prog (slices_All_net_one_net_one_1_f1_b_0.C N) slices_All_net_one_net_one_1_f1_b_0.code := pcsOk_nil
theorem slices_All_net_one_net_one_1_f1_b_0.ev (N n : Nat) (x : Sh.den slices_All_net_one_net_one_1_f1_b_0.ins) : evC (slices_All_net_one_net_one_1_f1_b_0.C N) slices_All_net_one_net_one_1_f1_b_0.code (slices_All_net_one_net_one_1_f1_b_0.lam N) ((slices_All_net_one_net_one_1_f1_b_0.P N).canon 1000 x) (loopK (slices_All_net_one_net_one_1_f1_b_0.P N) (slices_All_net_one_net_one_1_f1_b_0.g N n)) = slices_All_net_one_net_one_1_f1_b_0.g N (n + 1) x := by kernel_rfl
theorem slices_All_net_one_net_one_1_f1_b_0.ok (N : Nat) : ((slices_All_net_one_net_one_1_f1_b_0.P N).pc (slices_All_net_one_net_one_1_f1_b.C N)).Ok Try.prog (slices_All_net_one_net_one_1_f1_b.C N) (.loop slices_All_net_one_net_one_1_f1_b_0.code) := loop_ok (F := slices_All_net_one_net_one_1_f1_b_0.P N) (n0 := 1000) (N := N) (slices_All_net_one_net_one_1_f1_b.cok N) mix (slices_All_net_one_net_one_1_f1_b_0.pok N) (slices_All_net_one_net_one_1_f1_b_0.g N) (fun x => by rfl) rfl (fun n x y h => (slices_All_net_one_net_one_1_f1_b_0.ev N n x).trans h)
def slices_All_net_one_net_one_1_f1_b.outs : Sh := (.cons (.upd 0 1000003 (.cons (.val (.int .i64)) (.cons (.junk) (.cons (.junk) (.cons (.junk) (.cons (.keep 0 1) (.cons (.keep 0 2) .nil))))))) (.cons (.upd 3 1000002 (.cons (.val (.int .i64)) (.cons (.junk) (.cons (.junk) (.cons (.junk) .nil))))) .nil))
def slices_All_net_one_net_one_1_f1_b.run (N : Nat) (yield : Int) (yield1 : Int) (yield2 : Int) (t1 : (List (Int × (List UInt8)))) : Option ((Int × Unit × Unit × Unit × Unit × Unit × Unit) × (Int × Unit × Unit × Unit × Unit) × Unit) :=
  obind (slices_All_net_one_net_one_1_f1_b_0.go N N yield yield1 yield2 t1 (t1.length : Int) (0 : Int)) fun y => match y with
  | .inl ((v, _, _, _, _, _, _), (v1, _, _, _, _), _) =>
      some ((v, (), (), (), (), (), ()), (v1, (), (), (), ()), ())
  | .inr ((v2, _, _, _, _, _, _), (v3, _, _, _, _), _) =>
      some ((v2, (), (), (), (), (), ()), (v3, (), (), (), ()), ())
def slices_All_net_one_net_one_1_f1_b.fn (N : Nat) (x : Sh.den slices_All_net_one_net_one_1_f1_b.ins) : Option (Sh.den slices_All_net_one_net_one_1_f1_b.outs) := slices_All_net_one_net_one_1_f1_b.run N x.1.1 x.1.2.2.2.2.1.1 x.1.2.2.2.2.2.1.1.1 x.2.1.1
def slices_All_net_one_net_one_1_f1_b.S (N : Nat) : Fs := ⟨slices_All_net_one_net_one_1_f1_b.ins, slices_All_net_one_net_one_1_f1_b.outs, slices_All_net_one_net_one_1_f1_b.fn N⟩
def slices_All_net_one_net_one_1_f1_b.lam (N : Nat) : Pcs := pcs [([true, false], (slices_All_net_one_net_one_1_f1_b_0.P N).pc (slices_All_net_one_net_one_1_f1_b.C N))]
theorem slices_All_net_one_net_one_1_f1_b.pok (N : Nat) : (slices_All_net_one_net_one_1_f1_b.lam N).Ok Try.prog (slices_All_net_one_net_one_1_f1_b.C N) slices_All_net_one_net_one_1_f1_b.code := pcsOk_cons (c1 := .loop slices_All_net_one_net_one_1_f1_b_0.code) (by kernel_rfl) (slices_All_net_one_net_one_1_f1_b_0.ok N) (pcsOk_nil)
theorem slices_All_net_one_net_one_1_f1_b.ev (N : Nat) (x : Sh.den slices_All_net_one_net_one_1_f1_b.ins) : evC (slices_All_net_one_net_one_1_f1_b.C N) slices_All_net_one_net_one_1_f1_b.code (slices_All_net_one_net_one_1_f1_b.lam N) ⟨envOf 0 (bld (fun k => k) slices_All_net_one_net_one_1_f1_b.ins x 0).1, (bld (fun k => k) slices_All_net_one_net_one_1_f1_b.ins x 0).2.1, 1000⟩ (endF U slices_All_net_one_net_one_1_f1_b.outs Try.f37.results.toList []) = slices_All_net_one_net_one_1_f1_b.fn N x := by kernel_rfl
theorem slices_All_net_one_net_one_1_f1_b.ok (N : Nat) : (slices_All_net_one_net_one_1_f1_b.S N).con.Ok Try.prog 37 := fn_ok (F := slices_All_net_one_net_one_1_f1_b.S N) (n0 := 1000) Try.func37 (by kernel_rfl) (show Try.f37.body = some slices_All_net_one_net_one_1_f1_b.code by rfl) mix (slices_All_net_one_net_one_1_f1_b.cok N) (fun _ => rfl) (fun _ => rfl) (slices_All_net_one_net_one_1_f1_b.pok N) (fun x y h => (slices_All_net_one_net_one_1_f1_b.ev N x).trans h)
/-- (*hayloft/net.Net).To$1 -/
def net_Net_To_f1_b.ins : Sh := (.cons (.box 1000002 (.cons (.val (.int .i64)) (.cons (.junk) (.cons (.junk) (.cons (.junk) .nil))))) (.cons (.rbox 23 (.cons (.rbox 65 (.cons (.val (.int .i64)) (.cons (.rown 62 (.pair (.int .i64) (.slice .byte))) .nil))) .nil)) (.cons (.rbox 3 (.cons (.val (.int .i64)) .nil)) .nil)))
def net_Net_To_f1_b.C (N : Nat) : Ctx := ⟨U, 27, fun _ => true, gam [(27, (slices_Clone_net_one_net_one.S N).con), (35, (slices_All_net_one_net_one.S N).con), (37, (slices_All_net_one_net_one_1_f1_b.S N).con)], gamY []⟩
theorem net_Net_To_f1_b.cok (N : Nat) : (net_Net_To_f1_b.C N).Ok Try.prog := ⟨U_ok, GamOk.cons (slices_Clone_net_one_net_one.ok N) (GamOk.cons (slices_All_net_one_net_one.ok N) (GamOk.cons (slices_All_net_one_net_one_1_f1_b.ok N) (GamOk.nil))), GamYOk.nil⟩
def net_Net_To_f1_b.code : Code := Try.f34.body.getD .skip
def net_Net_To_f1_b.outs : Sh := (.cons (.upd 0 1000002 (.cons (.val (.int .i64)) (.cons (.junk) (.cons (.junk) (.cons (.junk) .nil))))) .nil)
def net_Net_To_f1_b.run (N : Nat) (yield : Int) (room_ : Int) (l : (List (Int × (List UInt8)))) (t2 : Int) : Option ((Int × Unit × Unit × Unit × Unit) × Unit) :=
  obind (slices_Clone_net_one_net_one.run N l) fun (l1, _) =>
    obind (slices_All_net_one_net_one.run N l1) fun (((v, _), _), _) =>
      obind (slices_All_net_one_net_one_1_f1_b.run N (0 : Int) t2 yield v) fun ((v1, _, _, _, _, _, _), (v2, _, _, _, _), _) =>
        bif decide (v1 = (0 : Int)) then
          some ((v2, (), (), (), ()), ())
        else
          bif decide (v1 = (1 : Int)) then
            some ((v2, (), (), (), ()), ())
          else none
def net_Net_To_f1_b.fn (N : Nat) (x : Sh.den net_Net_To_f1_b.ins) : Option (Sh.den net_Net_To_f1_b.outs) := net_Net_To_f1_b.run N x.1.1 x.2.1.1.1 x.2.1.1.2.1 x.2.2.1.1
def net_Net_To_f1_b.S (N : Nat) : Fs := ⟨net_Net_To_f1_b.ins, net_Net_To_f1_b.outs, net_Net_To_f1_b.fn N⟩
def net_Net_To_f1_b.lam (N : Nat) : Pcs := pcs [([true, true, false], rfPc (net_Net_To_f1_b.C N) 1000003 (.tmp 11) [2, 3] [.normal, .ret])]
theorem net_Net_To_f1_b.pok (N : Nat) : (net_Net_To_f1_b.lam N).Ok Try.prog (net_Net_To_f1_b.C N) net_Net_To_f1_b.code := pcsOk_cons (c1 := .rangeFunc (.tmp 11) site3.ps site3.assign site3.body) (by kernel_rfl) (rf_ok (k := 3) (fun _ => rfl) (net_Net_To_f1_b.cok N)) (pcsOk_nil)
theorem net_Net_To_f1_b.ev (N : Nat) (x : Sh.den net_Net_To_f1_b.ins) : evC (net_Net_To_f1_b.C N) net_Net_To_f1_b.code (net_Net_To_f1_b.lam N) ⟨envOf 0 (bld (fun k => k) net_Net_To_f1_b.ins x 0).1, (bld (fun k => k) net_Net_To_f1_b.ins x 0).2.1, 1000⟩ (endF U net_Net_To_f1_b.outs Try.f34.results.toList []) = net_Net_To_f1_b.fn N x := by kernel_rfl
theorem net_Net_To_f1_b.ok (N : Nat) : (net_Net_To_f1_b.S N).con.Ok Try.prog 34 := fn_ok (F := net_Net_To_f1_b.S N) (n0 := 1000) Try.func34 (by kernel_rfl) (show Try.f34.body = some net_Net_To_f1_b.code by rfl) mix (net_Net_To_f1_b.cok N) (fun _ => rfl) (fun _ => rfl) (net_Net_To_f1_b.pok N) (fun x y h => (net_Net_To_f1_b.ev N x).trans h)
def Y4.ins : Sh := (.cons (.val (.int .i64)) (.cons (.rown 5 .byte) .nil))
def Y4.C (N : Nat) : Ctx := ⟨U, 103, fun _ => true, gam [], gamY []⟩
theorem Y4.cok (N : Nat) : (Y4.C N).Ok Try.prog := ⟨U_ok, GamOk.nil, GamYOk.nil⟩
def Y4.code : Code := site4.body
def Y4.alts : List Alt := [⟨(.exit 0), [], .nil⟩]
def Y4.run (N : Nat) (t34 : Int) (t35 : (List UInt8)) : Option (Unit) :=
  some ()
def Y4.fn (N : Nat) (x : Sh.den Y4.ins) : Option (altsDen Y4.alts) := Y4.run N x.1 x.2.1
def Y4.F (N : Nat) : Ys := ⟨[], [34, 35], Y4.ins, Y4.alts, Y4.fn N⟩
def Y4.yc (N : Nat) : Yc := (Y4.F N).yc
def Y4.lam (N : Nat) : Pcs := pcs []
theorem Y4.pok (N : Nat) : (Y4.lam N).Ok Try.prog (Y4.C N) site4.body := pcsOk_nil
theorem Y4.ev (N : Nat) (x : Sh.den Y4.ins) : evC (Y4.C N) site4.assign (pcs []) ⟨addT [34, 35] (bld (fun k => k) Y4.ins x 0).1 [], (bld (fun k => k) Y4.ins x 0).2.1, 1000⟩ (thenC fun s => evC (Y4.C N) site4.body (Y4.lam N) s (altK Y4.alts)) = Y4.fn N x := by kernel_rfl
theorem Y4.ok (N : Nat) : (Y4.yc N).Ok Try.prog 1000004 := ys_ok (σ := site4) (k := 4) (C := Y4.C N) (F := Y4.F N) (n0 := 1000) (fun _ => rfl) (Y4.cok N) mix (fun _ => rfl) (show site4.ps.toList = [34, 35] by kernel_rfl) (show site4.ts = [] by kernel_rfl) (show site4.nt = 103 by kernel_rfl) rfl rfl rfl rfl rfl pcsOk_nil (Y4.pok N) (fun x y h => (Y4.ev N x).trans h)
def Y5.ins : Sh := (.cons (.rbox 3 (.cons (.val (.int .i64)) .nil)) (.cons (.rbox 76 (.cons (.box 1000004 (.cons (.val (.int .i64)) (.cons (.junk) (.cons (.junk) (.cons (.junk) .nil))))) .nil)) (.cons (.val (.int .i64)) (.cons (.agg (.cons (.val (.int .i64)) (.cons (.val (.slice .byte)) .nil))) .nil))))
def Y5.C (N : Nat) : Ctx := ⟨U, 27, fun _ => true, gam [(25, (slices_Clone_byte_byte_b.S N).con)], gamY [(1000004, Y4.yc N)]⟩
theorem Y5.cok (N : Nat) : (Y5.C N).Ok Try.prog := ⟨U_ok, GamOk.cons (slices_Clone_byte_byte_b.ok N) (GamOk.nil), GamYOk.cons (Y4.ok N) (GamYOk.nil)⟩
def Y5.code : Code := site5.body
def Y5.alts : List Alt := [⟨.normal, [], (.cons (.upd 2 1000004 (.cons (.val (.int .i64)) (.cons (.junk) (.cons (.junk) (.cons (.junk) .nil))))) .nil)⟩, ⟨.ret, [], (.cons (.upd 2 1000004 (.cons (.val (.int .i64)) (.cons (.junk) (.cons (.junk) (.cons (.junk) .nil))))) .nil)⟩]
def Y5.run (N : Nat) (t2 : Int) (yield : Int) (t12 : Int) (t13 : Int) (t131 : (List UInt8)) : Option (((Int × Unit × Unit × Unit × Unit) × Unit) ⊕ ((Int × Unit × Unit × Unit × Unit) × Unit)) :=
  bif decide (t13 = t2) then
    obind (slices_Clone_byte_byte_b.run N t131) fun (l, _) =>
      bif decide (yield = (0 : Int)) then
        obind (Y4.run N t12 l) fun _ =>
          some (.inr (((2 : Int), (), (), (), ()), ()))
      else none
  else some (.inl ((yield, (), (), (), ()), ()))
def Y5.fn (N : Nat) (x : Sh.den Y5.ins) : Option (altsDen Y5.alts) := Y5.run N x.1.1 x.2.1.1.1 x.2.2.1 x.2.2.2.1.1 x.2.2.2.1.2.1
def Y5.F (N : Nat) : Ys := ⟨[2, 3], [12, 13], Y5.ins, Y5.alts, Y5.fn N⟩
def Y5.yc (N : Nat) : Yc := (Y5.F N).yc
def Y5.lam (N : Nat) : Pcs := pcs []
theorem Y5.pok (N : Nat) : (Y5.lam N).Ok Try.prog (Y5.C N) site5.body := pcsOk_nil
theorem Y5.ev (N : Nat) (x : Sh.den Y5.ins) : evC (Y5.C N) site5.assign (pcs []) ⟨addT [2, 3, 12, 13] (bld (fun k => k) Y5.ins x 0).1 [], (bld (fun k => k) Y5.ins x 0).2.1, 1000⟩ (thenC fun s => evC (Y5.C N) site5.body (Y5.lam N) s (altK Y5.alts)) = Y5.fn N x := by kernel_rfl
theorem Y5.ok (N : Nat) : (Y5.yc N).Ok Try.prog 1000005 := ys_ok (σ := site5) (k := 5) (C := Y5.C N) (F := Y5.F N) (n0 := 1000) (fun _ => rfl) (Y5.cok N) mix (fun _ => rfl) (show site5.ps.toList = [12, 13] by kernel_rfl) (show site5.ts = [2, 3] by kernel_rfl) (show site5.nt = 27 by kernel_rfl) rfl rfl rfl rfl rfl pcsOk_nil (Y5.pok N) (fun x y h => (Y5.ev N x).trans h)
/-- slices.All[[]hayloft/net.one,hayloft/net.one]$1 -/
def slices_All_net_one_net_one_1_f1_c.ins : Sh := (.cons (.box 1000005 (.cons (.val (.int .i64)) (.cons (.junk) (.cons (.junk) (.cons (.junk) (.cons (.rbox 3 (.cons (.val (.int .i64)) .nil)) (.cons (.rbox 76 (.cons (.box 1000004 (.cons (.val (.int .i64)) (.cons (.junk) (.cons (.junk) (.cons (.junk) .nil))))) .nil)) .nil))))))) (.cons (.rbox 63 (.cons (.rown 62 (.pair (.int .i64) (.slice .byte))) .nil)) .nil))
def slices_All_net_one_net_one_1_f1_c.C (N : Nat) : Ctx := ⟨U, 18, fun _ => true, gam [], gamY [(1000005, Y5.yc N)]⟩
theorem slices_All_net_one_net_one_1_f1_c.cok (N : Nat) : (slices_All_net_one_net_one_1_f1_c.C N).Ok Try.prog := ⟨U_ok, GamOk.nil, GamYOk.cons (Y5.ok N) (GamYOk.nil)⟩
def slices_All_net_one_net_one_1_f1_c.code : Code := Try.f37.body.getD .skip
def slices_All_net_one_net_one_1_f1_c_0.ins : Sh := (.cons (.box 1000005 (.cons (.val (.int .i64)) (.cons (.junk) (.cons (.junk) (.cons (.junk) (.cons (.rbox 3 (.cons (.val (.int .i64)) .nil)) (.cons (.rbox 76 (.cons (.box 1000004 (.cons (.val (.int .i64)) (.cons (.junk) (.cons (.junk) (.cons (.junk) .nil))))) .nil)) .nil))))))) (.cons (.rown 62 (.pair (.int .i64) (.slice .byte))) (.cons (.val (.int .i64)) (.cons (.val (.int .i64)) .nil))))
def slices_All_net_one_net_one_1_f1_c_0.ts : List Tmp := [0, 5, 6, 7]
def slices_All_net_one_net_one_1_f1_c_0.asg : List Tmp := [3, 4, 7, 8, 9, 10, 11, 12, 13, 14, 15, 16, 17]
def slices_All_net_one_net_one_1_f1_c_0.C (N : Nat) : Ctx := { slices_All_net_one_net_one_1_f1_c.C N with may := fun t => slices_All_net_one_net_one_1_f1_c_0.asg.any (Nat.beq t) }
def slices_All_net_one_net_one_1_f1_c_0.code : Code := loopBody (sub slices_All_net_one_net_one_1_f1_c.code [true, false])
theorem slices_All_net_one_net_one_1_f1_c_0.cok (N : Nat) : (slices_All_net_one_net_one_1_f1_c_0.C N).Ok Try.prog := ⟨(slices_All_net_one_net_one_1_f1_c.cok N).U, (slices_All_net_one_net_one_1_f1_c.cok N).Γ, (slices_All_net_one_net_one_1_f1_c.cok N).Y⟩
def slices_All_net_one_net_one_1_f1_c_0.alts : List Alt := [⟨.ret, [], (.cons (.upd 0 1000005 (.cons (.val (.int .i64)) (.cons (.junk) (.cons (.junk) (.cons (.junk) (.cons (.keep 0 1) (.cons (.keep 0 2) .nil))))))) (.cons (.upd 3 1000004 (.cons (.val (.int .i64)) (.cons (.junk) (.cons (.junk) (.cons (.junk) .nil))))) .nil))⟩, ⟨(.exit 0), [], (.cons (.upd 0 1000005 (.cons (.val (.int .i64)) (.cons (.junk) (.cons (.junk) (.cons (.junk) (.cons (.keep 0 1) (.cons (.keep 0 2) .nil))))))) (.cons (.upd 3 1000004 (.cons (.val (.int .i64)) (.cons (.junk) (.cons (.junk) (.cons (.junk) .nil))))) .nil))⟩]
def slices_All_net_one_net_one_1_f1_c_0.go (N : Nat) : Nat → Int → Int → Int → (List (Int × (List UInt8))) → Int → Int → Option (((Int × Unit × Unit × Unit × Unit × Unit × Unit) × (Int × Unit × Unit × Unit × Unit) × Unit) ⊕ ((Int × Unit × Unit × Unit × Unit × Unit × Unit) × (Int × Unit × Unit × Unit × Unit) × Unit))
  | 0, _, _, _, _, _, _ => none
  | fuel + 1, yield, yield1, yield2, t5, t6, t7 =>
    bif decide (t7 < t6) then
      bif inB t7 t5.length then
        bif decide (t7.toNat < t5.length) then
          bif decide (yield = (0 : Int)) then
            obind (Y5.run N yield1 yield2 t7 (t5.getD t7.toNat ((0 : Int), ([] : List UInt8))).1 (t5.getD t7.toNat ((0 : Int), ([] : List UInt8))).2) fun y => match y with
            | .inl ((v, _, _, _, _), _) =>
                slices_All_net_one_net_one_1_f1_c_0.go N fuel (0 : Int) yield1 v t5 t6 (IntKind.i64.wrap (t7 + (1 : Int)))
            | .inr ((v1, _, _, _, _), _) =>
                some (.inl (((1 : Int), (), (), (), (), (), ()), (v1, (), (), (), ()), ()))
          else none
        else none
      else none
    else some (.inr ((yield, (), (), (), (), (), ()), (yield2, (), (), (), ()), ()))
def slices_All_net_one_net_one_1_f1_c_0.g (N n : Nat) (x : Sh.den slices_All_net_one_net_one_1_f1_c_0.ins) : Option (altsDen slices_All_net_one_net_one_1_f1_c_0.alts) := slices_All_net_one_net_one_1_f1_c_0.go N n x.1.1 x.1.2.2.2.2.1.1 x.1.2.2.2.2.2.1.1.1 x.2.1 x.2.2.1 x.2.2.2.1
def slices_All_net_one_net_one_1_f1_c_0.P (N : Nat) : Ps := ⟨slices_All_net_one_net_one_1_f1_c_0.ts, slices_All_net_one_net_one_1_f1_c_0.ins, slices_All_net_one_net_one_1_f1_c_0.asg, slices_All_net_one_net_one_1_f1_c_0.alts, slices_All_net_one_net_one_1_f1_c_0.g N N⟩
def slices_All_net_one_net_one_1_f1_c_0.lam (N : Nat) : Pcs := pcs []
theorem slices_All_net_one_net_one_1_f1_c_0.pok (N : Nat) : (slices_All_net_one_net_one_1_f1_c_0.lam N).Ok Try.prog (slices_All_net_one_net_one_1_f1_c_0.C N) slices_All_net_one_net_one_1_f1_c_0.code := pcsOk_nil
theorem slices_All_net_one_net_one_1_f1_c_0.ev (N n : Nat) (x : Sh.den slices_All_net_one_net_one_1_f1_c_0.ins) : evC (slices_All_net_one_net_one_1_f1_c_0.C N) slices_All_net_one_net_one_1_f1_c_0.code (slices_All_net_one_net_one_1_f1_c_0.lam N) ((slices_All_net_one_net_one_1_f1_c_0.P N).canon 1000 x) (loopK (slices_All_net_one_net_one_1_f1_c_0.P N) (slices_All_net_one_net_one_1_f1_c_0.g N n)) = slices_All_net_one_net_one_1_f1_c_0.g N (n + 1) x := by kernel_rfl
theorem slices_All_net_one_net_one_1_f1_c_0.ok (N : Nat) : ((slices_All_net_one_net_one_1_f1_c_0.P N).pc (slices_All_net_one_net_one_1_f1_c.C N)).Ok Try.prog (slices_All_net_one_net_one_1_f1_c.C N) (.loop slices_All_net_one_net_one_1_f1_c_0.code) := loop_ok (F := slices_All_net_one_net_one_1_f1_c_0.P N) (n0 := 1000) (N := N) (slices_All_net_one_net_one_1_f1_c.cok N) mix (slices_All_net_one_net_one_1_f1_c_0.pok N) (slices_All_net_one_net_one_1_f1_c_0.g N) (fun x => by rfl) rfl (fun n x y h => (slices_All_net_one_net_one_1_f1_c_0.ev N n x).trans h)
def slices_All_net_one_net_one_1_f1_c.outs : Sh := (.cons (.upd 0 1000005 (.cons (.val (.int .i64)) (.cons (.junk) (.cons (.junk) (.cons (.junk) (.cons (.keep 0 1) (.cons (.keep 0 2) .nil))))))) (.cons (.upd 3 1000004 (.cons (.val (.int .i64)) (.cons (.junk) (.cons (.junk) (.cons (.junk) .nil))))) .nil))
def slices_All_net_one_net_one_1_f1_c.run (N : Nat) (yield : Int) (yield1 : Int) (yield2 : Int) (t1 : (List (Int × (List UInt8)))) : Option ((Int × Unit × Unit × Unit × Unit × Unit × Unit) × (Int × Unit × Unit × Unit × Unit) × Unit) :=
  obind (slices_All_net_one_net_one_1_f1_c_0.go N N yield yield1 yield2 t1 (t1.length : Int) (0 : Int)) fun y => match y with
  | .inl ((v, _, _, _, _, _, _), (v1, _, _, _, _), _) =>
      some ((v, (), (), (), (), (), ()), (v1, (), (), (), ()), ())
  | .inr ((v2, _, _, _, _, _, _), (v3, _, _, _, _), _) =>
      some ((v2, (), (), (), (), (), ()), (v3, (), (), (), ()), ())
def slices_All_net_one_net_one_1_f1_c.fn (N : Nat) (x : Sh.den slices_All_net_one_net_one_1_f1_c.ins) : Option (Sh.den slices_All_net_one_net_one_1_f1_c.outs) := slices_All_net_one_net_one_1_f1_c.run N x.1.1 x.1.2.2.2.2.1.1 x.1.2.2.2.2.2.1.1.1 x.2.1.1
def slices_All_net_one_net_one_1_f1_c.S (N : Nat) : Fs := ⟨slices_All_net_one_net_one_1_f1_c.ins, slices_All_net_one_net_one_1_f1_c.outs, slices_All_net_one_net_one_1_f1_c.fn N⟩
def slices_All_net_one_net_one_1_f1_c.lam (N : Nat) : Pcs := pcs [([true, false], (slices_All_net_one_net_one_1_f1_c_0.P N).pc (slices_All_net_one_net_one_1_f1_c.C N))]
theorem slices_All_net_one_net_one_1_f1_c.pok (N : Nat) : (slices_All_net_one_net_one_1_f1_c.lam N).Ok Try.prog (slices_All_net_one_net_one_1_f1_c.C N) slices_All_net_one_net_one_1_f1_c.code := pcsOk_cons (c1 := .loop slices_All_net_one_net_one_1_f1_c_0.code) (by kernel_rfl) (slices_All_net_one_net_one_1_f1_c_0.ok N) (pcsOk_nil)
theorem slices_All_net_one_net_one_1_f1_c.ev (N : Nat) (x : Sh.den slices_All_net_one_net_one_1_f1_c.ins) : evC (slices_All_net_one_net_one_1_f1_c.C N) slices_All_net_one_net_one_1_f1_c.code (slices_All_net_one_net_one_1_f1_c.lam N) ⟨envOf 0 (bld (fun k => k) slices_All_net_one_net_one_1_f1_c.ins x 0).1, (bld (fun k => k) slices_All_net_one_net_one_1_f1_c.ins x 0).2.1, 1000⟩ (endF U slices_All_net_one_net_one_1_f1_c.outs Try.f37.results.toList []) = slices_All_net_one_net_one_1_f1_c.fn N x := by kernel_rfl
theorem slices_All_net_one_net_one_1_f1_c.ok (N : Nat) : (slices_All_net_one_net_one_1_f1_c.S N).con.Ok Try.prog 37 := fn_ok (F := slices_All_net_one_net_one_1_f1_c.S N) (n0 := 1000) Try.func37 (by kernel_rfl) (show Try.f37.body = some slices_All_net_one_net_one_1_f1_c.code by rfl) mix (slices_All_net_one_net_one_1_f1_c.cok N) (fun _ => rfl) (fun _ => rfl) (slices_All_net_one_net_one_1_f1_c.pok N) (fun x y h => (slices_All_net_one_net_one_1_f1_c.ev N x).trans h)
/-- (*hayloft/net.Net).To$1 -/
def net_Net_To_f1_c.ins : Sh := (.cons (.box 1000004 (.cons (.val (.int .i64)) (.cons (.junk) (.cons (.junk) (.cons (.junk) .nil))))) (.cons (.rbox 23 (.cons (.rbox 65 (.cons (.val (.int .i64)) (.cons (.rown 62 (.pair (.int .i64) (.slice .byte))) .nil))) .nil)) (.cons (.rbox 3 (.cons (.val (.int .i64)) .nil)) .nil)))
def net_Net_To_f1_c.C (N : Nat) : Ctx := ⟨U, 27, fun _ => true, gam [(27, (slices_Clone_net_one_net_one.S N).con), (35, (slices_All_net_one_net_one.S N).con), (37, (slices_All_net_one_net_one_1_f1_c.S N).con)], gamY []⟩
theorem net_Net_To_f1_c.cok (N : Nat) : (net_Net_To_f1_c.C N).Ok Try.prog := ⟨U_ok, GamOk.cons (slices_Clone_net_one_net_one.ok N) (GamOk.cons (slices_All_net_one_net_one.ok N) (GamOk.cons (slices_All_net_one_net_one_1_f1_c.ok N) (GamOk.nil))), GamYOk.nil⟩
def net_Net_To_f1_c.code : Code := Try.f34.body.getD .skip
def net_Net_To_f1_c.outs : Sh := (.cons (.upd 0 1000004 (.cons (.val (.int .i64)) (.cons (.junk) (.cons (.junk) (.cons (.junk) .nil))))) .nil)
def net_Net_To_f1_c.run (N : Nat) (yield : Int) (room_ : Int) (l : (List (Int × (List UInt8)))) (t2 : Int) : Option ((Int × Unit × Unit × Unit × Unit) × Unit) :=
  obind (slices_Clone_net_one_net_one.run N l) fun (l1, _) =>
    obind (slices_All_net_one_net_one.run N l1) fun (((v, _), _), _) =>
      obind (slices_All_net_one_net_one_1_f1_c.run N (0 : Int) t2 yield v) fun ((v1, _, _, _, _, _, _), (v2, _, _, _, _), _) =>
        bif decide (v1 = (0 : Int)) then
          some ((v2, (), (), (), ()), ())
        else
          bif decide (v1 = (1 : Int)) then
            some ((v2, (), (), (), ()), ())
          else none
def net_Net_To_f1_c.fn (N : Nat) (x : Sh.den net_Net_To_f1_c.ins) : Option (Sh.den net_Net_To_f1_c.outs) := net_Net_To_f1_c.run N x.1.1 x.2.1.1.1 x.2.1.1.2.1 x.2.2.1.1
def net_Net_To_f1_c.S (N : Nat) : Fs := ⟨net_Net_To_f1_c.ins, net_Net_To_f1_c.outs, net_Net_To_f1_c.fn N⟩
def net_Net_To_f1_c.lam (N : Nat) : Pcs := pcs [([true, true, false], rfPc (net_Net_To_f1_c.C N) 1000005 (.tmp 11) [2, 3] [.normal, .ret])]
theorem net_Net_To_f1_c.pok (N : Nat) : (net_Net_To_f1_c.lam N).Ok Try.prog (net_Net_To_f1_c.C N) net_Net_To_f1_c.code := pcsOk_cons (c1 := .rangeFunc (.tmp 11) site5.ps site5.assign site5.body) (by kernel_rfl) (rf_ok (k := 5) (fun _ => rfl) (net_Net_To_f1_c.cok N)) (pcsOk_nil)
theorem net_Net_To_f1_c.ev (N : Nat) (x : Sh.den net_Net_To_f1_c.ins) : evC (net_Net_To_f1_c.C N) net_Net_To_f1_c.code (net_Net_To_f1_c.lam N) ⟨envOf 0 (bld (fun k => k) net_Net_To_f1_c.ins x 0).1, (bld (fun k => k) net_Net_To_f1_c.ins x 0).2.1, 1000⟩ (endF U net_Net_To_f1_c.outs Try.f34.results.toList []) = net_Net_To_f1_c.fn N x := by kernel_rfl
theorem net_Net_To_f1_c.ok (N : Nat) : (net_Net_To_f1_c.S N).con.Ok Try.prog 34 := fn_ok (F := net_Net_To_f1_c.S N) (n0 := 1000) Try.func34 (by kernel_rfl) (show Try.f34.body = some net_Net_To_f1_c.code by rfl) mix (net_Net_To_f1_c.cok N) (fun _ => rfl) (fun _ => rfl) (net_Net_To_f1_c.pok N) (fun x y h => (net_Net_To_f1_c.ev N x).trans h)
def Y6.ins : Sh := (.cons (.rbox 3 (.cons (.val (.int .i64)) .nil)) (.cons (.box 4 (.cons (.val .bool) .nil)) (.cons (.rbox 23 (.cons (.box 65 (.cons (.val (.int .i64)) (.cons (.own 62 (.pair (.int .i64) (.slice .byte))) .nil))) .nil)) (.cons (.rbox 43 (.cons (.val (.int .i64)) (.cons (.val (.slice (.pair (.int .i64) (.slice .byte)))) .nil))) (.cons (.box 3 (.cons (.val (.int .i64)) .nil)) (.cons (.val (.int .i64)) (.cons (.rown 5 .byte) .nil)))))))
def Y6.C (N : Nat) : Ctx := ⟨U, 103, fun _ => true, gam [(12, (net_Net_Take.S N).con), (11, (net_Net_Send.S N).con)], gamY []⟩
theorem Y6.cok (N : Nat) : (Y6.C N).Ok Try.prog := ⟨U_ok, GamOk.cons (net_Net_Take.ok N) (GamOk.cons (net_Net_Send.ok N) (GamOk.nil)), GamYOk.nil⟩
def Y6.code : Code := site6.body
def Y6_0.ins : Sh := (.cons (.rbox 3 (.cons (.val (.int .i64)) .nil)) (.cons (.rbox 43 (.cons (.val (.int .i64)) (.cons (.val (.slice (.pair (.int .i64) (.slice .byte)))) .nil))) (.cons (.box 3 (.cons (.val (.int .i64)) .nil)) .nil)))
def Y6_0.ts : List Tmp := [5, 9, 10]
def Y6_0.asg : List Tmp := [41, 42, 43, 44, 45, 46, 47, 48, 49, 50, 51, 52, 53, 54, 55, 56, 57]
def Y6_0.C (N : Nat) : Ctx := { Y6.C N with may := fun t => Y6_0.asg.any (Nat.beq t) }
def Y6_0.code : Code := loopBody (sub Y6.code [false, false, false])
theorem Y6_0.cok (N : Nat) : (Y6_0.C N).Ok Try.prog := ⟨(Y6.cok N).U, (Y6.cok N).Γ, (Y6.cok N).Y⟩
def Y6_0.alts : List Alt := [⟨(.exit 4), [], (.cons (.upd 2 3 (.cons (.val (.int .i64)) .nil)) .nil)⟩]
def Y6_0.go (N : Nat) : Nat → Int → Int → (List (Int × (List UInt8))) → Int → Option (((Int × Unit) × Unit))
  | 0, _, _, _, _ => none
  | fuel + 1, to_, room_, l, k =>
    bif decide (k < (l.length : Int)) then
      bif inB k l.length then
        bif !(decide ((l.getD k.toNat ((0 : Int), ([] : List UInt8))).1 = to_)) then
          Y6_0.go N fuel to_ room_ l (IntKind.i64.wrap (k + (1 : Int)))
        else some ((k, ()), ())
      else none
    else some ((k, ()), ())
def Y6_0.g (N n : Nat) (x : Sh.den Y6_0.ins) : Option (altsDen Y6_0.alts) := Y6_0.go N n x.1.1 x.2.1.1 x.2.1.2.1 x.2.2.1.1
def Y6_0.P (N : Nat) : Ps := ⟨Y6_0.ts, Y6_0.ins, Y6_0.asg, Y6_0.alts, Y6_0.g N N⟩
def Y6_0.lam (N : Nat) : Pcs := pcs []
theorem Y6_0.pok (N : Nat) : (Y6_0.lam N).Ok Try.prog (Y6_0.C N) Y6_0.code := pcsOk_nil
theorem Y6_0.ev (N n : Nat) (x : Sh.den Y6_0.ins) : evC (Y6_0.C N) Y6_0.code (Y6_0.lam N) ((Y6_0.P N).canon 1000 x) (loopK (Y6_0.P N) (Y6_0.g N n)) = Y6_0.g N (n + 1) x := by kernel_rfl
theorem Y6_0.ok (N : Nat) : ((Y6_0.P N).pc (Y6.C N)).Ok Try.prog (Y6.C N) (.loop Y6_0.code) := loop_ok (F := Y6_0.P N) (n0 := 1000) (N := N) (Y6.cok N) mix (Y6_0.pok N) (Y6_0.g N) (fun x => by rfl) rfl (fun n x y h => (Y6_0.ev N n x).trans h)
def Y6.alts : List Alt := [⟨.normal, [], (.cons (.upd 1 4 (.cons (.val .bool) .nil)) (.cons (.upd 3 65 (.cons (.val (.int .i64)) (.cons (.own 62 (.pair (.int .i64) (.slice .byte))) .nil))) (.cons (.upd 6 3 (.cons (.val (.int .i64)) .nil)) .nil)))⟩, ⟨.ret, [], (.cons (.upd 1 4 (.cons (.val .bool) .nil)) (.cons (.upd 3 65 (.cons (.val (.int .i64)) (.cons (.own 62 (.pair (.int .i64) (.slice .byte))) .nil))) (.cons (.upd 6 3 (.cons (.val (.int .i64)) .nil)) .nil)))⟩]
def Y6.run (N : Nat) (to_ : Int) (t6 : Bool) (room_ : Int) (l : (List (Int × (List UInt8)))) (room1 : Int) (l1 : (List (Int × (List UInt8)))) (k : Int) (t39 : Int) (t40 : (List UInt8)) : Option (((Bool × Unit) × (Int × (List (Int × (List UInt8))) × Unit) × (Int × Unit) × Unit) ⊕ ((Bool × Unit) × (Int × (List (Int × (List UInt8))) × Unit) × (Int × Unit) × Unit)) :=
  obind (Y6_0.go N N to_ room1 l1 k) fun ((v, _), _) =>
    bif decide (v ≥ (l1.length : Int)) then
      some (.inr ((false, ()), (room_, l, ()), (v, ()), ()))
    else
      bif !(decide (t39 = v)) then
        some (.inr ((false, ()), (room_, l, ()), (v, ()), ()))
      else
        bif inB v l1.length then
          bif !(decide (t40 = (l1.getD v.toNat ((0 : Int), ([] : List UInt8))).2)) then
            some (.inr ((false, ()), (room_, l, ()), (v, ()), ()))
          else
            obind (net_Net_Take.run N room_ l (0 : Int)) fun ((room2, l2, _), n_, l3, b, _) =>
              obind (net_Net_Send.run N room2 l2 to_ ([(1 : UInt8), (2 : UInt8), (3 : UInt8)] : List UInt8)) fun ((room3, l4, _), n1, _) =>
                some (.inl ((t6, ()), (room3, l4, ()), (IntKind.i64.wrap (v + (1 : Int)), ()), ()))
        else none
def Y6.fn (N : Nat) (x : Sh.den Y6.ins) : Option (altsDen Y6.alts) := Y6.run N x.1.1 x.2.1.1 x.2.2.1.1.1 x.2.2.1.1.2.1 x.2.2.2.1.1 x.2.2.2.1.2.1 x.2.2.2.2.1.1 x.2.2.2.2.2.1 x.2.2.2.2.2.2.1
def Y6.F (N : Nat) : Ys := ⟨[5, 6, 7, 9, 10], [39, 40], Y6.ins, Y6.alts, Y6.fn N⟩
def Y6.yc (N : Nat) : Yc := (Y6.F N).yc
def Y6.lam (N : Nat) : Pcs := pcs [([false, false, false], (Y6_0.P N).pc (Y6.C N))]
theorem Y6.pok (N : Nat) : (Y6.lam N).Ok Try.prog (Y6.C N) site6.body := pcsOk_cons (c1 := .loop Y6_0.code) (by kernel_rfl) (Y6_0.ok N) (pcsOk_nil)
theorem Y6.ev (N : Nat) (x : Sh.den Y6.ins) : evC (Y6.C N) site6.assign (pcs []) ⟨addT [5, 6, 7, 9, 10, 39, 40] (bld (fun k => k) Y6.ins x 0).1 [], (bld (fun k => k) Y6.ins x 0).2.1, 1000⟩ (thenC fun s => evC (Y6.C N) site6.body (Y6.lam N) s (altK Y6.alts)) = Y6.fn N x := by kernel_rfl
theorem Y6.ok (N : Nat) : (Y6.yc N).Ok Try.prog 1000006 := ys_ok (σ := site6) (k := 6) (C := Y6.C N) (F := Y6.F N) (n0 := 1000) (fun _ => rfl) (Y6.cok N) mix (fun _ => rfl) (show site6.ps.toList = [39, 40] by kernel_rfl) (show site6.ts = [5, 6, 7, 9, 10] by kernel_rfl) (show site6.nt = 103 by kernel_rfl) rfl rfl rfl rfl rfl pcsOk_nil (Y6.pok N) (fun x y h => (Y6.ev N x).trans h)
def Y7.ins : Sh := (.cons (.rbox 3 (.cons (.val (.int .i64)) .nil)) (.cons (.rbox 76 (.cons (.box 1000006 (.cons (.val (.int .i64)) (.cons (.junk) (.cons (.junk) (.cons (.junk) (.cons (.rbox 3 (.cons (.val (.int .i64)) .nil)) (.cons (.box 4 (.cons (.val .bool) .nil)) (.cons (.rbox 23 (.cons (.box 65 (.cons (.val (.int .i64)) (.cons (.own 62 (.pair (.int .i64) (.slice .byte))) .nil))) .nil)) (.cons (.rbox 43 (.cons (.val (.int .i64)) (.cons (.val (.slice (.pair (.int .i64) (.slice .byte)))) .nil))) (.cons (.box 3 (.cons (.val (.int .i64)) .nil)) .nil)))))))))) .nil)) (.cons (.val (.int .i64)) (.cons (.agg (.cons (.val (.int .i64)) (.cons (.val (.slice .byte)) .nil))) .nil))))
def Y7.C (N : Nat) : Ctx := ⟨U, 27, fun _ => true, gam [(25, (slices_Clone_byte_byte_b.S N).con)], gamY [(1000006, Y6.yc N)]⟩
theorem Y7.cok (N : Nat) : (Y7.C N).Ok Try.prog := ⟨U_ok, GamOk.cons (slices_Clone_byte_byte_b.ok N) (GamOk.nil), GamYOk.cons (Y6.ok N) (GamYOk.nil)⟩
def Y7.code : Code := site7.body
def Y7.alts : List Alt := [⟨.normal, [], (.cons (.upd 4 4 (.cons (.val .bool) .nil)) (.cons (.upd 6 65 (.cons (.val (.int .i64)) (.cons (.own 62 (.pair (.int .i64) (.slice .byte))) .nil))) (.cons (.upd 9 3 (.cons (.val (.int .i64)) .nil)) (.cons (.upd 2 1000006 (.cons (.val (.int .i64)) (.cons (.junk) (.cons (.junk) (.cons (.junk) (.cons (.keep 0 3) (.cons (.ref 0) (.cons (.keep 0 5) (.cons (.keep 0 8) (.cons (.ref 3) .nil)))))))))) .nil))))⟩, ⟨.ret, [], (.cons (.upd 4 4 (.cons (.val .bool) .nil)) (.cons (.upd 6 65 (.cons (.val (.int .i64)) (.cons (.own 62 (.pair (.int .i64) (.slice .byte))) .nil))) (.cons (.upd 9 3 (.cons (.val (.int .i64)) .nil)) (.cons (.upd 2 1000006 (.cons (.val (.int .i64)) (.cons (.junk) (.cons (.junk) (.cons (.junk) (.cons (.keep 0 3) (.cons (.ref 0) (.cons (.keep 0 5) (.cons (.keep 0 8) (.cons (.ref 3) .nil)))))))))) .nil))))⟩]
def Y7.run (N : Nat) (t2 : Int) (yield : Int) (yield1 : Int) (yield2 : Bool) (room_ : Int) (l : (List (Int × (List UInt8)))) (room1 : Int) (l1 : (List (Int × (List UInt8)))) (yield3 : Int) (t12 : Int) (t13 : Int) (t131 : (List UInt8)) : Option (((Bool × Unit) × (Int × (List (Int × (List UInt8))) × Unit) × (Int × Unit) × (Int × Unit × Unit × Unit × Unit × Unit × Unit × Unit × Unit × Unit) × Unit) ⊕ ((Bool × Unit) × (Int × (List (Int × (List UInt8))) × Unit) × (Int × Unit) × (Int × Unit × Unit × Unit × Unit × Unit × Unit × Unit × Unit × Unit) × Unit)) :=
  bif decide (t13 = t2) then
    obind (slices_Clone_byte_byte_b.run N t131) fun (l2, _) =>
      bif decide (yield = (0 : Int)) then
        obind (Y6.run N yield1 yield2 room_ l room1 l1 yield3 t12 l2) fun y => match y with
        | .inl ((v, _), (room2, l3, _), (v1, _), _) =>
            some (.inl ((v, ()), (room2, l3, ()), (v1, ()), ((0 : Int), (), (), (), (), (), (), (), (), ()), ()))
        | .inr ((v2, _), (room3, l4, _), (v3, _), _) =>
            some (.inr ((v2, ()), (room3, l4, ()), (v3, ()), ((1 : Int), (), (), (), (), (), (), (), (), ()), ()))
      else none
  else some (.inl ((yield2, ()), (room_, l, ()), (yield3, ()), (yield, (), (), (), (), (), (), (), (), ()), ()))
def Y7.fn (N : Nat) (x : Sh.den Y7.ins) : Option (altsDen Y7.alts) := Y7.run N x.1.1 x.2.1.1.1 x.2.1.1.2.2.2.2.1.1 x.2.1.1.2.2.2.2.2.1.1 x.2.1.1.2.2.2.2.2.2.1.1.1 x.2.1.1.2.2.2.2.2.2.1.1.2.1 x.2.1.1.2.2.2.2.2.2.2.1.1 x.2.1.1.2.2.2.2.2.2.2.1.2.1 x.2.1.1.2.2.2.2.2.2.2.2.1.1 x.2.2.1 x.2.2.2.1.1 x.2.2.2.1.2.1
def Y7.F (N : Nat) : Ys := ⟨[2, 3], [12, 13], Y7.ins, Y7.alts, Y7.fn N⟩
def Y7.yc (N : Nat) : Yc := (Y7.F N).yc
def Y7.lam (N : Nat) : Pcs := pcs []
theorem Y7.pok (N : Nat) : (Y7.lam N).Ok Try.prog (Y7.C N) site7.body := pcsOk_nil
theorem Y7.ev (N : Nat) (x : Sh.den Y7.ins) : evC (Y7.C N) site7.assign (pcs []) ⟨addT [2, 3, 12, 13] (bld (fun k => k) Y7.ins x 0).1 [], (bld (fun k => k) Y7.ins x 0).2.1, 1000⟩ (thenC fun s => evC (Y7.C N) site7.body (Y7.lam N) s (altK Y7.alts)) = Y7.fn N x := by kernel_rfl
theorem Y7.ok (N : Nat) : (Y7.yc N).Ok Try.prog 1000007 := ys_ok (σ := site7) (k := 7) (C := Y7.C N) (F := Y7.F N) (n0 := 1000) (fun _ => rfl) (Y7.cok N) mix (fun _ => rfl) (show site7.ps.toList = [12, 13] by kernel_rfl) (show site7.ts = [2, 3] by kernel_rfl) (show site7.nt = 27 by kernel_rfl) rfl rfl rfl rfl rfl pcsOk_nil (Y7.pok N) (fun x y h => (Y7.ev N x).trans h)
/-- slices.All[[]hayloft/net.one,hayloft/net.one]$1 -/
def slices_All_net_one_net_one_1_f1_d.ins : Sh := (.cons (.box 1000007 (.cons (.val (.int .i64)) (.cons (.junk) (.cons (.junk) (.cons (.junk) (.cons (.rbox 3 (.cons (.val (.int .i64)) .nil)) (.cons (.rbox 76 (.cons (.box 1000006 (.cons (.val (.int .i64)) (.cons (.junk) (.cons (.junk) (.cons (.junk) (.cons (.rbox 3 (.cons (.val (.int .i64)) .nil)) (.cons (.box 4 (.cons (.val .bool) .nil)) (.cons (.rbox 23 (.cons (.box 65 (.cons (.val (.int .i64)) (.cons (.own 62 (.pair (.int .i64) (.slice .byte))) .nil))) .nil)) (.cons (.rbox 43 (.cons (.val (.int .i64)) (.cons (.val (.slice (.pair (.int .i64) (.slice .byte)))) .nil))) (.cons (.box 3 (.cons (.val (.int .i64)) .nil)) .nil)))))))))) .nil)) .nil))))))) (.cons (.rbox 63 (.cons (.rown 62 (.pair (.int .i64) (.slice .byte))) .nil)) .nil))
def slices_All_net_one_net_one_1_f1_d.C (N : Nat) : Ctx := ⟨U, 18, fun _ => true, gam [], gamY [(1000007, Y7.yc N)]⟩
theorem slices_All_net_one_net_one_1_f1_d.cok (N : Nat) : (slices_All_net_one_net_one_1_f1_d.C N).Ok Try.prog := ⟨U_ok, GamOk.nil, GamYOk.cons (Y7.ok N) (GamYOk.nil)⟩
def slices_All_net_one_net_one_1_f1_d.code : Code := Try.f37.body.getD .skip
def slices_All_net_one_net_one_1_f1_d_0.ins : Sh := (.cons (.box 1000007 (.cons (.val (.int .i64)) (.cons (.junk) (.cons (.junk) (.cons (.junk) (.cons (.rbox 3 (.cons (.val (.int .i64)) .nil)) (.cons (.rbox 76 (.cons (.box 1000006 (.cons (.val (.int .i64)) (.cons (.junk) (.cons (.junk) (.cons (.junk) (.cons (.rbox 3 (.cons (.val (.int .i64)) .nil)) (.cons (.box 4 (.cons (.val .bool) .nil)) (.cons (.rbox 23 (.cons (.box 65 (.cons (.val (.int .i64)) (.cons (.own 62 (.pair (.int .i64) (.slice .byte))) .nil))) .nil)) (.cons (.rbox 43 (.cons (.val (.int .i64)) (.cons (.val (.slice (.pair (.int .i64) (.slice .byte)))) .nil))) (.cons (.box 3 (.cons (.val (.int .i64)) .nil)) .nil)))))))))) .nil)) .nil))))))) (.cons (.rown 62 (.pair (.int .i64) (.slice .byte))) (.cons (.val (.int .i64)) (.cons (.val (.int .i64)) .nil))))
def slices_All_net_one_net_one_1_f1_d_0.ts : List Tmp := [0, 5, 6, 7]
def slices_All_net_one_net_one_1_f1_d_0.asg : List Tmp := [3, 4, 7, 8, 9, 10, 11, 12, 13, 14, 15, 16, 17]
def slices_All_net_one_net_one_1_f1_d_0.C (N : Nat) : Ctx := { slices_All_net_one_net_one_1_f1_d.C N with may := fun t => slices_All_net_one_net_one_1_f1_d_0.asg.any (Nat.beq t) }
def slices_All_net_one_net_one_1_f1_d_0.code : Code := loopBody (sub slices_All_net_one_net_one_1_f1_d.code [true, false])
theorem slices_All_net_one_net_one_1_f1_d_0.cok (N : Nat) : (slices_All_net_one_net_one_1_f1_d_0.C N).Ok Try.prog := ⟨(slices_All_net_one_net_one_1_f1_d.cok N).U, (slices_All_net_one_net_one_1_f1_d.cok N).Γ, (slices_All_net_one_net_one_1_f1_d.cok N).Y⟩
def slices_All_net_one_net_one_1_f1_d_0.alts : List Alt := [⟨.ret, [], (.cons (.upd 5 4 (.cons (.val .bool) .nil)) (.cons (.upd 7 65 (.cons (.val (.int .i64)) (.cons (.own 62 (.pair (.int .i64) (.slice .byte))) .nil))) (.cons (.upd 10 3 (.cons (.val (.int .i64)) .nil)) (.cons (.upd 0 1000007 (.cons (.val (.int .i64)) (.cons (.junk) (.cons (.junk) (.cons (.junk) (.cons (.keep 0 1) (.cons (.keep 0 2) .nil))))))) (.cons (.upd 3 1000006 (.cons (.val (.int .i64)) (.cons (.junk) (.cons (.junk) (.cons (.junk) (.cons (.keep 0 4) (.cons (.ref 0) (.cons (.keep 0 6) (.cons (.keep 0 9) (.cons (.ref 3) .nil)))))))))) .nil)))))⟩, ⟨(.exit 0), [], (.cons (.upd 5 4 (.cons (.val .bool) .nil)) (.cons (.upd 7 65 (.cons (.val (.int .i64)) (.cons (.own 62 (.pair (.int .i64) (.slice .byte))) .nil))) (.cons (.upd 10 3 (.cons (.val (.int .i64)) .nil)) (.cons (.upd 0 1000007 (.cons (.val (.int .i64)) (.cons (.junk) (.cons (.junk) (.cons (.junk) (.cons (.keep 0 1) (.cons (.keep 0 2) .nil))))))) (.cons (.upd 3 1000006 (.cons (.val (.int .i64)) (.cons (.junk) (.cons (.junk) (.cons (.junk) (.cons (.keep 0 4) (.cons (.ref 0) (.cons (.keep 0 6) (.cons (.keep 0 9) (.cons (.ref 3) .nil)))))))))) .nil)))))⟩]
def slices_All_net_one_net_one_1_f1_d_0.go (N : Nat) : Nat → Int → Int → Int → Int → Bool → Int → (List (Int × (List UInt8))) → Int → (List (Int × (List UInt8))) → Int → (List (Int × (List UInt8))) → Int → Int → Option (((Bool × Unit) × (Int × (List (Int × (List UInt8))) × Unit) × (Int × Unit) × (Int × Unit × Unit × Unit × Unit × Unit × Unit) × (Int × Unit × Unit × Unit × Unit × Unit × Unit × Unit × Unit × Unit) × Unit) ⊕ ((Bool × Unit) × (Int × (List (Int × (List UInt8))) × Unit) × (Int × Unit) × (Int × Unit × Unit × Unit × Unit × Unit × Unit) × (Int × Unit × Unit × Unit × Unit × Unit × Unit × Unit × Unit × Unit) × Unit))
  | 0, _, _, _, _, _, _, _, _, _, _, _, _, _ => none
  | fuel + 1, yield, yield1, yield2, yield3, yield4, room_, l, room1, l1, yield5, t5, t6, t7 =>
    bif decide (t7 < t6) then
      bif inB t7 t5.length then
        bif decide (t7.toNat < t5.length) then
          bif decide (yield = (0 : Int)) then
            obind (Y7.run N yield1 yield2 yield3 yield4 room_ l room1 l1 yield5 t7 (t5.getD t7.toNat ((0 : Int), ([] : List UInt8))).1 (t5.getD t7.toNat ((0 : Int), ([] : List UInt8))).2) fun y => match y with
            | .inl ((v, _), (room2, l2, _), (v1, _), (v2, _, _, _, _, _, _, _, _, _), _) =>
                slices_All_net_one_net_one_1_f1_d_0.go N fuel (0 : Int) yield1 v2 yield3 v room2 l2 room1 l1 v1 t5 t6 (IntKind.i64.wrap (t7 + (1 : Int)))
            | .inr ((v3, _), (room3, l3, _), (v4, _), (v5, _, _, _, _, _, _, _, _, _), _) =>
                some (.inl ((v3, ()), (room3, l3, ()), (v4, ()), ((1 : Int), (), (), (), (), (), ()), (v5, (), (), (), (), (), (), (), (), ()), ()))
          else none
        else none
      else none
    else some (.inr ((yield4, ()), (room_, l, ()), (yield5, ()), (yield, (), (), (), (), (), ()), (yield2, (), (), (), (), (), (), (), (), ()), ()))
def slices_All_net_one_net_one_1_f1_d_0.g (N n : Nat) (x : Sh.den slices_All_net_one_net_one_1_f1_d_0.ins) : Option (altsDen slices_All_net_one_net_one_1_f1_d_0.alts) := slices_All_net_one_net_one_1_f1_d_0.go N n x.1.1 x.1.2.2.2.2.1.1 x.1.2.2.2.2.2.1.1.1 x.1.2.2.2.2.2.1.1.2.2.2.2.1.1 x.1.2.2.2.2.2.1.1.2.2.2.2.2.1.1 x.1.2.2.2.2.2.1.1.2.2.2.2.2.2.1.1.1 x.1.2.2.2.2.2.1.1.2.2.2.2.2.2.1.1.2.1 x.1.2.2.2.2.2.1.1.2.2.2.2.2.2.2.1.1 x.1.2.2.2.2.2.1.1.2.2.2.2.2.2.2.1.2.1 x.1.2.2.2.2.2.1.1.2.2.2.2.2.2.2.2.1.1 x.2.1 x.2.2.1 x.2.2.2.1
def slices_All_net_one_net_one_1_f1_d_0.P (N : Nat) : Ps := ⟨slices_All_net_one_net_one_1_f1_d_0.ts, slices_All_net_one_net_one_1_f1_d_0.ins, slices_All_net_one_net_one_1_f1_d_0.asg, slices_All_net_one_net_one_1_f1_d_0.alts, slices_All_net_one_net_one_1_f1_d_0.g N N⟩
def slices_All_net_one_net_one_1_f1_d_0.lam (N : Nat) : Pcs := pcs []
theorem slices_All_net_one_net_one_1_f1_d_0.pok (N : Nat) : (slices_All_net_one_net_one_1_f1_d_0.lam N).Ok Try.prog (slices_All_net_one_net_one_1_f1_d_0.C N) slices_All_net_one_net_one_1_f1_d_0.code := pcsOk_nil
theorem slices_All_net_one_net_one_1_f1_d_0.ev (N n : Nat) (x : Sh.den slices_All_net_one_net_one_1_f1_d_0.ins) : evC (slices_All_net_one_net_one_1_f1_d_0.C N) slices_All_net_one_net_one_1_f1_d_0.code (slices_All_net_one_net_one_1_f1_d_0.lam N) ((slices_All_net_one_net_one_1_f1_d_0.P N).canon 1000 x) (loopK (slices_All_net_one_net_one_1_f1_d_0.P N) (slices_All_net_one_net_one_1_f1_d_0.g N n)) = slices_All_net_one_net_one_1_f1_d_0.g N (n + 1) x := by kernel_rfl
theorem slices_All_net_one_net_one_1_f1_d_0.ok (N : Nat) : ((slices_All_net_one_net_one_1_f1_d_0.P N).pc (slices_All_net_one_net_one_1_f1_d.C N)).Ok Try.prog (slices_All_net_one_net_one_1_f1_d.C N) (.loop slices_All_net_one_net_one_1_f1_d_0.code) := loop_ok (F := slices_All_net_one_net_one_1_f1_d_0.P N) (n0 := 1000) (N := N) (slices_All_net_one_net_one_1_f1_d.cok N) mix (slices_All_net_one_net_one_1_f1_d_0.pok N) (slices_All_net_one_net_one_1_f1_d_0.g N) (fun x => by rfl) rfl (fun n x y h => (slices_All_net_one_net_one_1_f1_d_0.ev N n x).trans h)
def slices_All_net_one_net_one_1_f1_d.outs : Sh := (.cons (.upd 5 4 (.cons (.val .bool) .nil)) (.cons (.upd 7 65 (.cons (.val (.int .i64)) (.cons (.own 62 (.pair (.int .i64) (.slice .byte))) .nil))) (.cons (.upd 10 3 (.cons (.val (.int .i64)) .nil)) (.cons (.upd 0 1000007 (.cons (.val (.int .i64)) (.cons (.junk) (.cons (.junk) (.cons (.junk) (.cons (.keep 0 1) (.cons (.keep 0 2) .nil))))))) (.cons (.upd 3 1000006 (.cons (.val (.int .i64)) (.cons (.junk) (.cons (.junk) (.cons (.junk) (.cons (.keep 0 4) (.cons (.ref 0) (.cons (.keep 0 6) (.cons (.keep 0 9) (.cons (.ref 3) .nil)))))))))) .nil)))))
def slices_All_net_one_net_one_1_f1_d.run (N : Nat) (yield : Int) (yield1 : Int) (yield2 : Int) (yield3 : Int) (yield4 : Bool) (room_ : Int) (l : (List (Int × (List UInt8)))) (room1 : Int) (l1 : (List (Int × (List UInt8)))) (yield5 : Int) (t1 : (List (Int × (List UInt8)))) : Option ((Bool × Unit) × (Int × (List (Int × (List UInt8))) × Unit) × (Int × Unit) × (Int × Unit × Unit × Unit × Unit × Unit × Unit) × (Int × Unit × Unit × Unit × Unit × Unit × Unit × Unit × Unit × Unit) × Unit) :=
  obind (slices_All_net_one_net_one_1_f1_d_0.go N N yield yield1 yield2 yield3 yield4 room_ l room1 l1 yield5 t1 (t1.length : Int) (0 : Int)) fun y => match y with
  | .inl ((v, _), (room2, l2, _), (v1, _), (v2, _, _, _, _, _, _), (v3, _, _, _, _, _, _, _, _, _), _) =>
      some ((v, ()), (room2, l2, ()), (v1, ()), (v2, (), (), (), (), (), ()), (v3, (), (), (), (), (), (), (), (), ()), ())
  | .inr ((v4, _), (room3, l3, _), (v5, _), (v6, _, _, _, _, _, _), (v7, _, _, _, _, _, _, _, _, _), _) =>
      some ((v4, ()), (room3, l3, ()), (v5, ()), (v6, (), (), (), (), (), ()), (v7, (), (), (), (), (), (), (), (), ()), ())
def slices_All_net_one_net_one_1_f1_d.fn (N : Nat) (x : Sh.den slices_All_net_one_net_one_1_f1_d.ins) : Option (Sh.den slices_All_net_one_net_one_1_f1_d.outs) := slices_All_net_one_net_one_1_f1_d.run N x.1.1 x.1.2.2.2.2.1.1 x.1.2.2.2.2.2.1.1.1 x.1.2.2.2.2.2.1.1.2.2.2.2.1.1 x.1.2.2.2.2.2.1.1.2.2.2.2.2.1.1 x.1.2.2.2.2.2.1.1.2.2.2.2.2.2.1.1.1 x.1.2.2.2.2.2.1.1.2.2.2.2.2.2.1.1.2.1 x.1.2.2.2.2.2.1.1.2.2.2.2.2.2.2.1.1 x.1.2.2.2.2.2.1.1.2.2.2.2.2.2.2.1.2.1 x.1.2.2.2.2.2.1.1.2.2.2.2.2.2.2.2.1.1 x.2.1.1
def slices_All_net_one_net_one_1_f1_d.S (N : Nat) : Fs := ⟨slices_All_net_one_net_one_1_f1_d.ins, slices_All_net_one_net_one_1_f1_d.outs, slices_All_net_one_net_one_1_f1_d.fn N⟩
def slices_All_net_one_net_one_1_f1_d.lam (N : Nat) : Pcs := pcs [([true, false], (slices_All_net_one_net_one_1_f1_d_0.P N).pc (slices_All_net_one_net_one_1_f1_d.C N))]
theorem slices_All_net_one_net_one_1_f1_d.pok (N : Nat) : (slices_All_net_one_net_one_1_f1_d.lam N).Ok Try.prog (slices_All_net_one_net_one_1_f1_d.C N) slices_All_net_one_net_one_1_f1_d.code := pcsOk_cons (c1 := .loop slices_All_net_one_net_one_1_f1_d_0.code) (by kernel_rfl) (slices_All_net_one_net_one_1_f1_d_0.ok N) (pcsOk_nil)
theorem slices_All_net_one_net_one_1_f1_d.ev (N : Nat) (x : Sh.den slices_All_net_one_net_one_1_f1_d.ins) : evC (slices_All_net_one_net_one_1_f1_d.C N) slices_All_net_one_net_one_1_f1_d.code (slices_All_net_one_net_one_1_f1_d.lam N) ⟨envOf 0 (bld (fun k => k) slices_All_net_one_net_one_1_f1_d.ins x 0).1, (bld (fun k => k) slices_All_net_one_net_one_1_f1_d.ins x 0).2.1, 1000⟩ (endF U slices_All_net_one_net_one_1_f1_d.outs Try.f37.results.toList []) = slices_All_net_one_net_one_1_f1_d.fn N x := by kernel_rfl
theorem slices_All_net_one_net_one_1_f1_d.ok (N : Nat) : (slices_All_net_one_net_one_1_f1_d.S N).con.Ok Try.prog 37 := fn_ok (F := slices_All_net_one_net_one_1_f1_d.S N) (n0 := 1000) Try.func37 (by kernel_rfl) (show Try.f37.body = some slices_All_net_one_net_one_1_f1_d.code by rfl) mix (slices_All_net_one_net_one_1_f1_d.cok N) (fun _ => rfl) (fun _ => rfl) (slices_All_net_one_net_one_1_f1_d.pok N) (fun x y h => (slices_All_net_one_net_one_1_f1_d.ev N x).trans h)
/-- (*hayloft/net.Net).To$1 -/
def net_Net_To_f1_d.ins : Sh := (.cons (.box 1000006 (.cons (.val (.int .i64)) (.cons (.junk) (.cons (.junk) (.cons (.junk) (.cons (.rbox 3 (.cons (.val (.int .i64)) .nil)) (.cons (.box 4 (.cons (.val .bool) .nil)) (.cons (.rbox 23 (.cons (.box 65 (.cons (.val (.int .i64)) (.cons (.own 62 (.pair (.int .i64) (.slice .byte))) .nil))) .nil)) (.cons (.rbox 43 (.cons (.val (.int .i64)) (.cons (.val (.slice (.pair (.int .i64) (.slice .byte)))) .nil))) (.cons (.box 3 (.cons (.val (.int .i64)) .nil)) .nil)))))))))) (.cons (.rbox 23 (.cons (.ref 4) .nil)) (.cons (.rbox 3 (.cons (.val (.int .i64)) .nil)) .nil)))
def net_Net_To_f1_d.C (N : Nat) : Ctx := ⟨U, 27, fun _ => true, gam [(27, (slices_Clone_net_one_net_one.S N).con), (35, (slices_All_net_one_net_one.S N).con), (37, (slices_All_net_one_net_one_1_f1_d.S N).con)], gamY []⟩
theorem net_Net_To_f1_d.cok (N : Nat) : (net_Net_To_f1_d.C N).Ok Try.prog := ⟨U_ok, GamOk.cons (slices_Clone_net_one_net_one.ok N) (GamOk.cons (slices_All_net_one_net_one.ok N) (GamOk.cons (slices_All_net_one_net_one_1_f1_d.ok N) (GamOk.nil))), GamYOk.nil⟩
def net_Net_To_f1_d.code : Code := Try.f34.body.getD .skip
def net_Net_To_f1_d.outs : Sh := (.cons (.upd 2 4 (.cons (.val .bool) .nil)) (.cons (.upd 4 65 (.cons (.val (.int .i64)) (.cons (.own 62 (.pair (.int .i64) (.slice .byte))) .nil))) (.cons (.upd 7 3 (.cons (.val (.int .i64)) .nil)) (.cons (.upd 0 1000006 (.cons (.val (.int .i64)) (.cons (.junk) (.cons (.junk) (.cons (.junk) (.cons (.keep 0 1) (.cons (.ref 0) (.cons (.keep 0 3) (.cons (.keep 0 6) (.cons (.ref 3) .nil)))))))))) .nil))))
def net_Net_To_f1_d.run (N : Nat) (yield : Int) (yield1 : Int) (yield2 : Bool) (room_ : Int) (l : (List (Int × (List UInt8)))) (room1 : Int) (l1 : (List (Int × (List UInt8)))) (yield3 : Int) (t2 : Int) : Option ((Bool × Unit) × (Int × (List (Int × (List UInt8))) × Unit) × (Int × Unit) × (Int × Unit × Unit × Unit × Unit × Unit × Unit × Unit × Unit × Unit) × Unit) :=
  obind (slices_Clone_net_one_net_one.run N l) fun (l2, _) =>
    obind (slices_All_net_one_net_one.run N l2) fun (((v, _), _), _) =>
      obind (slices_All_net_one_net_one_1_f1_d.run N (0 : Int) t2 yield yield1 yield2 room_ l room1 l1 yield3 v) fun ((v1, _), (room2, l3, _), (v2, _), (v3, _, _, _, _, _, _), (v4, _, _, _, _, _, _, _, _, _), _) =>
        bif decide (v3 = (0 : Int)) then
          some ((v1, ()), (room2, l3, ()), (v2, ()), (v4, (), (), (), (), (), (), (), (), ()), ())
        else
          bif decide (v3 = (1 : Int)) then
            some ((v1, ()), (room2, l3, ()), (v2, ()), (v4, (), (), (), (), (), (), (), (), ()), ())
          else none
def net_Net_To_f1_d.fn (N : Nat) (x : Sh.den net_Net_To_f1_d.ins) : Option (Sh.den net_Net_To_f1_d.outs) := net_Net_To_f1_d.run N x.1.1 x.1.2.2.2.2.1.1 x.1.2.2.2.2.2.1.1 x.1.2.2.2.2.2.2.1.1.1 x.1.2.2.2.2.2.2.1.1.2.1 x.1.2.2.2.2.2.2.2.1.1 x.1.2.2.2.2.2.2.2.1.2.1 x.1.2.2.2.2.2.2.2.2.1.1 x.2.2.1.1
def net_Net_To_f1_d.S (N : Nat) : Fs := ⟨net_Net_To_f1_d.ins, net_Net_To_f1_d.outs, net_Net_To_f1_d.fn N⟩
def net_Net_To_f1_d.lam (N : Nat) : Pcs := pcs [([true, true, false], rfPc (net_Net_To_f1_d.C N) 1000007 (.tmp 11) [2, 3] [.normal, .ret])]
theorem net_Net_To_f1_d.pok (N : Nat) : (net_Net_To_f1_d.lam N).Ok Try.prog (net_Net_To_f1_d.C N) net_Net_To_f1_d.code := pcsOk_cons (c1 := .rangeFunc (.tmp 11) site7.ps site7.assign site7.body) (by kernel_rfl) (rf_ok (k := 7) (fun _ => rfl) (net_Net_To_f1_d.cok N)) (pcsOk_nil)
theorem net_Net_To_f1_d.ev (N : Nat) (x : Sh.den net_Net_To_f1_d.ins) : evC (net_Net_To_f1_d.C N) net_Net_To_f1_d.code (net_Net_To_f1_d.lam N) ⟨envOf 0 (bld (fun k => k) net_Net_To_f1_d.ins x 0).1, (bld (fun k => k) net_Net_To_f1_d.ins x 0).2.1, 1000⟩ (endF U net_Net_To_f1_d.outs Try.f34.results.toList []) = net_Net_To_f1_d.fn N x := by kernel_rfl
theorem net_Net_To_f1_d.ok (N : Nat) : (net_Net_To_f1_d.S N).con.Ok Try.prog 34 := fn_ok (F := net_Net_To_f1_d.S N) (n0 := 1000) Try.func34 (by kernel_rfl) (show Try.f34.body = some net_Net_To_f1_d.code by rfl) mix (net_Net_To_f1_d.cok N) (fun _ => rfl) (fun _ => rfl) (net_Net_To_f1_d.pok N) (fun x y h => (net_Net_To_f1_d.ev N x).trans h)
/-- hayloft/hayloftlaw05.NetRange -/
def law_NetRange.ins : Sh := (.cons (.val (.int .i64)) (.cons (.val (.slice (.pair (.int .i64) (.pair (.int .i64) (.pair (.int .i64) (.slice .byte)))))) (.cons (.val (.int .i64)) .nil)))
def law_NetRange.C (N : Nat) : Ctx := ⟨U, 103, fun _ => true, gam [(9, (law_begun.S N).con), (18, (ref_New.S N).con), (17, (law_run.S N).con), (22, (net_Net_To.S N).con), (34, (((((net_Net_To_f1_b.S N).con).or (net_Net_To_f1_c.S N).con)).or (net_Net_To_f1_d.S N).con))], gamY []⟩
theorem law_NetRange.cok (N : Nat) : (law_NetRange.C N).Ok Try.prog := ⟨U_ok, GamOk.cons (law_begun.ok N) (GamOk.cons (ref_New.ok N) (GamOk.cons (law_run.ok N) (GamOk.cons (net_Net_To.ok N) (GamOk.cons (Con.or_ok (Con.or_ok (net_Net_To_f1_b.ok N) (net_Net_To_f1_c.ok N)) (net_Net_To_f1_d.ok N)) (GamOk.nil))))), GamYOk.nil⟩
def law_NetRange.code : Code := Try.f7.body.getD .skip
def law_NetRange_0.ins : Sh := (.cons (.rbox 3 (.cons (.val (.int .i64)) .nil)) (.cons (.rbox 23 (.cons (.box 65 (.cons (.val (.int .i64)) (.cons (.own 62 (.pair (.int .i64) (.slice .byte))) .nil))) .nil)) .nil))
def law_NetRange_0.ts : List Tmp := [5, 7]
def law_NetRange_0.asg : List Tmp := [31, 32, 33, 34, 35]
def law_NetRange_0.C (N : Nat) : Ctx := { law_NetRange.C N with may := fun t => law_NetRange_0.asg.any (Nat.beq t) }
def law_NetRange_0.code : Code := (sub law_NetRange.code [true, true, true, true, true, false]).getD .skip
theorem law_NetRange_0.cok (N : Nat) : (law_NetRange_0.C N).Ok Try.prog := ⟨(law_NetRange.cok N).U, (law_NetRange.cok N).Γ, (law_NetRange.cok N).Y⟩
def law_NetRange_0.alts : List Alt := [⟨.normal, [], (.cons (.upd 2 65 (.cons (.val (.int .i64)) (.cons (.own 62 (.pair (.int .i64) (.slice .byte))) .nil))) .nil)⟩]
def law_NetRange_0.run (N : Nat) (to_ : Int) (room_ : Int) (l : (List (Int × (List UInt8)))) : Option (((Int × (List (Int × (List UInt8))) × Unit) × Unit)) :=
  obind (net_Net_To.run N room_ l to_) fun ((room1, l1, _), ((_, _), (v, _), _), _) =>
    obind (net_Net_To_f1_c.run N (0 : Int) room1 l1 v) fun ((v1, _, _, _, _), _) =>
      bif decide (v1 = (0 : Int)) then
        some ((room1, l1, ()), ())
      else
        bif decide (v1 = (2 : Int)) then
          some ((room1, l1, ()), ())
        else none
def law_NetRange_0.fn (N : Nat) (x : Sh.den law_NetRange_0.ins) : Option (altsDen law_NetRange_0.alts) := law_NetRange_0.run N x.1.1 x.2.1.1.1 x.2.1.1.2.1
def law_NetRange_0.P (N : Nat) : Ps := ⟨law_NetRange_0.ts, law_NetRange_0.ins, law_NetRange_0.asg, law_NetRange_0.alts, law_NetRange_0.fn N⟩
def law_NetRange_0.lam (N : Nat) : Pcs := pcs [([true, false], rfPc (law_NetRange_0.C N) 1000004 (.tmp 33) [] [.normal, (.exit 0)])]
theorem law_NetRange_0.pok (N : Nat) : (law_NetRange_0.lam N).Ok Try.prog (law_NetRange_0.C N) law_NetRange_0.code := pcsOk_cons (c1 := .rangeFunc (.tmp 33) site4.ps site4.assign site4.body) (by kernel_rfl) (rf_ok (k := 4) (fun _ => rfl) (law_NetRange_0.cok N)) (pcsOk_nil)
theorem law_NetRange_0.ev (N : Nat) (x : Sh.den law_NetRange_0.ins) : evC (law_NetRange_0.C N) law_NetRange_0.code (law_NetRange_0.lam N) ((law_NetRange_0.P N).canon 1000 x) (altK (law_NetRange_0.P N).alts) = law_NetRange_0.fn N x := by kernel_rfl
theorem law_NetRange_0.ok (N : Nat) : ((law_NetRange_0.P N).pc (law_NetRange.C N)).Ok Try.prog (law_NetRange.C N) law_NetRange_0.code := ps_ok (F := law_NetRange_0.P N) (n0 := 1000) (law_NetRange.cok N) mix (law_NetRange_0.pok N) (fun x y h => (law_NetRange_0.ev N x).trans h)
def law_NetRange_1.ins : Sh := (.cons (.rbox 3 (.cons (.val (.int .i64)) .nil)) (.cons (.box 4 (.cons (.val .bool) .nil)) (.cons (.rbox 43 (.cons (.val (.int .i64)) (.cons (.val (.slice (.pair (.int .i64) (.slice .byte)))) .nil))) (.cons (.box 3 (.cons (.val (.int .i64)) .nil)) .nil))))
def law_NetRange_1.ts : List Tmp := [5, 6, 9, 10]
def law_NetRange_1.asg : List Tmp := [88, 89, 90, 91, 92, 93, 94, 95, 96, 97, 98, 99, 100, 101, 102]
def law_NetRange_1.C (N : Nat) : Ctx := { law_NetRange.C N with may := fun t => law_NetRange_1.asg.any (Nat.beq t) }
def law_NetRange_1.code : Code := loopBody (sub law_NetRange.code [true, true, true, true, true, true, true, true, false, false])
theorem law_NetRange_1.cok (N : Nat) : (law_NetRange_1.C N).Ok Try.prog := ⟨(law_NetRange.cok N).U, (law_NetRange.cok N).Γ, (law_NetRange.cok N).Y⟩
def law_NetRange_1.alts : List Alt := [⟨.ret, [], (.cons (.upd 1 4 (.cons (.val .bool) .nil)) (.cons (.upd 3 3 (.cons (.val (.int .i64)) .nil)) .nil))⟩, ⟨(.exit 6), [], (.cons (.upd 1 4 (.cons (.val .bool) .nil)) (.cons (.upd 3 3 (.cons (.val (.int .i64)) .nil)) .nil))⟩]
def law_NetRange_1.go (N : Nat) : Nat → Int → Bool → Int → (List (Int × (List UInt8))) → Int → Option (((Bool × Unit) × (Int × Unit) × Unit) ⊕ ((Bool × Unit) × (Int × Unit) × Unit))
  | 0, _, _, _, _, _ => none
  | fuel + 1, to_, t6, room_, l, k =>
    bif decide (k < (l.length : Int)) then
      bif inB k l.length then
        bif decide ((l.getD k.toNat ((0 : Int), ([] : List UInt8))).1 = to_) then
          some (.inl ((false, ()), (k, ()), ()))
        else law_NetRange_1.go N fuel to_ t6 room_ l (IntKind.i64.wrap (k + (1 : Int)))
      else none
    else some (.inr ((t6, ()), (k, ()), ()))
def law_NetRange_1.g (N n : Nat) (x : Sh.den law_NetRange_1.ins) : Option (altsDen law_NetRange_1.alts) := law_NetRange_1.go N n x.1.1 x.2.1.1 x.2.2.1.1 x.2.2.1.2.1 x.2.2.2.1.1
def law_NetRange_1.P (N : Nat) : Ps := ⟨law_NetRange_1.ts, law_NetRange_1.ins, law_NetRange_1.asg, law_NetRange_1.alts, law_NetRange_1.g N N⟩
def law_NetRange_1.lam (N : Nat) : Pcs := pcs []
theorem law_NetRange_1.pok (N : Nat) : (law_NetRange_1.lam N).Ok Try.prog (law_NetRange_1.C N) law_NetRange_1.code := pcsOk_nil
theorem law_NetRange_1.ev (N n : Nat) (x : Sh.den law_NetRange_1.ins) : evC (law_NetRange_1.C N) law_NetRange_1.code (law_NetRange_1.lam N) ((law_NetRange_1.P N).canon 1000 x) (loopK (law_NetRange_1.P N) (law_NetRange_1.g N n)) = law_NetRange_1.g N (n + 1) x := by kernel_rfl
theorem law_NetRange_1.ok (N : Nat) : ((law_NetRange_1.P N).pc (law_NetRange.C N)).Ok Try.prog (law_NetRange.C N) (.loop law_NetRange_1.code) := loop_ok (F := law_NetRange_1.P N) (n0 := 1000) (N := N) (law_NetRange.cok N) mix (law_NetRange_1.pok N) (law_NetRange_1.g N) (fun x => by rfl) rfl (fun n x y h => (law_NetRange_1.ev N n x).trans h)
def law_NetRange.outs : Sh := (.cons (.val .bool) .nil)
def law_NetRange.run (N : Nat) (room_ : Int) (script : (List (Int × (Int × (Int × (List UInt8)))))) (to_ : Int) : Option (Bool × Unit) :=
  obind (law_begun.run N room_) fun ((room1, l, _), b, _) =>
    bif !b then
      some (false, ())
    else
      obind (ref_New.run N room_) fun (v, _) =>
        obind (law_run.run N room1 l v script) fun ((room2, l1, _), v1, b1, _) =>
          bif !b1 then
            some (false, ())
          else
            obind (law_NetRange_0.run N to_ room2 l1) fun ((room4, l3, _), _) =>
              obind (net_Net_To.run N room4 l3 to_) fun ((room5, l4, _), ((_, _), (v4, _), _), _) =>
                obind (net_Net_To_f1_d.run N (0 : Int) to_ false room5 l4 v1.1 v1.2 (0 : Int) v4) fun ((v5, _), (room6, l5, _), (v6, _), (v7, _, _, _, _, _, _, _, _, _), _) =>
                  bif decide (v7 = (0 : Int)) then
                    obind (law_NetRange_1.go N N to_ v5 v1.1 v1.2 v6) fun y => match y with
                    | .inl ((v8, _), (v9, _), _) =>
                        some (v8, ())
                    | .inr ((v10, _), (v11, _), _) =>
                        some (true, ())
                  else
                    bif decide (v7 = (1 : Int)) then
                      some (v5, ())
                    else none
def law_NetRange.fn (N : Nat) (x : Sh.den law_NetRange.ins) : Option (Sh.den law_NetRange.outs) := law_NetRange.run N x.1 x.2.1 x.2.2.1
def law_NetRange.S (N : Nat) : Fs := ⟨law_NetRange.ins, law_NetRange.outs, law_NetRange.fn N⟩
def law_NetRange.lam (N : Nat) : Pcs := pcs [([true, true, true, true, true, false, true, false], rfPc (law_NetRange.C N) 1000002 (.tmp 33) [] [.normal, (.exit 0)]), ([true, true, true, true, true, true, true, false, true, false], rfPc (law_NetRange.C N) 1000006 (.tmp 38) [5, 6, 7, 9, 10] [.normal, .ret]), ([true, true, true, true, true, false], (law_NetRange_0.P N).pc (law_NetRange.C N)), ([true, true, true, true, true, true, true, true, false, false], (law_NetRange_1.P N).pc (law_NetRange.C N))]
theorem law_NetRange.pok (N : Nat) : (law_NetRange.lam N).Ok Try.prog (law_NetRange.C N) law_NetRange.code := pcsOk_cons (c1 := .rangeFunc (.tmp 33) site2.ps site2.assign site2.body) (by kernel_rfl) (rf_ok (k := 2) (fun _ => rfl) (law_NetRange.cok N)) (pcsOk_cons (c1 := .rangeFunc (.tmp 38) site6.ps site6.assign site6.body) (by kernel_rfl) (rf_ok (k := 6) (fun _ => rfl) (law_NetRange.cok N)) (pcsOk_cons (c1 := law_NetRange_0.code) (by kernel_rfl) (law_NetRange_0.ok N) (pcsOk_cons (c1 := .loop law_NetRange_1.code) (by kernel_rfl) (law_NetRange_1.ok N) (pcsOk_nil))))
theorem law_NetRange.ev (N : Nat) (x : Sh.den law_NetRange.ins) : evC (law_NetRange.C N) law_NetRange.code (law_NetRange.lam N) ⟨envOf 0 (bld (fun k => k) law_NetRange.ins x 0).1, (bld (fun k => k) law_NetRange.ins x 0).2.1, 1000⟩ (endF U law_NetRange.outs Try.f7.results.toList []) = law_NetRange.fn N x := by kernel_rfl
theorem law_NetRange.ok (N : Nat) : (law_NetRange.S N).con.Ok Try.prog 7 := fn_ok (F := law_NetRange.S N) (n0 := 1000) Try.func7 (by kernel_rfl) (show Try.f7.body = some law_NetRange.code by rfl) mix (law_NetRange.cok N) (fun _ => rfl) (fun _ => rfl) (law_NetRange.pok N) (fun x y h => (law_NetRange.ev N x).trans h)
end
end Go.Hay.Ytfbbfjjmbelfdaa
