/- Functions of the program as functions of Lean, and that they are what the program computes. Conditions: none. -/
import Derived.Test.YthlojpcjafefjaaGreatFa
set_option linter.unusedVariables false
namespace Go.Hay.YthlojpcjafefjaaGreat
open Go Go.Hay Go.Proofs
noncomputable section
set_option maxRecDepth 100000
namespace law_laid_b
def fn (N : Nat) : Sh.den ins → Option (Sh.den outs) := fun (((a, b, c, d, e, f, _), _, g, h, i, j, k, l, m, o, p, q, _), (_, r, s, t, _), u, v, w, x, _) => law_laid_b.run N a b c d e f g h i j k l m o p q r s t u v w x
def S (N : Nat) : Fs := ⟨ins, outs, fn N⟩
def lam (N : Nat) : Pcs := pcs []
theorem pok (N : Nat) : (lam N).Ok Tryz.prog (C N) code := pcsOk_nil
theorem ok (N : Nat) : (S N).con.Ok Tryz.prog 19 := okF (F := S N) [] Tryz.func19 (by kernel_rfl) (by rfl) mix (cok N) (pok N) fun _ => by kernel_rfl
end law_laid_b
namespace fA34
def ins : Sh := s2
def C (N : Nat) : Ctx := ⟨U, 24, fun _ => true, gam [], gamY []⟩
theorem cok (N : Nat) : (C N).Ok Tryz.prog := ⟨U_ok, GamOk.nil, GamYOk.nil⟩
def code : Code := Tryz.f82.body.getD .skip
def outs : Sh := (.cons (.val (.int .i64)) .nil)
end fA34
namespace fA40
def ins : Sh := (.cons (.rbox 28 s55) s13)
def ts : List Tmp := [1, 3, 4]
def asg : List Tmp := [3, 4, 7, 8, 9, 10, 11, 12, 13, 14, 15, 16, 17, 18, 19, 20, 21, 22]
def C (N : Nat) : Ctx := { fA34.C N with may := fun t => asg.any (Nat.beq t) }
def code : Code := loopBody (sub fA34.code [true, true, false, true, false])
theorem cok (N : Nat) : (C N).Ok Tryz.prog := okC (fA34.cok N) _
def alts : List Alt := [⟨(.exit 0), [3], (.cons (.val (.int .i64)) .nil)⟩]
end fA40
noncomputable def fA40.go (N : Nat) : Nat → Int → Int → (List T1) → Bool → Bool → Int → Int → Int → Option ((Int × Unit))
  | 0, _, _, _, _, _, _, _, _ => none
  | fuel + 1, room_, steps, files, armed, dead, left, n_, i =>
    bif decide (i < (files.length : Int)) then
      bif inB i files.length then
        fA40.go N fuel room_ steps files armed dead left (IntKind.i64.wrap (n_ - ((files.getD i.toNat (([] : List UInt8), ([] : List UInt8), (0 : Int))).2.1.length : Int))) (IntKind.i64.wrap (i + (1 : Int)))
      else none
    else some (n_, ())
namespace fA40
def g (N n : Nat) : Sh.den ins → Option (altsDen alts) := fun ((a, b, c, d, e, f, _), g, h, _) => fA40.go N n a b c d e f g h
def P (N : Nat) : Ps := ⟨ts, ins, asg, alts, g N N⟩
def lam (N : Nat) : Pcs := pcs []
theorem pok (N : Nat) : (lam N).Ok Tryz.prog (C N) code := pcsOk_nil
theorem ok (N : Nat) : ((P N).pc (fA34.C N)).Ok Tryz.prog (fA34.C N) (.loop code) := okL (F := P N) (g N) (fA34.cok N) mix (pok N) (fun _ => rfl) rfl fun _ _ => by kernel_rfl
end fA40
noncomputable def fA34.run (N : Nat) (d : T5) : Option (Int × Unit) :=
  obind (fA40.go N N d.1 d.2.1 d.2.2.1 d.2.2.2.1 d.2.2.2.2.1 d.2.2.2.2.2 d.1 (0 : Int)) fun (n_, _) =>
    some (n_, ())
namespace fA34
def fn (N : Nat) : Sh.den ins → Option (Sh.den outs) := fun (a, _) => fA34.run N a
def S (N : Nat) : Fs := ⟨ins, outs, fn N⟩
def lam (N : Nat) : Pcs := pcs [([true, true, false, true, false], (fA40.P N).pc (C N))]
theorem pok (N : Nat) : (lam N).Ok Tryz.prog (C N) code := pcsOk_cons (c1 := .loop fA40.code) (by kernel_rfl) (fA40.ok N) (pcsOk_nil)
theorem ok (N : Nat) : (S N).con.Ok Tryz.prog 82 := okF (F := S N) [] Tryz.func82 (by kernel_rfl) (by rfl) mix (cok N) (pok N) fun _ => by kernel_rfl
end fA34
namespace fD15
def ins : Sh := (.cons (.val (.pair (.int .i64) (.pair (.int .i64) (.pair (.slice (.pair .str (.pair (.slice .byte) (.int .i64)))) (.pair .bool (.pair .bool (.int .i64))))))) (.cons (.val .str) (.cons (.rown 5 .byte) .nil)))
def C (N : Nat) : Ctx := ⟨U, 51, fun _ => true, gam [(81, (fD24.S N).con), (82, (fA34.S N).con), (45, (ref_At.S N).con), (51, (fC19.S N).con), (79, (fC20.S N).con), (78, (fB41.S N).con)], gamY []⟩
theorem cok (N : Nat) : (C N).Ok Tryz.prog := ⟨U_ok, GamOk.cons (fD24.ok N) (GamOk.cons (fA34.ok N) (GamOk.cons (ref_At.ok N) (GamOk.cons (fC19.ok N) (GamOk.cons (fC20.ok N) (GamOk.cons (fB41.ok N) (GamOk.nil)))))), GamYOk.nil⟩
def code : Code := Tryz.f48.body.getD .skip
def outs : Sh := s65
end fD15
namespace fC35
def ins : Sh := (.cons (.rbox 28 s55) (.cons (.box 83 (.cons (.val .str) s25)) (.cons (.val (.int .i64)) .nil)))
def ts : List Tmp := [3, 8, 9]
def asg : List Tmp := [29, 30, 31, 32, 33, 34, 35]
def C (N : Nat) : Ctx := { fD15.C N with may := fun t => asg.any (Nat.beq t) }
def code : Code := (sub fD15.code [true, true, true, true, true, true, false]).getD .skip
theorem cok (N : Nat) : (C N).Ok Tryz.prog := okC (fD15.cok N) _
def alts : List Alt := [⟨.normal, [], (.cons (.upd 1 83 (.cons (.val .str) s35)) .nil)⟩]
end fC35
noncomputable def fC35.run (N : Nat) (room_ : Int) (steps : Int) (files : (List T1)) (armed : Bool) (dead : Bool) (left : Int) (name : (List UInt8)) (bytes : (List UInt8)) (last : Int) (k : Int) : Option ((T58 × Unit)) :=
  bif decide (k ≥ (0 : Int)) then
    bif inB k files.length then
      some (((files.getD k.toNat (([] : List UInt8), ([] : List UInt8), (0 : Int))).1, (files.getD k.toNat (([] : List UInt8), ([] : List UInt8), (0 : Int))).2.1, (files.getD k.toNat (([] : List UInt8), ([] : List UInt8), (0 : Int))).2.2, ()), ())
    else none
  else some ((name, bytes, last, ()), ())
namespace fC35
def fn (N : Nat) : Sh.den ins → Option (altsDen alts) := fun ((a, b, c, d, e, f, _), (g, h, i, _), j, _) => fC35.run N a b c d e f g h i j
def P (N : Nat) : Ps := ⟨ts, ins, asg, alts, fn N⟩
def lam (N : Nat) : Pcs := pcs []
theorem pok (N : Nat) : (lam N).Ok Tryz.prog (C N) code := pcsOk_nil
theorem ok (N : Nat) : ((P N).pc (fD15.C N)).Ok Tryz.prog (fD15.C N) code := okP (F := P N) (fD15.cok N) mix (pok N) fun _ => by kernel_rfl
end fC35
noncomputable def fD15.run (N : Nat) (d : T5) (name : (List UInt8)) (b : (List UInt8)) : Option T50 :=
  bif d.2.2.2.2.1 then
    some (d, (44 : Int), ())
  else
    obind (fD24.run N name) fun (b1, _) =>
      bif !b1 then
        some (d, (40 : Int), ())
      else
        obind (fA34.run N d) fun (n_, _) =>
          bif decide ((b.length : Int) > n_) then
            some (d, (41 : Int), ())
          else
            obind (ref_At.run N d name) fun (n1, _) =>
              obind (fC35.run N d.1 d.2.1 d.2.2.1 d.2.2.2.1 d.2.2.2.2.1 d.2.2.2.2.2 name ([] : List UInt8) (0 : Int) n1) fun ((name1, bytes, last, _), _) =>
                obind (fC19.run N bytes b) fun (l, _) =>
                  obind (fC20.run N d (name1, l, last)) fun (v, _) =>
                    obind (fB41.run N v) fun (v1, b2, _) =>
                      bif b2 then
                        some (v1, (44 : Int), ())
                      else some (v1, (0 : Int), ())
namespace fD15
def fn (N : Nat) : Sh.den ins → Option (Sh.den outs) := fun (a, b, c, _) => fD15.run N a b c
def S (N : Nat) : Fs := ⟨ins, outs, fn N⟩
def lam (N : Nat) : Pcs := pcs [([true, true, true, true, true, true, false], (fC35.P N).pc (C N))]
theorem pok (N : Nat) : (lam N).Ok Tryz.prog (C N) code := pcsOk_cons (c1 := fC35.code) (by kernel_rfl) (fC35.ok N) (pcsOk_nil)
theorem ok (N : Nat) : (S N).con.Ok Tryz.prog 48 := okF (F := S N) [] Tryz.func48 (by kernel_rfl) (by rfl) mix (cok N) (pok N) fun _ => by kernel_rfl
end fD15
namespace fD1
def ins : Sh := s53
def C (N : Nat) : Ctx := ⟨U, 42, fun _ => true, gam [(45, (ref_At.S N).con), (47, (ref_Do.S N).con), (48, (fD15.S N).con)], gamY []⟩
theorem cok (N : Nat) : (C N).Ok Tryz.prog := ⟨U_ok, GamOk.cons (ref_At.ok N) (GamOk.cons (ref_Do.ok N) (GamOk.cons (fD15.ok N) (GamOk.nil))), GamYOk.nil⟩
def code : Code := Tryz.f20.body.getD .skip
def outs : Sh := s66
end fD1
namespace fA36
def ins : Sh := s68
def ts : List Tmp := [1, 2, 7]
def asg : List Tmp := [7, 8, 9, 10, 11, 12, 13, 14, 15, 16, 17]
def C (N : Nat) : Ctx := { fD1.C N with may := fun t => asg.any (Nat.beq t) }
def code : Code := (sub fD1.code [true, true, false]).getD .skip
theorem cok (N : Nat) : (C N).Ok Tryz.prog := okC (fD1.cok N) _
def alts : List Alt := [⟨.normal, [7], s67⟩]
end fA36
noncomputable def fA36.run (N : Nat) (name : (List UInt8)) (room_ : Int) (steps : Int) (files : (List T1)) (armed : Bool) (dead : Bool) (left : Int) (e : Int) : Option (T52) :=
  obind (ref_At.run N (room_, steps, files, armed, dead, left) name) fun (n_, _) =>
    bif decide (n_ ≥ (0 : Int)) then
      obind (ref_Do.run N (room_, steps, files, armed, dead, left) (4 : Int) name ([] : List UInt8) (0 : Int)) fun (v, n1, _) =>
        some ((v.1, v.2.1, v.2.2.1, v.2.2.2.1, v.2.2.2.2.1, v.2.2.2.2.2, ()), n1, ())
    else some ((room_, steps, files, armed, dead, left, ()), e, ())
namespace fA36
def fn (N : Nat) : Sh.den ins → Option (altsDen alts) := fun (a, (b, c, d, e, f, g, _), h, _) => fA36.run N a b c d e f g h
def P (N : Nat) : Ps := ⟨ts, ins, asg, alts, fn N⟩
def lam (N : Nat) : Pcs := pcs []
theorem pok (N : Nat) : (lam N).Ok Tryz.prog (C N) code := pcsOk_nil
theorem ok (N : Nat) : ((P N).pc (fD1.C N)).Ok Tryz.prog (fD1.C N) code := okP (F := P N) (fD1.cok N) mix (pok N) fun _ => by kernel_rfl
end fA36
namespace fB35
def ins : Sh := s68
def ts : List Tmp := [1, 2, 7]
def asg : List Tmp := [7, 18, 19, 20, 21, 22, 23, 24, 25]
def C (N : Nat) : Ctx := { fD1.C N with may := fun t => asg.any (Nat.beq t) }
def code : Code := (sub fD1.code [true, true, true, false]).getD .skip
theorem cok (N : Nat) : (C N).Ok Tryz.prog := okC (fD1.cok N) _
def alts : List Alt := [⟨.normal, [7], s67⟩]
end fB35
noncomputable def fB35.run (N : Nat) (name : (List UInt8)) (room_ : Int) (steps : Int) (files : (List T1)) (armed : Bool) (dead : Bool) (left : Int) (e : Int) : Option (T52) :=
  bif decide (e = (0 : Int)) then
    obind (fD15.run N (room_, steps, files, armed, dead, left) name ([] : List UInt8)) fun (v, n_, _) =>
      some ((v.1, v.2.1, v.2.2.1, v.2.2.2.1, v.2.2.2.2.1, v.2.2.2.2.2, ()), n_, ())
  else some ((room_, steps, files, armed, dead, left, ()), e, ())
namespace fB35
def fn (N : Nat) : Sh.den ins → Option (altsDen alts) := fun (a, (b, c, d, e, f, g, _), h, _) => fB35.run N a b c d e f g h
def P (N : Nat) : Ps := ⟨ts, ins, asg, alts, fn N⟩
def lam (N : Nat) : Pcs := pcs []
theorem pok (N : Nat) : (lam N).Ok Tryz.prog (C N) code := pcsOk_nil
theorem ok (N : Nat) : ((P N).pc (fD1.C N)).Ok Tryz.prog (fD1.C N) code := okP (F := P N) (fD1.cok N) mix (pok N) fun _ => by kernel_rfl
end fB35
namespace fD36
def ins : Sh := s68
def ts : List Tmp := [1, 2, 7]
def asg : List Tmp := [7, 26, 27, 28, 29, 30, 31, 32, 33]
def C (N : Nat) : Ctx := { fD1.C N with may := fun t => asg.any (Nat.beq t) }
def code : Code := (sub fD1.code [true, true, true, true, false]).getD .skip
theorem cok (N : Nat) : (C N).Ok Tryz.prog := okC (fD1.cok N) _
def alts : List Alt := [⟨.normal, [7], s67⟩]
end fD36
noncomputable def fD36.run (N : Nat) (name : (List UInt8)) (room_ : Int) (steps : Int) (files : (List T1)) (armed : Bool) (dead : Bool) (left : Int) (e : Int) : Option (T52) :=
  bif decide (e = (0 : Int)) then
    obind (ref_Do.run N (room_, steps, files, armed, dead, left) (1 : Int) name ([] : List UInt8) (0 : Int)) fun (v, n_, _) =>
      some ((v.1, v.2.1, v.2.2.1, v.2.2.2.1, v.2.2.2.2.1, v.2.2.2.2.2, ()), n_, ())
  else some ((room_, steps, files, armed, dead, left, ()), e, ())
namespace fD36
def fn (N : Nat) : Sh.den ins → Option (altsDen alts) := fun (a, (b, c, d, e, f, g, _), h, _) => fD36.run N a b c d e f g h
def P (N : Nat) : Ps := ⟨ts, ins, asg, alts, fn N⟩
def lam (N : Nat) : Pcs := pcs []
theorem pok (N : Nat) : (lam N).Ok Tryz.prog (C N) code := pcsOk_nil
theorem ok (N : Nat) : ((P N).pc (fD1.C N)).Ok Tryz.prog (fD1.C N) code := okP (F := P N) (fD1.cok N) mix (pok N) fun _ => by kernel_rfl
end fD36
noncomputable def fD1.run (N : Nat) (d : T5) (name : (List UInt8)) : Option T54 :=
  obind (fA36.run N name d.1 d.2.1 d.2.2.1 d.2.2.2.1 d.2.2.2.2.1 d.2.2.2.2.2 (0 : Int)) fun ((room_, steps, files, armed, dead, left, _), e, _) =>
    obind (fB35.run N name room_ steps files armed dead left e) fun ((room1, steps1, files1, armed1, dead1, left1, _), e1, _) =>
      obind (fD36.run N name room1 steps1 files1 armed1 dead1 left1 e1) fun ((room2, steps2, files2, armed2, dead2, left2, _), e2, _) =>
        bif !(decide (e2 = (0 : Int))) then
          some ((room2, steps2, files2, armed2, dead2, left2), (([] : List UInt8), ([] : List (List UInt8)), (0 : Int)), e2, ())
        else some ((room2, steps2, files2, armed2, dead2, left2), (name, ([] : List (List UInt8)), (0 : Int)), (0 : Int), ())
namespace fD1
def fn (N : Nat) : Sh.den ins → Option (Sh.den outs) := fun (a, b, _) => fD1.run N a b
def S (N : Nat) : Fs := ⟨ins, outs, fn N⟩
def lam (N : Nat) : Pcs := pcs [([true, true, false], (fA36.P N).pc (C N)), ([true, true, true, false], (fB35.P N).pc (C N)), ([true, true, true, true, false], (fD36.P N).pc (C N))]
theorem pok (N : Nat) : (lam N).Ok Tryz.prog (C N) code := pcsOk_cons (c1 := fA36.code) (by kernel_rfl) (fA36.ok N) (pcsOk_cons (c1 := fB35.code) (by kernel_rfl) (fB35.ok N) (pcsOk_cons (c1 := fD36.code) (by kernel_rfl) (fD36.ok N) (pcsOk_nil)))
theorem ok (N : Nat) : (S N).con.Ok Tryz.prog 20 := okF (F := S N) [] Tryz.func20 (by kernel_rfl) (by rfl) mix (cok N) (pok N) fun _ => by kernel_rfl
end fD1
namespace fD12
def ins : Sh := (.cons (.box 54 s1) (.cons (.val (.int .i64)) .nil))
def C (N : Nat) : Ctx := ⟨U, 14, fun _ => true, gam [], gamY []⟩
theorem cok (N : Nat) : (C N).Ok Tryz.prog := ⟨U_ok, GamOk.nil, GamYOk.nil⟩
def code : Code := Tryz.f21.body.getD .skip
def outs : Sh := (.cons (.upd 0 54 s1) .nil)
end fD12
noncomputable def fD12.run (N : Nat) (room_ : Int) (used : Int) (files : (List T1)) (steps : Int) (left : Int) (dead : Bool) (jO_ : Int) : Option (T2 × Unit) :=
  bif !dead then
    some ((room_, used, files, steps, max jO_ (-1 : Int), dead, ()), ())
  else some ((room_, used, files, steps, left, dead, ()), ())
namespace fD12
def fn (N : Nat) : Sh.den ins → Option (Sh.den outs) := fun ((a, b, c, d, e, f, _), g, _) => fD12.run N a b c d e f g
def S (N : Nat) : Fs := ⟨ins, outs, fn N⟩
def lam (N : Nat) : Pcs := pcs []
theorem pok (N : Nat) : (lam N).Ok Tryz.prog (C N) code := pcsOk_nil
theorem ok (N : Nat) : (S N).con.Ok Tryz.prog 21 := okF (F := S N) [] Tryz.func21 (by kernel_rfl) (by rfl) mix (cok N) (pok N) fun _ => by kernel_rfl
end fD12
namespace fD40
def ins : Sh := s65
def C (N : Nat) : Ctx := ⟨U, 14, fun _ => true, gam [], gamY []⟩
theorem cok (N : Nat) : (C N).Ok Tryz.prog := ⟨U_ok, GamOk.nil, GamYOk.nil⟩
def code : Code := Tryz.f22.body.getD .skip
def outs : Sh := s2
end fD40
noncomputable def fD40.run (N : Nat) (d : T5) (jO_ : Int) : Option (T5 × Unit) :=
  bif !d.2.2.2.2.1 then
    some ((d.1, d.2.1, d.2.2.1, decide (jO_ ≥ (0 : Int)), d.2.2.2.2.1, jO_), ())
  else some (d, ())
namespace fD40
def fn (N : Nat) : Sh.den ins → Option (Sh.den outs) := fun (a, b, _) => fD40.run N a b
def S (N : Nat) : Fs := ⟨ins, outs, fn N⟩
def lam (N : Nat) : Pcs := pcs []
theorem pok (N : Nat) : (lam N).Ok Tryz.prog (C N) code := pcsOk_nil
theorem ok (N : Nat) : (S N).con.Ok Tryz.prog 22 := okF (F := S N) [] Tryz.func22 (by kernel_rfl) (by rfl) mix (cok N) (pok N) fun _ => by kernel_rfl
end fD40
namespace fB34
def ins : Sh := (.cons (.box 54 s1) .nil)
def C (N : Nat) : Ctx := ⟨U, 4, fun _ => true, gam [], gamY []⟩
theorem cok (N : Nat) : (C N).Ok Tryz.prog := ⟨U_ok, GamOk.nil, GamYOk.nil⟩
def code : Code := Tryz.f49.body.getD .skip
def outs : Sh := (.cons (.upd 0 54 s1) (.cons (.fn 83 (.cons (.box 24 (.cons (.ref 0) .nil)) .nil)) .nil))
end fB34
noncomputable def fB34.run (N : Nat) (room_ : Int) (used : Int) (files : (List T1)) (steps : Int) (left : Int) (dead : Bool) : Option T59 :=
  some ((room_, used, files, steps, left, dead, ()), (((), ()), ()), ())
namespace fB34
def fn (N : Nat) : Sh.den ins → Option (Sh.den outs) := fun ((a, b, c, d, e, f, _), _) => fB34.run N a b c d e f
def S (N : Nat) : Fs := ⟨ins, outs, fn N⟩
def lam (N : Nat) : Pcs := pcs []
theorem pok (N : Nat) : (lam N).Ok Tryz.prog (C N) code := pcsOk_nil
theorem ok (N : Nat) : (S N).con.Ok Tryz.prog 49 := okF (F := S N) [] Tryz.func49 (by kernel_rfl) (by rfl) mix (cok N) (pok N) fun _ => by kernel_rfl
end fB34
namespace fD0
def ins : Sh := (.cons (.rown 3000000 (.pair .str (.pair (.slice .byte) (.int .i64)))) .nil)
def C (N : Nat) : Ctx := ⟨U, 4, fun _ => true, gam [], gamY []⟩
theorem cok (N : Nat) : (C N).Ok Tryz.prog := ⟨U_ok, GamOk.nil, GamYOk.nil⟩
def code : Code := Tryz.f85.body.getD .skip
def outs : Sh := (.cons (.fn 106 (.cons (.box 52 (.cons (.keep 2000000 0) .nil)) .nil)) .nil)
end fD0
noncomputable def fD0.run (N : Nat) (m : (List T1)) : Option (T33 × Unit) :=
  some ((((), ()), ()), ())
namespace fD0
def fn (N : Nat) : Sh.den ins → Option (Sh.den outs) := fun (a, _) => fD0.run N a
def S (N : Nat) : Fs := ⟨ins, outs, fn N⟩
def lam (N : Nat) : Pcs := pcs []
theorem pok (N : Nat) : (lam N).Ok Tryz.prog (C N) code := pcsOk_nil
theorem ok (N : Nat) : (S N).con.Ok Tryz.prog 85 := okF (F := S N) [] Tryz.func85 (by kernel_rfl) (by rfl) mix (cok N) (pok N) fun _ => by kernel_rfl
end fD0
def fB33.S (N : Nat) : Fs := sortedFs 106 52 9 3000000 (.pair (.slice .byte) (.int .i64))
theorem fB33.ok (N : Nat) : (fB33.S N).con.Ok Tryz.prog 84 := fD92
noncomputable def fB33.run (N : Nat) (l : List T1) : Option (T12 × Unit) := bif room l.length 16 then some (sortKeys l, ()) else none
namespace Y2
def ins : Sh := (.cons (.rbox 24 (.cons (.rbox 54 s3) .nil)) (.cons s75 (.cons (.rbox 24 (.cons (.box 54 s1) .nil)) (.cons (.val .str) .nil))))
def C (N : Nat) : Ctx := ⟨U, 54, fun _ => true, gam [(27, (fA0.S N).con), (50, (fA8.S N).con)], gamY []⟩
theorem cok (N : Nat) : (C N).Ok Tryz.prog := ⟨U_ok, GamOk.cons (fA0.ok N) (GamOk.cons (fA8.ok N) (GamOk.nil)), GamYOk.nil⟩
def code : Code := site2.body
def alts : List Alt := [⟨.normal, [], (.cons (.upd 3 38 (.cons (.val (.slice (.int .i64))) .nil)) (.cons (.upd 5 54 s1) .nil))⟩]
end Y2
namespace Y2_0
def ins : Sh := (.cons s75 (.cons (.val (.int .i64)) .nil))
def ts : List Tmp := [3, 7]
def asg : List Tmp := [7, 17, 18, 19, 20, 21, 22, 23, 24]
def C (N : Nat) : Ctx := { Y2.C N with may := fun t => asg.any (Nat.beq t) }
def code : Code := (sub Y2.code [false, true, false]).getD .skip
theorem cok (N : Nat) : (C N).Ok Tryz.prog := okC (Y2.cok N) _
def alts : List Alt := [⟨.normal, [7], (.cons (.upd 0 38 (.cons (.val (.slice (.int .i64))) .nil)) (.cons (.val (.int .i64)) .nil))⟩]
end Y2_0
noncomputable def Y2_0.run (N : Nat) (keep : (List Int)) (n_ : Int) : Option (T60) :=
  bif decide ((keep.length : Int) > (0 : Int)) then
    bif inB (0 : Int) keep.length then
      bif okB (1 : Int) (keep.length : Int) keep.length then
        some ((keep.drop 1, ()), keep.getD 0 (0 : Int), ())
      else none
    else none
  else some ((keep, ()), n_, ())
namespace Y2_0
def fn (N : Nat) : Sh.den ins → Option (altsDen alts) := fun ((a, _), b, _) => Y2_0.run N a b
def P (N : Nat) : Ps := ⟨ts, ins, asg, alts, fn N⟩
def lam (N : Nat) : Pcs := pcs []
theorem pok (N : Nat) : (lam N).Ok Tryz.prog (C N) code := pcsOk_nil
theorem ok (N : Nat) : ((P N).pc (Y2.C N)).Ok Tryz.prog (Y2.C N) code := okP (F := P N) (Y2.cok N) mix (pok N) fun _ => by kernel_rfl
end Y2_0
noncomputable def Y2.run (N : Nat) (room_ : Int) (used : Int) (files : (List T1)) (steps : Int) (left : Int) (dead : Bool) (keep : (List Int)) (room1 : Int) (used1 : Int) (files1 : (List T1)) (steps1 : Int) (left1 : Int) (dead1 : Bool) (t16 : (List UInt8)) : Option (T61) :=
  obind (Y2_0.run N keep (0 : Int)) fun ((v, _), n_, _) =>
    bif okB (0 : Int) (IntKind.i64.wrap ((mapGet files t16 (([] : List UInt8), (0 : Int))).2 + (min (max n_ (0 : Int)) (IntKind.i64.wrap (((mapGet files t16 (([] : List UInt8), (0 : Int))).1.length : Int) - (mapGet files t16 (([] : List UInt8), (0 : Int))).2))))) (mapGet files t16 (([] : List UInt8), (0 : Int))).1.length then
      obind (fA0.run N ((mapGet files t16 (([] : List UInt8), (0 : Int))).1.take (IntKind.i64.wrap ((mapGet files t16 (([] : List UInt8), (0 : Int))).2 + (min (max n_ (0 : Int)) (IntKind.i64.wrap (((mapGet files t16 (([] : List UInt8), (0 : Int))).1.length : Int) - (mapGet files t16 (([] : List UInt8), (0 : Int))).2))))).toNat)) fun (l, _) =>
        obind (fA8.run N room1 used1 files1 steps1 left1 dead1 t16 (l, IntKind.i64.wrap ((mapGet files t16 (([] : List UInt8), (0 : Int))).2 + (min (max n_ (0 : Int)) (IntKind.i64.wrap (((mapGet files t16 (([] : List UInt8), (0 : Int))).1.length : Int) - (mapGet files t16 (([] : List UInt8), (0 : Int))).2)))))) fun ((room2, used2, files2, steps2, left2, dead2, _), _) =>
          some ((v, ()), (room2, used2, files2, steps2, left2, dead2, ()), ())
    else none
namespace Y2
def fn (N : Nat) : Sh.den ins → Option (altsDen alts) := fun (((a, b, c, d, e, f, _), _), (g, _), ((h, i, j, k, l, m, _), _), o, _) => Y2.run N a b c d e f g h i j k l m o
def F (N : Nat) : Ys := ⟨[2, 3, 5], [16], ins, alts, fn N⟩
def yc (N : Nat) : Yc := (F N).yc
def lam (N : Nat) : Pcs := pcs [([false, true, false], (Y2_0.P N).pc (C N))]
theorem pok (N : Nat) : (lam N).Ok Tryz.prog (C N) site2.body := pcsOk_cons (c1 := Y2_0.code) (by kernel_rfl) (Y2_0.ok N) (pcsOk_nil)
theorem ev (N : Nat) (x : Sh.den ins) : evC (C N) site2.assign (pcs []) ⟨addT [2, 3, 5, 16] (bld (fun k => k) ins x 0).1 [], (bld (fun k => k) ins x 0).2.1, 1000⟩ (thenC fun s => evC (C N) site2.body (lam N) s (altK alts)) = fn N x := by kernel_rfl
theorem ok (N : Nat) : (yc N).Ok Tryz.prog 1000002 := ys_ok (σ := site2) (k := 2) (C := C N) (F := F N) (n0 := 1000) (fun _ => rfl) (cok N) mix (fun _ => rfl) (show site2.ps.toList = [16] by kernel_rfl) (show site2.ts = [2, 3, 5] by kernel_rfl) (show site2.nt = 54 by kernel_rfl) rfl rfl rfl rfl rfl pcsOk_nil (pok N) (fun x y h => (ev N x).trans h)
end Y2
namespace fA5
def ins : Sh := (.cons s76 (.cons (.rbox 24 (.cons (.ref 2) .nil)) .nil))
def C (N : Nat) : Ctx := ⟨U, 21, fun _ => true, gam [(85, (fD0.S N).con), (84, (fB33.S N).con)], gamY [(1000002, Y2.yc N)]⟩
theorem cok (N : Nat) : (C N).Ok Tryz.prog := ⟨U_ok, GamOk.cons (fD0.ok N) (GamOk.cons (fB33.ok N) (GamOk.nil)), GamYOk.cons (Y2.ok N) (GamYOk.nil)⟩
def code : Code := Tryz.f83.body.getD .skip
def outs : Sh := s77
end fA5
namespace fD8
def ins : Sh := (.cons s76 (.cons (.rown 9 .str) s13))
def ts : List Tmp := [0, 10, 11, 12]
def asg : List Tmp := [4, 12, 13, 14, 15, 16, 17, 18, 19, 20]
def C (N : Nat) : Ctx := { fA5.C N with may := fun t => asg.any (Nat.beq t) }
def code : Code := loopBody (sub fA5.code [true, false])
theorem cok (N : Nat) : (C N).Ok Tryz.prog := okC (fA5.cok N) _
def alts : List Alt := [⟨(.exit 0), [], s77⟩]
end fD8
noncomputable def fD8.go (N : Nat) : Nat → Int → Int → Int → (List T1) → Int → Int → Bool → (List Int) → Int → Int → (List T1) → Int → Int → Bool → T12 → Int → Int → Option (T63)
  | 0, _, _, _, _, _, _, _, _, _, _, _, _, _, _, _, _, _ => none
  | fuel + 1, yield, room_, used, files, steps, left, dead, yield1, room1, used1, files1, steps1, left1, dead1, t10, t11, t12 =>
    bif decide (t12 < t11) then
      bif inB t12 t10.length then
        bif decide (t12.toNat < t10.length) then
          bif decide (yield = (0 : Int)) then
            obind (Y2.run N room_ used files steps left dead yield1 room1 used1 files1 steps1 left1 dead1 (t10.getD t12.toNat ([] : List UInt8))) fun ((v, _), (room2, used2, files2, steps2, left2, dead2, _), _) =>
              fD8.go N fuel (0 : Int) room_ used files steps left dead v room2 used2 files2 steps2 left2 dead2 t10 t11 (IntKind.i64.wrap (t12 + (1 : Int)))
          else none
        else none
      else none
    else some ((yield1, ()), (room1, used1, files1, steps1, left1, dead1, ()), (yield, (), (), (), (), (), (), ()), ())
namespace fD8
def g (N n : Nat) : Sh.den ins → Option (altsDen alts) := fun ((a, _, _, _, ((b, c, d, e, f, g, _), _), (h, _), ((i, j, k, l, m, o, _), _), _), p, q, r, _) => fD8.go N n a b c d e f g h i j k l m o p q r
def P (N : Nat) : Ps := ⟨ts, ins, asg, alts, g N N⟩
def lam (N : Nat) : Pcs := pcs []
theorem pok (N : Nat) : (lam N).Ok Tryz.prog (C N) code := pcsOk_nil
theorem ok (N : Nat) : ((P N).pc (fA5.C N)).Ok Tryz.prog (fA5.C N) (.loop code) := okL (F := P N) (g N) (fA5.cok N) mix (pok N) (fun _ => rfl) rfl fun _ _ => by kernel_rfl
end fD8
noncomputable def fA5.run (N : Nat) (yield : Int) (room_ : Int) (used : Int) (files : (List T1)) (steps : Int) (left : Int) (dead : Bool) (yield1 : (List Int)) (room1 : Int) (used1 : Int) (files1 : (List T1)) (steps1 : Int) (left1 : Int) (dead1 : Bool) : Option T63 :=
  obind (fD0.run N files) fun (((_, _), _), _) =>
    obind (fB33.run N files) fun (names, _) =>
      obind (fD8.go N N yield room_ used files steps left dead yield1 room1 used1 files1 steps1 left1 dead1 names (names.length : Int) (0 : Int)) fun ((v, _), (room2, used2, files2, steps2, left2, dead2, _), (v1, _, _, _, _, _, _, _), _) =>
        some ((v, ()), (room2, used2, files2, steps2, left2, dead2, ()), (v1, (), (), (), (), (), (), ()), ())
namespace fA5
def fn (N : Nat) : Sh.den ins → Option (Sh.den outs) := fun ((a, _, _, _, ((b, c, d, e, f, g, _), _), (h, _), ((i, j, k, l, m, o, _), _), _), (_, _), _) => fA5.run N a b c d e f g h i j k l m o
def S (N : Nat) : Fs := ⟨ins, outs, fn N⟩
def lam (N : Nat) : Pcs := pcs [([true, false], (fD8.P N).pc (C N))]
theorem pok (N : Nat) : (lam N).Ok Tryz.prog (C N) code := pcsOk_cons (c1 := .loop fD8.code) (by kernel_rfl) (fD8.ok N) (pcsOk_nil)
theorem ok (N : Nat) : (S N).con.Ok Tryz.prog 83 := okF (F := S N) [] Tryz.func83 (by kernel_rfl) (by rfl) mix (cok N) (pok N) fun _ => by kernel_rfl
end fA5
namespace fA6
def ins : Sh := (.cons (.box 54 s1) (.cons (.val (.slice (.int .i64))) .nil))
def C (N : Nat) : Ctx := ⟨U, 54, fun _ => true, gam [(5, (fA29.S N).con), (49, (fB34.S N).con), (83, (fA5.S N).con)], gamY []⟩
theorem cok (N : Nat) : (C N).Ok Tryz.prog := ⟨U_ok, GamOk.cons (fA29.ok N) (GamOk.cons (fB34.ok N) (GamOk.cons (fA5.ok N) (GamOk.nil))), GamYOk.nil⟩
def code : Code := Tryz.f23.body.getD .skip
def outs : Sh := (.cons (.upd 0 54 s1) (.cons (.box 54 s1) .nil))
end fA6
noncomputable def fA6.run (N : Nat) (room_ : Int) (used : Int) (files : (List T1)) (steps : Int) (left : Int) (dead : Bool) (keep : (List Int)) : Option T64 :=
  obind (fA29.run N room_) fun ((room1, used1, files1, steps1, left1, dead1, _), _) =>
    obind (fB34.run N room_ used files steps left dead) fun ((room2, used2, files2, steps2, left2, dead2, _), ((_, _), _), _) =>
      obind (fA5.run N (0 : Int) room2 used2 files2 steps2 left2 dead2 keep room1 used1 files1 steps1 left1 dead1) fun ((v, _), (room3, used3, files3, steps3, left3, dead3, _), (v1, _, _, _, _, _, _, _), _) =>
        bif decide (v1 = (0 : Int)) then
          some ((room2, used2, files2, steps2, left2, dead2, ()), (room3, used3, files3, steps3, left3, dead3, ()), ())
        else none
namespace fA6
def fn (N : Nat) : Sh.den ins → Option (Sh.den outs) := fun ((a, b, c, d, e, f, _), g, _) => fA6.run N a b c d e f g
def S (N : Nat) : Fs := ⟨ins, outs, fn N⟩
def lam (N : Nat) : Pcs := pcs [([true, true, false, true, false], rfPc (C N) 1000002 (.tmp 15) [2, 3, 5] [.normal])]
theorem pok (N : Nat) : (lam N).Ok Tryz.prog (C N) code := pcsOk_cons (c1 := .rangeFunc (.tmp 15) site2.ps site2.assign site2.body) (by kernel_rfl) (rf_ok (k := 2) (fun _ => rfl) (cok N)) (pcsOk_nil)
theorem ok (N : Nat) : (S N).con.Ok Tryz.prog 23 := okF (F := S N) [] Tryz.func23 (by kernel_rfl) (by rfl) mix (cok N) (pok N) fun _ => by kernel_rfl
end fA6
namespace fA15
def ins : Sh := (.cons (.val (.pair (.int .i64) (.pair (.int .i64) (.pair (.slice (.pair .str (.pair (.slice .byte) (.int .i64)))) (.pair .bool (.pair .bool (.int .i64))))))) (.cons (.val (.slice (.int .i64))) .nil))
def C (N : Nat) : Ctx := ⟨U, 66, fun _ => true, gam [(51, (fC19.S N).con)], gamY []⟩
theorem cok (N : Nat) : (C N).Ok Tryz.prog := ⟨U_ok, GamOk.cons (fC19.ok N) (GamOk.nil), GamYOk.nil⟩
def code : Code := Tryz.f24.body.getD .skip
def outs : Sh := s2
end fA15
namespace fD16
def ins : Sh := (.cons (.val (.slice (.int .i64))) (.cons (.rbox 28 s55) (.cons (.box 28 s78) (.cons (.val (.int .i64)) .nil))))
def ts : List Tmp := [1, 2, 5, 6]
def asg : List Tmp := [6, 7, 8, 12, 13, 14, 15, 16, 17, 18, 19, 20, 21, 22, 23, 24, 25, 26, 27, 28, 29, 30, 31, 32, 33, 34, 35, 36, 37, 38, 39, 40, 41, 42, 43, 44, 45, 46, 47, 48, 49, 50, 51, 52, 53, 54, 55, 56, 57, 58, 59, 60, 61, 62, 63, 64]
def C (N : Nat) : Ctx := { fA15.C N with may := fun t => asg.any (Nat.beq t) }
def code : Code := loopBody (sub fA15.code [true, true, false, true, false])
theorem cok (N : Nat) : (C N).Ok Tryz.prog := okC (fA15.cok N) _
def alts : List Alt := [⟨(.exit 0), [], (.cons (.upd 1 28 s78) .nil)⟩]
end fD16
namespace fB25
def ins : Sh := (.cons (.val (.slice (.int .i64))) (.cons (.val (.int .i64)) (.cons (.rbox 83 (.cons (.val .str) s35)) (.cons (.val (.int .i64)) .nil))))
def ts : List Tmp := [1, 6, 7, 8]
def asg : List Tmp := [8, 24, 25, 26, 27, 28, 29, 30, 31, 32, 33, 34, 35, 36, 37, 38, 39, 40, 41, 42, 43, 44, 45]
def C (N : Nat) : Ctx := { fD16.C N with may := fun t => asg.any (Nat.beq t) }
def code : Code := (sub fD16.code [true, false, false, true, true, false]).getD .skip
theorem cok (N : Nat) : (C N).Ok Tryz.prog := okC (fD16.cok N) _
def alts : List Alt := [⟨.normal, [8], (.cons (.val (.int .i64)) .nil)⟩]
end fB25
noncomputable def fB25.run (N : Nat) (keep : (List Int)) (i : Int) (name : (List UInt8)) (bytes : (List UInt8)) (last : Int) (n_ : Int) : Option ((Int × Unit)) :=
  bif decide (i < (keep.length : Int)) then
    bif inB i keep.length then
      bif decide ((keep.getD i.toNat (0 : Int)) > (0 : Int)) then
        bif inB i keep.length then
          some (min (keep.getD i.toNat (0 : Int)) (IntKind.i64.wrap ((bytes.length : Int) - last)), ())
        else none
      else some (n_, ())
    else none
  else some (n_, ())
namespace fB25
def fn (N : Nat) : Sh.den ins → Option (altsDen alts) := fun (a, b, (c, d, e, _), f, _) => fB25.run N a b c d e f
def P (N : Nat) : Ps := ⟨ts, ins, asg, alts, fn N⟩
def lam (N : Nat) : Pcs := pcs []
theorem pok (N : Nat) : (lam N).Ok Tryz.prog (C N) code := pcsOk_nil
theorem ok (N : Nat) : ((P N).pc (fD16.C N)).Ok Tryz.prog (fD16.C N) code := okP (F := P N) (fD16.cok N) mix (pok N) fun _ => by kernel_rfl
end fB25
noncomputable def fD16.go (N : Nat) : Nat → (List Int) → Int → Int → (List T1) → Bool → Bool → Int → Int → Int → (List T1) → Bool → Bool → Int → Int → Option ((T51 × Unit))
  | 0, _, _, _, _, _, _, _, _, _, _, _, _, _, _ => none
  | fuel + 1, keep, room_, steps, files, armed, dead, left, room1, steps1, files1, armed1, dead1, left1, i =>
    bif decide (i < (files.length : Int)) then
      bif inB i files.length then
        obind (fB25.run N keep i (files.getD i.toNat (([] : List UInt8), ([] : List UInt8), (0 : Int))).1 (files.getD i.toNat (([] : List UInt8), ([] : List UInt8), (0 : Int))).2.1 (files.getD i.toNat (([] : List UInt8), ([] : List UInt8), (0 : Int))).2.2 (0 : Int)) fun (n_, _) =>
          bif okB (0 : Int) (IntKind.i64.wrap ((files.getD i.toNat (([] : List UInt8), ([] : List UInt8), (0 : Int))).2.2 + n_)) (files.getD i.toNat (([] : List UInt8), ([] : List UInt8), (0 : Int))).2.1.length then
            obind (fC19.run N ((files.getD i.toNat (([] : List UInt8), ([] : List UInt8), (0 : Int))).2.1.take (IntKind.i64.wrap ((files.getD i.toNat (([] : List UInt8), ([] : List UInt8), (0 : Int))).2.2 + n_)).toNat) ([] : List UInt8)) fun (l, _) =>
              bif room (files1.length + 1) 48 then
                fD16.go N fuel keep room_ steps files armed dead left room1 steps1 (files1 ++ ([((files.getD i.toNat (([] : List UInt8), ([] : List UInt8), (0 : Int))).1, l, (l.length : Int))] : List T1)) armed1 dead1 left1 (IntKind.i64.wrap (i + (1 : Int)))
              else none
          else none
      else none
    else some ((room1, steps1, files1, armed1, dead1, left1, ()), ())
namespace fD16
def g (N n : Nat) : Sh.den ins → Option (altsDen alts) := fun (a, (b, c, d, e, f, g, _), (h, i, j, k, l, m, _), o, _) => fD16.go N n a b c d e f g h i j k l m o
def P (N : Nat) : Ps := ⟨ts, ins, asg, alts, g N N⟩
def lam (N : Nat) : Pcs := pcs [([true, false, false, true, true, false], (fB25.P N).pc (C N))]
theorem pok (N : Nat) : (lam N).Ok Tryz.prog (C N) code := pcsOk_cons (c1 := fB25.code) (by kernel_rfl) (fB25.ok N) (pcsOk_nil)
theorem ok (N : Nat) : ((P N).pc (fA15.C N)).Ok Tryz.prog (fA15.C N) (.loop code) := okL (F := P N) (g N) (fA15.cok N) mix (pok N) (fun _ => rfl) rfl fun _ _ => by kernel_rfl
end fD16
noncomputable def fA15.run (N : Nat) (d : T5) (keep : (List Int)) : Option (T5 × Unit) :=
  obind (fD16.go N N keep d.1 d.2.1 d.2.2.1 d.2.2.2.1 d.2.2.2.2.1 d.2.2.2.2.2 d.1 (0 : Int) ([] : List T1) false false (0 : Int) (0 : Int)) fun ((room_, steps, files, armed, dead, left, _), _) =>
    some ((room_, steps, files, armed, dead, left), ())
namespace fA15
def fn (N : Nat) : Sh.den ins → Option (Sh.den outs) := fun (a, b, _) => fA15.run N a b
def S (N : Nat) : Fs := ⟨ins, outs, fn N⟩
def lam (N : Nat) : Pcs := pcs [([true, true, false, true, false], (fD16.P N).pc (C N))]
theorem pok (N : Nat) : (lam N).Ok Tryz.prog (C N) code := pcsOk_cons (c1 := .loop fD16.code) (by kernel_rfl) (fD16.ok N) (pcsOk_nil)
theorem ok (N : Nat) : (S N).con.Ok Tryz.prog 24 := okF (F := S N) [] Tryz.func24 (by kernel_rfl) (by rfl) mix (cok N) (pok N) fun _ => by kernel_rfl
end fA15
namespace law_step_b
def ins : Sh := (.cons (.agg s69) s79)
def C (N : Nat) : Ctx := ⟨U, 161, fun _ => true, gam [(17, (fD5.S N).con), (18, (fB2.S N).con), (19, (((law_laid_b.S N).con).or (law_laid.S N).con))], gamY []⟩
theorem cok (N : Nat) : (C N).Ok Tryz.prog := ⟨U_ok, GamOk.cons (fD5.ok N) (GamOk.cons (fB2.ok N) (GamOk.cons (Con.or_ok (law_laid_b.ok N) (law_laid.ok N)) (GamOk.nil))), GamYOk.nil⟩
def code : Code := Tryz.f8.body.getD .skip
def outs : List Sh := [(.cons (.upd 0 54 s1) s72), (.cons (.upd 0 54 s1) s80)]
end law_step_b
namespace law_step_b_0
def ins : Sh := (.cons (.rbox 34 s69) .nil)
def ts : List Tmp := [2]
def asg : List Tmp := [6, 7, 22, 23, 24, 25, 26, 27]
def C (N : Nat) : Ctx := { law_step_b.C N with may := fun t => asg.any (Nat.beq t) }
def code : Code := (sub law_step_b.code [true, false, true, false, true, false, false]).getD .skip
theorem cok (N : Nat) : (C N).Ok Tryz.prog := okC (law_step_b.cok N) _
def alts : List Alt := [⟨.normal, [6, 7], (.cons (.upd 1 54 s1) s15)⟩, ⟨.normal, [6, 7], (.cons (.upd 1 54 s1) s18)⟩]
end law_step_b_0
noncomputable def law_step_b_0.run (N : Nat) (room_ : Int) (used : Int) (files : (List T1)) (steps : Int) (left : Int) (dead : Bool) (rd : Int) (rd1 : Int) (rd2 : (List T1)) (rd3 : Bool) (rd4 : Bool) (rd5 : Int) (rl : (List UInt8)) (rl1 : T12) (rl2 : Int) (up : Bool) : Option (T13 ⊕ T15) :=
  obind (fD5.run N room_ used files steps left dead ([(108 : UInt8), (111 : UInt8), (103 : UInt8)] : List UInt8)) fun y => match y with
  | .inl ((room1, used1, files1, steps1, left1, dead1, _), _, n_, _) =>
      some (.inl ((room1, used1, files1, steps1, left1, dead1, ()), (), n_, ()))
  | .inr ((room2, used2, files2, steps2, left2, dead2, _), (_, name, l, size, _), n1, _) =>
      some (.inr ((room2, used2, files2, steps2, left2, dead2, ()), ((), name, l, size, ()), n1, ()))
namespace law_step_b_0
def fn (N : Nat) : Sh.den ins → Option (altsDen alts) := fun (((a, b, c, d, e, f, _), _, g, h, i, j, k, l, m, o, p, q, _), _) => law_step_b_0.run N a b c d e f g h i j k l m o p q
def P (N : Nat) : Ps := ⟨ts, ins, asg, alts, fn N⟩
def lam (N : Nat) : Pcs := pcs []
theorem pok (N : Nat) : (lam N).Ok Tryz.prog (C N) code := pcsOk_nil
theorem ok (N : Nat) : ((P N).pc (law_step_b.C N)).Ok Tryz.prog (law_step_b.C N) code := okP (F := P N) (law_step_b.cok N) mix (pok N) fun _ => by kernel_rfl
end law_step_b_0
noncomputable def law_step_b.run (N : Nat) (room_ : Int) (used : Int) (files : (List T1)) (steps : Int) (left : Int) (dead : Bool) (w : Int) (w1 : Int) (w2 : (List T1)) (w3 : Bool) (w4 : Bool) (w5 : Int) (w6 : (List UInt8)) (w7 : T12) (w8 : Int) (w9 : Bool) : Option (T56 ⊕ T66) :=
  obind (law_step_b_0.run N room_ used files steps left dead w w1 w2 w3 w4 w5 w6 w7 w8 w9) fun y => match y with
  | .inl ((room3, used3, files3, steps3, left3, dead3, _), _, e, _) =>
      obind (fB2.run N (w, w1, w2, w3, w4, w5) ([(108 : UInt8), (111 : UInt8), (103 : UInt8)] : List UInt8)) fun (v, v1, n2, _) =>
        obind (law_laid.run N room3 used3 files3 steps3 left3 dead3 w w1 w2 w3 w4 w5 w6 w7 w8 w9 e v v1 n2) fun ((room5, used5, files5, steps5, left5, dead5, _), (_, _, v2, v3, v4, v5, v6, v7, v8, v9, v10, v11, _), b, _) =>
          some (.inl ((room5, used5, files5, steps5, left5, dead5, ()), ((), (), v2, v3, v4, v5, v6, v7, v8, v9, v10, v11, ()), b, ()))
  | .inr ((room4, used4, files4, steps4, left4, dead4, _), (_, name1, l1, size1, _), e1, _) =>
      obind (fB2.run N (w, w1, w2, w3, w4, w5) ([(108 : UInt8), (111 : UInt8), (103 : UInt8)] : List UInt8)) fun (v12, v13, n3, _) =>
        obind (law_laid_b.run N room4 used4 files4 steps4 left4 dead4 w w1 w2 w3 w4 w5 w6 w7 w8 w9 name1 l1 size1 e1 v12 v13 n3) fun ((room6, used6, files6, steps6, left6, dead6, _), (_, name2, l2, size2, _), (_, _, v14, v15, v16, v17, v18, v19, v20, v21, v22, v23, _), b1, _) =>
          some (.inr ((room6, used6, files6, steps6, left6, dead6, ()), ((), ((), name2, l2, size2, ()), v14, v15, v16, v17, v18, v19, v20, v21, v22, v23, ()), b1, ()))
namespace law_step_b
def fn (N : Nat) : Sh.den ins → Option (shsDen outs) := fun (((a, b, c, d, e, f, _), _, g, h, i, j, k, l, m, o, p, q, _), (_, _, _, _, _), _) => law_step_b.run N a b c d e f g h i j k l m o p q
def S (N : Nat) : Fm := ⟨ins, outs, fn N⟩
def lam (N : Nat) : Pcs := pcs [([true, false, true, false, true, false, false], (law_step_b_0.P N).pc (C N))]
theorem pok (N : Nat) : (lam N).Ok Tryz.prog (C N) code := pcsOk_cons (c1 := law_step_b_0.code) (by kernel_rfl) (law_step_b_0.ok N) (pcsOk_nil)
theorem ok (N : Nat) : (S N).con.Ok Tryz.prog 8 := okM (F := S N) [] Tryz.func8 (by kernel_rfl) (by rfl) mix (cok N) (pok N) fun _ => by kernel_rfl
end law_step_b
namespace fD6
def ins : Sh := (.cons (.box 129 (.cons (.own 5 .byte) .nil)) (.cons (.val (.slice (.slice .byte))) (.cons (.fn 56 .nil) .nil)))
def C (N : Nat) : Ctx := ⟨U, 24, fun _ => true, gam [(89, (fC6.S N).con), (56, (fA43.S N).con)], gamY []⟩
theorem cok (N : Nat) : (C N).Ok Tryz.prog := ⟨U_ok, GamOk.cons (fC6.ok N) (GamOk.cons (fA43.ok N) (GamOk.nil)), GamYOk.nil⟩
def code : Code := Tryz.f55.body.getD .skip
def outs : Sh := s19
end fD6
namespace fC14
def ins : Sh := (.cons (.box 129 (.cons (.own 5 .byte) .nil)) (.cons (.fn 56 .nil) s81))
def ts : List Tmp := [0, 2, 13, 14, 15]
def asg : List Tmp := [7, 15, 16, 17, 18, 19, 20, 21, 22, 23]
def C (N : Nat) : Ctx := { fD6.C N with may := fun t => asg.any (Nat.beq t) }
def code : Code := loopBody (sub fD6.code [true, true, false])
theorem cok (N : Nat) : (C N).Ok Tryz.prog := okC (fD6.cok N) _
def alts : List Alt := [⟨(.exit 0), [], s19⟩]
end fC14
noncomputable def fC14.go (N : Nat) : Nat → (List UInt8) → T12 → Int → Int → Option ((T6 × Unit))
  | 0, _, _, _, _ => none
  | fuel + 1, b, t13, t14, t15 =>
    bif decide (t15 < t14) then
      bif inB t15 t13.length then
        obind (fA43.run N b (t13.getD t15.toNat ([] : List UInt8))) fun ((b1, _), _) =>
          fC14.go N fuel b1 t13 t14 (IntKind.i64.wrap (t15 + (1 : Int)))
      else none
    else some ((b, ()), ())
namespace fC14
def g (N n : Nat) : Sh.den ins → Option (altsDen alts) := fun ((a, _), _, b, c, d, _) => fC14.go N n a b c d
def P (N : Nat) : Ps := ⟨ts, ins, asg, alts, g N N⟩
def lam (N : Nat) : Pcs := pcs []
theorem pok (N : Nat) : (lam N).Ok Tryz.prog (C N) code := pcsOk_nil
theorem ok (N : Nat) : ((P N).pc (fD6.C N)).Ok Tryz.prog (fD6.C N) (.loop code) := okL (F := P N) (g N) (fD6.cok N) mix (pok N) (fun _ => rfl) rfl fun _ _ => by kernel_rfl
end fC14
noncomputable def fD6.run (N : Nat) (b : (List UInt8)) (l : T12) : Option (T6 × Unit) :=
  obind (fC6.run N b (IntKind.u64.wrap (l.length : Int))) fun ((b1, _), _) =>
    obind (fC14.go N N b1 l (l.length : Int) (0 : Int)) fun ((b2, _), _) =>
      some ((b2, ()), ())
namespace fD6
def fn (N : Nat) : Sh.den ins → Option (Sh.den outs) := fun ((a, _), b, _, _) => fD6.run N a b
def S (N : Nat) : Fs := ⟨ins, outs, fn N⟩
def lam (N : Nat) : Pcs := pcs [([true, true, false], (fC14.P N).pc (C N))]
theorem pok (N : Nat) : (lam N).Ok Tryz.prog (C N) code := pcsOk_cons (c1 := .loop fC14.code) (by kernel_rfl) (fC14.ok N) (pcsOk_nil)
theorem ok (N : Nat) : (S N).con.Ok Tryz.prog 55 := okF (F := S N) [] Tryz.func55 (by kernel_rfl) (by rfl) mix (cok N) (pok N) fun _ => by kernel_rfl
end fD6
namespace fD7
def ins : Sh := s82
def C (N : Nat) : Ctx := ⟨U, 36, fun _ => true, gam [(54, (fC34.S N).con), (55, (fD6.S N).con), (58, (fD4.S N).con), (57, (fB32.S N).con)], gamY []⟩
theorem cok (N : Nat) : (C N).Ok Tryz.prog := ⟨U_ok, GamOk.cons (fC34.ok N) (GamOk.cons (fD6.ok N) (GamOk.cons (fD4.ok N) (GamOk.cons (fB32.ok N) (GamOk.nil)))), GamYOk.nil⟩
def code : Code := Tryz.f28.body.getD .skip
def outs : Sh := s25
end fD7
namespace fD18
def ins : Sh := (.cons (.val (.int .i64)) s81)
def ts : List Tmp := [4, 10, 11, 12]
def asg : List Tmp := [2, 3, 4, 6, 12, 13, 14, 15, 16, 17, 18, 19, 20, 21, 22]
def C (N : Nat) : Ctx := { fD7.C N with may := fun t => asg.any (Nat.beq t) }
def code : Code := loopBody (sub fD7.code [true, true, false, true, false])
theorem cok (N : Nat) : (C N).Ok Tryz.prog := okC (fD7.cok N) _
def alts : List Alt := [⟨.ret, [2, 3], s25⟩, ⟨(.exit 0), [], .nil⟩]
end fD18
noncomputable def fD18.go (N : Nat) : Nat → Int → T12 → Int → Int → Option (T17 ⊕ Unit)
  | 0, _, _, _, _ => none
  | fuel + 1, many, t10, t11, t12 =>
    bif decide (t12 < t11) then
      bif inB t12 t10.length then
        bif decide ((IntKind.i64.wrap (many + ((t10.getD t12.toNat ([] : List UInt8)).length : Int))) > (16777216 : Int)) then
          some (.inl (([] : List UInt8), (90 : Int), ()))
        else fD18.go N fuel (IntKind.i64.wrap (many + ((t10.getD t12.toNat ([] : List UInt8)).length : Int))) t10 t11 (IntKind.i64.wrap (t12 + (1 : Int)))
      else none
    else some (.inr ())
namespace fD18
def g (N n : Nat) : Sh.den ins → Option (altsDen alts) := fun (a, b, c, d, _) => fD18.go N n a b c d
def P (N : Nat) : Ps := ⟨ts, ins, asg, alts, g N N⟩
def lam (N : Nat) : Pcs := pcs []
theorem pok (N : Nat) : (lam N).Ok Tryz.prog (C N) code := pcsOk_nil
theorem ok (N : Nat) : ((P N).pc (fD7.C N)).Ok Tryz.prog (fD7.C N) (.loop code) := okL (F := P N) (g N) (fD7.cok N) mix (pok N) (fun _ => rfl) rfl fun _ _ => by kernel_rfl
end fD18
noncomputable def fD7.run (N : Nat) (records : T12) : Option T17 :=
  obind (fD18.go N N (0 : Int) records (records.length : Int) (0 : Int)) fun y => match y with
  | .inl (t2, t3, _) =>
      some (t2, t3, ())
  | .inr (_) =>
      obind (fC34.run N) fun ((b, _), _) =>
        obind (fD6.run N b records) fun ((b1, _), _) =>
          obind (fD4.run N b1) fun (l, _) =>
            obind (fB32.run N l) fun (l1, n_, _) =>
              bif !(decide (n_ = (0 : Int))) then
                some (([] : List UInt8), (90 : Int), ())
              else some (l1, (0 : Int), ())
namespace fD7
def fn (N : Nat) : Sh.den ins → Option (Sh.den outs) := fun (a, _) => fD7.run N a
def S (N : Nat) : Fs := ⟨ins, outs, fn N⟩
def lam (N : Nat) : Pcs := pcs [([true, true, false, true, false], (fD18.P N).pc (C N))]
theorem pok (N : Nat) : (lam N).Ok Tryz.prog (C N) code := pcsOk_cons (c1 := .loop fD18.code) (by kernel_rfl) (fD18.ok N) (pcsOk_nil)
theorem ok (N : Nat) : (S N).con.Ok Tryz.prog 28 := okF (F := S N) [] Tryz.func28 (by kernel_rfl) (by rfl) mix (cok N) (pok N) fun _ => by kernel_rfl
end fD7
namespace fB19
def ins : Sh := s83
def C (N : Nat) : Ctx := ⟨U, 13, fun _ => true, gam [], gamY []⟩
theorem cok (N : Nat) : (C N).Ok Tryz.prog := ⟨U_ok, GamOk.nil, GamYOk.nil⟩
def code : Code := Tryz.f30.body.getD .skip
def outs : Sh := (.cons (.junk) .nil)
end fB19
noncomputable def fB19.run (N : Nat) (t1 : (List UInt8)) : Option (Unit × Unit) :=
  none
namespace fB19
def fn (N : Nat) : Sh.den ins → Option (Sh.den outs) := fun ((_, _), (a, _), _) => fB19.run N a
def S (N : Nat) : Fs := ⟨ins, outs, fn N⟩
def lam (N : Nat) : Pcs := pcs []
theorem pok (N : Nat) : (lam N).Ok Tryz.prog (C N) code := pcsOk_nil
theorem ok (N : Nat) : (S N).con.Ok Tryz.prog 30 := okF (F := S N) [] Tryz.func30 (by kernel_rfl) (by rfl) mix (cok N) (pok N) fun _ => by kernel_rfl
end fB19
namespace fB45
def ins : Sh := (.cons (.els 1 2 (.cons (.fn 30 s83) s30)) .nil)
def C (N : Nat) : Ctx := ⟨U, 18, fun _ => true, gam [(30, (fB19.S N).con)], gamY []⟩
theorem cok (N : Nat) : (C N).Ok Tryz.prog := ⟨U_ok, GamOk.cons (fB19.ok N) (GamOk.nil), GamYOk.nil⟩
def code : Code := Tryz.f29.body.getD .skip
def outs : Sh := (.cons (.junk) .nil)
end fB45
noncomputable def fB45.run (N : Nat) (steps : (List UInt8)) : Option (Unit × Unit) :=
  obind (fB19.run N steps) fun (_, _) =>
    none
namespace fB45
def fn (N : Nat) : Sh.den ins → Option (Sh.den outs) := fun ((((_, _), (a, _), _), (_, _), _), _) => fB45.run N a
def S (N : Nat) : Fs := ⟨ins, outs, fn N⟩
def lam (N : Nat) : Pcs := pcs [([true, false, true, false], (Pc.unroll (C N) (loopBody (sub code [true, false, true, false])) (pcs []) 3))]
theorem pok (N : Nat) : (lam N).Ok Tryz.prog (C N) code := pcsOk_cons (c1 := .loop (loopBody (sub code [true, false, true, false]))) (by kernel_rfl) (unroll_ok (cok N) mix pcsOk_nil 3) (pcsOk_nil)
theorem ok (N : Nat) : (S N).con.Ok Tryz.prog 29 := okF (F := S N) [] Tryz.func29 (by kernel_rfl) (by rfl) mix (cok N) (pok N) fun _ => by kernel_rfl
end fB45
namespace fA4
def ins : Sh := (.cons (.nilp) s82)
def C (N : Nat) : Ctx := ⟨U, 54, fun _ => true, gam [(28, (fD7.S N).con), (29, (fB45.S N).con)], gamY []⟩
theorem cok (N : Nat) : (C N).Ok Tryz.prog := ⟨U_ok, GamOk.cons (fD7.ok N) (GamOk.cons (fB45.ok N) (GamOk.nil)), GamYOk.nil⟩
def code : Code := Tryz.f12.body.getD .skip
def outs : Sh := (.cons (.val (.int .i64)) .nil)
end fA4
noncomputable def fA4.run (N : Nat) (records : T12) : Option (Int × Unit) :=
  bif decide ((records.length : Int) = (0 : Int)) then
    some ((0 : Int), ())
  else
    obind (fD7.run N records) fun (l, n_, _) =>
      bif !(decide (n_ = (0 : Int))) then
        some (n_, ())
      else
        obind (fB45.run N l) fun (_, _) =>
          none
namespace fA4
def fn (N : Nat) : Sh.den ins → Option (Sh.den outs) := fun (_, a, _) => fA4.run N a
def S (N : Nat) : Fs := ⟨ins, outs, fn N⟩
def lam (N : Nat) : Pcs := pcs []
theorem pok (N : Nat) : (lam N).Ok Tryz.prog (C N) code := pcsOk_nil
theorem ok (N : Nat) : (S N).con.Ok Tryz.prog 12 := okF (F := S N) [] Tryz.func12 (by kernel_rfl) (by rfl) mix (cok N) (pok N) fun _ => by kernel_rfl
end fA4
namespace fC46
def ins : Sh := (.cons (.val (.slice .byte)) .nil)
def C (N : Nat) : Ctx := ⟨U, 12, fun _ => true, gam [(86, (fB24.S N).con)], gamY []⟩
theorem cok (N : Nat) : (C N).Ok Tryz.prog := ⟨U_ok, GamOk.cons (fB24.ok N) (GamOk.nil), GamYOk.nil⟩
def code : Code := Tryz.f87.body.getD .skip
def outs : Sh := (.cons (.own 5 .byte) .nil)
end fC46
noncomputable def fC46.run (N : Nat) (b : (List UInt8)) : Option T6 :=
  obind (fB24.run N (IntKind.u64.wrap (b.length : Int))) fun (l, _) =>
    bif room (l.length + b.length) 1 then
      some (l ++ b, ())
    else none
namespace fC46
def fn (N : Nat) : Sh.den ins → Option (Sh.den outs) := fun (a, _) => fC46.run N a
def S (N : Nat) : Fs := ⟨ins, outs, fn N⟩
def lam (N : Nat) : Pcs := pcs []
theorem pok (N : Nat) : (lam N).Ok Tryz.prog (C N) code := pcsOk_nil
theorem ok (N : Nat) : (S N).con.Ok Tryz.prog 87 := okF (F := S N) [] Tryz.func87 (by kernel_rfl) (by rfl) mix (cok N) (pok N) fun _ => by kernel_rfl
end fC46
namespace fD27
def ins : Sh := (.cons (.rown 5 .byte) .nil)
def C (N : Nat) : Ctx := ⟨U, 33, fun _ => true, gam [], gamY []⟩
theorem cok (N : Nat) : (C N).Ok Tryz.prog := ⟨U_ok, GamOk.nil, GamYOk.nil⟩
def code : Code := Tryz.f100.body.getD .skip
def outs : Sh := (.cons (.val (.int .u32)) .nil)
end fD27
namespace fB17
def ins : Sh := (.cons (.rown 5 .byte) s24)
def ts : List Tmp := [0, 3, 4]
def asg : List Tmp := [3, 4, 5, 6, 7, 8, 9, 10, 11, 12, 13, 14, 15, 16, 17, 18, 19, 20, 21, 22, 23, 24, 25, 26, 27, 28, 29, 30]
def C (N : Nat) : Ctx := { fD27.C N with may := fun t => asg.any (Nat.beq t) }
def code : Code := loopBody (sub fD27.code [true, true, false, true, false])
theorem cok (N : Nat) : (C N).Ok Tryz.prog := okC (fD27.cok N) _
def alts : List Alt := [⟨(.exit 0), [3], (.cons (.val (.int .u32)) .nil)⟩]
end fB17
namespace fA22
def ins : Sh := s24
def ts : List Tmp := [3, 5]
def asg : List Tmp := [3, 5, 19, 20, 21, 22, 23, 24, 25, 26, 27, 28, 29, 30]
def C (N : Nat) : Ctx := { fB17.C N with may := fun t => asg.any (Nat.beq t) }
def code : Code := loopBody (sub fB17.code [true, false, false, true, true, false])
theorem cok (N : Nat) : (C N).Ok Tryz.prog := okC (fB17.cok N) _
def alts : List Alt := [⟨(.exit 2), [3], (.cons (.val (.int .u32)) .nil)⟩]
end fA22
noncomputable def fA22.go (N : Nat) : Nat → Int → Int → Option ((Int × Unit))
  | 0, _, _ => none
  | fuel + 1, r, k =>
    bif decide (k < (8 : Int)) then
      bif decide ((r.tmod (2 : Int)) = (1 : Int)) then
        fA22.go N fuel (IntKind.u32.wrap ((BitVec.ofInt 32 (IntKind.u32.wrap (r.tdiv (2 : Int))) ^^^ BitVec.ofInt 32 (3988292384 : Int)).toNat : Int)) (IntKind.i64.wrap (k + (1 : Int)))
      else fA22.go N fuel (IntKind.u32.wrap (r.tdiv (2 : Int))) (IntKind.i64.wrap (k + (1 : Int)))
    else some (r, ())
namespace fA22
def g (N n : Nat) : Sh.den ins → Option (altsDen alts) := fun (a, b, _) => fA22.go N n a b
def P (N : Nat) : Ps := ⟨ts, ins, asg, alts, g N N⟩
def lam (N : Nat) : Pcs := pcs []
theorem pok (N : Nat) : (lam N).Ok Tryz.prog (C N) code := pcsOk_nil
theorem ok (N : Nat) : ((P N).pc (fB17.C N)).Ok Tryz.prog (fB17.C N) (.loop code) := okL (F := P N) (g N) (fB17.cok N) mix (pok N) (fun _ => rfl) rfl fun _ _ => by kernel_rfl
end fA22
noncomputable def fB17.go (N : Nat) : Nat → (List UInt8) → Int → Int → Option ((Int × Unit))
  | 0, _, _, _ => none
  | fuel + 1, b, r, i =>
    bif decide (i < (b.length : Int)) then
      bif inB i b.length then
        bif decide (i.toNat < b.length) then
          obind (fA22.go N N (IntKind.u32.wrap ((BitVec.ofInt 32 r ^^^ BitVec.ofInt 32 (IntKind.u32.wrap ((b.getD i.toNat (0 : UInt8)).toNat : Int))).toNat : Int)) (0 : Int)) fun (r1, _) =>
            fB17.go N fuel b r1 (IntKind.i64.wrap (i + (1 : Int)))
        else none
      else none
    else some (r, ())
namespace fB17
def g (N n : Nat) : Sh.den ins → Option (altsDen alts) := fun (a, b, c, _) => fB17.go N n a b c
def P (N : Nat) : Ps := ⟨ts, ins, asg, alts, g N N⟩
def lam (N : Nat) : Pcs := pcs [([true, false, false, true, true, false], (fA22.P N).pc (C N))]
theorem pok (N : Nat) : (lam N).Ok Tryz.prog (C N) code := pcsOk_cons (c1 := .loop fA22.code) (by kernel_rfl) (fA22.ok N) (pcsOk_nil)
theorem ok (N : Nat) : ((P N).pc (fD27.C N)).Ok Tryz.prog (fD27.C N) (.loop code) := okL (F := P N) (g N) (fD27.cok N) mix (pok N) (fun _ => rfl) rfl fun _ _ => by kernel_rfl
end fB17
noncomputable def fD27.run (N : Nat) (b : (List UInt8)) : Option (Int × Unit) :=
  obind (fB17.go N N b (4294967295 : Int) (0 : Int)) fun (r, _) =>
    some (IntKind.u32.wrap ((BitVec.ofInt 32 r ^^^ BitVec.ofInt 32 (4294967295 : Int)).toNat : Int), ())
namespace fD27
def fn (N : Nat) : Sh.den ins → Option (Sh.den outs) := fun (a, _) => fD27.run N a
def S (N : Nat) : Fs := ⟨ins, outs, fn N⟩
def lam (N : Nat) : Pcs := pcs [([true, true, false, true, false], (fB17.P N).pc (C N))]
theorem pok (N : Nat) : (lam N).Ok Tryz.prog (C N) code := pcsOk_cons (c1 := .loop fB17.code) (by kernel_rfl) (fB17.ok N) (pcsOk_nil)
theorem ok (N : Nat) : (S N).con.Ok Tryz.prog 100 := okF (F := S N) [] Tryz.func100 (by kernel_rfl) (by rfl) mix (cok N) (pok N) fun _ => by kernel_rfl
end fD27
namespace fC45
def ins : Sh := (.cons (.rown 5 .byte) .nil)
def C (N : Nat) : Ctx := ⟨U, 28, fun _ => true, gam [(107, (fA14.S N).con), (100, (fD27.S N).con)], gamY []⟩
theorem cok (N : Nat) : (C N).Ok Tryz.prog := ⟨U_ok, GamOk.cons (fA14.ok N) (GamOk.cons (fD27.ok N) (GamOk.nil)), GamYOk.nil⟩
def code : Code := Tryz.f88.body.getD .skip
def outs : Sh := s25
end fC45
noncomputable def fC45.run (N : Nat) (b : (List UInt8)) : Option T17 :=
  bif decide ((b.length : Int) > (16777216 : Int)) then
    some (([] : List UInt8), (12 : Int), ())
  else
    obind (fA14.run N (IntKind.u64.wrap (b.length : Int)) (4 : Int)) fun (l, _) =>
      obind (fD27.run N l) fun (n_, _) =>
        obind (fA14.run N (IntKind.u64.wrap n_) (4 : Int)) fun (l1, _) =>
          bif room (l.length + l1.length) 1 then
            bif room ((l ++ l1).length + b.length) 1 then
              obind (fD27.run N b) fun (n1, _) =>
                obind (fA14.run N (IntKind.u64.wrap n1) (4 : Int)) fun (l2, _) =>
                  bif room (((l ++ l1) ++ b).length + l2.length) 1 then
                    some (((l ++ l1) ++ b) ++ l2, (0 : Int), ())
                  else none
            else none
          else none
namespace fC45
def fn (N : Nat) : Sh.den ins → Option (Sh.den outs) := fun (a, _) => fC45.run N a
def S (N : Nat) : Fs := ⟨ins, outs, fn N⟩
def lam (N : Nat) : Pcs := pcs []
theorem pok (N : Nat) : (lam N).Ok Tryz.prog (C N) code := pcsOk_nil
theorem ok (N : Nat) : (S N).con.Ok Tryz.prog 88 := okF (F := S N) [] Tryz.func88 (by kernel_rfl) (by rfl) mix (cok N) (pok N) fun _ => by kernel_rfl
end fC45
namespace fB14
def ins : Sh := s82
def C (N : Nat) : Ctx := ⟨U, 50, fun _ => true, gam [(86, (fB24.S N).con), (87, (fC46.S N).con), (88, (fC45.S N).con)], gamY []⟩
theorem cok (N : Nat) : (C N).Ok Tryz.prog := ⟨U_ok, GamOk.cons (fB24.ok N) (GamOk.cons (fC46.ok N) (GamOk.cons (fC45.ok N) (GamOk.nil))), GamYOk.nil⟩
def code : Code := Tryz.f52.body.getD .skip
def outs : Sh := s25
end fB14
namespace fB30
def ins : Sh := s81
def ts : List Tmp := [0, 4, 5]
def asg : List Tmp := [2, 3, 4, 5, 10, 11, 12, 13, 14, 15, 16, 17, 18, 19, 20, 21, 22, 23, 24]
def C (N : Nat) : Ctx := { fB14.C N with may := fun t => asg.any (Nat.beq t) }
def code : Code := loopBody (sub fB14.code [true, true, false, true, false])
theorem cok (N : Nat) : (C N).Ok Tryz.prog := okC (fB14.cok N) _
def alts : List Alt := [⟨.ret, [2, 3], s25⟩, ⟨(.exit 0), [], .nil⟩]
end fB30
noncomputable def fB30.go (N : Nat) : Nat → T12 → Int → Int → Option (T17 ⊕ Unit)
  | 0, _, _, _ => none
  | fuel + 1, records, n_, i =>
    bif decide (i < (records.length : Int)) then
      bif inB i records.length then
        bif decide ((IntKind.i64.wrap (n_ + ((records.getD i.toNat ([] : List UInt8)).length : Int))) > (16777216 : Int)) then
          some (.inl (([] : List UInt8), (90 : Int), ()))
        else fB30.go N fuel records (IntKind.i64.wrap (n_ + ((records.getD i.toNat ([] : List UInt8)).length : Int))) (IntKind.i64.wrap (i + (1 : Int)))
      else none
    else some (.inr ())
namespace fB30
def g (N n : Nat) : Sh.den ins → Option (altsDen alts) := fun (a, b, c, _) => fB30.go N n a b c
def P (N : Nat) : Ps := ⟨ts, ins, asg, alts, g N N⟩
def lam (N : Nat) : Pcs := pcs []
theorem pok (N : Nat) : (lam N).Ok Tryz.prog (C N) code := pcsOk_nil
theorem ok (N : Nat) : ((P N).pc (fB14.C N)).Ok Tryz.prog (fB14.C N) (.loop code) := okL (F := P N) (g N) (fB14.cok N) mix (pok N) (fun _ => rfl) rfl fun _ _ => by kernel_rfl
end fB30
namespace fB29
def ins : Sh := (.cons (.val (.slice (.slice .byte))) s25)
def ts : List Tmp := [0, 6, 7]
def asg : List Tmp := [6, 7, 29, 30, 31, 32, 33, 34, 35, 36, 37, 38, 39, 40, 41]
def C (N : Nat) : Ctx := { fB14.C N with may := fun t => asg.any (Nat.beq t) }
def code : Code := loopBody (sub fB14.code [true, true, true, true, false, true, false])
theorem cok (N : Nat) : (C N).Ok Tryz.prog := okC (fB14.cok N) _
def alts : List Alt := [⟨(.exit 2), [6], (.cons (.own 5 .byte) .nil)⟩]
end fB29
noncomputable def fB29.go (N : Nat) : Nat → T12 → (List UInt8) → Int → Option (T6)
  | 0, _, _, _ => none
  | fuel + 1, records, b, i =>
    bif decide (i < (records.length : Int)) then
      bif inB i records.length then
        obind (fC46.run N (records.getD i.toNat ([] : List UInt8))) fun (l, _) =>
          bif room (b.length + l.length) 1 then
            fB29.go N fuel records (b ++ l) (IntKind.i64.wrap (i + (1 : Int)))
          else none
      else none
    else some (b, ())
namespace fB29
def g (N n : Nat) : Sh.den ins → Option (altsDen alts) := fun (a, b, c, _) => fB29.go N n a b c
def P (N : Nat) : Ps := ⟨ts, ins, asg, alts, g N N⟩
def lam (N : Nat) : Pcs := pcs []
theorem pok (N : Nat) : (lam N).Ok Tryz.prog (C N) code := pcsOk_nil
theorem ok (N : Nat) : ((P N).pc (fB14.C N)).Ok Tryz.prog (fB14.C N) (.loop code) := okL (F := P N) (g N) (fB14.cok N) mix (pok N) (fun _ => rfl) rfl fun _ _ => by kernel_rfl
end fB29
noncomputable def fB14.run (N : Nat) (records : T12) : Option T17 :=
  obind (fB30.go N N records (0 : Int) (0 : Int)) fun y => match y with
  | .inl (t2, t3, _) =>
      some (t2, t3, ())
  | .inr (_) =>
      obind (fB24.run N (IntKind.u64.wrap (records.length : Int))) fun (l, _) =>
        obind (fB29.go N N records l (0 : Int)) fun (b, _) =>
          obind (fC45.run N b) fun (l1, n_, _) =>
            bif !(decide (n_ = (0 : Int))) then
              some (([] : List UInt8), (90 : Int), ())
            else some (l1, (0 : Int), ())
namespace fB14
def fn (N : Nat) : Sh.den ins → Option (Sh.den outs) := fun (a, _) => fB14.run N a
def S (N : Nat) : Fs := ⟨ins, outs, fn N⟩
def lam (N : Nat) : Pcs := pcs [([true, true, false, true, false], (fB30.P N).pc (C N)), ([true, true, true, true, false, true, false], (fB29.P N).pc (C N))]
theorem pok (N : Nat) : (lam N).Ok Tryz.prog (C N) code := pcsOk_cons (c1 := .loop fB30.code) (by kernel_rfl) (fB30.ok N) (pcsOk_cons (c1 := .loop fB29.code) (by kernel_rfl) (fB29.ok N) (pcsOk_nil))
theorem ok (N : Nat) : (S N).con.Ok Tryz.prog 52 := okF (F := S N) [] Tryz.func52 (by kernel_rfl) (by rfl) mix (cok N) (pok N) fun _ => by kernel_rfl
end fB14
namespace fA2
def ins : Sh := (.cons (.val (.pair (.int .i64) (.pair (.int .i64) (.pair (.slice (.pair .str (.pair (.slice .byte) (.int .i64)))) (.pair .bool (.pair .bool (.int .i64))))))) (.cons (.val (.pair .str (.pair (.slice (.slice .byte)) (.int .i64)))) s82))
def C (N : Nat) : Ctx := ⟨U, 63, fun _ => true, gam [(52, (fB14.S N).con), (48, (fD15.S N).con), (47, (ref_Do.S N).con)], gamY []⟩
theorem cok (N : Nat) : (C N).Ok Tryz.prog := ⟨U_ok, GamOk.cons (fB14.ok N) (GamOk.cons (fD15.ok N) (GamOk.cons (ref_Do.ok N) (GamOk.nil))), GamYOk.nil⟩
def code : Code := Tryz.f25.body.getD .skip
def outs : Sh := s66
end fA2
namespace fC22
def ins : Sh := (.cons (.box 28 s55) (.cons (.rbox 32 (.cons (.val .str) s84)) (.cons (.rown 5 .byte) (.cons (.val (.int .i64)) .nil))))
def ts : List Tmp := [3, 4, 9, 10]
def asg : List Tmp := [10, 22, 23, 24, 25, 26, 27, 28, 29, 30, 31]
def C (N : Nat) : Ctx := { fA2.C N with may := fun t => asg.any (Nat.beq t) }
def code : Code := (sub fA2.code [true, true, true, false]).getD .skip
theorem cok (N : Nat) : (C N).Ok Tryz.prog := okC (fA2.cok N) _
def alts : List Alt := [⟨.normal, [10], s67⟩]
end fC22
noncomputable def fC22.run (N : Nat) (room_ : Int) (steps : Int) (files : (List T1)) (armed : Bool) (dead : Bool) (left : Int) (name : (List UInt8)) (l : T12) (size : Int) (f : (List UInt8)) (e : Int) : Option (T52) :=
  bif decide (e = (0 : Int)) then
    obind (fD15.run N (room_, steps, files, armed, dead, left) name f) fun (v, n_, _) =>
      some ((v.1, v.2.1, v.2.2.1, v.2.2.2.1, v.2.2.2.2.1, v.2.2.2.2.2, ()), n_, ())
  else some ((room_, steps, files, armed, dead, left, ()), e, ())
namespace fC22
def fn (N : Nat) : Sh.den ins → Option (altsDen alts) := fun ((a, b, c, d, e, f, _), (g, h, i, _), j, k, _) => fC22.run N a b c d e f g h i j k
def P (N : Nat) : Ps := ⟨ts, ins, asg, alts, fn N⟩
def lam (N : Nat) : Pcs := pcs []
theorem pok (N : Nat) : (lam N).Ok Tryz.prog (C N) code := pcsOk_nil
theorem ok (N : Nat) : ((P N).pc (fA2.C N)).Ok Tryz.prog (fA2.C N) code := okP (F := P N) (fA2.cok N) mix (pok N) fun _ => by kernel_rfl
end fC22
namespace fA23
def ins : Sh := (.cons (.box 28 s55) (.cons (.rbox 32 (.cons (.val .str) s84)) (.cons (.val (.int .i64)) .nil)))
def ts : List Tmp := [3, 4, 10]
def asg : List Tmp := [10, 32, 33, 34, 35, 36, 37, 38, 39, 40]
def C (N : Nat) : Ctx := { fA2.C N with may := fun t => asg.any (Nat.beq t) }
def code : Code := (sub fA2.code [true, true, true, true, false]).getD .skip
theorem cok (N : Nat) : (C N).Ok Tryz.prog := okC (fA2.cok N) _
def alts : List Alt := [⟨.normal, [10], s67⟩]
end fA23
noncomputable def fA23.run (N : Nat) (room_ : Int) (steps : Int) (files : (List T1)) (armed : Bool) (dead : Bool) (left : Int) (name : (List UInt8)) (l : T12) (size : Int) (e : Int) : Option (T52) :=
  bif decide (e = (0 : Int)) then
    obind (ref_Do.run N (room_, steps, files, armed, dead, left) (1 : Int) name ([] : List UInt8) (0 : Int)) fun (v, n_, _) =>
      some ((v.1, v.2.1, v.2.2.1, v.2.2.2.1, v.2.2.2.2.1, v.2.2.2.2.2, ()), n_, ())
  else some ((room_, steps, files, armed, dead, left, ()), e, ())
namespace fA23
def fn (N : Nat) : Sh.den ins → Option (altsDen alts) := fun ((a, b, c, d, e, f, _), (g, h, i, _), j, _) => fA23.run N a b c d e f g h i j
def P (N : Nat) : Ps := ⟨ts, ins, asg, alts, fn N⟩
def lam (N : Nat) : Pcs := pcs []
theorem pok (N : Nat) : (lam N).Ok Tryz.prog (C N) code := pcsOk_nil
theorem ok (N : Nat) : ((P N).pc (fA2.C N)).Ok Tryz.prog (fA2.C N) code := okP (F := P N) (fA2.cok N) mix (pok N) fun _ => by kernel_rfl
end fA23
noncomputable def fA2.run (N : Nat) (d : T5) (l : T53) (records : T12) : Option T54 :=
  bif decide ((records.length : Int) = (0 : Int)) then
    some (d, l, (0 : Int), ())
  else
    obind (fB14.run N records) fun (l1, n_, _) =>
      obind (fC22.run N d.1 d.2.1 d.2.2.1 d.2.2.2.1 d.2.2.2.2.1 d.2.2.2.2.2 l.1 l.2.1 l.2.2 l1 n_) fun ((room_, steps, files, armed, dead, left, _), e, _) =>
        obind (fA23.run N room_ steps files armed dead left l.1 l.2.1 l.2.2 e) fun ((room1, steps1, files1, armed1, dead1, left1, _), e1, _) =>
          bif !(decide (e1 = (0 : Int))) then
            some ((room1, steps1, files1, armed1, dead1, left1), l, e1, ())
          else
            bif room l.2.1.length 24 then
              bif room (l.2.1.length + records.length) 24 then
                some ((room1, steps1, files1, armed1, dead1, left1), (l.1, l.2.1 ++ records, IntKind.i64.wrap (l.2.2 + (l1.length : Int))), (0 : Int), ())
              else none
            else none
namespace fA2
def fn (N : Nat) : Sh.den ins → Option (Sh.den outs) := fun (a, b, c, _) => fA2.run N a b c
def S (N : Nat) : Fs := ⟨ins, outs, fn N⟩
def lam (N : Nat) : Pcs := pcs [([true, true, true, false], (fC22.P N).pc (C N)), ([true, true, true, true, false], (fA23.P N).pc (C N))]
theorem pok (N : Nat) : (lam N).Ok Tryz.prog (C N) code := pcsOk_cons (c1 := fC22.code) (by kernel_rfl) (fC22.ok N) (pcsOk_cons (c1 := fA23.code) (by kernel_rfl) (fA23.ok N) (pcsOk_nil))
theorem ok (N : Nat) : (S N).con.Ok Tryz.prog 25 := okF (F := S N) [] Tryz.func25 (by kernel_rfl) (by rfl) mix (cok N) (pok N) fun _ => by kernel_rfl
end fA2
namespace fB7
def ins : Sh := (.cons (.nilp) .nil)
def C (N : Nat) : Ctx := ⟨U, 8, fun _ => true, gam [], gamY []⟩
theorem cok (N : Nat) : (C N).Ok Tryz.prog := ⟨U_ok, GamOk.nil, GamYOk.nil⟩
def code : Code := Tryz.f13.body.getD .skip
def outs : Sh := (.cons (.junk) .nil)
end fB7
noncomputable def fB7.run (N : Nat)  : Option (Unit × Unit) :=
  none
namespace fB7
def fn (N : Nat) : Sh.den ins → Option (Sh.den outs) := fun _ => fB7.run N
def S (N : Nat) : Fs := ⟨ins, outs, fn N⟩
def lam (N : Nat) : Pcs := pcs []
theorem pok (N : Nat) : (lam N).Ok Tryz.prog (C N) code := pcsOk_nil
theorem ok (N : Nat) : (S N).con.Ok Tryz.prog 13 := okF (F := S N) [] Tryz.func13 (by kernel_rfl) (by rfl) mix (cok N) (pok N) fun _ => by kernel_rfl
end fB7
namespace law_step
def ins : Sh := (.cons (.agg s85) s86)
def C (N : Nat) : Ctx := ⟨U, 161, fun _ => true, gam [(17, (fD5.S N).con), (18, (fB2.S N).con), (19, (((law_laid_b.S N).con).or (law_laid.S N).con)), (16, (fC10.S N).con), (20, (fD1.S N).con), (21, (fD12.S N).con), (22, (fD40.S N).con), (23, (fA6.S N).con), (24, (fA15.S N).con), (8, (law_step_b.S N).con), (12, (fA4.S N).con), (25, (fA2.S N).con), (13, (fB7.S N).con)], gamY []⟩
theorem cok (N : Nat) : (C N).Ok Tryz.prog := ⟨U_ok, GamOk.cons (fD5.ok N) (GamOk.cons (fB2.ok N) (GamOk.cons (Con.or_ok (law_laid_b.ok N) (law_laid.ok N)) (GamOk.cons (fC10.ok N) (GamOk.cons (fD1.ok N) (GamOk.cons (fD12.ok N) (GamOk.cons (fD40.ok N) (GamOk.cons (fA6.ok N) (GamOk.cons (fA15.ok N) (GamOk.cons (law_step_b.ok N) (GamOk.cons (fA4.ok N) (GamOk.cons (fA2.ok N) (GamOk.cons (fB7.ok N) (GamOk.nil))))))))))))), GamYOk.nil⟩
def code : Code := Tryz.f8.body.getD .skip
def outs : List Sh := [(.cons (.upd 0 54 s1) s72), (.cons (.upd 0 54 s1) s80), (.cons (.upd 0 54 s1) s87), s88]
end law_step
namespace law_step_0
def ins : Sh := (.cons (.rbox 34 s69) .nil)
def ts : List Tmp := [2]
def asg : List Tmp := [6, 7, 22, 23, 24, 25, 26, 27]
def C (N : Nat) : Ctx := { law_step.C N with may := fun t => asg.any (Nat.beq t) }
def code : Code := (sub law_step.code [true, false, true, false, true, false, false]).getD .skip
theorem cok (N : Nat) : (C N).Ok Tryz.prog := okC (law_step.cok N) _
def alts : List Alt := [⟨.normal, [6, 7], (.cons (.upd 1 54 s1) s15)⟩, ⟨.normal, [6, 7], (.cons (.upd 1 54 s1) s18)⟩]
end law_step_0
noncomputable def law_step_0.run (N : Nat) (room_ : Int) (used : Int) (files : (List T1)) (steps : Int) (left : Int) (dead : Bool) (rd : Int) (rd1 : Int) (rd2 : (List T1)) (rd3 : Bool) (rd4 : Bool) (rd5 : Int) (rl : (List UInt8)) (rl1 : T12) (rl2 : Int) (up : Bool) : Option (T13 ⊕ T15) :=
  obind (fD5.run N room_ used files steps left dead ([(108 : UInt8), (111 : UInt8), (103 : UInt8)] : List UInt8)) fun y => match y with
  | .inl ((room1, used1, files1, steps1, left1, dead1, _), _, n_, _) =>
      some (.inl ((room1, used1, files1, steps1, left1, dead1, ()), (), n_, ()))
  | .inr ((room2, used2, files2, steps2, left2, dead2, _), (_, name, l, size, _), n1, _) =>
      some (.inr ((room2, used2, files2, steps2, left2, dead2, ()), ((), name, l, size, ()), n1, ()))
namespace law_step_0
def fn (N : Nat) : Sh.den ins → Option (altsDen alts) := fun (((a, b, c, d, e, f, _), _, g, h, i, j, k, l, m, o, p, q, _), _) => law_step_0.run N a b c d e f g h i j k l m o p q
def P (N : Nat) : Ps := ⟨ts, ins, asg, alts, fn N⟩
def lam (N : Nat) : Pcs := pcs []
theorem pok (N : Nat) : (lam N).Ok Tryz.prog (C N) code := pcsOk_nil
theorem ok (N : Nat) : ((P N).pc (law_step.C N)).Ok Tryz.prog (law_step.C N) code := okP (F := P N) (law_step.cok N) mix (pok N) fun _ => by kernel_rfl
end law_step_0
namespace law_step_1
def ins : Sh := (.cons (.rbox 34 s69) .nil)
def ts : List Tmp := [2]
def asg : List Tmp := [11, 12, 46, 47, 48, 49, 50, 51]
def C (N : Nat) : Ctx := { law_step.C N with may := fun t => asg.any (Nat.beq t) }
def code : Code := (sub law_step.code [true, false, true, false, true, true, true, false, false]).getD .skip
theorem cok (N : Nat) : (C N).Ok Tryz.prog := okC (law_step.cok N) _
def alts : List Alt := [⟨.normal, [11, 12], (.cons (.upd 1 54 s1) s15)⟩, ⟨.normal, [11, 12], (.cons (.upd 1 54 s1) s18)⟩]
end law_step_1
noncomputable def law_step_1.run (N : Nat) (room_ : Int) (used : Int) (files : (List T1)) (steps : Int) (left : Int) (dead : Bool) (rd : Int) (rd1 : Int) (rd2 : (List T1)) (rd3 : Bool) (rd4 : Bool) (rd5 : Int) (rl : (List UInt8)) (rl1 : T12) (rl2 : Int) (up : Bool) : Option (T13 ⊕ T15) :=
  obind (fC10.run N room_ used files steps left dead ([(108 : UInt8), (111 : UInt8), (103 : UInt8)] : List UInt8)) fun y => match y with
  | .inl ((room1, used1, files1, steps1, left1, dead1, _), _, n_, _) =>
      some (.inl ((room1, used1, files1, steps1, left1, dead1, ()), (), n_, ()))
  | .inr ((room2, used2, files2, steps2, left2, dead2, _), (_, name, l, size, _), n1, _) =>
      some (.inr ((room2, used2, files2, steps2, left2, dead2, ()), ((), name, l, size, ()), n1, ()))
namespace law_step_1
def fn (N : Nat) : Sh.den ins → Option (altsDen alts) := fun (((a, b, c, d, e, f, _), _, g, h, i, j, k, l, m, o, p, q, _), _) => law_step_1.run N a b c d e f g h i j k l m o p q
def P (N : Nat) : Ps := ⟨ts, ins, asg, alts, fn N⟩
def lam (N : Nat) : Pcs := pcs []
theorem pok (N : Nat) : (lam N).Ok Tryz.prog (C N) code := pcsOk_nil
theorem ok (N : Nat) : ((P N).pc (law_step.C N)).Ok Tryz.prog (law_step.C N) code := okP (F := P N) (law_step.cok N) mix (pok N) fun _ => by kernel_rfl
end law_step_1
noncomputable def law_step.run (N : Nat) (room_ : Int) (used : Int) (files : (List T1)) (steps : Int) (left : Int) (dead : Bool) (w : Int) (w1 : Int) (w2 : (List T1)) (w3 : Bool) (w4 : Bool) (w5 : Int) (w6 : (List UInt8)) (w7 : T12) (w8 : Int) (w9 : Bool) (o : T68) : Option T73 :=
  bif decide (o.1 = (2 : Int)) then
    obind (law_step_0.run N room_ used files steps left dead w w1 w2 w3 w4 w5 w6 w7 w8 w9) fun y => match y with
    | .inl ((room3, used3, files3, steps3, left3, dead3, _), _, e, _) =>
        obind (fB2.run N (w, w1, w2, w3, w4, w5) ([(108 : UInt8), (111 : UInt8), (103 : UInt8)] : List UInt8)) fun (v, v1, n2, _) =>
          obind (law_laid.run N room3 used3 files3 steps3 left3 dead3 w w1 w2 w3 w4 w5 w6 w7 w8 w9 e v v1 n2) fun ((room5, used5, files5, steps5, left5, dead5, _), (_, _, v2, v3, v4, v5, v6, v7, v8, v9, v10, v11, _), b, _) =>
            some (.inl ((room5, used5, files5, steps5, left5, dead5, ()), ((), (), v2, v3, v4, v5, v6, v7, v8, v9, v10, v11, ()), b, ()))
    | .inr ((room4, used4, files4, steps4, left4, dead4, _), (_, name1, l1, size1, _), e1, _) =>
        obind (fB2.run N (w, w1, w2, w3, w4, w5) ([(108 : UInt8), (111 : UInt8), (103 : UInt8)] : List UInt8)) fun (v12, v13, n3, _) =>
          obind (law_laid_b.run N room4 used4 files4 steps4 left4 dead4 w w1 w2 w3 w4 w5 w6 w7 w8 w9 name1 l1 size1 e1 v12 v13 n3) fun ((room6, used6, files6, steps6, left6, dead6, _), (_, name2, l2, size2, _), (_, _, v14, v15, v16, v17, v18, v19, v20, v21, v22, v23, _), b1, _) =>
            some (.inr (.inl ((room6, used6, files6, steps6, left6, dead6, ()), ((), ((), name2, l2, size2, ()), v14, v15, v16, v17, v18, v19, v20, v21, v22, v23, ()), b1, ())))
  else
    bif decide (o.1 = (3 : Int)) then
      obind (law_step_1.run N room_ used files steps left dead w w1 w2 w3 w4 w5 w6 w7 w8 w9) fun y => match y with
      | .inl ((room9, used9, files9, steps9, left9, dead9, _), _, e2, _) =>
          obind (fD1.run N (w, w1, w2, w3, w4, w5) ([(108 : UInt8), (111 : UInt8), (103 : UInt8)] : List UInt8)) fun (v24, v25, n6, _) =>
            obind (law_laid.run N room9 used9 files9 steps9 left9 dead9 w w1 w2 w3 w4 w5 w6 w7 w8 w9 e2 v24 v25 n6) fun ((room11, used11, files11, steps11, left11, dead11, _), (_, _, v26, v27, v28, v29, v30, v31, v32, v33, v34, v35, _), b2, _) =>
              some (.inl ((room11, used11, files11, steps11, left11, dead11, ()), ((), (), v26, v27, v28, v29, v30, v31, v32, v33, v34, v35, ()), b2, ()))
      | .inr ((room10, used10, files10, steps10, left10, dead10, _), (_, name4, l4, size4, _), e3, _) =>
          obind (fD1.run N (w, w1, w2, w3, w4, w5) ([(108 : UInt8), (111 : UInt8), (103 : UInt8)] : List UInt8)) fun (v36, v37, n7, _) =>
            obind (law_laid_b.run N room10 used10 files10 steps10 left10 dead10 w w1 w2 w3 w4 w5 w6 w7 w8 w9 name4 l4 size4 e3 v36 v37 n7) fun ((room12, used12, files12, steps12, left12, dead12, _), (_, name5, l5, size5, _), (_, _, v38, v39, v40, v41, v42, v43, v44, v45, v46, v47, _), b3, _) =>
              some (.inr (.inl ((room12, used12, files12, steps12, left12, dead12, ()), ((), ((), name5, l5, size5, ()), v38, v39, v40, v41, v42, v43, v44, v45, v46, v47, ()), b3, ())))
    else
      bif decide (o.1 = (4 : Int)) then
        obind (fD12.run N room_ used files steps left dead o.2.1) fun ((room13, used13, files13, steps13, left13, dead13, _), _) =>
          obind (fD40.run N (w, w1, w2, w3, w4, w5) o.2.1) fun (v48, _) =>
            some (.inl ((room13, used13, files13, steps13, left13, dead13, ()), ((), (), v48.1, v48.2.1, v48.2.2.1, v48.2.2.2.1, v48.2.2.2.2.1, v48.2.2.2.2.2, w6, w7, w8, w9, ()), true, ()))
      else
        bif decide (o.1 = (5 : Int)) then
          obind (fA6.run N room_ used files steps left dead o.2.2.2) fun ((room14, used14, files14, steps14, left14, dead14, _), (room15, used15, files15, steps15, left15, dead15, _), _) =>
            obind (fA15.run N (w, w1, w2, w3, w4, w5) o.2.2.2) fun (v49, _) =>
              obind (law_step_b.run N room15 used15 files15 steps15 left15 dead15 v49.1 v49.2.1 v49.2.2.1 v49.2.2.2.1 v49.2.2.2.2.1 v49.2.2.2.2.2 w6 w7 w8 w9) fun y => match y with
              | .inl ((room16, used16, files16, steps16, left16, dead16, _), (_, _, v50, v51, v52, v53, v54, v55, v56, v57, v58, v59, _), b4, _) =>
                  some (.inr (.inr (.inl ((room14, used14, files14, steps14, left14, dead14, ()), ((room16, used16, files16, steps16, left16, dead16, ()), (), v50, v51, v52, v53, v54, v55, v56, v57, v58, v59, ()), b4, ()))))
              | .inr ((room17, used17, files17, steps17, left17, dead17, _), (_, (_, name6, l6, size6, _), v60, v61, v62, v63, v64, v65, v66, v67, v68, v69, _), b5, _) =>
                  some (.inr (.inr (.inr ((room14, used14, files14, steps14, left14, dead14, ()), ((room17, used17, files17, steps17, left17, dead17, ()), ((), name6, l6, size6, ()), v60, v61, v62, v63, v64, v65, v66, v67, v68, v69, ()), b5, ()))))
        else
          bif !w9 then
            some (.inl ((room_, used, files, steps, left, dead, ()), ((), (), w, w1, w2, w3, w4, w5, w6, w7, w8, w9, ()), true, ()))
          else
            bif decide (o.1 = (0 : Int)) then
              obind (fA4.run N o.2.2.1) fun (n8, _) =>
                obind (fA2.run N (w, w1, w2, w3, w4, w5) (w6, w7, w8) o.2.2.1) fun (v70, v71, n9, _) =>
                  some (.inl ((room_, used, files, steps, left, dead, ()), ((), (), v70.1, v70.2.1, v70.2.2.1, v70.2.2.2.1, v70.2.2.2.2.1, v70.2.2.2.2.2, v71.1, v71.2.1, v71.2.2, w9, ()), decide (n8 = n9), ()))
            else
              obind (fB7.run N) fun (_, _) =>
                none
namespace law_step
def fn (N : Nat) : Sh.den ins → Option (shsDen outs) := fun (((a, b, c, d, e, f, _), _, g, h, i, j, k, l, m, o, p, q, _), r, _) => law_step.run N a b c d e f g h i j k l m o p q r
def S (N : Nat) : Fm := ⟨ins, outs, fn N⟩
def lam (N : Nat) : Pcs := pcs [([true, false, true, false, true, false, false], (law_step_0.P N).pc (C N)), ([true, false, true, false, true, true, true, false, false], (law_step_1.P N).pc (C N))]
theorem pok (N : Nat) : (lam N).Ok Tryz.prog (C N) code := pcsOk_cons (c1 := law_step_0.code) (by kernel_rfl) (law_step_0.ok N) (pcsOk_cons (c1 := law_step_1.code) (by kernel_rfl) (law_step_1.ok N) (pcsOk_nil))
theorem ok (N : Nat) : (S N).con.Ok Tryz.prog 8 := okM (F := S N) [] Tryz.func8 (by kernel_rfl) (by rfl) mix (cok N) (pok N) fun _ => by kernel_rfl
end law_step
namespace law_laid_c
def ins : Sh := (.cons (.agg (.cons (.box 54 s1) (.cons (.nilp) s71))) s70)
def C (N : Nat) : Ctx := ⟨U, 34, fun _ => true, gam [], gamY []⟩
theorem cok (N : Nat) : (C N).Ok Tryz.prog := ⟨U_ok, GamOk.nil, GamYOk.nil⟩
def code : Code := Tryz.f19.body.getD .skip
def outs : Sh := (.cons (.upd 0 54 s1) s72)
end law_laid_c
noncomputable def law_laid_c.run (N : Nat) (room_ : Int) (used : Int) (files : (List T1)) (steps : Int) (left : Int) (dead : Bool) (w : Int) (w1 : Int) (w2 : (List T1)) (w3 : Bool) (w4 : Bool) (w5 : Int) (w6 : (List UInt8)) (w7 : T12) (w8 : Int) (w9 : Bool) (e : Int) (rd : T5) (rl : T53) (f : Int) : Option T56 :=
  bif decide (e = f) then
    some ((room_, used, files, steps, left, dead, ()), ((), (), rd.1, rd.2.1, rd.2.2.1, rd.2.2.2.1, rd.2.2.2.2.1, rd.2.2.2.2.2, rl.1, rl.2.1, rl.2.2, decide (f = (0 : Int)), ()), false == (decide (f = (0 : Int))), ())
  else some ((room_, used, files, steps, left, dead, ()), ((), (), rd.1, rd.2.1, rd.2.2.1, rd.2.2.2.1, rd.2.2.2.2.1, rd.2.2.2.2.2, rl.1, rl.2.1, rl.2.2, decide (f = (0 : Int)), ()), false, ())
namespace law_laid_c
def fn (N : Nat) : Sh.den ins → Option (Sh.den outs) := fun (((a, b, c, d, e, f, _), _, g, h, i, j, k, l, m, o, p, q, _), _, r, s, t, u, _) => law_laid_c.run N a b c d e f g h i j k l m o p q r s t u
def S (N : Nat) : Fs := ⟨ins, outs, fn N⟩
def lam (N : Nat) : Pcs := pcs []
theorem pok (N : Nat) : (lam N).Ok Tryz.prog (C N) code := pcsOk_nil
theorem ok (N : Nat) : (S N).con.Ok Tryz.prog 19 := okF (F := S N) [] Tryz.func19 (by kernel_rfl) (by rfl) mix (cok N) (pok N) fun _ => by kernel_rfl
end law_laid_c
namespace law_laid_d
def ins : Sh := (.cons (.agg (.cons (.box 54 s1) (.cons (.nilp) s71))) s73)
def C (N : Nat) : Ctx := ⟨U, 34, fun _ => true, gam [], gamY []⟩
theorem cok (N : Nat) : (C N).Ok Tryz.prog := ⟨U_ok, GamOk.nil, GamYOk.nil⟩
def code : Code := Tryz.f19.body.getD .skip
def outs : Sh := s89
end law_laid_d
noncomputable def law_laid_d.run (N : Nat) (room_ : Int) (used : Int) (files : (List T1)) (steps : Int) (left : Int) (dead : Bool) (w : Int) (w1 : Int) (w2 : (List T1)) (w3 : Bool) (w4 : Bool) (w5 : Int) (w6 : (List UInt8)) (w7 : T12) (w8 : Int) (w9 : Bool) (name : (List UInt8)) (l : T12) (size : Int) (e : Int) (rd : T5) (rl : T53) (f : Int) : Option T57 :=
  bif decide (e = f) then
    some ((room_, used, files, steps, left, dead, ()), ((), name, l, size, ()), ((), (), rd.1, rd.2.1, rd.2.2.1, rd.2.2.2.1, rd.2.2.2.2.1, rd.2.2.2.2.2, rl.1, rl.2.1, rl.2.2, decide (f = (0 : Int)), ()), true == (decide (f = (0 : Int))), ())
  else some ((room_, used, files, steps, left, dead, ()), ((), name, l, size, ()), ((), (), rd.1, rd.2.1, rd.2.2.1, rd.2.2.2.1, rd.2.2.2.2.1, rd.2.2.2.2.2, rl.1, rl.2.1, rl.2.2, decide (f = (0 : Int)), ()), false, ())
namespace law_laid_d
def fn (N : Nat) : Sh.den ins → Option (Sh.den outs) := fun (((a, b, c, d, e, f, _), _, g, h, i, j, k, l, m, o, p, q, _), (_, r, s, t, _), u, v, w, x, _) => law_laid_d.run N a b c d e f g h i j k l m o p q r s t u v w x
def S (N : Nat) : Fs := ⟨ins, outs, fn N⟩
def lam (N : Nat) : Pcs := pcs []
theorem pok (N : Nat) : (lam N).Ok Tryz.prog (C N) code := pcsOk_nil
theorem ok (N : Nat) : (S N).con.Ok Tryz.prog 19 := okF (F := S N) [] Tryz.func19 (by kernel_rfl) (by rfl) mix (cok N) (pok N) fun _ => by kernel_rfl
end law_laid_d
namespace law_step_d
def ins : Sh := (.cons (.agg (.cons (.box 54 s1) (.cons (.nilp) s71))) s79)
def C (N : Nat) : Ctx := ⟨U, 161, fun _ => true, gam [(17, (fD5.S N).con), (18, (fB2.S N).con), (19, (((law_laid_d.S N).con).or (law_laid_c.S N).con))], gamY []⟩
theorem cok (N : Nat) : (C N).Ok Tryz.prog := ⟨U_ok, GamOk.cons (fD5.ok N) (GamOk.cons (fB2.ok N) (GamOk.cons (Con.or_ok (law_laid_d.ok N) (law_laid_c.ok N)) (GamOk.nil))), GamYOk.nil⟩
def code : Code := Tryz.f8.body.getD .skip
def outs : List Sh := [(.cons (.upd 0 54 s1) s72), (.cons (.upd 0 54 s1) s80)]
end law_step_d
namespace law_step_d_0
def ins : Sh := s90
def ts : List Tmp := [2]
def asg : List Tmp := [6, 7, 22, 23, 24, 25, 26, 27]
def C (N : Nat) : Ctx := { law_step_d.C N with may := fun t => asg.any (Nat.beq t) }
def code : Code := (sub law_step_d.code [true, false, true, false, true, false, false]).getD .skip
theorem cok (N : Nat) : (C N).Ok Tryz.prog := okC (law_step_d.cok N) _
def alts : List Alt := [⟨.normal, [6, 7], (.cons (.upd 1 54 s1) s15)⟩, ⟨.normal, [6, 7], (.cons (.upd 1 54 s1) s18)⟩]
end law_step_d_0
noncomputable def law_step_d_0.run (N : Nat) (room_ : Int) (used : Int) (files : (List T1)) (steps : Int) (left : Int) (dead : Bool) (rd : Int) (rd1 : Int) (rd2 : (List T1)) (rd3 : Bool) (rd4 : Bool) (rd5 : Int) (rl : (List UInt8)) (rl1 : T12) (rl2 : Int) (up : Bool) : Option (T13 ⊕ T15) :=
  obind (fD5.run N room_ used files steps left dead ([(108 : UInt8), (111 : UInt8), (103 : UInt8)] : List UInt8)) fun y => match y with
  | .inl ((room1, used1, files1, steps1, left1, dead1, _), _, n_, _) =>
      some (.inl ((room1, used1, files1, steps1, left1, dead1, ()), (), n_, ()))
  | .inr ((room2, used2, files2, steps2, left2, dead2, _), (_, name, l, size, _), n1, _) =>
      some (.inr ((room2, used2, files2, steps2, left2, dead2, ()), ((), name, l, size, ()), n1, ()))
namespace law_step_d_0
def fn (N : Nat) : Sh.den ins → Option (altsDen alts) := fun (((a, b, c, d, e, f, _), _, g, h, i, j, k, l, m, o, p, q, _), _) => law_step_d_0.run N a b c d e f g h i j k l m o p q
def P (N : Nat) : Ps := ⟨ts, ins, asg, alts, fn N⟩
def lam (N : Nat) : Pcs := pcs []
theorem pok (N : Nat) : (lam N).Ok Tryz.prog (C N) code := pcsOk_nil
theorem ok (N : Nat) : ((P N).pc (law_step_d.C N)).Ok Tryz.prog (law_step_d.C N) code := okP (F := P N) (law_step_d.cok N) mix (pok N) fun _ => by kernel_rfl
end law_step_d_0
noncomputable def law_step_d.run (N : Nat) (room_ : Int) (used : Int) (files : (List T1)) (steps : Int) (left : Int) (dead : Bool) (w : Int) (w1 : Int) (w2 : (List T1)) (w3 : Bool) (w4 : Bool) (w5 : Int) (w6 : (List UInt8)) (w7 : T12) (w8 : Int) (w9 : Bool) : Option (T56 ⊕ T66) :=
  obind (law_step_d_0.run N room_ used files steps left dead w w1 w2 w3 w4 w5 w6 w7 w8 w9) fun y => match y with
  | .inl ((room3, used3, files3, steps3, left3, dead3, _), _, e, _) =>
      obind (fB2.run N (w, w1, w2, w3, w4, w5) ([(108 : UInt8), (111 : UInt8), (103 : UInt8)] : List UInt8)) fun (v, v1, n2, _) =>
        obind (law_laid_c.run N room3 used3 files3 steps3 left3 dead3 w w1 w2 w3 w4 w5 w6 w7 w8 w9 e v v1 n2) fun ((room5, used5, files5, steps5, left5, dead5, _), (_, _, v2, v3, v4, v5, v6, v7, v8, v9, v10, v11, _), b, _) =>
          some (.inl ((room5, used5, files5, steps5, left5, dead5, ()), ((), (), v2, v3, v4, v5, v6, v7, v8, v9, v10, v11, ()), b, ()))
  | .inr ((room4, used4, files4, steps4, left4, dead4, _), (_, name1, l1, size1, _), e1, _) =>
      obind (fB2.run N (w, w1, w2, w3, w4, w5) ([(108 : UInt8), (111 : UInt8), (103 : UInt8)] : List UInt8)) fun (v12, v13, n3, _) =>
        obind (law_laid_d.run N room4 used4 files4 steps4 left4 dead4 w w1 w2 w3 w4 w5 w6 w7 w8 w9 name1 l1 size1 e1 v12 v13 n3) fun ((room6, used6, files6, steps6, left6, dead6, _), (_, name2, l2, size2, _), (_, _, v14, v15, v16, v17, v18, v19, v20, v21, v22, v23, _), b1, _) =>
          some (.inr ((room6, used6, files6, steps6, left6, dead6, ()), ((), ((), name2, l2, size2, ()), v14, v15, v16, v17, v18, v19, v20, v21, v22, v23, ()), b1, ()))
namespace law_step_d
def fn (N : Nat) : Sh.den ins → Option (shsDen outs) := fun (((a, b, c, d, e, f, _), _, g, h, i, j, k, l, m, o, p, q, _), (_, _, _, _, _), _) => law_step_d.run N a b c d e f g h i j k l m o p q
def S (N : Nat) : Fm := ⟨ins, outs, fn N⟩
def lam (N : Nat) : Pcs := pcs [([true, false, true, false, true, false, false], (law_step_d_0.P N).pc (C N))]
theorem pok (N : Nat) : (lam N).Ok Tryz.prog (C N) code := pcsOk_cons (c1 := law_step_d_0.code) (by kernel_rfl) (law_step_d_0.ok N) (pcsOk_nil)
theorem ok (N : Nat) : (S N).con.Ok Tryz.prog 8 := okM (F := S N) [] Tryz.func8 (by kernel_rfl) (by rfl) mix (cok N) (pok N) fun _ => by kernel_rfl
end law_step_d
namespace law_step_c
def ins : Sh := (.cons (.agg (.cons (.box 54 s1) (.cons (.nilp) s71))) s86)
def C (N : Nat) : Ctx := ⟨U, 161, fun _ => true, gam [(17, (fD5.S N).con), (18, (fB2.S N).con), (19, (((law_laid_d.S N).con).or (law_laid_c.S N).con)), (16, (fC10.S N).con), (20, (fD1.S N).con), (21, (fD12.S N).con), (22, (fD40.S N).con), (23, (fA6.S N).con), (24, (fA15.S N).con), (8, (law_step_d.S N).con), (12, (fA4.S N).con), (25, (fA2.S N).con), (13, (fB7.S N).con)], gamY []⟩
theorem cok (N : Nat) : (C N).Ok Tryz.prog := ⟨U_ok, GamOk.cons (fD5.ok N) (GamOk.cons (fB2.ok N) (GamOk.cons (Con.or_ok (law_laid_d.ok N) (law_laid_c.ok N)) (GamOk.cons (fC10.ok N) (GamOk.cons (fD1.ok N) (GamOk.cons (fD12.ok N) (GamOk.cons (fD40.ok N) (GamOk.cons (fA6.ok N) (GamOk.cons (fA15.ok N) (GamOk.cons (law_step_d.ok N) (GamOk.cons (fA4.ok N) (GamOk.cons (fA2.ok N) (GamOk.cons (fB7.ok N) (GamOk.nil))))))))))))), GamYOk.nil⟩
def code : Code := Tryz.f8.body.getD .skip
def outs : List Sh := [(.cons (.upd 0 54 s1) s72), (.cons (.upd 0 54 s1) s80), (.cons (.upd 0 54 s1) s87), s88]
end law_step_c
namespace law_step_c_0
def ins : Sh := s90
def ts : List Tmp := [2]
def asg : List Tmp := [6, 7, 22, 23, 24, 25, 26, 27]
def C (N : Nat) : Ctx := { law_step_c.C N with may := fun t => asg.any (Nat.beq t) }
def code : Code := (sub law_step_c.code [true, false, true, false, true, false, false]).getD .skip
theorem cok (N : Nat) : (C N).Ok Tryz.prog := okC (law_step_c.cok N) _
def alts : List Alt := [⟨.normal, [6, 7], (.cons (.upd 1 54 s1) s15)⟩, ⟨.normal, [6, 7], (.cons (.upd 1 54 s1) s18)⟩]
end law_step_c_0
noncomputable def law_step_c_0.run (N : Nat) (room_ : Int) (used : Int) (files : (List T1)) (steps : Int) (left : Int) (dead : Bool) (rd : Int) (rd1 : Int) (rd2 : (List T1)) (rd3 : Bool) (rd4 : Bool) (rd5 : Int) (rl : (List UInt8)) (rl1 : T12) (rl2 : Int) (up : Bool) : Option (T13 ⊕ T15) :=
  obind (fD5.run N room_ used files steps left dead ([(108 : UInt8), (111 : UInt8), (103 : UInt8)] : List UInt8)) fun y => match y with
  | .inl ((room1, used1, files1, steps1, left1, dead1, _), _, n_, _) =>
      some (.inl ((room1, used1, files1, steps1, left1, dead1, ()), (), n_, ()))
  | .inr ((room2, used2, files2, steps2, left2, dead2, _), (_, name, l, size, _), n1, _) =>
      some (.inr ((room2, used2, files2, steps2, left2, dead2, ()), ((), name, l, size, ()), n1, ()))
namespace law_step_c_0
def fn (N : Nat) : Sh.den ins → Option (altsDen alts) := fun (((a, b, c, d, e, f, _), _, g, h, i, j, k, l, m, o, p, q, _), _) => law_step_c_0.run N a b c d e f g h i j k l m o p q
def P (N : Nat) : Ps := ⟨ts, ins, asg, alts, fn N⟩
def lam (N : Nat) : Pcs := pcs []
theorem pok (N : Nat) : (lam N).Ok Tryz.prog (C N) code := pcsOk_nil
theorem ok (N : Nat) : ((P N).pc (law_step_c.C N)).Ok Tryz.prog (law_step_c.C N) code := okP (F := P N) (law_step_c.cok N) mix (pok N) fun _ => by kernel_rfl
end law_step_c_0
namespace law_step_c_1
def ins : Sh := s90
def ts : List Tmp := [2]
def asg : List Tmp := [11, 12, 46, 47, 48, 49, 50, 51]
def C (N : Nat) : Ctx := { law_step_c.C N with may := fun t => asg.any (Nat.beq t) }
def code : Code := (sub law_step_c.code [true, false, true, false, true, true, true, false, false]).getD .skip
theorem cok (N : Nat) : (C N).Ok Tryz.prog := okC (law_step_c.cok N) _
def alts : List Alt := [⟨.normal, [11, 12], (.cons (.upd 1 54 s1) s15)⟩, ⟨.normal, [11, 12], (.cons (.upd 1 54 s1) s18)⟩]
end law_step_c_1
noncomputable def law_step_c_1.run (N : Nat) (room_ : Int) (used : Int) (files : (List T1)) (steps : Int) (left : Int) (dead : Bool) (rd : Int) (rd1 : Int) (rd2 : (List T1)) (rd3 : Bool) (rd4 : Bool) (rd5 : Int) (rl : (List UInt8)) (rl1 : T12) (rl2 : Int) (up : Bool) : Option (T13 ⊕ T15) :=
  obind (fC10.run N room_ used files steps left dead ([(108 : UInt8), (111 : UInt8), (103 : UInt8)] : List UInt8)) fun y => match y with
  | .inl ((room1, used1, files1, steps1, left1, dead1, _), _, n_, _) =>
      some (.inl ((room1, used1, files1, steps1, left1, dead1, ()), (), n_, ()))
  | .inr ((room2, used2, files2, steps2, left2, dead2, _), (_, name, l, size, _), n1, _) =>
      some (.inr ((room2, used2, files2, steps2, left2, dead2, ()), ((), name, l, size, ()), n1, ()))
namespace law_step_c_1
def fn (N : Nat) : Sh.den ins → Option (altsDen alts) := fun (((a, b, c, d, e, f, _), _, g, h, i, j, k, l, m, o, p, q, _), _) => law_step_c_1.run N a b c d e f g h i j k l m o p q
def P (N : Nat) : Ps := ⟨ts, ins, asg, alts, fn N⟩
def lam (N : Nat) : Pcs := pcs []
theorem pok (N : Nat) : (lam N).Ok Tryz.prog (C N) code := pcsOk_nil
theorem ok (N : Nat) : ((P N).pc (law_step_c.C N)).Ok Tryz.prog (law_step_c.C N) code := okP (F := P N) (law_step_c.cok N) mix (pok N) fun _ => by kernel_rfl
end law_step_c_1
noncomputable def law_step_c.run (N : Nat) (room_ : Int) (used : Int) (files : (List T1)) (steps : Int) (left : Int) (dead : Bool) (w : Int) (w1 : Int) (w2 : (List T1)) (w3 : Bool) (w4 : Bool) (w5 : Int) (w6 : (List UInt8)) (w7 : T12) (w8 : Int) (w9 : Bool) (o : T68) : Option T73 :=
  bif decide (o.1 = (2 : Int)) then
    obind (law_step_c_0.run N room_ used files steps left dead w w1 w2 w3 w4 w5 w6 w7 w8 w9) fun y => match y with
    | .inl ((room3, used3, files3, steps3, left3, dead3, _), _, e, _) =>
        obind (fB2.run N (w, w1, w2, w3, w4, w5) ([(108 : UInt8), (111 : UInt8), (103 : UInt8)] : List UInt8)) fun (v, v1, n2, _) =>
          obind (law_laid_c.run N room3 used3 files3 steps3 left3 dead3 w w1 w2 w3 w4 w5 w6 w7 w8 w9 e v v1 n2) fun ((room5, used5, files5, steps5, left5, dead5, _), (_, _, v2, v3, v4, v5, v6, v7, v8, v9, v10, v11, _), b, _) =>
            some (.inl ((room5, used5, files5, steps5, left5, dead5, ()), ((), (), v2, v3, v4, v5, v6, v7, v8, v9, v10, v11, ()), b, ()))
    | .inr ((room4, used4, files4, steps4, left4, dead4, _), (_, name1, l1, size1, _), e1, _) =>
        obind (fB2.run N (w, w1, w2, w3, w4, w5) ([(108 : UInt8), (111 : UInt8), (103 : UInt8)] : List UInt8)) fun (v12, v13, n3, _) =>
          obind (law_laid_d.run N room4 used4 files4 steps4 left4 dead4 w w1 w2 w3 w4 w5 w6 w7 w8 w9 name1 l1 size1 e1 v12 v13 n3) fun ((room6, used6, files6, steps6, left6, dead6, _), (_, name2, l2, size2, _), (_, _, v14, v15, v16, v17, v18, v19, v20, v21, v22, v23, _), b1, _) =>
            some (.inr (.inl ((room6, used6, files6, steps6, left6, dead6, ()), ((), ((), name2, l2, size2, ()), v14, v15, v16, v17, v18, v19, v20, v21, v22, v23, ()), b1, ())))
  else
    bif decide (o.1 = (3 : Int)) then
      obind (law_step_c_1.run N room_ used files steps left dead w w1 w2 w3 w4 w5 w6 w7 w8 w9) fun y => match y with
      | .inl ((room9, used9, files9, steps9, left9, dead9, _), _, e2, _) =>
          obind (fD1.run N (w, w1, w2, w3, w4, w5) ([(108 : UInt8), (111 : UInt8), (103 : UInt8)] : List UInt8)) fun (v24, v25, n6, _) =>
            obind (law_laid_c.run N room9 used9 files9 steps9 left9 dead9 w w1 w2 w3 w4 w5 w6 w7 w8 w9 e2 v24 v25 n6) fun ((room11, used11, files11, steps11, left11, dead11, _), (_, _, v26, v27, v28, v29, v30, v31, v32, v33, v34, v35, _), b2, _) =>
              some (.inl ((room11, used11, files11, steps11, left11, dead11, ()), ((), (), v26, v27, v28, v29, v30, v31, v32, v33, v34, v35, ()), b2, ()))
      | .inr ((room10, used10, files10, steps10, left10, dead10, _), (_, name4, l4, size4, _), e3, _) =>
          obind (fD1.run N (w, w1, w2, w3, w4, w5) ([(108 : UInt8), (111 : UInt8), (103 : UInt8)] : List UInt8)) fun (v36, v37, n7, _) =>
            obind (law_laid_d.run N room10 used10 files10 steps10 left10 dead10 w w1 w2 w3 w4 w5 w6 w7 w8 w9 name4 l4 size4 e3 v36 v37 n7) fun ((room12, used12, files12, steps12, left12, dead12, _), (_, name5, l5, size5, _), (_, _, v38, v39, v40, v41, v42, v43, v44, v45, v46, v47, _), b3, _) =>
              some (.inr (.inl ((room12, used12, files12, steps12, left12, dead12, ()), ((), ((), name5, l5, size5, ()), v38, v39, v40, v41, v42, v43, v44, v45, v46, v47, ()), b3, ())))
    else
      bif decide (o.1 = (4 : Int)) then
        obind (fD12.run N room_ used files steps left dead o.2.1) fun ((room13, used13, files13, steps13, left13, dead13, _), _) =>
          obind (fD40.run N (w, w1, w2, w3, w4, w5) o.2.1) fun (v48, _) =>
            some (.inl ((room13, used13, files13, steps13, left13, dead13, ()), ((), (), v48.1, v48.2.1, v48.2.2.1, v48.2.2.2.1, v48.2.2.2.2.1, v48.2.2.2.2.2, w6, w7, w8, w9, ()), true, ()))
      else
        bif decide (o.1 = (5 : Int)) then
          obind (fA6.run N room_ used files steps left dead o.2.2.2) fun ((room14, used14, files14, steps14, left14, dead14, _), (room15, used15, files15, steps15, left15, dead15, _), _) =>
            obind (fA15.run N (w, w1, w2, w3, w4, w5) o.2.2.2) fun (v49, _) =>
              obind (law_step_d.run N room15 used15 files15 steps15 left15 dead15 v49.1 v49.2.1 v49.2.2.1 v49.2.2.2.1 v49.2.2.2.2.1 v49.2.2.2.2.2 w6 w7 w8 w9) fun y => match y with
              | .inl ((room16, used16, files16, steps16, left16, dead16, _), (_, _, v50, v51, v52, v53, v54, v55, v56, v57, v58, v59, _), b4, _) =>
                  some (.inr (.inr (.inl ((room14, used14, files14, steps14, left14, dead14, ()), ((room16, used16, files16, steps16, left16, dead16, ()), (), v50, v51, v52, v53, v54, v55, v56, v57, v58, v59, ()), b4, ()))))
              | .inr ((room17, used17, files17, steps17, left17, dead17, _), (_, (_, name6, l6, size6, _), v60, v61, v62, v63, v64, v65, v66, v67, v68, v69, _), b5, _) =>
                  some (.inr (.inr (.inr ((room14, used14, files14, steps14, left14, dead14, ()), ((room17, used17, files17, steps17, left17, dead17, ()), ((), name6, l6, size6, ()), v60, v61, v62, v63, v64, v65, v66, v67, v68, v69, ()), b5, ()))))
        else
          bif !w9 then
            some (.inl ((room_, used, files, steps, left, dead, ()), ((), (), w, w1, w2, w3, w4, w5, w6, w7, w8, w9, ()), true, ()))
          else
            bif decide (o.1 = (0 : Int)) then
              obind (fA4.run N o.2.2.1) fun (n8, _) =>
                obind (fA2.run N (w, w1, w2, w3, w4, w5) (w6, w7, w8) o.2.2.1) fun (v70, v71, n9, _) =>
                  some (.inl ((room_, used, files, steps, left, dead, ()), ((), (), v70.1, v70.2.1, v70.2.2.1, v70.2.2.2.1, v70.2.2.2.2.1, v70.2.2.2.2.2, v71.1, v71.2.1, v71.2.2, w9, ()), decide (n8 = n9), ()))
            else
              obind (fB7.run N) fun (_, _) =>
                none
namespace law_step_c
def fn (N : Nat) : Sh.den ins → Option (shsDen outs) := fun (((a, b, c, d, e, f, _), _, g, h, i, j, k, l, m, o, p, q, _), r, _) => law_step_c.run N a b c d e f g h i j k l m o p q r
def S (N : Nat) : Fm := ⟨ins, outs, fn N⟩
def lam (N : Nat) : Pcs := pcs [([true, false, true, false, true, false, false], (law_step_c_0.P N).pc (C N)), ([true, false, true, false, true, true, true, false, false], (law_step_c_1.P N).pc (C N))]
theorem pok (N : Nat) : (lam N).Ok Tryz.prog (C N) code := pcsOk_cons (c1 := law_step_c_0.code) (by kernel_rfl) (law_step_c_0.ok N) (pcsOk_cons (c1 := law_step_c_1.code) (by kernel_rfl) (law_step_c_1.ok N) (pcsOk_nil))
theorem ok (N : Nat) : (S N).con.Ok Tryz.prog 8 := okM (F := S N) [] Tryz.func8 (by kernel_rfl) (by rfl) mix (cok N) (pok N) fun _ => by kernel_rfl
end law_step_c
namespace law_laid_e
def ins : Sh := (.cons (.agg s94) s70)
def C (N : Nat) : Ctx := ⟨U, 34, fun _ => true, gam [], gamY []⟩
theorem cok (N : Nat) : (C N).Ok Tryz.prog := ⟨U_ok, GamOk.nil, GamYOk.nil⟩
def code : Code := Tryz.f19.body.getD .skip
def outs : Sh := (.cons (.upd 0 54 s1) s72)
end law_laid_e
noncomputable def law_laid_e.run (N : Nat) (room_ : Int) (used : Int) (files : (List T1)) (steps : Int) (left : Int) (dead : Bool) (name : (List UInt8)) (l : T12) (size : Int) (w : Int) (w1 : Int) (w2 : (List T1)) (w3 : Bool) (w4 : Bool) (w5 : Int) (w6 : (List UInt8)) (w7 : T12) (w8 : Int) (w9 : Bool) (e : Int) (rd : T5) (rl : T53) (f : Int) : Option T56 :=
  bif decide (e = f) then
    some ((room_, used, files, steps, left, dead, ()), ((), (), rd.1, rd.2.1, rd.2.2.1, rd.2.2.2.1, rd.2.2.2.2.1, rd.2.2.2.2.2, rl.1, rl.2.1, rl.2.2, decide (f = (0 : Int)), ()), false == (decide (f = (0 : Int))), ())
  else some ((room_, used, files, steps, left, dead, ()), ((), (), rd.1, rd.2.1, rd.2.2.1, rd.2.2.2.1, rd.2.2.2.2.1, rd.2.2.2.2.2, rl.1, rl.2.1, rl.2.2, decide (f = (0 : Int)), ()), false, ())
namespace law_laid_e
def fn (N : Nat) : Sh.den ins → Option (Sh.den outs) := fun (((a, b, c, d, e, f, _), (_, g, h, i, _), j, k, l, m, o, p, q, r, s, t, _), _, u, v, w, x, _) => law_laid_e.run N a b c d e f g h i j k l m o p q r s t u v w x
def S (N : Nat) : Fs := ⟨ins, outs, fn N⟩
def lam (N : Nat) : Pcs := pcs []
theorem pok (N : Nat) : (lam N).Ok Tryz.prog (C N) code := pcsOk_nil
theorem ok (N : Nat) : (S N).con.Ok Tryz.prog 19 := okF (F := S N) [] Tryz.func19 (by kernel_rfl) (by rfl) mix (cok N) (pok N) fun _ => by kernel_rfl
end law_laid_e
namespace law_laid_f
def ins : Sh := (.cons (.agg s94) s73)
def C (N : Nat) : Ctx := ⟨U, 34, fun _ => true, gam [], gamY []⟩
theorem cok (N : Nat) : (C N).Ok Tryz.prog := ⟨U_ok, GamOk.nil, GamYOk.nil⟩
def code : Code := Tryz.f19.body.getD .skip
def outs : Sh := (.cons (.upd 0 54 s1) (.cons (.upd 4 69 (.cons (.ref 0) (.cons (.val .str) s16))) s74))
end law_laid_f
noncomputable def law_laid_f.run (N : Nat) (room_ : Int) (used : Int) (files : (List T1)) (steps : Int) (left : Int) (dead : Bool) (name : (List UInt8)) (l : T12) (size : Int) (w : Int) (w1 : Int) (w2 : (List T1)) (w3 : Bool) (w4 : Bool) (w5 : Int) (w6 : (List UInt8)) (w7 : T12) (w8 : Int) (w9 : Bool) (name1 : (List UInt8)) (l1 : T12) (size1 : Int) (e : Int) (rd : T5) (rl : T53) (f : Int) : Option T57 :=
  bif decide (e = f) then
    some ((room_, used, files, steps, left, dead, ()), ((), name1, l1, size1, ()), ((), (), rd.1, rd.2.1, rd.2.2.1, rd.2.2.2.1, rd.2.2.2.2.1, rd.2.2.2.2.2, rl.1, rl.2.1, rl.2.2, decide (f = (0 : Int)), ()), true == (decide (f = (0 : Int))), ())
  else some ((room_, used, files, steps, left, dead, ()), ((), name1, l1, size1, ()), ((), (), rd.1, rd.2.1, rd.2.2.1, rd.2.2.2.1, rd.2.2.2.2.1, rd.2.2.2.2.2, rl.1, rl.2.1, rl.2.2, decide (f = (0 : Int)), ()), false, ())
namespace law_laid_f
def fn (N : Nat) : Sh.den ins → Option (Sh.den outs) := fun (((a, b, c, d, e, f, _), (_, g, h, i, _), j, k, l, m, o, p, q, r, s, t, _), (_, u, v, w, _), x, y, z, x26, _) => law_laid_f.run N a b c d e f g h i j k l m o p q r s t u v w x y z x26
def S (N : Nat) : Fs := ⟨ins, outs, fn N⟩
def lam (N : Nat) : Pcs := pcs []
theorem pok (N : Nat) : (lam N).Ok Tryz.prog (C N) code := pcsOk_nil
theorem ok (N : Nat) : (S N).con.Ok Tryz.prog 19 := okF (F := S N) [] Tryz.func19 (by kernel_rfl) (by rfl) mix (cok N) (pok N) fun _ => by kernel_rfl
end law_laid_f
namespace law_laid_g
def ins : Sh := (.cons (.agg s96) s70)
def C (N : Nat) : Ctx := ⟨U, 34, fun _ => true, gam [], gamY []⟩
theorem cok (N : Nat) : (C N).Ok Tryz.prog := ⟨U_ok, GamOk.nil, GamYOk.nil⟩
def code : Code := Tryz.f19.body.getD .skip
def outs : Sh := (.cons (.upd 0 54 s1) s72)
end law_laid_g
noncomputable def law_laid_g.run (N : Nat) (room_ : Int) (used : Int) (files : (List T1)) (steps : Int) (left : Int) (dead : Bool) (room1 : Int) (used1 : Int) (files1 : (List T1)) (steps1 : Int) (left1 : Int) (dead1 : Bool) (name : (List UInt8)) (l : T12) (size : Int) (w : Int) (w1 : Int) (w2 : (List T1)) (w3 : Bool) (w4 : Bool) (w5 : Int) (w6 : (List UInt8)) (w7 : T12) (w8 : Int) (w9 : Bool) (e : Int) (rd : T5) (rl : T53) (f : Int) : Option T56 :=
  bif decide (e = f) then
    some ((room_, used, files, steps, left, dead, ()), ((), (), rd.1, rd.2.1, rd.2.2.1, rd.2.2.2.1, rd.2.2.2.2.1, rd.2.2.2.2.2, rl.1, rl.2.1, rl.2.2, decide (f = (0 : Int)), ()), false == (decide (f = (0 : Int))), ())
  else some ((room_, used, files, steps, left, dead, ()), ((), (), rd.1, rd.2.1, rd.2.2.1, rd.2.2.2.1, rd.2.2.2.2.1, rd.2.2.2.2.2, rl.1, rl.2.1, rl.2.2, decide (f = (0 : Int)), ()), false, ())
namespace law_laid_g
def fn (N : Nat) : Sh.den ins → Option (Sh.den outs) := fun (((a, b, c, d, e, f, _), ((g, h, i, j, k, l, _), m, o, p, _), q, r, s, t, u, v, w, x, y, z, _), _, x26, x27, x28, x29, _) => law_laid_g.run N a b c d e f g h i j k l m o p q r s t u v w x y z x26 x27 x28 x29
def S (N : Nat) : Fs := ⟨ins, outs, fn N⟩
def lam (N : Nat) : Pcs := pcs []
theorem pok (N : Nat) : (lam N).Ok Tryz.prog (C N) code := pcsOk_nil
theorem ok (N : Nat) : (S N).con.Ok Tryz.prog 19 := okF (F := S N) [] Tryz.func19 (by kernel_rfl) (by rfl) mix (cok N) (pok N) fun _ => by kernel_rfl
end law_laid_g
namespace law_laid_h
def ins : Sh := (.cons (.agg s96) s73)
def C (N : Nat) : Ctx := ⟨U, 34, fun _ => true, gam [], gamY []⟩
theorem cok (N : Nat) : (C N).Ok Tryz.prog := ⟨U_ok, GamOk.nil, GamYOk.nil⟩
def code : Code := Tryz.f19.body.getD .skip
def outs : Sh := (.cons (.upd 0 54 s1) (.cons (.upd 6 69 (.cons (.ref 0) (.cons (.val .str) s16))) s74))
end law_laid_h
noncomputable def law_laid_h.run (N : Nat) (room_ : Int) (used : Int) (files : (List T1)) (steps : Int) (left : Int) (dead : Bool) (room1 : Int) (used1 : Int) (files1 : (List T1)) (steps1 : Int) (left1 : Int) (dead1 : Bool) (name : (List UInt8)) (l : T12) (size : Int) (w : Int) (w1 : Int) (w2 : (List T1)) (w3 : Bool) (w4 : Bool) (w5 : Int) (w6 : (List UInt8)) (w7 : T12) (w8 : Int) (w9 : Bool) (name1 : (List UInt8)) (l1 : T12) (size1 : Int) (e : Int) (rd : T5) (rl : T53) (f : Int) : Option T57 :=
  bif decide (e = f) then
    some ((room_, used, files, steps, left, dead, ()), ((), name1, l1, size1, ()), ((), (), rd.1, rd.2.1, rd.2.2.1, rd.2.2.2.1, rd.2.2.2.2.1, rd.2.2.2.2.2, rl.1, rl.2.1, rl.2.2, decide (f = (0 : Int)), ()), true == (decide (f = (0 : Int))), ())
  else some ((room_, used, files, steps, left, dead, ()), ((), name1, l1, size1, ()), ((), (), rd.1, rd.2.1, rd.2.2.1, rd.2.2.2.1, rd.2.2.2.2.1, rd.2.2.2.2.2, rl.1, rl.2.1, rl.2.2, decide (f = (0 : Int)), ()), false, ())
namespace law_laid_h
def fn (N : Nat) : Sh.den ins → Option (Sh.den outs) := fun (((a, b, c, d, e, f, _), ((g, h, i, j, k, l, _), m, o, p, _), q, r, s, t, u, v, w, x, y, z, _), (_, x26, x27, x28, _), x29, x30, x31, x32, _) => law_laid_h.run N a b c d e f g h i j k l m o p q r s t u v w x y z x26 x27 x28 x29 x30 x31 x32
def S (N : Nat) : Fs := ⟨ins, outs, fn N⟩
def lam (N : Nat) : Pcs := pcs []
theorem pok (N : Nat) : (lam N).Ok Tryz.prog (C N) code := pcsOk_nil
theorem ok (N : Nat) : (S N).con.Ok Tryz.prog 19 := okF (F := S N) [] Tryz.func19 (by kernel_rfl) (by rfl) mix (cok N) (pok N) fun _ => by kernel_rfl
end law_laid_h
namespace law_step_f
def ins : Sh := (.cons (.agg s96) s79)
def C (N : Nat) : Ctx := ⟨U, 161, fun _ => true, gam [(17, (fD5.S N).con), (18, (fB2.S N).con), (19, (((law_laid_h.S N).con).or (law_laid_g.S N).con))], gamY []⟩
theorem cok (N : Nat) : (C N).Ok Tryz.prog := ⟨U_ok, GamOk.cons (fD5.ok N) (GamOk.cons (fB2.ok N) (GamOk.cons (Con.or_ok (law_laid_h.ok N) (law_laid_g.ok N)) (GamOk.nil))), GamYOk.nil⟩
def code : Code := Tryz.f8.body.getD .skip
def outs : List Sh := [(.cons (.upd 0 54 s1) s72), (.cons (.upd 0 54 s1) s80)]
end law_step_f
namespace law_step_f_0
def ins : Sh := (.cons (.rbox 34 s96) .nil)
def ts : List Tmp := [2]
def asg : List Tmp := [6, 7, 22, 23, 24, 25, 26, 27]
def C (N : Nat) : Ctx := { law_step_f.C N with may := fun t => asg.any (Nat.beq t) }
def code : Code := (sub law_step_f.code [true, false, true, false, true, false, false]).getD .skip
theorem cok (N : Nat) : (C N).Ok Tryz.prog := okC (law_step_f.cok N) _
def alts : List Alt := [⟨.normal, [6, 7], (.cons (.upd 1 54 s1) s15)⟩, ⟨.normal, [6, 7], (.cons (.upd 1 54 s1) s18)⟩]
end law_step_f_0
noncomputable def law_step_f_0.run (N : Nat) (room_ : Int) (used : Int) (files : (List T1)) (steps : Int) (left : Int) (dead : Bool) (room1 : Int) (used1 : Int) (files1 : (List T1)) (steps1 : Int) (left1 : Int) (dead1 : Bool) (name : (List UInt8)) (l : T12) (size : Int) (rd : Int) (rd1 : Int) (rd2 : (List T1)) (rd3 : Bool) (rd4 : Bool) (rd5 : Int) (rl : (List UInt8)) (rl1 : T12) (rl2 : Int) (up : Bool) : Option (T13 ⊕ T15) :=
  obind (fD5.run N room_ used files steps left dead ([(108 : UInt8), (111 : UInt8), (103 : UInt8)] : List UInt8)) fun y => match y with
  | .inl ((room2, used2, files2, steps2, left2, dead2, _), _, n_, _) =>
      some (.inl ((room2, used2, files2, steps2, left2, dead2, ()), (), n_, ()))
  | .inr ((room3, used3, files3, steps3, left3, dead3, _), (_, name1, l1, size1, _), n1, _) =>
      some (.inr ((room3, used3, files3, steps3, left3, dead3, ()), ((), name1, l1, size1, ()), n1, ()))
namespace law_step_f_0
def fn (N : Nat) : Sh.den ins → Option (altsDen alts) := fun (((a, b, c, d, e, f, _), ((g, h, i, j, k, l, _), m, o, p, _), q, r, s, t, u, v, w, x, y, z, _), _) => law_step_f_0.run N a b c d e f g h i j k l m o p q r s t u v w x y z
def P (N : Nat) : Ps := ⟨ts, ins, asg, alts, fn N⟩
def lam (N : Nat) : Pcs := pcs []
theorem pok (N : Nat) : (lam N).Ok Tryz.prog (C N) code := pcsOk_nil
theorem ok (N : Nat) : ((P N).pc (law_step_f.C N)).Ok Tryz.prog (law_step_f.C N) code := okP (F := P N) (law_step_f.cok N) mix (pok N) fun _ => by kernel_rfl
end law_step_f_0
noncomputable def law_step_f.run (N : Nat) (room_ : Int) (used : Int) (files : (List T1)) (steps : Int) (left : Int) (dead : Bool) (room1 : Int) (used1 : Int) (files1 : (List T1)) (steps1 : Int) (left1 : Int) (dead1 : Bool) (name : (List UInt8)) (l : T12) (size : Int) (w : Int) (w1 : Int) (w2 : (List T1)) (w3 : Bool) (w4 : Bool) (w5 : Int) (w6 : (List UInt8)) (w7 : T12) (w8 : Int) (w9 : Bool) : Option (T56 ⊕ T66) :=
  obind (law_step_f_0.run N room_ used files steps left dead room1 used1 files1 steps1 left1 dead1 name l size w w1 w2 w3 w4 w5 w6 w7 w8 w9) fun y => match y with
  | .inl ((room4, used4, files4, steps4, left4, dead4, _), _, e, _) =>
      obind (fB2.run N (w, w1, w2, w3, w4, w5) ([(108 : UInt8), (111 : UInt8), (103 : UInt8)] : List UInt8)) fun (v, v1, n2, _) =>
        obind (law_laid_g.run N room4 used4 files4 steps4 left4 dead4 room1 used1 files1 steps1 left1 dead1 name l size w w1 w2 w3 w4 w5 w6 w7 w8 w9 e v v1 n2) fun ((room6, used6, files6, steps6, left6, dead6, _), (_, _, v2, v3, v4, v5, v6, v7, v8, v9, v10, v11, _), b, _) =>
          some (.inl ((room6, used6, files6, steps6, left6, dead6, ()), ((), (), v2, v3, v4, v5, v6, v7, v8, v9, v10, v11, ()), b, ()))
  | .inr ((room5, used5, files5, steps5, left5, dead5, _), (_, name2, l2, size2, _), e1, _) =>
      obind (fB2.run N (w, w1, w2, w3, w4, w5) ([(108 : UInt8), (111 : UInt8), (103 : UInt8)] : List UInt8)) fun (v12, v13, n3, _) =>
        obind (law_laid_h.run N room5 used5 files5 steps5 left5 dead5 room1 used1 files1 steps1 left1 dead1 name l size w w1 w2 w3 w4 w5 w6 w7 w8 w9 name2 l2 size2 e1 v12 v13 n3) fun ((room7, used7, files7, steps7, left7, dead7, _), (_, name3, l3, size3, _), (_, _, v14, v15, v16, v17, v18, v19, v20, v21, v22, v23, _), b1, _) =>
          some (.inr ((room7, used7, files7, steps7, left7, dead7, ()), ((), ((), name3, l3, size3, ()), v14, v15, v16, v17, v18, v19, v20, v21, v22, v23, ()), b1, ()))
namespace law_step_f
def fn (N : Nat) : Sh.den ins → Option (shsDen outs) := fun (((a, b, c, d, e, f, _), ((g, h, i, j, k, l, _), m, o, p, _), q, r, s, t, u, v, w, x, y, z, _), (_, _, _, _, _), _) => law_step_f.run N a b c d e f g h i j k l m o p q r s t u v w x y z
def S (N : Nat) : Fm := ⟨ins, outs, fn N⟩
def lam (N : Nat) : Pcs := pcs [([true, false, true, false, true, false, false], (law_step_f_0.P N).pc (C N))]
theorem pok (N : Nat) : (lam N).Ok Tryz.prog (C N) code := pcsOk_cons (c1 := law_step_f_0.code) (by kernel_rfl) (law_step_f_0.ok N) (pcsOk_nil)
theorem ok (N : Nat) : (S N).con.Ok Tryz.prog 8 := okM (F := S N) [] Tryz.func8 (by kernel_rfl) (by rfl) mix (cok N) (pok N) fun _ => by kernel_rfl
end law_step_f
namespace fC1
def ins : Sh := (.cons s31 s82)
def C (N : Nat) : Ctx := ⟨U, 54, fun _ => true, gam [(28, (fD7.S N).con), (29, (fC33.S N).con), (27, (fA0.S N).con)], gamY []⟩
theorem cok (N : Nat) : (C N).Ok Tryz.prog := ⟨U_ok, GamOk.cons (fD7.ok N) (GamOk.cons (fC33.ok N) (GamOk.cons (fA0.ok N) (GamOk.nil))), GamYOk.nil⟩
def code : Code := Tryz.f12.body.getD .skip
def outs : Sh := s32
end fC1
namespace fB11
def ins : Sh := (.cons (.rbox 30 s33) s81)
def ts : List Tmp := [2, 26, 27, 28]
def asg : List Tmp := [8, 28, 29, 30, 31, 32, 33, 34, 35, 36, 37, 38, 39, 40, 41, 42, 43]
def C (N : Nat) : Ctx := { fC1.C N with may := fun t => asg.any (Nat.beq t) }
def code : Code := loopBody (sub fC1.code [true, true, true, true, true, false, true, false, false, true, false])
theorem cok (N : Nat) : (C N).Ok Tryz.prog := okC (fC1.cok N) _
def alts : List Alt := [⟨(.exit 0), [], s34⟩]
end fB11
noncomputable def fB11.go (N : Nat) : Nat → Int → Int → (List T1) → Int → Int → Bool → (List UInt8) → T12 → Int → T12 → Int → Int → Option (T19)
  | 0, _, _, _, _, _, _, _, _, _, _, _, _ => none
  | fuel + 1, room_, used, files, steps, left, dead, name, l, size, t26, t27, t28 =>
    bif decide (t28 < t27) then
      bif inB t28 t26.length then
        obind (fA0.run N (t26.getD t28.toNat ([] : List UInt8))) fun (l1, _) =>
          bif room (l.length + 1) 24 then
            fB11.go N fuel room_ used files steps left dead name (l ++ ([l1] : List (List UInt8))) size t26 t27 (IntKind.i64.wrap (t28 + (1 : Int)))
          else none
      else none
    else some ((room_, used, (), steps, left, dead, ()), ((), name, l, size, ()), ())
namespace fB11
def g (N n : Nat) : Sh.den ins → Option (altsDen alts) := fun ((((a, b, c, d, e, f, _), g, h, i, _), _), j, k, l, _) => fB11.go N n a b c d e f g h i j k l
def P (N : Nat) : Ps := ⟨ts, ins, asg, alts, g N N⟩
def lam (N : Nat) : Pcs := pcs []
theorem pok (N : Nat) : (lam N).Ok Tryz.prog (C N) code := pcsOk_nil
theorem ok (N : Nat) : ((P N).pc (fC1.C N)).Ok Tryz.prog (fC1.C N) (.loop code) := okL (F := P N) (g N) (fC1.cok N) mix (pok N) (fun _ => rfl) rfl fun _ _ => by kernel_rfl
end fB11
noncomputable def fC1.run (N : Nat) (room_ : Int) (used : Int) (files : (List T1)) (steps : Int) (left : Int) (dead : Bool) (name : (List UInt8)) (l : T12) (size : Int) (records : T12) : Option T15 :=
  bif decide ((records.length : Int) = (0 : Int)) then
    some ((room_, used, files, steps, left, dead, ()), ((), name, l, size, ()), (0 : Int), ())
  else
    obind (fD7.run N records) fun (l1, n_, _) =>
      bif !(decide (n_ = (0 : Int))) then
        some ((room_, used, files, steps, left, dead, ()), ((), name, l, size, ()), n_, ())
      else
        obind (fC33.run N room_ used files steps left dead name l size l1) fun ((room1, used1, files1, steps1, left1, dead1, _), n1, _) =>
          bif decide (n1 = (0 : Int)) then
            obind (fB11.go N N room1 used1 files1 steps1 left1 dead1 name l size records (records.length : Int) (0 : Int)) fun ((room2, used2, _, steps2, left2, dead2, _), (_, name1, l2, size1, _), _) =>
              some ((room2, used2, files1, steps2, left2, dead2, ()), ((), name1, l2, IntKind.i64.wrap (size1 + (l1.length : Int)), ()), n1, ())
          else some ((room1, used1, files1, steps1, left1, dead1, ()), ((), name, l, size, ()), n1, ())
namespace fC1
def fn (N : Nat) : Sh.den ins → Option (Sh.den outs) := fun (((a, b, c, d, e, f, _), g, h, i, _), j, _) => fC1.run N a b c d e f g h i j
def S (N : Nat) : Fs := ⟨ins, outs, fn N⟩
def lam (N : Nat) : Pcs := pcs [([true, true, true, true, true, false, true, false, false, true, false], (fB11.P N).pc (C N))]
theorem pok (N : Nat) : (lam N).Ok Tryz.prog (C N) code := pcsOk_cons (c1 := .loop fB11.code) (by kernel_rfl) (fB11.ok N) (pcsOk_nil)
theorem ok (N : Nat) : (S N).con.Ok Tryz.prog 12 := okF (F := S N) [] Tryz.func12 (by kernel_rfl) (by rfl) mix (cok N) (pok N) fun _ => by kernel_rfl
end fC1
namespace fC24
def ins : Sh := (.cons (.rown 43 (.slice .byte)) s82)
def C (N : Nat) : Ctx := ⟨U, 28, fun _ => true, gam [], gamY []⟩
theorem cok (N : Nat) : (C N).Ok Tryz.prog := ⟨U_ok, GamOk.nil, GamYOk.nil⟩
def code : Code := Tryz.f14.body.getD .skip
def outs : Sh := (.cons (.val .bool) .nil)
end fC24
namespace fA30
def ins : Sh := (.cons (.rown 43 (.slice .byte)) s84)
def ts : List Tmp := [0, 1, 5]
def asg : List Tmp := [4, 5, 11, 12, 13, 14, 15, 16, 17, 18, 19, 20, 21, 22, 23, 24, 25, 26, 27]
def C (N : Nat) : Ctx := { fC24.C N with may := fun t => asg.any (Nat.beq t) }
def code : Code := loopBody (sub fC24.code [true, true, false, true, false])
theorem cok (N : Nat) : (C N).Ok Tryz.prog := okC (fC24.cok N) _
def alts : List Alt := [⟨.ret, [4], (.cons (.val .bool) .nil)⟩, ⟨(.exit 0), [], .nil⟩]
end fA30
noncomputable def fA30.go (N : Nat) : Nat → T12 → T12 → Int → Option T11
  | 0, _, _, _ => none
  | fuel + 1, a, b, i =>
    bif decide (i < (a.length : Int)) then
      bif inB i a.length then
        bif decide (i.toNat < a.length) then
          bif inB i b.length then
            bif !(decide ((a.getD i.toNat ([] : List UInt8)) = (b.getD i.toNat ([] : List UInt8)))) then
              some (.inl (false, ()))
            else fA30.go N fuel a b (IntKind.i64.wrap (i + (1 : Int)))
          else none
        else none
      else none
    else some (.inr ())
namespace fA30
def g (N n : Nat) : Sh.den ins → Option (altsDen alts) := fun (a, b, c, _) => fA30.go N n a b c
def P (N : Nat) : Ps := ⟨ts, ins, asg, alts, g N N⟩
def lam (N : Nat) : Pcs := pcs []
theorem pok (N : Nat) : (lam N).Ok Tryz.prog (C N) code := pcsOk_nil
theorem ok (N : Nat) : ((P N).pc (fC24.C N)).Ok Tryz.prog (fC24.C N) (.loop code) := okL (F := P N) (g N) (fC24.cok N) mix (pok N) (fun _ => rfl) rfl fun _ _ => by kernel_rfl
end fA30
noncomputable def fC24.run (N : Nat) (a : T12) (b : T12) : Option (Bool × Unit) :=
  bif !(decide ((a.length : Int) = (b.length : Int))) then
    some (false, ())
  else
    obind (fA30.go N N a b (0 : Int)) fun y => match y with
    | .inl (t4, _) =>
        some (t4, ())
    | .inr (_) =>
        some (true, ())
namespace fC24
def fn (N : Nat) : Sh.den ins → Option (Sh.den outs) := fun (a, b, _) => fC24.run N a b
def S (N : Nat) : Fs := ⟨ins, outs, fn N⟩
def lam (N : Nat) : Pcs := pcs [([true, true, false, true, false], (fA30.P N).pc (C N))]
theorem pok (N : Nat) : (lam N).Ok Tryz.prog (C N) code := pcsOk_cons (c1 := .loop fA30.code) (by kernel_rfl) (fA30.ok N) (pcsOk_nil)
theorem ok (N : Nat) : (S N).con.Ok Tryz.prog 14 := okF (F := S N) [] Tryz.func14 (by kernel_rfl) (by rfl) mix (cok N) (pok N) fun _ => by kernel_rfl
end fC24
namespace law_step_e
def ins : Sh := (.cons (.agg (.cons (.box 54 s1) (.cons s17 s71))) s86)
def C (N : Nat) : Ctx := ⟨U, 161, fun _ => true, gam [(17, (fD5.S N).con), (18, (fB2.S N).con), (19, (((law_laid_f.S N).con).or (law_laid_e.S N).con)), (16, (fC10.S N).con), (20, (fD1.S N).con), (21, (fD12.S N).con), (22, (fD40.S N).con), (23, (fA6.S N).con), (24, (fA15.S N).con), (8, (law_step_f.S N).con), (12, (fC1.S N).con), (25, (fA2.S N).con), (13, (fC8.S N).con), (10, (fC3.S N).con), (9, (law_gone.S N).con), (14, (fC24.S N).con)], gamY []⟩
theorem cok (N : Nat) : (C N).Ok Tryz.prog := ⟨U_ok, GamOk.cons (fD5.ok N) (GamOk.cons (fB2.ok N) (GamOk.cons (Con.or_ok (law_laid_f.ok N) (law_laid_e.ok N)) (GamOk.cons (fC10.ok N) (GamOk.cons (fD1.ok N) (GamOk.cons (fD12.ok N) (GamOk.cons (fD40.ok N) (GamOk.cons (fA6.ok N) (GamOk.cons (fA15.ok N) (GamOk.cons (law_step_f.ok N) (GamOk.cons (fC1.ok N) (GamOk.cons (fA2.ok N) (GamOk.cons (fC8.ok N) (GamOk.cons (fC3.ok N) (GamOk.cons (law_gone.ok N) (GamOk.cons (fC24.ok N) (GamOk.nil)))))))))))))))), GamYOk.nil⟩
def code : Code := Tryz.f8.body.getD .skip
def outs : List Sh := [(.cons (.upd 0 54 s1) (.cons (.upd 2 69 (.cons (.ref 0) (.cons (.val .str) s16))) s72)), (.cons (.upd 0 54 s1) (.cons (.upd 2 69 (.cons (.ref 0) (.cons (.val .str) s16))) s80)), s89, (.cons (.upd 0 54 s1) (.cons (.upd 2 69 (.cons (.ref 0) (.cons (.val .str) s16))) s87)), (.cons (.upd 0 54 s1) (.cons (.upd 2 69 (.cons (.ref 0) (.cons (.val .str) s16))) (.cons (.agg (.cons (.box 54 s1) (.cons (.box 69 (.cons (.ref 4) (.cons (.val .str) s16))) s71))) (.cons (.val .bool) .nil))))]
end law_step_e
namespace law_step_e_0
def ins : Sh := s97
def ts : List Tmp := [2]
def asg : List Tmp := [6, 7, 22, 23, 24, 25, 26, 27]
def C (N : Nat) : Ctx := { law_step_e.C N with may := fun t => asg.any (Nat.beq t) }
def code : Code := (sub law_step_e.code [true, false, true, false, true, false, false]).getD .skip
theorem cok (N : Nat) : (C N).Ok Tryz.prog := okC (law_step_e.cok N) _
def alts : List Alt := [⟨.normal, [6, 7], (.cons (.upd 1 54 s1) s15)⟩, ⟨.normal, [6, 7], (.cons (.upd 1 54 s1) s18)⟩]
end law_step_e_0
noncomputable def law_step_e_0.run (N : Nat) (room_ : Int) (used : Int) (files : (List T1)) (steps : Int) (left : Int) (dead : Bool) (name : (List UInt8)) (l : T12) (size : Int) (rd : Int) (rd1 : Int) (rd2 : (List T1)) (rd3 : Bool) (rd4 : Bool) (rd5 : Int) (rl : (List UInt8)) (rl1 : T12) (rl2 : Int) (up : Bool) : Option (T13 ⊕ T15) :=
  obind (fD5.run N room_ used files steps left dead ([(108 : UInt8), (111 : UInt8), (103 : UInt8)] : List UInt8)) fun y => match y with
  | .inl ((room1, used1, files1, steps1, left1, dead1, _), _, n_, _) =>
      some (.inl ((room1, used1, files1, steps1, left1, dead1, ()), (), n_, ()))
  | .inr ((room2, used2, files2, steps2, left2, dead2, _), (_, name1, l1, size1, _), n1, _) =>
      some (.inr ((room2, used2, files2, steps2, left2, dead2, ()), ((), name1, l1, size1, ()), n1, ()))
namespace law_step_e_0
def fn (N : Nat) : Sh.den ins → Option (altsDen alts) := fun (((a, b, c, d, e, f, _), (_, g, h, i, _), j, k, l, m, o, p, q, r, s, t, _), _) => law_step_e_0.run N a b c d e f g h i j k l m o p q r s t
def P (N : Nat) : Ps := ⟨ts, ins, asg, alts, fn N⟩
def lam (N : Nat) : Pcs := pcs []
theorem pok (N : Nat) : (lam N).Ok Tryz.prog (C N) code := pcsOk_nil
theorem ok (N : Nat) : ((P N).pc (law_step_e.C N)).Ok Tryz.prog (law_step_e.C N) code := okP (F := P N) (law_step_e.cok N) mix (pok N) fun _ => by kernel_rfl
end law_step_e_0
namespace law_step_e_1
def ins : Sh := s97
def ts : List Tmp := [2]
def asg : List Tmp := [11, 12, 46, 47, 48, 49, 50, 51]
def C (N : Nat) : Ctx := { law_step_e.C N with may := fun t => asg.any (Nat.beq t) }
def code : Code := (sub law_step_e.code [true, false, true, false, true, true, true, false, false]).getD .skip
theorem cok (N : Nat) : (C N).Ok Tryz.prog := okC (law_step_e.cok N) _
def alts : List Alt := [⟨.normal, [11, 12], (.cons (.upd 1 54 s1) s15)⟩, ⟨.normal, [11, 12], (.cons (.upd 1 54 s1) s18)⟩]
end law_step_e_1
noncomputable def law_step_e_1.run (N : Nat) (room_ : Int) (used : Int) (files : (List T1)) (steps : Int) (left : Int) (dead : Bool) (name : (List UInt8)) (l : T12) (size : Int) (rd : Int) (rd1 : Int) (rd2 : (List T1)) (rd3 : Bool) (rd4 : Bool) (rd5 : Int) (rl : (List UInt8)) (rl1 : T12) (rl2 : Int) (up : Bool) : Option (T13 ⊕ T15) :=
  obind (fC10.run N room_ used files steps left dead ([(108 : UInt8), (111 : UInt8), (103 : UInt8)] : List UInt8)) fun y => match y with
  | .inl ((room1, used1, files1, steps1, left1, dead1, _), _, n_, _) =>
      some (.inl ((room1, used1, files1, steps1, left1, dead1, ()), (), n_, ()))
  | .inr ((room2, used2, files2, steps2, left2, dead2, _), (_, name1, l1, size1, _), n1, _) =>
      some (.inr ((room2, used2, files2, steps2, left2, dead2, ()), ((), name1, l1, size1, ()), n1, ()))
namespace law_step_e_1
def fn (N : Nat) : Sh.den ins → Option (altsDen alts) := fun (((a, b, c, d, e, f, _), (_, g, h, i, _), j, k, l, m, o, p, q, r, s, t, _), _) => law_step_e_1.run N a b c d e f g h i j k l m o p q r s t
def P (N : Nat) : Ps := ⟨ts, ins, asg, alts, fn N⟩
def lam (N : Nat) : Pcs := pcs []
theorem pok (N : Nat) : (lam N).Ok Tryz.prog (C N) code := pcsOk_nil
theorem ok (N : Nat) : ((P N).pc (law_step_e.C N)).Ok Tryz.prog (law_step_e.C N) code := okP (F := P N) (law_step_e.cok N) mix (pok N) fun _ => by kernel_rfl
end law_step_e_1
noncomputable def law_step_e.run (N : Nat) (room_ : Int) (used : Int) (files : (List T1)) (steps : Int) (left : Int) (dead : Bool) (name : (List UInt8)) (l : T12) (size : Int) (w : Int) (w1 : Int) (w2 : (List T1)) (w3 : Bool) (w4 : Bool) (w5 : Int) (w6 : (List UInt8)) (w7 : T12) (w8 : Int) (w9 : Bool) (o : T68) : Option T78 :=
  bif decide (o.1 = (2 : Int)) then
    obind (law_step_e_0.run N room_ used files steps left dead name l size w w1 w2 w3 w4 w5 w6 w7 w8 w9) fun y => match y with
    | .inl ((room3, used3, files3, steps3, left3, dead3, _), _, e, _) =>
        obind (fB2.run N (w, w1, w2, w3, w4, w5) ([(108 : UInt8), (111 : UInt8), (103 : UInt8)] : List UInt8)) fun (v, v1, n2, _) =>
          obind (law_laid_e.run N room3 used3 files3 steps3 left3 dead3 name l size w w1 w2 w3 w4 w5 w6 w7 w8 w9 e v v1 n2) fun ((room5, used5, files5, steps5, left5, dead5, _), (_, _, v2, v3, v4, v5, v6, v7, v8, v9, v10, v11, _), b, _) =>
            some (.inl ((room5, used5, files5, steps5, left5, dead5, ()), ((), name, l, size, ()), ((), (), v2, v3, v4, v5, v6, v7, v8, v9, v10, v11, ()), b, ()))
    | .inr ((room4, used4, files4, steps4, left4, dead4, _), (_, name2, l2, size2, _), e1, _) =>
        obind (fB2.run N (w, w1, w2, w3, w4, w5) ([(108 : UInt8), (111 : UInt8), (103 : UInt8)] : List UInt8)) fun (v12, v13, n3, _) =>
          obind (law_laid_f.run N room4 used4 files4 steps4 left4 dead4 name l size w w1 w2 w3 w4 w5 w6 w7 w8 w9 name2 l2 size2 e1 v12 v13 n3) fun ((room6, used6, files6, steps6, left6, dead6, _), (_, name3, l3, size3, _), (_, _, v14, v15, v16, v17, v18, v19, v20, v21, v22, v23, _), b1, _) =>
            some (.inr (.inl ((room6, used6, files6, steps6, left6, dead6, ()), ((), name, l, size, ()), ((), ((), name3, l3, size3, ()), v14, v15, v16, v17, v18, v19, v20, v21, v22, v23, ()), b1, ())))
  else
    bif decide (o.1 = (3 : Int)) then
      obind (law_step_e_1.run N room_ used files steps left dead name l size w w1 w2 w3 w4 w5 w6 w7 w8 w9) fun y => match y with
      | .inl ((room9, used9, files9, steps9, left9, dead9, _), _, e2, _) =>
          obind (fD1.run N (w, w1, w2, w3, w4, w5) ([(108 : UInt8), (111 : UInt8), (103 : UInt8)] : List UInt8)) fun (v24, v25, n6, _) =>
            obind (law_laid_e.run N room9 used9 files9 steps9 left9 dead9 name l size w w1 w2 w3 w4 w5 w6 w7 w8 w9 e2 v24 v25 n6) fun ((room11, used11, files11, steps11, left11, dead11, _), (_, _, v26, v27, v28, v29, v30, v31, v32, v33, v34, v35, _), b2, _) =>
              some (.inl ((room11, used11, files11, steps11, left11, dead11, ()), ((), name, l, size, ()), ((), (), v26, v27, v28, v29, v30, v31, v32, v33, v34, v35, ()), b2, ()))
      | .inr ((room10, used10, files10, steps10, left10, dead10, _), (_, name5, l5, size5, _), e3, _) =>
          obind (fD1.run N (w, w1, w2, w3, w4, w5) ([(108 : UInt8), (111 : UInt8), (103 : UInt8)] : List UInt8)) fun (v36, v37, n7, _) =>
            obind (law_laid_f.run N room10 used10 files10 steps10 left10 dead10 name l size w w1 w2 w3 w4 w5 w6 w7 w8 w9 name5 l5 size5 e3 v36 v37 n7) fun ((room12, used12, files12, steps12, left12, dead12, _), (_, name6, l6, size6, _), (_, _, v38, v39, v40, v41, v42, v43, v44, v45, v46, v47, _), b3, _) =>
              some (.inr (.inl ((room12, used12, files12, steps12, left12, dead12, ()), ((), name, l, size, ()), ((), ((), name6, l6, size6, ()), v38, v39, v40, v41, v42, v43, v44, v45, v46, v47, ()), b3, ())))
    else
      bif decide (o.1 = (4 : Int)) then
        obind (fD12.run N room_ used files steps left dead o.2.1) fun ((room13, used13, files13, steps13, left13, dead13, _), _) =>
          obind (fD40.run N (w, w1, w2, w3, w4, w5) o.2.1) fun (v48, _) =>
            some (.inr (.inr (.inl ((room13, used13, files13, steps13, left13, dead13, ()), ((), name, l, size, ()), ((), (), v48.1, v48.2.1, v48.2.2.1, v48.2.2.2.1, v48.2.2.2.2.1, v48.2.2.2.2.2, w6, w7, w8, w9, ()), true, ()))))
      else
        bif decide (o.1 = (5 : Int)) then
          obind (fA6.run N room_ used files steps left dead o.2.2.2) fun ((room14, used14, files14, steps14, left14, dead14, _), (room15, used15, files15, steps15, left15, dead15, _), _) =>
            obind (fA15.run N (w, w1, w2, w3, w4, w5) o.2.2.2) fun (v49, _) =>
              obind (law_step_f.run N room15 used15 files15 steps15 left15 dead15 room14 used14 files14 steps14 left14 dead14 name l size v49.1 v49.2.1 v49.2.2.1 v49.2.2.2.1 v49.2.2.2.2.1 v49.2.2.2.2.2 w6 w7 w8 w9) fun y => match y with
              | .inl ((room16, used16, files16, steps16, left16, dead16, _), (_, _, v50, v51, v52, v53, v54, v55, v56, v57, v58, v59, _), b4, _) =>
                  some (.inr (.inr (.inr (.inl ((room14, used14, files14, steps14, left14, dead14, ()), ((), name, l, size, ()), ((room16, used16, files16, steps16, left16, dead16, ()), (), v50, v51, v52, v53, v54, v55, v56, v57, v58, v59, ()), b4, ())))))
              | .inr ((room17, used17, files17, steps17, left17, dead17, _), (_, (_, name7, l7, size7, _), v60, v61, v62, v63, v64, v65, v66, v67, v68, v69, _), b5, _) =>
                  some (.inr (.inr (.inr (.inr ((room14, used14, files14, steps14, left14, dead14, ()), ((), name, l, size, ()), ((room17, used17, files17, steps17, left17, dead17, ()), ((), name7, l7, size7, ()), v60, v61, v62, v63, v64, v65, v66, v67, v68, v69, ()), b5, ())))))
        else
          bif !w9 then
            some (.inr (.inr (.inl ((room_, used, files, steps, left, dead, ()), ((), name, l, size, ()), ((), (), w, w1, w2, w3, w4, w5, w6, w7, w8, w9, ()), true, ()))))
          else
            bif decide (o.1 = (0 : Int)) then
              obind (fC1.run N room_ used files steps left dead name l size o.2.2.1) fun ((room18, used18, files18, steps18, left18, dead18, _), (_, name8, l8, size8, _), n8, _) =>
                obind (fA2.run N (w, w1, w2, w3, w4, w5) (w6, w7, w8) o.2.2.1) fun (v70, v71, n9, _) =>
                  some (.inr (.inr (.inl ((room18, used18, files18, steps18, left18, dead18, ()), ((), name8, l8, size8, ()), ((), (), v70.1, v70.2.1, v70.2.2.1, v70.2.2.2.1, v70.2.2.2.2.1, v70.2.2.2.2.2, v71.1, v71.2.1, v71.2.2, w9, ()), decide (n8 = n9), ()))))
            else
              obind (fC8.run N room_ used files steps left dead name l size) fun (n10, _) =>
                bif decide (n10 = (w7.length : Int)) then
                  obind (fC3.run N room_ used files steps left dead name l size) fun (n11, _) =>
                    bif decide (n11 = w8) then
                      obind (law_gone.run N room_ used files steps left dead name l size) fun ((room19, used19, files19, steps19, left19, dead19, _), (_, name9, l9, size9, _), l10, _) =>
                        obind (fC24.run N l10 w7) fun (b6, _) =>
                          some (.inr (.inr (.inl ((room19, used19, files19, steps19, left19, dead19, ()), ((), name9, l9, size9, ()), ((), (), w, w1, w2, w3, w4, w5, w6, w7, w8, w9, ()), b6, ()))))
                    else some (.inr (.inr (.inl ((room_, used, files, steps, left, dead, ()), ((), name, l, size, ()), ((), (), w, w1, w2, w3, w4, w5, w6, w7, w8, w9, ()), false, ()))))
                else some (.inr (.inr (.inl ((room_, used, files, steps, left, dead, ()), ((), name, l, size, ()), ((), (), w, w1, w2, w3, w4, w5, w6, w7, w8, w9, ()), false, ()))))
namespace law_step_e
def fn (N : Nat) : Sh.den ins → Option (shsDen outs) := fun (((a, b, c, d, e, f, _), (_, g, h, i, _), j, k, l, m, o, p, q, r, s, t, _), u, _) => law_step_e.run N a b c d e f g h i j k l m o p q r s t u
def S (N : Nat) : Fm := ⟨ins, outs, fn N⟩
def lam (N : Nat) : Pcs := pcs [([true, false, true, false, true, false, false], (law_step_e_0.P N).pc (C N)), ([true, false, true, false, true, true, true, false, false], (law_step_e_1.P N).pc (C N))]
theorem pok (N : Nat) : (lam N).Ok Tryz.prog (C N) code := pcsOk_cons (c1 := law_step_e_0.code) (by kernel_rfl) (law_step_e_0.ok N) (pcsOk_cons (c1 := law_step_e_1.code) (by kernel_rfl) (law_step_e_1.ok N) (pcsOk_nil))
theorem ok (N : Nat) : (S N).con.Ok Tryz.prog 8 := okM (F := S N) [] Tryz.func8 (by kernel_rfl) (by rfl) mix (cok N) (pok N) fun _ => by kernel_rfl
end law_step_e
namespace fD38
def ins : Sh := (.cons (.nilp) .nil)
def C (N : Nat) : Ctx := ⟨U, 4, fun _ => true, gam [], gamY []⟩
theorem cok (N : Nat) : (C N).Ok Tryz.prog := ⟨U_ok, GamOk.nil, GamYOk.nil⟩
def code : Code := Tryz.f26.body.getD .skip
def outs : Sh := (.cons (.fn 53 (.cons (.box 30 (.cons (.nilp) .nil)) .nil)) .nil)
end fD38
noncomputable def fD38.run (N : Nat)  : Option (T33 × Unit) :=
  some ((((), ()), ()), ())
namespace fD38
def fn (N : Nat) : Sh.den ins → Option (Sh.den outs) := fun _ => fD38.run N
def S (N : Nat) : Fs := ⟨ins, outs, fn N⟩
def lam (N : Nat) : Pcs := pcs []
theorem pok (N : Nat) : (lam N).Ok Tryz.prog (C N) code := pcsOk_nil
theorem ok (N : Nat) : (S N).con.Ok Tryz.prog 26 := okF (F := S N) [] Tryz.func26 (by kernel_rfl) (by rfl) mix (cok N) (pok N) fun _ => by kernel_rfl
end fD38
namespace fC27
def ins : Sh := (.cons (.box 1000004 (.cons (.val (.int .i64)) (.cons (.junk) (.cons (.junk) (.cons (.junk) (.cons (.rbox 23 (.cons (.rown 43 (.slice .byte)) .nil)) .nil)))))) (.cons (.rbox 30 (.cons (.nilp) .nil)) .nil))
def C (N : Nat) : Ctx := ⟨U, 22, fun _ => true, gam [], gamY []⟩
theorem cok (N : Nat) : (C N).Ok Tryz.prog := ⟨U_ok, GamOk.nil, GamYOk.nil⟩
def code : Code := Tryz.f53.body.getD .skip
def outs : Sh := .nil
end fC27
noncomputable def fC27.run (N : Nat) (yield : Int) (yield1 : T12) : Option Unit :=
  none
namespace fC27
def fn (N : Nat) : Sh.den ins → Option (Sh.den outs) := fun ((a, _, _, _, (b, _), _), (_, _), _) => fC27.run N a b
def S (N : Nat) : Fs := ⟨ins, outs, fn N⟩
def lam (N : Nat) : Pcs := pcs []
theorem pok (N : Nat) : (lam N).Ok Tryz.prog (C N) code := pcsOk_nil
theorem ok (N : Nat) : (S N).con.Ok Tryz.prog 53 := okF (F := S N) [] Tryz.func53 (by kernel_rfl) (by rfl) mix (cok N) (pok N) fun _ => by kernel_rfl
end fC27
namespace law_gone_b
def ins : Sh := (.cons (.nilp) .nil)
def C (N : Nat) : Ctx := ⟨U, 15, fun _ => true, gam [(26, (fD38.S N).con), (53, (fC27.S N).con)], gamY []⟩
theorem cok (N : Nat) : (C N).Ok Tryz.prog := ⟨U_ok, GamOk.cons (fD38.ok N) (GamOk.cons (fC27.ok N) (GamOk.nil)), GamYOk.nil⟩
def code : Code := Tryz.f9.body.getD .skip
def outs : Sh := (.cons (.junk) .nil)
end law_gone_b
noncomputable def law_gone_b.run (N : Nat)  : Option (Unit × Unit) :=
  obind (fD38.run N) fun (((_, _), _), _) =>
    obind (fC27.run N (0 : Int) ([] : List (List UInt8))) fun _ =>
      none
namespace law_gone_b
def fn (N : Nat) : Sh.den ins → Option (Sh.den outs) := fun _ => law_gone_b.run N
def S (N : Nat) : Fs := ⟨ins, outs, fn N⟩
def lam (N : Nat) : Pcs := pcs [([true, true, false, true, false], rfPc (C N) 1000004 (.tmp 7) [3] [.normal])]
theorem pok (N : Nat) : (lam N).Ok Tryz.prog (C N) code := pcsOk_cons (c1 := .rangeFunc (.tmp 7) site4.ps site4.assign site4.body) (by kernel_rfl) (rf_ok (k := 4) (fun _ => rfl) (cok N)) (pcsOk_nil)
theorem ok (N : Nat) : (S N).con.Ok Tryz.prog 9 := okF (F := S N) [] Tryz.func9 (by kernel_rfl) (by rfl) mix (cok N) (pok N) fun _ => by kernel_rfl
end law_gone_b
namespace fA19
def ins : Sh := (.cons (.nilp) .nil)
def C (N : Nat) : Ctx := ⟨U, 7, fun _ => true, gam [], gamY []⟩
theorem cok (N : Nat) : (C N).Ok Tryz.prog := ⟨U_ok, GamOk.nil, GamYOk.nil⟩
def code : Code := Tryz.f10.body.getD .skip
def outs : Sh := (.cons (.junk) .nil)
end fA19
noncomputable def fA19.run (N : Nat)  : Option (Unit × Unit) :=
  none
namespace fA19
def fn (N : Nat) : Sh.den ins → Option (Sh.den outs) := fun _ => fA19.run N
def S (N : Nat) : Fs := ⟨ins, outs, fn N⟩
def lam (N : Nat) : Pcs := pcs []
theorem pok (N : Nat) : (lam N).Ok Tryz.prog (C N) code := pcsOk_nil
theorem ok (N : Nat) : (S N).con.Ok Tryz.prog 10 := okF (F := S N) [] Tryz.func10 (by kernel_rfl) (by rfl) mix (cok N) (pok N) fun _ => by kernel_rfl
end fA19
namespace fA16
def ins : Sh := (.cons (.val (.slice (.slice .byte))) (.cons (.rown 43 (.slice .byte)) .nil))
def C (N : Nat) : Ctx := ⟨U, 28, fun _ => true, gam [], gamY []⟩
theorem cok (N : Nat) : (C N).Ok Tryz.prog := ⟨U_ok, GamOk.nil, GamYOk.nil⟩
def code : Code := Tryz.f14.body.getD .skip
def outs : Sh := (.cons (.val .bool) .nil)
end fA16
namespace fB31
def ins : Sh := (.cons (.val (.slice (.slice .byte))) s26)
def ts : List Tmp := [0, 1, 5]
def asg : List Tmp := [4, 5, 11, 12, 13, 14, 15, 16, 17, 18, 19, 20, 21, 22, 23, 24, 25, 26, 27]
def C (N : Nat) : Ctx := { fA16.C N with may := fun t => asg.any (Nat.beq t) }
def code : Code := loopBody (sub fA16.code [true, true, false, true, false])
theorem cok (N : Nat) : (C N).Ok Tryz.prog := okC (fA16.cok N) _
def alts : List Alt := [⟨.ret, [4], (.cons (.val .bool) .nil)⟩, ⟨(.exit 0), [], .nil⟩]
end fB31
noncomputable def fB31.go (N : Nat) : Nat → T12 → T12 → Int → Option T11
  | 0, _, _, _ => none
  | fuel + 1, a, b, i =>
    bif decide (i < (a.length : Int)) then
      bif inB i a.length then
        bif inB i b.length then
          bif decide (i.toNat < b.length) then
            bif !(decide ((a.getD i.toNat ([] : List UInt8)) = (b.getD i.toNat ([] : List UInt8)))) then
              some (.inl (false, ()))
            else fB31.go N fuel a b (IntKind.i64.wrap (i + (1 : Int)))
          else none
        else none
      else none
    else some (.inr ())
namespace fB31
def g (N n : Nat) : Sh.den ins → Option (altsDen alts) := fun (a, b, c, _) => fB31.go N n a b c
def P (N : Nat) : Ps := ⟨ts, ins, asg, alts, g N N⟩
def lam (N : Nat) : Pcs := pcs []
theorem pok (N : Nat) : (lam N).Ok Tryz.prog (C N) code := pcsOk_nil
theorem ok (N : Nat) : ((P N).pc (fA16.C N)).Ok Tryz.prog (fA16.C N) (.loop code) := okL (F := P N) (g N) (fA16.cok N) mix (pok N) (fun _ => rfl) rfl fun _ _ => by kernel_rfl
end fB31
noncomputable def fA16.run (N : Nat) (a : T12) (b : T12) : Option (Bool × Unit) :=
  bif !(decide ((a.length : Int) = (b.length : Int))) then
    some (false, ())
  else
    obind (fB31.go N N a b (0 : Int)) fun y => match y with
    | .inl (t4, _) =>
        some (t4, ())
    | .inr (_) =>
        some (true, ())
namespace fA16
def fn (N : Nat) : Sh.den ins → Option (Sh.den outs) := fun (a, b, _) => fA16.run N a b
def S (N : Nat) : Fs := ⟨ins, outs, fn N⟩
def lam (N : Nat) : Pcs := pcs [([true, true, false, true, false], (fB31.P N).pc (C N))]
theorem pok (N : Nat) : (lam N).Ok Tryz.prog (C N) code := pcsOk_cons (c1 := .loop fB31.code) (by kernel_rfl) (fB31.ok N) (pcsOk_nil)
theorem ok (N : Nat) : (S N).con.Ok Tryz.prog 14 := okF (F := S N) [] Tryz.func14 (by kernel_rfl) (by rfl) mix (cok N) (pok N) fun _ => by kernel_rfl
end fA16
namespace law_RedoRefused
def ins : Sh := (.cons (.val (.int .i64)) (.cons (.val (.slice (.pair (.int .i64) (.pair (.int .i64) (.pair (.slice (.slice .byte)) (.slice (.int .i64))))))) s82))
def C (N : Nat) : Ctx := ⟨U, 123, fun _ => true, gam [(5, (fA29.S N).con), (6, (fA47.S N).con), (7, (law_alive.S N).con), (8, (((((law_step.S N).con).or (law_step_e.S N).con)).or (law_step_c.S N).con)), (9, (((law_gone.S N).con).or (law_gone_b.S N).con)), (10, (((fC3.S N).con).or (fA19.S N).con)), (11, (fC0.S N).con), (12, (((fC1.S N).con).or (fA4.S N).con)), (13, (((fC8.S N).con).or (fB7.S N).con)), (14, (((fC18.S N).con).or (fA16.S N).con))], gamY []⟩
theorem cok (N : Nat) : (C N).Ok Tryz.prog := ⟨U_ok, GamOk.cons (fA29.ok N) (GamOk.cons (fA47.ok N) (GamOk.cons (law_alive.ok N) (GamOk.cons (Con.or_ok (Con.or_ok (law_step.ok N) (law_step_e.ok N)) (law_step_c.ok N)) (GamOk.cons (Con.or_ok (law_gone.ok N) (law_gone_b.ok N)) (GamOk.cons (Con.or_ok (fC3.ok N) (fA19.ok N)) (GamOk.cons (fC0.ok N) (GamOk.cons (Con.or_ok (fC1.ok N) (fA4.ok N)) (GamOk.cons (Con.or_ok (fC8.ok N) (fB7.ok N)) (GamOk.cons (Con.or_ok (fC18.ok N) (fA16.ok N)) (GamOk.nil)))))))))), GamYOk.nil⟩
def code : Code := Tryz.f3.body.getD .skip
def outs : Sh := (.cons (.val .bool) .nil)
end law_RedoRefused
namespace law_RedoRefused_0
def ins : Sh := (.cons (.box 34 s85) .nil)
def ts : List Tmp := [7]
def asg : List Tmp := [8, 29, 30, 31, 32, 33, 34]
def C (N : Nat) : Ctx := { law_RedoRefused.C N with may := fun t => asg.any (Nat.beq t) }
def code : Code := (sub law_RedoRefused.code [true, true, true, false]).getD .skip
theorem cok (N : Nat) : (C N).Ok Tryz.prog := okC (law_RedoRefused.cok N) _
def alts : List Alt := [⟨.normal, [8], s98⟩, ⟨.normal, [8], s99⟩, ⟨.normal, [8], (.cons (.upd 1 54 s1) s100)⟩, ⟨.normal, [8], s101⟩]
end law_RedoRefused_0
noncomputable def law_RedoRefused_0.run (N : Nat) (room_ : Int) (used : Int) (files : (List T1)) (steps : Int) (left : Int) (dead : Bool) (rd : Int) (rd1 : Int) (rd2 : (List T1)) (rd3 : Bool) (rd4 : Bool) (rd5 : Int) (rl : (List UInt8)) (rl1 : T12) (rl2 : Int) (up : Bool) : Option T73 :=
  obind (law_step.run N room_ used files steps left dead rd rd1 rd2 rd3 rd4 rd5 rl rl1 rl2 up ((3 : Int), (0 : Int), ([] : List (List UInt8)), ([] : List Int))) fun y => match y with
  | .inl ((room1, used1, files1, steps1, left1, dead1, _), (_, _, v, v1, v2, v3, v4, v5, v6, v7, v8, v9, _), b, _) =>
      some (.inl ((room1, used1, files1, steps1, left1, dead1, ()), ((), (), v, v1, v2, v3, v4, v5, v6, v7, v8, v9, ()), b, ()))
  | .inr (.inl ((room2, used2, files2, steps2, left2, dead2, _), (_, (_, name, l, size, _), v10, v11, v12, v13, v14, v15, v16, v17, v18, v19, _), b1, _)) =>
      some (.inr (.inl ((room2, used2, files2, steps2, left2, dead2, ()), ((), ((), name, l, size, ()), v10, v11, v12, v13, v14, v15, v16, v17, v18, v19, ()), b1, ())))
  | .inr (.inr (.inl ((room3, used3, files3, steps3, left3, dead3, _), ((room4, used4, files4, steps4, left4, dead4, _), _, v20, v21, v22, v23, v24, v25, v26, v27, v28, v29, _), b2, _))) =>
      some (.inr (.inr (.inl ((room3, used3, files3, steps3, left3, dead3, ()), ((room4, used4, files4, steps4, left4, dead4, ()), (), v20, v21, v22, v23, v24, v25, v26, v27, v28, v29, ()), b2, ()))))
  | .inr (.inr (.inr ((room5, used5, files5, steps5, left5, dead5, _), ((room6, used6, files6, steps6, left6, dead6, _), (_, name1, l1, size1, _), v30, v31, v32, v33, v34, v35, v36, v37, v38, v39, _), b3, _))) =>
      some (.inr (.inr (.inr ((room5, used5, files5, steps5, left5, dead5, ()), ((room6, used6, files6, steps6, left6, dead6, ()), ((), name1, l1, size1, ()), v30, v31, v32, v33, v34, v35, v36, v37, v38, v39, ()), b3, ()))))
namespace law_RedoRefused_0
def fn (N : Nat) : Sh.den ins → Option (altsDen alts) := fun (((a, b, c, d, e, f, _), _, g, h, i, j, k, l, m, o, p, q, _), _) => law_RedoRefused_0.run N a b c d e f g h i j k l m o p q
def P (N : Nat) : Ps := ⟨ts, ins, asg, alts, fn N⟩
def lam (N : Nat) : Pcs := pcs []
theorem pok (N : Nat) : (lam N).Ok Tryz.prog (C N) code := pcsOk_nil
theorem ok (N : Nat) : ((P N).pc (law_RedoRefused.C N)).Ok Tryz.prog (law_RedoRefused.C N) code := okP (F := P N) (law_RedoRefused.cok N) mix (pok N) fun _ => by kernel_rfl
end law_RedoRefused_0
namespace law_RedoRefused_1
def ins0 : Sh := (.cons (.box 34 (.cons (.box 54 (.cons (.val (.int .i64)) (.cons (.val (.int .i64)) (.cons (.own 3000000 (.pair .str (.pair (.slice .byte) (.int .i64)))) (.cons (.val (.int .i64)) (.cons (.val (.int .i64)) (.cons (.val .bool) .nil))))))) (.cons (.nilp) (.cons (.val (.int .i64)) (.cons (.val (.int .i64)) (.cons (.val (.slice (.pair .str (.pair (.slice .byte) (.int .i64))))) (.cons (.val .bool) (.cons (.val .bool) (.cons (.val (.int .i64)) (.cons (.val .str) (.cons (.val (.slice (.slice .byte))) (.cons (.val (.int .i64)) (.cons (.val .bool) .nil))))))))))))) (.cons (.val .bool) (.cons (.val (.slice (.pair (.int .i64) (.pair (.int .i64) (.pair (.slice (.slice .byte)) (.slice (.int .i64))))))) (.cons (.val (.int .i64)) (.cons (.val (.int .i64)) .nil)))))
def ins1 : Sh := (.cons (.box 34 (.cons (.box 54 (.cons (.val (.int .i64)) (.cons (.val (.int .i64)) (.cons (.own 3000000 (.pair .str (.pair (.slice .byte) (.int .i64)))) (.cons (.val (.int .i64)) (.cons (.val (.int .i64)) (.cons (.val .bool) .nil))))))) (.cons (.box 69 (.cons (.ref 1) (.cons (.val .str) (.cons (.own 43 (.slice .byte)) (.cons (.val (.int .i64)) .nil))))) (.cons (.val (.int .i64)) (.cons (.val (.int .i64)) (.cons (.val (.slice (.pair .str (.pair (.slice .byte) (.int .i64))))) (.cons (.val .bool) (.cons (.val .bool) (.cons (.val (.int .i64)) (.cons (.val .str) (.cons (.val (.slice (.slice .byte))) (.cons (.val (.int .i64)) (.cons (.val .bool) .nil))))))))))))) (.cons (.val .bool) (.cons (.val (.slice (.pair (.int .i64) (.pair (.int .i64) (.pair (.slice (.slice .byte)) (.slice (.int .i64))))))) (.cons (.val (.int .i64)) (.cons (.val (.int .i64)) .nil)))))
def heads : List Sh := [ins0, ins1]
def ts : List Tmp := [7, 8, 35, 36, 37]
def asg : List Tmp := [8, 10, 37, 38, 39, 40, 41, 42, 43, 44, 45, 46, 47, 48, 49, 50, 51, 52, 53]
def C (N : Nat) : Ctx := { law_RedoRefused.C N with may := fun t => asg.any (Nat.beq t) }
def code : Code := loopBody (sub law_RedoRefused.code [true, true, true, true, false, true, false])
theorem cok (N : Nat) : (C N).Ok Tryz.prog := okC (law_RedoRefused.cok N) _
def alts : List Alt := [⟨(.exit 0), [8], s100⟩, ⟨(.exit 0), [8], s103⟩]
end law_RedoRefused_1
noncomputable def law_RedoRefused_1.go (N : Nat) : Nat → (T84 ⊕ T85) → Option (T81 ⊕ T82)
  | 0, _ => none
  | fuel + 1, .inl (((room_, used, files, steps, left, dead, ()), (), rd, rd1, rd2, rd3, rd4, rd5, rl, rl1, rl2, up, ()), ok_, t35, t36, t37, ()) =>
    bif decide (t37 < t36) then
      bif inB t37 t35.length then
        bif ok_ then
          bif !(decide ((t35.getD t37.toNat ((0 : Int), (0 : Int), ([] : List (List UInt8)), ([] : List Int))).1 = (4 : Int))) then
            obind (law_step_c.run N room_ used files steps left dead rd rd1 rd2 rd3 rd4 rd5 rl rl1 rl2 up (t35.getD t37.toNat ((0 : Int), (0 : Int), ([] : List (List UInt8)), ([] : List Int)))) fun y => match y with
            | .inl ((room1, used1, files1, steps1, left1, dead1, _), (_, _, v, v1, v2, v3, v4, v5, v6, v7, v8, v9, _), b, _) =>
                law_RedoRefused_1.go N fuel (.inl (((room1, used1, files1, steps1, left1, dead1, ()), (), v, v1, v2, v3, v4, v5, v6, v7, v8, v9, ()), b, t35, t36, IntKind.i64.wrap (t37 + (1 : Int)), ()))
            | .inr (.inl ((room2, used2, files2, steps2, left2, dead2, _), (_, (_, name, l, size, _), v10, v11, v12, v13, v14, v15, v16, v17, v18, v19, _), b1, _)) =>
                law_RedoRefused_1.go N fuel (.inr (((room2, used2, files2, steps2, left2, dead2, ()), ((), name, l, size, ()), v10, v11, v12, v13, v14, v15, v16, v17, v18, v19, ()), b1, t35, t36, IntKind.i64.wrap (t37 + (1 : Int)), ()))
            | .inr (.inr (.inl ((room3, used3, files3, steps3, left3, dead3, _), ((room4, used4, files4, steps4, left4, dead4, _), _, v20, v21, v22, v23, v24, v25, v26, v27, v28, v29, _), b2, _))) =>
                law_RedoRefused_1.go N fuel (.inl (((room4, used4, files4, steps4, left4, dead4, ()), (), v20, v21, v22, v23, v24, v25, v26, v27, v28, v29, ()), b2, t35, t36, IntKind.i64.wrap (t37 + (1 : Int)), ()))
            | .inr (.inr (.inr ((room5, used5, files5, steps5, left5, dead5, _), ((room6, used6, files6, steps6, left6, dead6, _), (_, name1, l1, size1, _), v30, v31, v32, v33, v34, v35, v36, v37, v38, v39, _), b3, _))) =>
                law_RedoRefused_1.go N fuel (.inr (((room6, used6, files6, steps6, left6, dead6, ()), ((), name1, l1, size1, ()), v30, v31, v32, v33, v34, v35, v36, v37, v38, v39, ()), b3, t35, t36, IntKind.i64.wrap (t37 + (1 : Int)), ()))
          else law_RedoRefused_1.go N fuel (.inl (((room_, used, files, steps, left, dead, ()), (), rd, rd1, rd2, rd3, rd4, rd5, rl, rl1, rl2, up, ()), ok_, t35, t36, IntKind.i64.wrap (t37 + (1 : Int)), ()))
        else law_RedoRefused_1.go N fuel (.inl (((room_, used, files, steps, left, dead, ()), (), rd, rd1, rd2, rd3, rd4, rd5, rl, rl1, rl2, up, ()), ok_, t35, t36, IntKind.i64.wrap (t37 + (1 : Int)), ()))
      else none
    else some (.inl (((room_, used, files, steps, left, dead, ()), (), rd, rd1, rd2, rd3, rd4, rd5, rl, rl1, rl2, up, ()), ok_, ()))
  | fuel + 1, .inr (((room_, used, files, steps, left, dead, ()), ((), name, l, size, ()), rd, rd1, rd2, rd3, rd4, rd5, rl, rl1, rl2, up, ()), ok_, t35, t36, t37, ()) =>
    bif decide (t37 < t36) then
      bif inB t37 t35.length then
        bif ok_ then
          bif !(decide ((t35.getD t37.toNat ((0 : Int), (0 : Int), ([] : List (List UInt8)), ([] : List Int))).1 = (4 : Int))) then
            obind (law_step_e.run N room_ used files steps left dead name l size rd rd1 rd2 rd3 rd4 rd5 rl rl1 rl2 up (t35.getD t37.toNat ((0 : Int), (0 : Int), ([] : List (List UInt8)), ([] : List Int)))) fun y => match y with
            | .inl ((room1, used1, files1, steps1, left1, dead1, _), (_, name1, l1, size1, _), (_, _, v, v1, v2, v3, v4, v5, v6, v7, v8, v9, _), b, _) =>
                law_RedoRefused_1.go N fuel (.inl (((room1, used1, files1, steps1, left1, dead1, ()), (), v, v1, v2, v3, v4, v5, v6, v7, v8, v9, ()), b, t35, t36, IntKind.i64.wrap (t37 + (1 : Int)), ()))
            | .inr (.inl ((room2, used2, files2, steps2, left2, dead2, _), (_, name2, l2, size2, _), (_, (_, name3, l3, size3, _), v10, v11, v12, v13, v14, v15, v16, v17, v18, v19, _), b1, _)) =>
                law_RedoRefused_1.go N fuel (.inr (((room2, used2, files2, steps2, left2, dead2, ()), ((), name3, l3, size3, ()), v10, v11, v12, v13, v14, v15, v16, v17, v18, v19, ()), b1, t35, t36, IntKind.i64.wrap (t37 + (1 : Int)), ()))
            | .inr (.inr (.inl ((room3, used3, files3, steps3, left3, dead3, _), (_, name4, l4, size4, _), (_, _, v20, v21, v22, v23, v24, v25, v26, v27, v28, v29, _), b2, _))) =>
                law_RedoRefused_1.go N fuel (.inr (((room3, used3, files3, steps3, left3, dead3, ()), ((), name4, l4, size4, ()), v20, v21, v22, v23, v24, v25, v26, v27, v28, v29, ()), b2, t35, t36, IntKind.i64.wrap (t37 + (1 : Int)), ()))
            | .inr (.inr (.inr (.inl ((room4, used4, files4, steps4, left4, dead4, _), (_, name5, l5, size5, _), ((room5, used5, files5, steps5, left5, dead5, _), _, v30, v31, v32, v33, v34, v35, v36, v37, v38, v39, _), b3, _)))) =>
                law_RedoRefused_1.go N fuel (.inl (((room5, used5, files5, steps5, left5, dead5, ()), (), v30, v31, v32, v33, v34, v35, v36, v37, v38, v39, ()), b3, t35, t36, IntKind.i64.wrap (t37 + (1 : Int)), ()))
            | .inr (.inr (.inr (.inr ((room6, used6, files6, steps6, left6, dead6, _), (_, name6, l6, size6, _), ((room7, used7, files7, steps7, left7, dead7, _), (_, name7, l7, size7, _), v40, v41, v42, v43, v44, v45, v46, v47, v48, v49, _), b4, _)))) =>
                law_RedoRefused_1.go N fuel (.inr (((room7, used7, files7, steps7, left7, dead7, ()), ((), name7, l7, size7, ()), v40, v41, v42, v43, v44, v45, v46, v47, v48, v49, ()), b4, t35, t36, IntKind.i64.wrap (t37 + (1 : Int)), ()))
          else law_RedoRefused_1.go N fuel (.inr (((room_, used, files, steps, left, dead, ()), ((), name, l, size, ()), rd, rd1, rd2, rd3, rd4, rd5, rl, rl1, rl2, up, ()), ok_, t35, t36, IntKind.i64.wrap (t37 + (1 : Int)), ()))
        else law_RedoRefused_1.go N fuel (.inr (((room_, used, files, steps, left, dead, ()), ((), name, l, size, ()), rd, rd1, rd2, rd3, rd4, rd5, rl, rl1, rl2, up, ()), ok_, t35, t36, IntKind.i64.wrap (t37 + (1 : Int)), ()))
      else none
    else some (.inr (((room_, used, files, steps, left, dead, ()), ((), name, l, size, ()), rd, rd1, rd2, rd3, rd4, rd5, rl, rl1, rl2, up, ()), ok_, ()))
namespace law_RedoRefused_1
def g (N n : Nat) : shsDen heads → Option (altsDen alts) := law_RedoRefused_1.go N n
def P (N : Nat) : Lm := ⟨ts, heads, asg, alts, g N N⟩
def lam (N : Nat) : Pcs := pcs []
theorem pok (N : Nat) : (lam N).Ok Tryz.prog (C N) code := pcsOk_nil
theorem ok (N : Nat) : ((P N).pc (law_RedoRefused.C N)).Ok Tryz.prog (law_RedoRefused.C N) (.loop code) := lm_ok (F := P N) (law_RedoRefused.cok N) mix (pok N) (g N) (fun _ => rfl) rfl fun n y => match y with | .inl _ => by kernel_rfl | .inr (_) => by kernel_rfl
end law_RedoRefused_1
noncomputable def law_RedoRefused.run (N : Nat) (room_ : Int) (script : (List T68)) (records : T12) : Option (Bool × Unit) :=
  obind (fA29.run N room_) fun ((room1, used, files, steps, left, dead, _), _) =>
    obind (fA47.run N room_) fun (v, _) =>
      obind (law_alive.run N) fun (b, _) =>
        bif !b then
          some (false, ())
        else
          obind (law_RedoRefused_0.run N room1 used files steps left dead v.1 v.2.1 v.2.2.1 v.2.2.2.1 v.2.2.2.2.1 v.2.2.2.2.2 ([] : List UInt8) ([] : List (List UInt8)) (0 : Int) false) fun y => match y with
          | .inl ((room2, used1, files1, steps1, left1, dead1, _), (_, _, rd, rd1, rd2, rd3, rd4, rd5, rl, rl1, rl2, up, _), ok_, _) =>
              obind (law_RedoRefused_1.go N N (.inl (((room2, used1, files1, steps1, left1, dead1, ()), (), rd, rd1, rd2, rd3, rd4, rd5, rl, rl1, rl2, up, ()), ok_, script, (script.length : Int), (0 : Int), ()))) fun y => match y with
              | .inl (((room8, used7, files7, steps7, left7, dead7, _), _, rd24, rd25, rd26, rd27, rd28, rd29, rl12, rl13, rl14, up4, _), ok4, _) =>
                  bif !ok4 then
                    some (ok4, ())
                  else
                    bif !up4 then
                      some (ok4, ())
                    else
                      obind (law_gone_b.run N) fun (_, _) =>
                        obind (fA19.run N) fun (_, _) =>
                          obind (fC0.run N room8 used7 files7 steps7 left7 dead7 ([(108 : UInt8), (111 : UInt8), (103 : UInt8)] : List UInt8)) fun (l3, b1, _) =>
                            obind (fA4.run N records) fun (n_, _) =>
                              bif decide (n_ = (0 : Int)) then
                                obind (fB7.run N) fun (_, _) =>
                                  none
                              else
                                obind (fC0.run N room8 used7 files7 steps7 left7 dead7 ([(108 : UInt8), (111 : UInt8), (103 : UInt8)] : List UInt8)) fun (l4, b2, _) =>
                                  obind (law_gone_b.run N) fun (_, _) =>
                                    none
              | .inr (((room9, used8, files8, steps8, left8, dead8, _), (_, name2, l2, size2, _), rd30, rd31, rd32, rd33, rd34, rd35, rl15, rl16, rl17, up5, _), ok5, _) =>
                  bif !ok5 then
                    some (ok5, ())
                  else
                    bif !up5 then
                      some (ok5, ())
                    else
                      obind (law_gone.run N room9 used8 files8 steps8 left8 dead8 name2 l2 size2) fun ((room10, used9, files9, steps9, left9, dead9, _), (_, name3, l5, size3, _), l6, _) =>
                        obind (fC3.run N room10 used9 files9 steps9 left9 dead9 name3 l5 size3) fun (n1, _) =>
                          obind (fC0.run N room10 used9 files9 steps9 left9 dead9 ([(108 : UInt8), (111 : UInt8), (103 : UInt8)] : List UInt8)) fun (l7, b3, _) =>
                            obind (fC1.run N room10 used9 files9 steps9 left9 dead9 name3 l5 size3 records) fun ((room11, used10, files10, steps10, left10, dead10, _), (_, name4, l8, size4, _), n2, _) =>
                              bif decide (n2 = (0 : Int)) then
                                obind (fC8.run N room11 used10 files10 steps10 left10 dead10 name4 l8 size4) fun (n3, _) =>
                                  bif decide (n3 = (IntKind.i64.wrap ((l6.length : Int) + (records.length : Int)))) then
                                    obind (law_gone.run N room11 used10 files10 steps10 left10 dead10 name4 l8 size4) fun ((room12, used11, files11, steps11, left11, dead11, _), (_, name5, l9, size5, _), l10, _) =>
                                      bif okB (0 : Int) (l6.length : Int) l10.length then
                                        obind (fA16.run N ((l10.drop 0).take ((l6.length : Int) - (0 : Int)).toNat) l6) fun (b4, _) =>
                                          some (b4, ())
                                      else none
                                  else some (false, ())
                              else
                                obind (fC0.run N room11 used10 files10 steps10 left10 dead10 ([(108 : UInt8), (111 : UInt8), (103 : UInt8)] : List UInt8)) fun (l11, b5, _) =>
                                  obind (law_gone.run N room11 used10 files10 steps10 left10 dead10 name4 l8 size4) fun ((room13, used12, files12, steps12, left12, dead12, _), (_, name6, l12, size6, _), l13, _) =>
                                    obind (fC18.run N l13 l6) fun (b6, _) =>
                                      bif b6 then
                                        obind (fC3.run N room13 used12 files12 steps12 left12 dead12 name6 l12 size6) fun (n4, _) =>
                                          bif decide (n4 = n1) then
                                            some (decide (l7 = l11), ())
                                          else some (false, ())
                                      else some (false, ())
          | .inr (.inl ((room3, used2, files2, steps2, left2, dead2, _), (_, (_, name, l, size, _), rd6, rd7, rd8, rd9, rd10, rd11, rl3, rl4, rl5, up1, _), ok1, _)) =>
              obind (law_RedoRefused_1.go N N (.inr (((room3, used2, files2, steps2, left2, dead2, ()), ((), name, l, size, ()), rd6, rd7, rd8, rd9, rd10, rd11, rl3, rl4, rl5, up1, ()), ok1, script, (script.length : Int), (0 : Int), ()))) fun y => match y with
              | .inl (((room14, used13, files13, steps13, left13, dead13, _), _, rd36, rd37, rd38, rd39, rd40, rd41, rl18, rl19, rl20, up6, _), ok6, _) =>
                  bif !ok6 then
                    some (ok6, ())
                  else
                    bif !up6 then
                      some (ok6, ())
                    else
                      obind (law_gone_b.run N) fun (_, _) =>
                        obind (fA19.run N) fun (_, _) =>
                          obind (fC0.run N room14 used13 files13 steps13 left13 dead13 ([(108 : UInt8), (111 : UInt8), (103 : UInt8)] : List UInt8)) fun (l15, b7, _) =>
                            obind (fA4.run N records) fun (n5, _) =>
                              bif decide (n5 = (0 : Int)) then
                                obind (fB7.run N) fun (_, _) =>
                                  none
                              else
                                obind (fC0.run N room14 used13 files13 steps13 left13 dead13 ([(108 : UInt8), (111 : UInt8), (103 : UInt8)] : List UInt8)) fun (l16, b8, _) =>
                                  obind (law_gone_b.run N) fun (_, _) =>
                                    none
              | .inr (((room15, used14, files14, steps14, left14, dead14, _), (_, name7, l14, size7, _), rd42, rd43, rd44, rd45, rd46, rd47, rl21, rl22, rl23, up7, _), ok7, _) =>
                  bif !ok7 then
                    some (ok7, ())
                  else
                    bif !up7 then
                      some (ok7, ())
                    else
                      obind (law_gone.run N room15 used14 files14 steps14 left14 dead14 name7 l14 size7) fun ((room16, used15, files15, steps15, left15, dead15, _), (_, name8, l17, size8, _), l18, _) =>
                        obind (fC3.run N room16 used15 files15 steps15 left15 dead15 name8 l17 size8) fun (n6, _) =>
                          obind (fC0.run N room16 used15 files15 steps15 left15 dead15 ([(108 : UInt8), (111 : UInt8), (103 : UInt8)] : List UInt8)) fun (l19, b9, _) =>
                            obind (fC1.run N room16 used15 files15 steps15 left15 dead15 name8 l17 size8 records) fun ((room17, used16, files16, steps16, left16, dead16, _), (_, name9, l20, size9, _), n7, _) =>
                              bif decide (n7 = (0 : Int)) then
                                obind (fC8.run N room17 used16 files16 steps16 left16 dead16 name9 l20 size9) fun (n8, _) =>
                                  bif decide (n8 = (IntKind.i64.wrap ((l18.length : Int) + (records.length : Int)))) then
                                    obind (law_gone.run N room17 used16 files16 steps16 left16 dead16 name9 l20 size9) fun ((room18, used17, files17, steps17, left17, dead17, _), (_, name10, l21, size10, _), l22, _) =>
                                      bif okB (0 : Int) (l18.length : Int) l22.length then
                                        obind (fA16.run N ((l22.drop 0).take ((l18.length : Int) - (0 : Int)).toNat) l18) fun (b10, _) =>
                                          some (b10, ())
                                      else none
                                  else some (false, ())
                              else
                                obind (fC0.run N room17 used16 files16 steps16 left16 dead16 ([(108 : UInt8), (111 : UInt8), (103 : UInt8)] : List UInt8)) fun (l23, b11, _) =>
                                  obind (law_gone.run N room17 used16 files16 steps16 left16 dead16 name9 l20 size9) fun ((room19, used18, files18, steps18, left18, dead18, _), (_, name11, l24, size11, _), l25, _) =>
                                    obind (fC18.run N l25 l18) fun (b12, _) =>
                                      bif b12 then
                                        obind (fC3.run N room19 used18 files18 steps18 left18 dead18 name11 l24 size11) fun (n9, _) =>
                                          bif decide (n9 = n6) then
                                            some (decide (l19 = l23), ())
                                          else some (false, ())
                                      else some (false, ())
          | .inr (.inr (.inl ((room4, used3, files3, steps3, left3, dead3, _), ((room5, used4, files4, steps4, left4, dead4, _), _, rd12, rd13, rd14, rd15, rd16, rd17, rl6, rl7, rl8, up2, _), ok2, _))) =>
              obind (law_RedoRefused_1.go N N (.inl (((room5, used4, files4, steps4, left4, dead4, ()), (), rd12, rd13, rd14, rd15, rd16, rd17, rl6, rl7, rl8, up2, ()), ok2, script, (script.length : Int), (0 : Int), ()))) fun y => match y with
              | .inl (((room20, used19, files19, steps19, left19, dead19, _), _, rd48, rd49, rd50, rd51, rd52, rd53, rl24, rl25, rl26, up8, _), ok8, _) =>
                  bif !ok8 then
                    some (ok8, ())
                  else
                    bif !up8 then
                      some (ok8, ())
                    else
                      obind (law_gone_b.run N) fun (_, _) =>
                        obind (fA19.run N) fun (_, _) =>
                          obind (fC0.run N room20 used19 files19 steps19 left19 dead19 ([(108 : UInt8), (111 : UInt8), (103 : UInt8)] : List UInt8)) fun (l27, b13, _) =>
                            obind (fA4.run N records) fun (n10, _) =>
                              bif decide (n10 = (0 : Int)) then
                                obind (fB7.run N) fun (_, _) =>
                                  none
                              else
                                obind (fC0.run N room20 used19 files19 steps19 left19 dead19 ([(108 : UInt8), (111 : UInt8), (103 : UInt8)] : List UInt8)) fun (l28, b14, _) =>
                                  obind (law_gone_b.run N) fun (_, _) =>
                                    none
              | .inr (((room21, used20, files20, steps20, left20, dead20, _), (_, name12, l26, size12, _), rd54, rd55, rd56, rd57, rd58, rd59, rl27, rl28, rl29, up9, _), ok9, _) =>
                  bif !ok9 then
                    some (ok9, ())
                  else
                    bif !up9 then
                      some (ok9, ())
                    else
                      obind (law_gone.run N room21 used20 files20 steps20 left20 dead20 name12 l26 size12) fun ((room22, used21, files21, steps21, left21, dead21, _), (_, name13, l29, size13, _), l30, _) =>
                        obind (fC3.run N room22 used21 files21 steps21 left21 dead21 name13 l29 size13) fun (n11, _) =>
                          obind (fC0.run N room22 used21 files21 steps21 left21 dead21 ([(108 : UInt8), (111 : UInt8), (103 : UInt8)] : List UInt8)) fun (l31, b15, _) =>
                            obind (fC1.run N room22 used21 files21 steps21 left21 dead21 name13 l29 size13 records) fun ((room23, used22, files22, steps22, left22, dead22, _), (_, name14, l32, size14, _), n12, _) =>
                              bif decide (n12 = (0 : Int)) then
                                obind (fC8.run N room23 used22 files22 steps22 left22 dead22 name14 l32 size14) fun (n13, _) =>
                                  bif decide (n13 = (IntKind.i64.wrap ((l30.length : Int) + (records.length : Int)))) then
                                    obind (law_gone.run N room23 used22 files22 steps22 left22 dead22 name14 l32 size14) fun ((room24, used23, files23, steps23, left23, dead23, _), (_, name15, l33, size15, _), l34, _) =>
                                      bif okB (0 : Int) (l30.length : Int) l34.length then
                                        obind (fA16.run N ((l34.drop 0).take ((l30.length : Int) - (0 : Int)).toNat) l30) fun (b16, _) =>
                                          some (b16, ())
                                      else none
                                  else some (false, ())
                              else
                                obind (fC0.run N room23 used22 files22 steps22 left22 dead22 ([(108 : UInt8), (111 : UInt8), (103 : UInt8)] : List UInt8)) fun (l35, b17, _) =>
                                  obind (law_gone.run N room23 used22 files22 steps22 left22 dead22 name14 l32 size14) fun ((room25, used24, files24, steps24, left24, dead24, _), (_, name16, l36, size16, _), l37, _) =>
                                    obind (fC18.run N l37 l30) fun (b18, _) =>
                                      bif b18 then
                                        obind (fC3.run N room25 used24 files24 steps24 left24 dead24 name16 l36 size16) fun (n14, _) =>
                                          bif decide (n14 = n11) then
                                            some (decide (l31 = l35), ())
                                          else some (false, ())
                                      else some (false, ())
          | .inr (.inr (.inr ((room6, used5, files5, steps5, left5, dead5, _), ((room7, used6, files6, steps6, left6, dead6, _), (_, name1, l1, size1, _), rd18, rd19, rd20, rd21, rd22, rd23, rl9, rl10, rl11, up3, _), ok3, _))) =>
              obind (law_RedoRefused_1.go N N (.inr (((room7, used6, files6, steps6, left6, dead6, ()), ((), name1, l1, size1, ()), rd18, rd19, rd20, rd21, rd22, rd23, rl9, rl10, rl11, up3, ()), ok3, script, (script.length : Int), (0 : Int), ()))) fun y => match y with
              | .inl (((room26, used25, files25, steps25, left25, dead25, _), _, rd60, rd61, rd62, rd63, rd64, rd65, rl30, rl31, rl32, up10, _), ok10, _) =>
                  bif !ok10 then
                    some (ok10, ())
                  else
                    bif !up10 then
                      some (ok10, ())
                    else
                      obind (law_gone_b.run N) fun (_, _) =>
                        obind (fA19.run N) fun (_, _) =>
                          obind (fC0.run N room26 used25 files25 steps25 left25 dead25 ([(108 : UInt8), (111 : UInt8), (103 : UInt8)] : List UInt8)) fun (l39, b19, _) =>
                            obind (fA4.run N records) fun (n15, _) =>
                              bif decide (n15 = (0 : Int)) then
                                obind (fB7.run N) fun (_, _) =>
                                  none
                              else
                                obind (fC0.run N room26 used25 files25 steps25 left25 dead25 ([(108 : UInt8), (111 : UInt8), (103 : UInt8)] : List UInt8)) fun (l40, b20, _) =>
                                  obind (law_gone_b.run N) fun (_, _) =>
                                    none
              | .inr (((room27, used26, files26, steps26, left26, dead26, _), (_, name17, l38, size17, _), rd66, rd67, rd68, rd69, rd70, rd71, rl33, rl34, rl35, up11, _), ok11, _) =>
                  bif !ok11 then
                    some (ok11, ())
                  else
                    bif !up11 then
                      some (ok11, ())
                    else
                      obind (law_gone.run N room27 used26 files26 steps26 left26 dead26 name17 l38 size17) fun ((room28, used27, files27, steps27, left27, dead27, _), (_, name18, l41, size18, _), l42, _) =>
                        obind (fC3.run N room28 used27 files27 steps27 left27 dead27 name18 l41 size18) fun (n16, _) =>
                          obind (fC0.run N room28 used27 files27 steps27 left27 dead27 ([(108 : UInt8), (111 : UInt8), (103 : UInt8)] : List UInt8)) fun (l43, b21, _) =>
                            obind (fC1.run N room28 used27 files27 steps27 left27 dead27 name18 l41 size18 records) fun ((room29, used28, files28, steps28, left28, dead28, _), (_, name19, l44, size19, _), n17, _) =>
                              bif decide (n17 = (0 : Int)) then
                                obind (fC8.run N room29 used28 files28 steps28 left28 dead28 name19 l44 size19) fun (n18, _) =>
                                  bif decide (n18 = (IntKind.i64.wrap ((l42.length : Int) + (records.length : Int)))) then
                                    obind (law_gone.run N room29 used28 files28 steps28 left28 dead28 name19 l44 size19) fun ((room30, used29, files29, steps29, left29, dead29, _), (_, name20, l45, size20, _), l46, _) =>
                                      bif okB (0 : Int) (l42.length : Int) l46.length then
                                        obind (fA16.run N ((l46.drop 0).take ((l42.length : Int) - (0 : Int)).toNat) l42) fun (b22, _) =>
                                          some (b22, ())
                                      else none
                                  else some (false, ())
                              else
                                obind (fC0.run N room29 used28 files28 steps28 left28 dead28 ([(108 : UInt8), (111 : UInt8), (103 : UInt8)] : List UInt8)) fun (l47, b23, _) =>
                                  obind (law_gone.run N room29 used28 files28 steps28 left28 dead28 name19 l44 size19) fun ((room31, used30, files30, steps30, left30, dead30, _), (_, name21, l48, size21, _), l49, _) =>
                                    obind (fC18.run N l49 l42) fun (b24, _) =>
                                      bif b24 then
                                        obind (fC3.run N room31 used30 files30 steps30 left30 dead30 name21 l48 size21) fun (n19, _) =>
                                          bif decide (n19 = n16) then
                                            some (decide (l43 = l47), ())
                                          else some (false, ())
                                      else some (false, ())
namespace law_RedoRefused
def fn (N : Nat) : Sh.den ins → Option (Sh.den outs) := fun (a, b, c, _) => law_RedoRefused.run N a b c
def S (N : Nat) : Fs := ⟨ins, outs, fn N⟩
def lam (N : Nat) : Pcs := pcs [([true, true, true, false], (law_RedoRefused_0.P N).pc (C N)), ([true, true, true, true, false, true, false], (law_RedoRefused_1.P N).pc (C N))]
theorem pok (N : Nat) : (lam N).Ok Tryz.prog (C N) code := pcsOk_cons (c1 := law_RedoRefused_0.code) (by kernel_rfl) (law_RedoRefused_0.ok N) (pcsOk_cons (c1 := .loop law_RedoRefused_1.code) (by kernel_rfl) (law_RedoRefused_1.ok N) (pcsOk_nil))
theorem ok (N : Nat) : (S N).con.Ok Tryz.prog 3 := okF (F := S N) [] Tryz.func3 (by kernel_rfl) (by rfl) mix (cok N) (pok N) fun _ => by kernel_rfl
end law_RedoRefused
end
end Go.Hay.YthlojpcjafefjaaGreat
