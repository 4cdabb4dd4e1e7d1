/- Functions of the program as functions of Lean, and that they are what the program computes. Conditions: none. -/
import Derived.Test.YthlojpcjafefjaaGreatFa
set_option linter.unusedVariables false
namespace Go.Hay.YthlojpcjafefjaaGreat
open Go Go.Hay Go.Proofs
noncomputable section
set_option maxRecDepth 100000
namespace law_laid_b
def fn (N : Nat) : Sh.den ins → Option (Sh.den outs) := fun (((a, b, c, d, e, f, _), _, g, h, i, j, k, l, m, o, p, q, _), (_, r, s, t, _), u, v, w, x, _) => law_laid_b.run N a b c d e f g h i j k l m o p q r s t u v w x
def S (N : Nat) : Fs := ⟨ins, outs, fn N⟩
def lam (N : Nat) : Pcs := pcs []
theorem pok (N : Nat) : (lam N).Ok Tryz.prog (C N) code := pcsOk_nil
theorem ok (N : Nat) : (S N).con.Ok Tryz.prog 19 := okF (F := S N) [] Tryz.func19 (by kernel_rfl) (by rfl) mix (cok N) (pok N) fun _ => by kernel_rfl
end law_laid_b
namespace fA34
def ins : Sh := s2
def C (N : Nat) : Ctx := ⟨U, 24, fun _ => true, gam [], gamY []⟩
theorem cok (N : Nat) : (C N).Ok Tryz.prog := ⟨U_ok, GamOk.nil, GamYOk.nil⟩
def code : Code := Tryz.f82.body.getD .skip
def outs : Sh := (.cons (.val (.int .i64)) .nil)
end fA34
namespace fC39
def ins : Sh := (.cons (.rbox 28 s55) s13)
def ts : List Tmp := [1, 3, 4]
def asg : List Tmp := [3, 4, 7, 8, 9, 10, 11, 12, 13, 14, 15, 16, 17, 18, 19, 20, 21, 22]
def C (N : Nat) : Ctx := { fA34.C N with may := fun t => asg.any (Nat.beq t) }
def code : Code := loopBody (sub fA34.code [true, true, false, true, false])
theorem cok (N : Nat) : (C N).Ok Tryz.prog := okC (fA34.cok N) _
def alts : List Alt := [⟨(.exit 0), [3], (.cons (.val (.int .i64)) .nil)⟩]
end fC39
noncomputable def fC39.go (N : Nat) : Nat → Int → Int → (List T1) → Bool → Bool → Int → Int → Int → Option ((Int × Unit))
  | 0, _, _, _, _, _, _, _, _ => none
  | fuel + 1, room_, steps, files, armed, dead, left, n_, i =>
    bif decide (i < (files.length : Int)) then
      bif inB i files.length then
        fC39.go N fuel room_ steps files armed dead left (IntKind.i64.wrap (n_ - ((files.getD i.toNat (([] : List UInt8), ([] : List UInt8), (0 : Int))).2.1.length : Int))) (IntKind.i64.wrap (i + (1 : Int)))
      else none
    else some (n_, ())
namespace fC39
def g (N n : Nat) : Sh.den ins → Option (altsDen alts) := fun ((a, b, c, d, e, f, _), g, h, _) => fC39.go N n a b c d e f g h
def P (N : Nat) : Ps := ⟨ts, ins, asg, alts, g N N⟩
def lam (N : Nat) : Pcs := pcs []
theorem pok (N : Nat) : (lam N).Ok Tryz.prog (C N) code := pcsOk_nil
theorem ok (N : Nat) : ((P N).pc (fA34.C N)).Ok Tryz.prog (fA34.C N) (.loop code) := okL (F := P N) (g N) (fA34.cok N) mix (pok N) (fun _ => rfl) rfl fun _ _ => by kernel_rfl
end fC39
noncomputable def fA34.run (N : Nat) (d : T5) : Option (Int × Unit) :=
  obind (fC39.go N N d.1 d.2.1 d.2.2.1 d.2.2.2.1 d.2.2.2.2.1 d.2.2.2.2.2 d.1 (0 : Int)) fun (n_, _) =>
    some (n_, ())
namespace fA34
def fn (N : Nat) : Sh.den ins → Option (Sh.den outs) := fun (a, _) => fA34.run N a
def S (N : Nat) : Fs := ⟨ins, outs, fn N⟩
def lam (N : Nat) : Pcs := pcs [([true, true, false, true, false], (fC39.P N).pc (C N))]
theorem pok (N : Nat) : (lam N).Ok Tryz.prog (C N) code := pcsOk_cons (c1 := .loop fC39.code) (by kernel_rfl) (fC39.ok N) (pcsOk_nil)
theorem ok (N : Nat) : (S N).con.Ok Tryz.prog 82 := okF (F := S N) [] Tryz.func82 (by kernel_rfl) (by rfl) mix (cok N) (pok N) fun _ => by kernel_rfl
end fA34
namespace fA16
def ins : Sh := (.cons (.val (.pair (.int .i64) (.pair (.int .i64) (.pair (.slice (.pair .str (.pair (.slice .byte) (.int .i64)))) (.pair .bool (.pair .bool (.int .i64))))))) (.cons (.val .str) (.cons (.rown 5 .byte) .nil)))
def C (N : Nat) : Ctx := ⟨U, 51, fun _ => true, gam [(81, (fC25.S N).con), (82, (fA34.S N).con), (45, (ref_At.S N).con), (51, (fB19.S N).con), (79, (fD20.S N).con), (78, (fA41.S N).con)], gamY []⟩
theorem cok (N : Nat) : (C N).Ok Tryz.prog := ⟨U_ok, GamOk.cons (fC25.ok N) (GamOk.cons (fA34.ok N) (GamOk.cons (ref_At.ok N) (GamOk.cons (fB19.ok N) (GamOk.cons (fD20.ok N) (GamOk.cons (fA41.ok N) (GamOk.nil)))))), GamYOk.nil⟩
def code : Code := Tryz.f48.body.getD .skip
def outs : Sh := s65
end fA16
namespace fB35
def ins : Sh := (.cons (.rbox 28 s55) (.cons (.box 83 (.cons (.val .str) s25)) (.cons (.val (.int .i64)) .nil)))
def ts : List Tmp := [3, 8, 9]
def asg : List Tmp := [29, 30, 31, 32, 33, 34, 35]
def C (N : Nat) : Ctx := { fA16.C N with may := fun t => asg.any (Nat.beq t) }
def code : Code := (sub fA16.code [true, true, true, true, true, true, false]).getD .skip
theorem cok (N : Nat) : (C N).Ok Tryz.prog := okC (fA16.cok N) _
def alts : List Alt := [⟨.normal, [], (.cons (.upd 1 83 (.cons (.val .str) s35)) .nil)⟩]
end fB35
noncomputable def fB35.run (N : Nat) (room_ : Int) (steps : Int) (files : (List T1)) (armed : Bool) (dead : Bool) (left : Int) (name : (List UInt8)) (bytes : (List UInt8)) (last : Int) (k : Int) : Option ((T58 × Unit)) :=
  bif decide (k ≥ (0 : Int)) then
    bif inB k files.length then
      some (((files.getD k.toNat (([] : List UInt8), ([] : List UInt8), (0 : Int))).1, (files.getD k.toNat (([] : List UInt8), ([] : List UInt8), (0 : Int))).2.1, (files.getD k.toNat (([] : List UInt8), ([] : List UInt8), (0 : Int))).2.2, ()), ())
    else none
  else some ((name, bytes, last, ()), ())
namespace fB35
def fn (N : Nat) : Sh.den ins → Option (altsDen alts) := fun ((a, b, c, d, e, f, _), (g, h, i, _), j, _) => fB35.run N a b c d e f g h i j
def P (N : Nat) : Ps := ⟨ts, ins, asg, alts, fn N⟩
def lam (N : Nat) : Pcs := pcs []
theorem pok (N : Nat) : (lam N).Ok Tryz.prog (C N) code := pcsOk_nil
theorem ok (N : Nat) : ((P N).pc (fA16.C N)).Ok Tryz.prog (fA16.C N) code := okP (F := P N) (fA16.cok N) mix (pok N) fun _ => by kernel_rfl
end fB35
noncomputable def fA16.run (N : Nat) (d : T5) (name : (List UInt8)) (b : (List UInt8)) : Option T50 :=
  bif d.2.2.2.2.1 then
    some (d, (44 : Int), ())
  else
    obind (fC25.run N name) fun (b1, _) =>
      bif !b1 then
        some (d, (40 : Int), ())
      else
        obind (fA34.run N d) fun (n_, _) =>
          bif decide ((b.length : Int) > n_) then
            some (d, (41 : Int), ())
          else
            obind (ref_At.run N d name) fun (n1, _) =>
              obind (fB35.run N d.1 d.2.1 d.2.2.1 d.2.2.2.1 d.2.2.2.2.1 d.2.2.2.2.2 name ([] : List UInt8) (0 : Int) n1) fun ((name1, bytes, last, _), _) =>
                obind (fB19.run N bytes b) fun (l, _) =>
                  obind (fD20.run N d (name1, l, last)) fun (v, _) =>
                    obind (fA41.run N v) fun (v1, b2, _) =>
                      bif b2 then
                        some (v1, (44 : Int), ())
                      else some (v1, (0 : Int), ())
namespace fA16
def fn (N : Nat) : Sh.den ins → Option (Sh.den outs) := fun (a, b, c, _) => fA16.run N a b c
def S (N : Nat) : Fs := ⟨ins, outs, fn N⟩
def lam (N : Nat) : Pcs := pcs [([true, true, true, true, true, true, false], (fB35.P N).pc (C N))]
theorem pok (N : Nat) : (lam N).Ok Tryz.prog (C N) code := pcsOk_cons (c1 := fB35.code) (by kernel_rfl) (fB35.ok N) (pcsOk_nil)
theorem ok (N : Nat) : (S N).con.Ok Tryz.prog 48 := okF (F := S N) [] Tryz.func48 (by kernel_rfl) (by rfl) mix (cok N) (pok N) fun _ => by kernel_rfl
end fA16
namespace fB1
def ins : Sh := s53
def C (N : Nat) : Ctx := ⟨U, 42, fun _ => true, gam [(45, (ref_At.S N).con), (47, (ref_Do.S N).con), (48, (fA16.S N).con)], gamY []⟩
theorem cok (N : Nat) : (C N).Ok Tryz.prog := ⟨U_ok, GamOk.cons (ref_At.ok N) (GamOk.cons (ref_Do.ok N) (GamOk.cons (fA16.ok N) (GamOk.nil))), GamYOk.nil⟩
def code : Code := Tryz.f20.body.getD .skip
def outs : Sh := s66
end fB1
namespace fD35
def ins : Sh := s68
def ts : List Tmp := [1, 2, 7]
def asg : List Tmp := [7, 8, 9, 10, 11, 12, 13, 14, 15, 16, 17]
def C (N : Nat) : Ctx := { fB1.C N with may := fun t => asg.any (Nat.beq t) }
def code : Code := (sub fB1.code [true, true, false]).getD .skip
theorem cok (N : Nat) : (C N).Ok Tryz.prog := okC (fB1.cok N) _
def alts : List Alt := [⟨.normal, [7], s67⟩]
end fD35
noncomputable def fD35.run (N : Nat) (name : (List UInt8)) (room_ : Int) (steps : Int) (files : (List T1)) (armed : Bool) (dead : Bool) (left : Int) (e : Int) : Option (T52) :=
  obind (ref_At.run N (room_, steps, files, armed, dead, left) name) fun (n_, _) =>
    bif decide (n_ ≥ (0 : Int)) then
      obind (ref_Do.run N (room_, steps, files, armed, dead, left) (4 : Int) name ([] : List UInt8) (0 : Int)) fun (v, n1, _) =>
        some ((v.1, v.2.1, v.2.2.1, v.2.2.2.1, v.2.2.2.2.1, v.2.2.2.2.2, ()), n1, ())
    else some ((room_, steps, files, armed, dead, left, ()), e, ())
namespace fD35
def fn (N : Nat) : Sh.den ins → Option (altsDen alts) := fun (a, (b, c, d, e, f, g, _), h, _) => fD35.run N a b c d e f g h
def P (N : Nat) : Ps := ⟨ts, ins, asg, alts, fn N⟩
def lam (N : Nat) : Pcs := pcs []
theorem pok (N : Nat) : (lam N).Ok Tryz.prog (C N) code := pcsOk_nil
theorem ok (N : Nat) : ((P N).pc (fB1.C N)).Ok Tryz.prog (fB1.C N) code := okP (F := P N) (fB1.cok N) mix (pok N) fun _ => by kernel_rfl
end fD35
namespace fA35
def ins : Sh := s68
def ts : List Tmp := [1, 2, 7]
def asg : List Tmp := [7, 18, 19, 20, 21, 22, 23, 24, 25]
def C (N : Nat) : Ctx := { fB1.C N with may := fun t => asg.any (Nat.beq t) }
def code : Code := (sub fB1.code [true, true, true, false]).getD .skip
theorem cok (N : Nat) : (C N).Ok Tryz.prog := okC (fB1.cok N) _
def alts : List Alt := [⟨.normal, [7], s67⟩]
end fA35
noncomputable def fA35.run (N : Nat) (name : (List UInt8)) (room_ : Int) (steps : Int) (files : (List T1)) (armed : Bool) (dead : Bool) (left : Int) (e : Int) : Option (T52) :=
  bif decide (e = (0 : Int)) then
    obind (fA16.run N (room_, steps, files, armed, dead, left) name ([] : List UInt8)) fun (v, n_, _) =>
      some ((v.1, v.2.1, v.2.2.1, v.2.2.2.1, v.2.2.2.2.1, v.2.2.2.2.2, ()), n_, ())
  else some ((room_, steps, files, armed, dead, left, ()), e, ())
namespace fA35
def fn (N : Nat) : Sh.den ins → Option (altsDen alts) := fun (a, (b, c, d, e, f, g, _), h, _) => fA35.run N a b c d e f g h
def P (N : Nat) : Ps := ⟨ts, ins, asg, alts, fn N⟩
def lam (N : Nat) : Pcs := pcs []
theorem pok (N : Nat) : (lam N).Ok Tryz.prog (C N) code := pcsOk_nil
theorem ok (N : Nat) : ((P N).pc (fB1.C N)).Ok Tryz.prog (fB1.C N) code := okP (F := P N) (fB1.cok N) mix (pok N) fun _ => by kernel_rfl
end fA35
namespace fA36
def ins : Sh := s68
def ts : List Tmp := [1, 2, 7]
def asg : List Tmp := [7, 26, 27, 28, 29, 30, 31, 32, 33]
def C (N : Nat) : Ctx := { fB1.C N with may := fun t => asg.any (Nat.beq t) }
def code : Code := (sub fB1.code [true, true, true, true, false]).getD .skip
theorem cok (N : Nat) : (C N).Ok Tryz.prog := okC (fB1.cok N) _
def alts : List Alt := [⟨.normal, [7], s67⟩]
end fA36
noncomputable def fA36.run (N : Nat) (name : (List UInt8)) (room_ : Int) (steps : Int) (files : (List T1)) (armed : Bool) (dead : Bool) (left : Int) (e : Int) : Option (T52) :=
  bif decide (e = (0 : Int)) then
    obind (ref_Do.run N (room_, steps, files, armed, dead, left) (1 : Int) name ([] : List UInt8) (0 : Int)) fun (v, n_, _) =>
      some ((v.1, v.2.1, v.2.2.1, v.2.2.2.1, v.2.2.2.2.1, v.2.2.2.2.2, ()), n_, ())
  else some ((room_, steps, files, armed, dead, left, ()), e, ())
namespace fA36
def fn (N : Nat) : Sh.den ins → Option (altsDen alts) := fun (a, (b, c, d, e, f, g, _), h, _) => fA36.run N a b c d e f g h
def P (N : Nat) : Ps := ⟨ts, ins, asg, alts, fn N⟩
def lam (N : Nat) : Pcs := pcs []
theorem pok (N : Nat) : (lam N).Ok Tryz.prog (C N) code := pcsOk_nil
theorem ok (N : Nat) : ((P N).pc (fB1.C N)).Ok Tryz.prog (fB1.C N) code := okP (F := P N) (fB1.cok N) mix (pok N) fun _ => by kernel_rfl
end fA36
noncomputable def fB1.run (N : Nat) (d : T5) (name : (List UInt8)) : Option T54 :=
  obind (fD35.run N name d.1 d.2.1 d.2.2.1 d.2.2.2.1 d.2.2.2.2.1 d.2.2.2.2.2 (0 : Int)) fun ((room_, steps, files, armed, dead, left, _), e, _) =>
    obind (fA35.run N name room_ steps files armed dead left e) fun ((room1, steps1, files1, armed1, dead1, left1, _), e1, _) =>
      obind (fA36.run N name room1 steps1 files1 armed1 dead1 left1 e1) fun ((room2, steps2, files2, armed2, dead2, left2, _), e2, _) =>
        bif !(decide (e2 = (0 : Int))) then
          some ((room2, steps2, files2, armed2, dead2, left2), (([] : List UInt8), ([] : List (List UInt8)), (0 : Int)), e2, ())
        else some ((room2, steps2, files2, armed2, dead2, left2), (name, ([] : List (List UInt8)), (0 : Int)), (0 : Int), ())
namespace fB1
def fn (N : Nat) : Sh.den ins → Option (Sh.den outs) := fun (a, b, _) => fB1.run N a b
def S (N : Nat) : Fs := ⟨ins, outs, fn N⟩
def lam (N : Nat) : Pcs := pcs [([true, true, false], (fD35.P N).pc (C N)), ([true, true, true, false], (fA35.P N).pc (C N)), ([true, true, true, true, false], (fA36.P N).pc (C N))]
theorem pok (N : Nat) : (lam N).Ok Tryz.prog (C N) code := pcsOk_cons (c1 := fD35.code) (by kernel_rfl) (fD35.ok N) (pcsOk_cons (c1 := fA35.code) (by kernel_rfl) (fA35.ok N) (pcsOk_cons (c1 := fA36.code) (by kernel_rfl) (fA36.ok N) (pcsOk_nil)))
theorem ok (N : Nat) : (S N).con.Ok Tryz.prog 20 := okF (F := S N) [] Tryz.func20 (by kernel_rfl) (by rfl) mix (cok N) (pok N) fun _ => by kernel_rfl
end fB1
namespace fC12
def ins : Sh := (.cons (.box 54 s1) (.cons (.val (.int .i64)) .nil))
def C (N : Nat) : Ctx := ⟨U, 14, fun _ => true, gam [], gamY []⟩
theorem cok (N : Nat) : (C N).Ok Tryz.prog := ⟨U_ok, GamOk.nil, GamYOk.nil⟩
def code : Code := Tryz.f21.body.getD .skip
def outs : Sh := (.cons (.upd 0 54 s1) .nil)
end fC12
noncomputable def fC12.run (N : Nat) (room_ : Int) (used : Int) (files : (List T1)) (steps : Int) (left : Int) (dead : Bool) (jO_ : Int) : Option (T2 × Unit) :=
  bif !dead then
    some ((room_, used, files, steps, max jO_ (-1 : Int), dead, ()), ())
  else some ((room_, used, files, steps, left, dead, ()), ())
namespace fC12
def fn (N : Nat) : Sh.den ins → Option (Sh.den outs) := fun ((a, b, c, d, e, f, _), g, _) => fC12.run N a b c d e f g
def S (N : Nat) : Fs := ⟨ins, outs, fn N⟩
def lam (N : Nat) : Pcs := pcs []
theorem pok (N : Nat) : (lam N).Ok Tryz.prog (C N) code := pcsOk_nil
theorem ok (N : Nat) : (S N).con.Ok Tryz.prog 21 := okF (F := S N) [] Tryz.func21 (by kernel_rfl) (by rfl) mix (cok N) (pok N) fun _ => by kernel_rfl
end fC12
namespace fB40
def ins : Sh := s65
def C (N : Nat) : Ctx := ⟨U, 14, fun _ => true, gam [], gamY []⟩
theorem cok (N : Nat) : (C N).Ok Tryz.prog := ⟨U_ok, GamOk.nil, GamYOk.nil⟩
def code : Code := Tryz.f22.body.getD .skip
def outs : Sh := s2
end fB40
noncomputable def fB40.run (N : Nat) (d : T5) (jO_ : Int) : Option (T5 × Unit) :=
  bif !d.2.2.2.2.1 then
    some ((d.1, d.2.1, d.2.2.1, decide (jO_ ≥ (0 : Int)), d.2.2.2.2.1, jO_), ())
  else some (d, ())
namespace fB40
def fn (N : Nat) : Sh.den ins → Option (Sh.den outs) := fun (a, b, _) => fB40.run N a b
def S (N : Nat) : Fs := ⟨ins, outs, fn N⟩
def lam (N : Nat) : Pcs := pcs []
theorem pok (N : Nat) : (lam N).Ok Tryz.prog (C N) code := pcsOk_nil
theorem ok (N : Nat) : (S N).con.Ok Tryz.prog 22 := okF (F := S N) [] Tryz.func22 (by kernel_rfl) (by rfl) mix (cok N) (pok N) fun _ => by kernel_rfl
end fB40
namespace fA20
def ins : Sh := (.cons (.box 54 s1) .nil)
def C (N : Nat) : Ctx := ⟨U, 4, fun _ => true, gam [], gamY []⟩
theorem cok (N : Nat) : (C N).Ok Tryz.prog := ⟨U_ok, GamOk.nil, GamYOk.nil⟩
def code : Code := Tryz.f49.body.getD .skip
def outs : Sh := (.cons (.upd 0 54 s1) (.cons (.fn 83 (.cons (.box 24 (.cons (.ref 0) .nil)) .nil)) .nil))
end fA20
noncomputable def fA20.run (N : Nat) (room_ : Int) (used : Int) (files : (List T1)) (steps : Int) (left : Int) (dead : Bool) : Option T59 :=
  some ((room_, used, files, steps, left, dead, ()), (((), ()), ()), ())
namespace fA20
def fn (N : Nat) : Sh.den ins → Option (Sh.den outs) := fun ((a, b, c, d, e, f, _), _) => fA20.run N a b c d e f
def S (N : Nat) : Fs := ⟨ins, outs, fn N⟩
def lam (N : Nat) : Pcs := pcs []
theorem pok (N : Nat) : (lam N).Ok Tryz.prog (C N) code := pcsOk_nil
theorem ok (N : Nat) : (S N).con.Ok Tryz.prog 49 := okF (F := S N) [] Tryz.func49 (by kernel_rfl) (by rfl) mix (cok N) (pok N) fun _ => by kernel_rfl
end fA20
namespace fB0
def ins : Sh := (.cons (.rown 3000000 (.pair .str (.pair (.slice .byte) (.int .i64)))) .nil)
def C (N : Nat) : Ctx := ⟨U, 4, fun _ => true, gam [], gamY []⟩
theorem cok (N : Nat) : (C N).Ok Tryz.prog := ⟨U_ok, GamOk.nil, GamYOk.nil⟩
def code : Code := Tryz.f85.body.getD .skip
def outs : Sh := (.cons (.fn 106 (.cons (.box 52 (.cons (.keep 2000000 0) .nil)) .nil)) .nil)
end fB0
noncomputable def fB0.run (N : Nat) (m : (List T1)) : Option (T33 × Unit) :=
  some ((((), ()), ()), ())
namespace fB0
def fn (N : Nat) : Sh.den ins → Option (Sh.den outs) := fun (a, _) => fB0.run N a
def S (N : Nat) : Fs := ⟨ins, outs, fn N⟩
def lam (N : Nat) : Pcs := pcs []
theorem pok (N : Nat) : (lam N).Ok Tryz.prog (C N) code := pcsOk_nil
theorem ok (N : Nat) : (S N).con.Ok Tryz.prog 85 := okF (F := S N) [] Tryz.func85 (by kernel_rfl) (by rfl) mix (cok N) (pok N) fun _ => by kernel_rfl
end fB0
def fB16.S (N : Nat) : Fs := sortedFs 106 52 9 3000000 (.pair (.slice .byte) (.int .i64))
theorem fB16.ok (N : Nat) : (fB16.S N).con.Ok Tryz.prog 84 := fB89
noncomputable def fB16.run (N : Nat) (l : List T1) : Option (T12 × Unit) := bif room l.length 16 then some (sortKeys l, ()) else none
namespace Y2
def ins : Sh := (.cons (.rbox 24 (.cons (.rbox 54 s3) .nil)) (.cons s75 (.cons (.rbox 24 (.cons (.box 54 s1) .nil)) (.cons (.val .str) .nil))))
def C (N : Nat) : Ctx := ⟨U, 54, fun _ => true, gam [(27, (fA0.S N).con), (50, (fC7.S N).con)], gamY []⟩
theorem cok (N : Nat) : (C N).Ok Tryz.prog := ⟨U_ok, GamOk.cons (fA0.ok N) (GamOk.cons (fC7.ok N) (GamOk.nil)), GamYOk.nil⟩
def code : Code := site2.body
def alts : List Alt := [⟨.normal, [], (.cons (.upd 3 38 (.cons (.val (.slice (.int .i64))) .nil)) (.cons (.upd 5 54 s1) .nil))⟩]
end Y2
namespace Y2_0
def ins : Sh := (.cons s75 (.cons (.val (.int .i64)) .nil))
def ts : List Tmp := [3, 7]
def asg : List Tmp := [7, 17, 18, 19, 20, 21, 22, 23, 24]
def C (N : Nat) : Ctx := { Y2.C N with may := fun t => asg.any (Nat.beq t) }
def code : Code := (sub Y2.code [false, true, false]).getD .skip
theorem cok (N : Nat) : (C N).Ok Tryz.prog := okC (Y2.cok N) _
def alts : List Alt := [⟨.normal, [7], (.cons (.upd 0 38 (.cons (.val (.slice (.int .i64))) .nil)) (.cons (.val (.int .i64)) .nil))⟩]
end Y2_0
noncomputable def Y2_0.run (N : Nat) (keep : (List Int)) (n_ : Int) : Option (T60) :=
  bif decide ((keep.length : Int) > (0 : Int)) then
    bif inB (0 : Int) keep.length then
      bif okB (1 : Int) (keep.length : Int) keep.length then
        some ((keep.drop 1, ()), keep.getD 0 (0 : Int), ())
      else none
    else none
  else some ((keep, ()), n_, ())
namespace Y2_0
def fn (N : Nat) : Sh.den ins → Option (altsDen alts) := fun ((a, _), b, _) => Y2_0.run N a b
def P (N : Nat) : Ps := ⟨ts, ins, asg, alts, fn N⟩
def lam (N : Nat) : Pcs := pcs []
theorem pok (N : Nat) : (lam N).Ok Tryz.prog (C N) code := pcsOk_nil
theorem ok (N : Nat) : ((P N).pc (Y2.C N)).Ok Tryz.prog (Y2.C N) code := okP (F := P N) (Y2.cok N) mix (pok N) fun _ => by kernel_rfl
end Y2_0
noncomputable def Y2.run (N : Nat) (room_ : Int) (used : Int) (files : (List T1)) (steps : Int) (left : Int) (dead : Bool) (keep : (List Int)) (room1 : Int) (used1 : Int) (files1 : (List T1)) (steps1 : Int) (left1 : Int) (dead1 : Bool) (t16 : (List UInt8)) : Option (T61) :=
  obind (Y2_0.run N keep (0 : Int)) fun ((v, _), n_, _) =>
    bif okB (0 : Int) (IntKind.i64.wrap ((mapGet files t16 (([] : List UInt8), (0 : Int))).2 + (min (max n_ (0 : Int)) (IntKind.i64.wrap (((mapGet files t16 (([] : List UInt8), (0 : Int))).1.length : Int) - (mapGet files t16 (([] : List UInt8), (0 : Int))).2))))) (mapGet files t16 (([] : List UInt8), (0 : Int))).1.length then
      obind (fA0.run N ((mapGet files t16 (([] : List UInt8), (0 : Int))).1.take (IntKind.i64.wrap ((mapGet files t16 (([] : List UInt8), (0 : Int))).2 + (min (max n_ (0 : Int)) (IntKind.i64.wrap (((mapGet files t16 (([] : List UInt8), (0 : Int))).1.length : Int) - (mapGet files t16 (([] : List UInt8), (0 : Int))).2))))).toNat)) fun (l, _) =>
        obind (fC7.run N room1 used1 files1 steps1 left1 dead1 t16 (l, IntKind.i64.wrap ((mapGet files t16 (([] : List UInt8), (0 : Int))).2 + (min (max n_ (0 : Int)) (IntKind.i64.wrap (((mapGet files t16 (([] : List UInt8), (0 : Int))).1.length : Int) - (mapGet files t16 (([] : List UInt8), (0 : Int))).2)))))) fun ((room2, used2, files2, steps2, left2, dead2, _), _) =>
          some ((v, ()), (room2, used2, files2, steps2, left2, dead2, ()), ())
    else none
namespace Y2
def fn (N : Nat) : Sh.den ins → Option (altsDen alts) := fun (((a, b, c, d, e, f, _), _), (g, _), ((h, i, j, k, l, m, _), _), o, _) => Y2.run N a b c d e f g h i j k l m o
def F (N : Nat) : Ys := ⟨[2, 3, 5], [16], ins, alts, fn N⟩
def yc (N : Nat) : Yc := (F N).yc
def lam (N : Nat) : Pcs := pcs [([false, true, false], (Y2_0.P N).pc (C N))]
theorem pok (N : Nat) : (lam N).Ok Tryz.prog (C N) site2.body := pcsOk_cons (c1 := Y2_0.code) (by kernel_rfl) (Y2_0.ok N) (pcsOk_nil)
theorem ev (N : Nat) (x : Sh.den ins) : evC (C N) site2.assign (pcs []) ⟨addT [2, 3, 5, 16] (bld (fun k => k) ins x 0).1 [], (bld (fun k => k) ins x 0).2.1, 1000⟩ (thenC fun s => evC (C N) site2.body (lam N) s (altK alts)) = fn N x := by kernel_rfl
theorem ok (N : Nat) : (yc N).Ok Tryz.prog 1000002 := ys_ok (σ := site2) (k := 2) (C := C N) (F := F N) (n0 := 1000) (fun _ => rfl) (cok N) mix (fun _ => rfl) (show site2.ps.toList = [16] by kernel_rfl) (show site2.ts = [2, 3, 5] by kernel_rfl) (show site2.nt = 54 by kernel_rfl) rfl rfl rfl rfl rfl pcsOk_nil (pok N) (fun x y h => (ev N x).trans h)
end Y2
namespace fC4
def ins : Sh := (.cons s76 (.cons (.rbox 24 (.cons (.ref 2) .nil)) .nil))
def C (N : Nat) : Ctx := ⟨U, 21, fun _ => true, gam [(85, (fB0.S N).con), (84, (fB16.S N).con)], gamY [(1000002, Y2.yc N)]⟩
theorem cok (N : Nat) : (C N).Ok Tryz.prog := ⟨U_ok, GamOk.cons (fB0.ok N) (GamOk.cons (fB16.ok N) (GamOk.nil)), GamYOk.cons (Y2.ok N) (GamYOk.nil)⟩
def code : Code := Tryz.f83.body.getD .skip
def outs : Sh := s77
end fC4
namespace fB8
def ins : Sh := (.cons s76 (.cons (.rown 9 .str) s13))
def ts : List Tmp := [0, 10, 11, 12]
def asg : List Tmp := [4, 12, 13, 14, 15, 16, 17, 18, 19, 20]
def C (N : Nat) : Ctx := { fC4.C N with may := fun t => asg.any (Nat.beq t) }
def code : Code := loopBody (sub fC4.code [true, false])
theorem cok (N : Nat) : (C N).Ok Tryz.prog := okC (fC4.cok N) _
def alts : List Alt := [⟨(.exit 0), [], s77⟩]
end fB8
noncomputable def fB8.go (N : Nat) : Nat → Int → Int → Int → (List T1) → Int → Int → Bool → (List Int) → Int → Int → (List T1) → Int → Int → Bool → T12 → Int → Int → Option (T63)
  | 0, _, _, _, _, _, _, _, _, _, _, _, _, _, _, _, _, _ => none
  | fuel + 1, yield, room_, used, files, steps, left, dead, yield1, room1, used1, files1, steps1, left1, dead1, t10, t11, t12 =>
    bif decide (t12 < t11) then
      bif inB t12 t10.length then
        bif decide (t12.toNat < t10.length) then
          bif decide (yield = (0 : Int)) then
            obind (Y2.run N room_ used files steps left dead yield1 room1 used1 files1 steps1 left1 dead1 (t10.getD t12.toNat ([] : List UInt8))) fun ((v, _), (room2, used2, files2, steps2, left2, dead2, _), _) =>
              fB8.go N fuel (0 : Int) room_ used files steps left dead v room2 used2 files2 steps2 left2 dead2 t10 t11 (IntKind.i64.wrap (t12 + (1 : Int)))
          else none
        else none
      else none
    else some ((yield1, ()), (room1, used1, files1, steps1, left1, dead1, ()), (yield, (), (), (), (), (), (), ()), ())
namespace fB8
def g (N n : Nat) : Sh.den ins → Option (altsDen alts) := fun ((a, _, _, _, ((b, c, d, e, f, g, _), _), (h, _), ((i, j, k, l, m, o, _), _), _), p, q, r, _) => fB8.go N n a b c d e f g h i j k l m o p q r
def P (N : Nat) : Ps := ⟨ts, ins, asg, alts, g N N⟩
def lam (N : Nat) : Pcs := pcs []
theorem pok (N : Nat) : (lam N).Ok Tryz.prog (C N) code := pcsOk_nil
theorem ok (N : Nat) : ((P N).pc (fC4.C N)).Ok Tryz.prog (fC4.C N) (.loop code) := okL (F := P N) (g N) (fC4.cok N) mix (pok N) (fun _ => rfl) rfl fun _ _ => by kernel_rfl
end fB8
noncomputable def fC4.run (N : Nat) (yield : Int) (room_ : Int) (used : Int) (files : (List T1)) (steps : Int) (left : Int) (dead : Bool) (yield1 : (List Int)) (room1 : Int) (used1 : Int) (files1 : (List T1)) (steps1 : Int) (left1 : Int) (dead1 : Bool) : Option T63 :=
  obind (fB0.run N files) fun (((_, _), _), _) =>
    obind (fB16.run N files) fun (names, _) =>
      obind (fB8.go N N yield room_ used files steps left dead yield1 room1 used1 files1 steps1 left1 dead1 names (names.length : Int) (0 : Int)) fun ((v, _), (room2, used2, files2, steps2, left2, dead2, _), (v1, _, _, _, _, _, _, _), _) =>
        some ((v, ()), (room2, used2, files2, steps2, left2, dead2, ()), (v1, (), (), (), (), (), (), ()), ())
namespace fC4
def fn (N : Nat) : Sh.den ins → Option (Sh.den outs) := fun ((a, _, _, _, ((b, c, d, e, f, g, _), _), (h, _), ((i, j, k, l, m, o, _), _), _), (_, _), _) => fC4.run N a b c d e f g h i j k l m o
def S (N : Nat) : Fs := ⟨ins, outs, fn N⟩
def lam (N : Nat) : Pcs := pcs [([true, false], (fB8.P N).pc (C N))]
theorem pok (N : Nat) : (lam N).Ok Tryz.prog (C N) code := pcsOk_cons (c1 := .loop fB8.code) (by kernel_rfl) (fB8.ok N) (pcsOk_nil)
theorem ok (N : Nat) : (S N).con.Ok Tryz.prog 83 := okF (F := S N) [] Tryz.func83 (by kernel_rfl) (by rfl) mix (cok N) (pok N) fun _ => by kernel_rfl
end fC4
namespace fA6
def ins : Sh := (.cons (.box 54 s1) (.cons (.val (.slice (.int .i64))) .nil))
def C (N : Nat) : Ctx := ⟨U, 54, fun _ => true, gam [(5, (fD30.S N).con), (49, (fA20.S N).con), (83, (fC4.S N).con)], gamY []⟩
theorem cok (N : Nat) : (C N).Ok Tryz.prog := ⟨U_ok, GamOk.cons (fD30.ok N) (GamOk.cons (fA20.ok N) (GamOk.cons (fC4.ok N) (GamOk.nil))), GamYOk.nil⟩
def code : Code := Tryz.f23.body.getD .skip
def outs : Sh := (.cons (.upd 0 54 s1) (.cons (.box 54 s1) .nil))
end fA6
noncomputable def fA6.run (N : Nat) (room_ : Int) (used : Int) (files : (List T1)) (steps : Int) (left : Int) (dead : Bool) (keep : (List Int)) : Option T64 :=
  obind (fD30.run N room_) fun ((room1, used1, files1, steps1, left1, dead1, _), _) =>
    obind (fA20.run N room_ used files steps left dead) fun ((room2, used2, files2, steps2, left2, dead2, _), ((_, _), _), _) =>
      obind (fC4.run N (0 : Int) room2 used2 files2 steps2 left2 dead2 keep room1 used1 files1 steps1 left1 dead1) fun ((v, _), (room3, used3, files3, steps3, left3, dead3, _), (v1, _, _, _, _, _, _, _), _) =>
        bif decide (v1 = (0 : Int)) then
          some ((room2, used2, files2, steps2, left2, dead2, ()), (room3, used3, files3, steps3, left3, dead3, ()), ())
        else none
namespace fA6
def fn (N : Nat) : Sh.den ins → Option (Sh.den outs) := fun ((a, b, c, d, e, f, _), g, _) => fA6.run N a b c d e f g
def S (N : Nat) : Fs := ⟨ins, outs, fn N⟩
def lam (N : Nat) : Pcs := pcs [([true, true, false, true, false], rfPc (C N) 1000002 (.tmp 15) [2, 3, 5] [.normal])]
theorem pok (N : Nat) : (lam N).Ok Tryz.prog (C N) code := pcsOk_cons (c1 := .rangeFunc (.tmp 15) site2.ps site2.assign site2.body) (by kernel_rfl) (rf_ok (k := 2) (fun _ => rfl) (cok N)) (pcsOk_nil)
theorem ok (N : Nat) : (S N).con.Ok Tryz.prog 23 := okF (F := S N) [] Tryz.func23 (by kernel_rfl) (by rfl) mix (cok N) (pok N) fun _ => by kernel_rfl
end fA6
namespace fA15
def ins : Sh := (.cons (.val (.pair (.int .i64) (.pair (.int .i64) (.pair (.slice (.pair .str (.pair (.slice .byte) (.int .i64)))) (.pair .bool (.pair .bool (.int .i64))))))) (.cons (.val (.slice (.int .i64))) .nil))
def C (N : Nat) : Ctx := ⟨U, 66, fun _ => true, gam [(51, (fB19.S N).con)], gamY []⟩
theorem cok (N : Nat) : (C N).Ok Tryz.prog := ⟨U_ok, GamOk.cons (fB19.ok N) (GamOk.nil), GamYOk.nil⟩
def code : Code := Tryz.f24.body.getD .skip
def outs : Sh := s2
end fA15
namespace fC17
def ins : Sh := (.cons (.val (.slice (.int .i64))) (.cons (.rbox 28 s55) (.cons (.box 28 s78) (.cons (.val (.int .i64)) .nil))))
def ts : List Tmp := [1, 2, 5, 6]
def asg : List Tmp := [6, 7, 8, 12, 13, 14, 15, 16, 17, 18, 19, 20, 21, 22, 23, 24, 25, 26, 27, 28, 29, 30, 31, 32, 33, 34, 35, 36, 37, 38, 39, 40, 41, 42, 43, 44, 45, 46, 47, 48, 49, 50, 51, 52, 53, 54, 55, 56, 57, 58, 59, 60, 61, 62, 63, 64]
def C (N : Nat) : Ctx := { fA15.C N with may := fun t => asg.any (Nat.beq t) }
def code : Code := loopBody (sub fA15.code [true, true, false, true, false])
theorem cok (N : Nat) : (C N).Ok Tryz.prog := okC (fA15.cok N) _
def alts : List Alt := [⟨(.exit 0), [], (.cons (.upd 1 28 s78) .nil)⟩]
end fC17
namespace fD25
def ins : Sh := (.cons (.val (.slice (.int .i64))) (.cons (.val (.int .i64)) (.cons (.rbox 83 (.cons (.val .str) s35)) (.cons (.val (.int .i64)) .nil))))
def ts : List Tmp := [1, 6, 7, 8]
def asg : List Tmp := [8, 24, 25, 26, 27, 28, 29, 30, 31, 32, 33, 34, 35, 36, 37, 38, 39, 40, 41, 42, 43, 44, 45]
def C (N : Nat) : Ctx := { fC17.C N with may := fun t => asg.any (Nat.beq t) }
def code : Code := (sub fC17.code [true, false, false, true, true, false]).getD .skip
theorem cok (N : Nat) : (C N).Ok Tryz.prog := okC (fC17.cok N) _
def alts : List Alt := [⟨.normal, [8], (.cons (.val (.int .i64)) .nil)⟩]
end fD25
noncomputable def fD25.run (N : Nat) (keep : (List Int)) (i : Int) (name : (List UInt8)) (bytes : (List UInt8)) (last : Int) (n_ : Int) : Option ((Int × Unit)) :=
  bif decide (i < (keep.length : Int)) then
    bif inB i keep.length then
      bif decide ((keep.getD i.toNat (0 : Int)) > (0 : Int)) then
        bif inB i keep.length then
          some (min (keep.getD i.toNat (0 : Int)) (IntKind.i64.wrap ((bytes.length : Int) - last)), ())
        else none
      else some (n_, ())
    else none
  else some (n_, ())
namespace fD25
def fn (N : Nat) : Sh.den ins → Option (altsDen alts) := fun (a, b, (c, d, e, _), f, _) => fD25.run N a b c d e f
def P (N : Nat) : Ps := ⟨ts, ins, asg, alts, fn N⟩
def lam (N : Nat) : Pcs := pcs []
theorem pok (N : Nat) : (lam N).Ok Tryz.prog (C N) code := pcsOk_nil
theorem ok (N : Nat) : ((P N).pc (fC17.C N)).Ok Tryz.prog (fC17.C N) code := okP (F := P N) (fC17.cok N) mix (pok N) fun _ => by kernel_rfl
end fD25
noncomputable def fC17.go (N : Nat) : Nat → (List Int) → Int → Int → (List T1) → Bool → Bool → Int → Int → Int → (List T1) → Bool → Bool → Int → Int → Option ((T51 × Unit))
  | 0, _, _, _, _, _, _, _, _, _, _, _, _, _, _ => none
  | fuel + 1, keep, room_, steps, files, armed, dead, left, room1, steps1, files1, armed1, dead1, left1, i =>
    bif decide (i < (files.length : Int)) then
      bif inB i files.length then
        obind (fD25.run N keep i (files.getD i.toNat (([] : List UInt8), ([] : List UInt8), (0 : Int))).1 (files.getD i.toNat (([] : List UInt8), ([] : List UInt8), (0 : Int))).2.1 (files.getD i.toNat (([] : List UInt8), ([] : List UInt8), (0 : Int))).2.2 (0 : Int)) fun (n_, _) =>
          bif okB (0 : Int) (IntKind.i64.wrap ((files.getD i.toNat (([] : List UInt8), ([] : List UInt8), (0 : Int))).2.2 + n_)) (files.getD i.toNat (([] : List UInt8), ([] : List UInt8), (0 : Int))).2.1.length then
            obind (fB19.run N ((files.getD i.toNat (([] : List UInt8), ([] : List UInt8), (0 : Int))).2.1.take (IntKind.i64.wrap ((files.getD i.toNat (([] : List UInt8), ([] : List UInt8), (0 : Int))).2.2 + n_)).toNat) ([] : List UInt8)) fun (l, _) =>
              bif room (files1.length + 1) 48 then
                fC17.go N fuel keep room_ steps files armed dead left room1 steps1 (files1 ++ ([((files.getD i.toNat (([] : List UInt8), ([] : List UInt8), (0 : Int))).1, l, (l.length : Int))] : List T1)) armed1 dead1 left1 (IntKind.i64.wrap (i + (1 : Int)))
              else none
          else none
      else none
    else some ((room1, steps1, files1, armed1, dead1, left1, ()), ())
namespace fC17
def g (N n : Nat) : Sh.den ins → Option (altsDen alts) := fun (a, (b, c, d, e, f, g, _), (h, i, j, k, l, m, _), o, _) => fC17.go N n a b c d e f g h i j k l m o
def P (N : Nat) : Ps := ⟨ts, ins, asg, alts, g N N⟩
def lam (N : Nat) : Pcs := pcs [([true, false, false, true, true, false], (fD25.P N).pc (C N))]
theorem pok (N : Nat) : (lam N).Ok Tryz.prog (C N) code := pcsOk_cons (c1 := fD25.code) (by kernel_rfl) (fD25.ok N) (pcsOk_nil)
theorem ok (N : Nat) : ((P N).pc (fA15.C N)).Ok Tryz.prog (fA15.C N) (.loop code) := okL (F := P N) (g N) (fA15.cok N) mix (pok N) (fun _ => rfl) rfl fun _ _ => by kernel_rfl
end fC17
noncomputable def fA15.run (N : Nat) (d : T5) (keep : (List Int)) : Option (T5 × Unit) :=
  obind (fC17.go N N keep d.1 d.2.1 d.2.2.1 d.2.2.2.1 d.2.2.2.2.1 d.2.2.2.2.2 d.1 (0 : Int) ([] : List T1) false false (0 : Int) (0 : Int)) fun ((room_, steps, files, armed, dead, left, _), _) =>
    some ((room_, steps, files, armed, dead, left), ())
namespace fA15
def fn (N : Nat) : Sh.den ins → Option (Sh.den outs) := fun (a, b, _) => fA15.run N a b
def S (N : Nat) : Fs := ⟨ins, outs, fn N⟩
def lam (N : Nat) : Pcs := pcs [([true, true, false, true, false], (fC17.P N).pc (C N))]
theorem pok (N : Nat) : (lam N).Ok Tryz.prog (C N) code := pcsOk_cons (c1 := .loop fC17.code) (by kernel_rfl) (fC17.ok N) (pcsOk_nil)
theorem ok (N : Nat) : (S N).con.Ok Tryz.prog 24 := okF (F := S N) [] Tryz.func24 (by kernel_rfl) (by rfl) mix (cok N) (pok N) fun _ => by kernel_rfl
end fA15
namespace law_step_b
def ins : Sh := (.cons (.agg s69) s79)
def C (N : Nat) : Ctx := ⟨U, 161, fun _ => true, gam [(17, (fD5.S N).con), (18, (fD1.S N).con), (19, (((law_laid_b.S N).con).or (law_laid.S N).con))], gamY []⟩
theorem cok (N : Nat) : (C N).Ok Tryz.prog := ⟨U_ok, GamOk.cons (fD5.ok N) (GamOk.cons (fD1.ok N) (GamOk.cons (Con.or_ok (law_laid_b.ok N) (law_laid.ok N)) (GamOk.nil))), GamYOk.nil⟩
def code : Code := Tryz.f8.body.getD .skip
def outs : List Sh := [(.cons (.upd 0 54 s1) s72), (.cons (.upd 0 54 s1) s80)]
end law_step_b
namespace law_step_b_0
def ins : Sh := (.cons (.rbox 34 s69) .nil)
def ts : List Tmp := [2]
def asg : List Tmp := [6, 7, 22, 23, 24, 25, 26, 27]
def C (N : Nat) : Ctx := { law_step_b.C N with may := fun t => asg.any (Nat.beq t) }
def code : Code := (sub law_step_b.code [true, false, true, false, true, false, false]).getD .skip
theorem cok (N : Nat) : (C N).Ok Tryz.prog := okC (law_step_b.cok N) _
def alts : List Alt := [⟨.normal, [6, 7], (.cons (.upd 1 54 s1) s15)⟩, ⟨.normal, [6, 7], (.cons (.upd 1 54 s1) s18)⟩]
end law_step_b_0
noncomputable def law_step_b_0.run (N : Nat) (room_ : Int) (used : Int) (files : (List T1)) (steps : Int) (left : Int) (dead : Bool) (rd : Int) (rd1 : Int) (rd2 : (List T1)) (rd3 : Bool) (rd4 : Bool) (rd5 : Int) (rl : (List UInt8)) (rl1 : T12) (rl2 : Int) (up : Bool) : Option (T13 ⊕ T15) :=
  obind (fD5.run N room_ used files steps left dead ([(108 : UInt8), (111 : UInt8), (103 : UInt8)] : List UInt8)) fun y => match y with
  | .inl ((room1, used1, files1, steps1, left1, dead1, _), _, n_, _) =>
      some (.inl ((room1, used1, files1, steps1, left1, dead1, ()), (), n_, ()))
  | .inr ((room2, used2, files2, steps2, left2, dead2, _), (_, name, l, size, _), n1, _) =>
      some (.inr ((room2, used2, files2, steps2, left2, dead2, ()), ((), name, l, size, ()), n1, ()))
namespace law_step_b_0
def fn (N : Nat) : Sh.den ins → Option (altsDen alts) := fun (((a, b, c, d, e, f, _), _, g, h, i, j, k, l, m, o, p, q, _), _) => law_step_b_0.run N a b c d e f g h i j k l m o p q
def P (N : Nat) : Ps := ⟨ts, ins, asg, alts, fn N⟩
def lam (N : Nat) : Pcs := pcs []
theorem pok (N : Nat) : (lam N).Ok Tryz.prog (C N) code := pcsOk_nil
theorem ok (N : Nat) : ((P N).pc (law_step_b.C N)).Ok Tryz.prog (law_step_b.C N) code := okP (F := P N) (law_step_b.cok N) mix (pok N) fun _ => by kernel_rfl
end law_step_b_0
noncomputable def law_step_b.run (N : Nat) (room_ : Int) (used : Int) (files : (List T1)) (steps : Int) (left : Int) (dead : Bool) (w : Int) (w1 : Int) (w2 : (List T1)) (w3 : Bool) (w4 : Bool) (w5 : Int) (w6 : (List UInt8)) (w7 : T12) (w8 : Int) (w9 : Bool) : Option (T56 ⊕ T66) :=
  obind (law_step_b_0.run N room_ used files steps left dead w w1 w2 w3 w4 w5 w6 w7 w8 w9) fun y => match y with
  | .inl ((room3, used3, files3, steps3, left3, dead3, _), _, e, _) =>
      obind (fD1.run N (w, w1, w2, w3, w4, w5) ([(108 : UInt8), (111 : UInt8), (103 : UInt8)] : List UInt8)) fun (v, v1, n2, _) =>
        obind (law_laid.run N room3 used3 files3 steps3 left3 dead3 w w1 w2 w3 w4 w5 w6 w7 w8 w9 e v v1 n2) fun ((room5, used5, files5, steps5, left5, dead5, _), (_, _, v2, v3, v4, v5, v6, v7, v8, v9, v10, v11, _), b, _) =>
          some (.inl ((room5, used5, files5, steps5, left5, dead5, ()), ((), (), v2, v3, v4, v5, v6, v7, v8, v9, v10, v11, ()), b, ()))
  | .inr ((room4, used4, files4, steps4, left4, dead4, _), (_, name1, l1, size1, _), e1, _) =>
      obind (fD1.run N (w, w1, w2, w3, w4, w5) ([(108 : UInt8), (111 : UInt8), (103 : UInt8)] : List UInt8)) fun (v12, v13, n3, _) =>
        obind (law_laid_b.run N room4 used4 files4 steps4 left4 dead4 w w1 w2 w3 w4 w5 w6 w7 w8 w9 name1 l1 size1 e1 v12 v13 n3) fun ((room6, used6, files6, steps6, left6, dead6, _), (_, name2, l2, size2, _), (_, _, v14, v15, v16, v17, v18, v19, v20, v21, v22, v23, _), b1, _) =>
          some (.inr ((room6, used6, files6, steps6, left6, dead6, ()), ((), ((), name2, l2, size2, ()), v14, v15, v16, v17, v18, v19, v20, v21, v22, v23, ()), b1, ()))
namespace law_step_b
def fn (N : Nat) : Sh.den ins → Option (shsDen outs) := fun (((a, b, c, d, e, f, _), _, g, h, i, j, k, l, m, o, p, q, _), (_, _, _, _, _), _) => law_step_b.run N a b c d e f g h i j k l m o p q
def S (N : Nat) : Fm := ⟨ins, outs, fn N⟩
def lam (N : Nat) : Pcs := pcs [([true, false, true, false, true, false, false], (law_step_b_0.P N).pc (C N))]
theorem pok (N : Nat) : (lam N).Ok Tryz.prog (C N) code := pcsOk_cons (c1 := law_step_b_0.code) (by kernel_rfl) (law_step_b_0.ok N) (pcsOk_nil)
theorem ok (N : Nat) : (S N).con.Ok Tryz.prog 8 := okM (F := S N) [] Tryz.func8 (by kernel_rfl) (by rfl) mix (cok N) (pok N) fun _ => by kernel_rfl
end law_step_b
namespace fA7
def ins : Sh := (.cons (.box 129 (.cons (.own 5 .byte) .nil)) (.cons (.val (.slice (.slice .byte))) (.cons (.fn 56 .nil) .nil)))
def C (N : Nat) : Ctx := ⟨U, 24, fun _ => true, gam [(89, (fD6.S N).con), (56, (fD42.S N).con)], gamY []⟩
theorem cok (N : Nat) : (C N).Ok Tryz.prog := ⟨U_ok, GamOk.cons (fD6.ok N) (GamOk.cons (fD42.ok N) (GamOk.nil)), GamYOk.nil⟩
def code : Code := Tryz.f55.body.getD .skip
def outs : Sh := s19
end fA7
namespace fB14
def ins : Sh := (.cons (.box 129 (.cons (.own 5 .byte) .nil)) (.cons (.fn 56 .nil) s81))
def ts : List Tmp := [0, 2, 13, 14, 15]
def asg : List Tmp := [7, 15, 16, 17, 18, 19, 20, 21, 22, 23]
def C (N : Nat) : Ctx := { fA7.C N with may := fun t => asg.any (Nat.beq t) }
def code : Code := loopBody (sub fA7.code [true, true, false])
theorem cok (N : Nat) : (C N).Ok Tryz.prog := okC (fA7.cok N) _
def alts : List Alt := [⟨(.exit 0), [], s19⟩]
end fB14
noncomputable def fB14.go (N : Nat) : Nat → (List UInt8) → T12 → Int → Int → Option ((T6 × Unit))
  | 0, _, _, _, _ => none
  | fuel + 1, b, t13, t14, t15 =>
    bif decide (t15 < t14) then
      bif inB t15 t13.length then
        obind (fD42.run N b (t13.getD t15.toNat ([] : List UInt8))) fun ((b1, _), _) =>
          fB14.go N fuel b1 t13 t14 (IntKind.i64.wrap (t15 + (1 : Int)))
      else none
    else some ((b, ()), ())
namespace fB14
def g (N n : Nat) : Sh.den ins → Option (altsDen alts) := fun ((a, _), _, b, c, d, _) => fB14.go N n a b c d
def P (N : Nat) : Ps := ⟨ts, ins, asg, alts, g N N⟩
def lam (N : Nat) : Pcs := pcs []
theorem pok (N : Nat) : (lam N).Ok Tryz.prog (C N) code := pcsOk_nil
theorem ok (N : Nat) : ((P N).pc (fA7.C N)).Ok Tryz.prog (fA7.C N) (.loop code) := okL (F := P N) (g N) (fA7.cok N) mix (pok N) (fun _ => rfl) rfl fun _ _ => by kernel_rfl
end fB14
noncomputable def fA7.run (N : Nat) (b : (List UInt8)) (l : T12) : Option (T6 × Unit) :=
  obind (fD6.run N b (IntKind.u64.wrap (l.length : Int))) fun ((b1, _), _) =>
    obind (fB14.go N N b1 l (l.length : Int) (0 : Int)) fun ((b2, _), _) =>
      some ((b2, ()), ())
namespace fA7
def fn (N : Nat) : Sh.den ins → Option (Sh.den outs) := fun ((a, _), b, _, _) => fA7.run N a b
def S (N : Nat) : Fs := ⟨ins, outs, fn N⟩
def lam (N : Nat) : Pcs := pcs [([true, true, false], (fB14.P N).pc (C N))]
theorem pok (N : Nat) : (lam N).Ok Tryz.prog (C N) code := pcsOk_cons (c1 := .loop fB14.code) (by kernel_rfl) (fB14.ok N) (pcsOk_nil)
theorem ok (N : Nat) : (S N).con.Ok Tryz.prog 55 := okF (F := S N) [] Tryz.func55 (by kernel_rfl) (by rfl) mix (cok N) (pok N) fun _ => by kernel_rfl
end fA7
namespace fD7
def ins : Sh := s82
def C (N : Nat) : Ctx := ⟨U, 36, fun _ => true, gam [(54, (fB34.S N).con), (55, (fA7.S N).con), (58, (fB4.S N).con), (57, (fD32.S N).con)], gamY []⟩
theorem cok (N : Nat) : (C N).Ok Tryz.prog := ⟨U_ok, GamOk.cons (fB34.ok N) (GamOk.cons (fA7.ok N) (GamOk.cons (fB4.ok N) (GamOk.cons (fD32.ok N) (GamOk.nil)))), GamYOk.nil⟩
def code : Code := Tryz.f28.body.getD .skip
def outs : Sh := s25
end fD7
namespace fA19
def ins : Sh := (.cons (.val (.int .i64)) s81)
def ts : List Tmp := [4, 10, 11, 12]
def asg : List Tmp := [2, 3, 4, 6, 12, 13, 14, 15, 16, 17, 18, 19, 20, 21, 22]
def C (N : Nat) : Ctx := { fD7.C N with may := fun t => asg.any (Nat.beq t) }
def code : Code := loopBody (sub fD7.code [true, true, false, true, false])
theorem cok (N : Nat) : (C N).Ok Tryz.prog := okC (fD7.cok N) _
def alts : List Alt := [⟨.ret, [2, 3], s25⟩, ⟨(.exit 0), [], .nil⟩]
end fA19
noncomputable def fA19.go (N : Nat) : Nat → Int → T12 → Int → Int → Option (T17 ⊕ Unit)
  | 0, _, _, _, _ => none
  | fuel + 1, many, t10, t11, t12 =>
    bif decide (t12 < t11) then
      bif inB t12 t10.length then
        bif decide ((IntKind.i64.wrap (many + ((t10.getD t12.toNat ([] : List UInt8)).length : Int))) > (16777216 : Int)) then
          some (.inl (([] : List UInt8), (90 : Int), ()))
        else fA19.go N fuel (IntKind.i64.wrap (many + ((t10.getD t12.toNat ([] : List UInt8)).length : Int))) t10 t11 (IntKind.i64.wrap (t12 + (1 : Int)))
      else none
    else some (.inr ())
namespace fA19
def g (N n : Nat) : Sh.den ins → Option (altsDen alts) := fun (a, b, c, d, _) => fA19.go N n a b c d
def P (N : Nat) : Ps := ⟨ts, ins, asg, alts, g N N⟩
def lam (N : Nat) : Pcs := pcs []
theorem pok (N : Nat) : (lam N).Ok Tryz.prog (C N) code := pcsOk_nil
theorem ok (N : Nat) : ((P N).pc (fD7.C N)).Ok Tryz.prog (fD7.C N) (.loop code) := okL (F := P N) (g N) (fD7.cok N) mix (pok N) (fun _ => rfl) rfl fun _ _ => by kernel_rfl
end fA19
noncomputable def fD7.run (N : Nat) (records : T12) : Option T17 :=
  obind (fA19.go N N (0 : Int) records (records.length : Int) (0 : Int)) fun y => match y with
  | .inl (t2, t3, _) =>
      some (t2, t3, ())
  | .inr (_) =>
      obind (fB34.run N) fun ((b, _), _) =>
        obind (fA7.run N b records) fun ((b1, _), _) =>
          obind (fB4.run N b1) fun (l, _) =>
            obind (fD32.run N l) fun (l1, n_, _) =>
              bif !(decide (n_ = (0 : Int))) then
                some (([] : List UInt8), (90 : Int), ())
              else some (l1, (0 : Int), ())
namespace fD7
def fn (N : Nat) : Sh.den ins → Option (Sh.den outs) := fun (a, _) => fD7.run N a
def S (N : Nat) : Fs := ⟨ins, outs, fn N⟩
def lam (N : Nat) : Pcs := pcs [([true, true, false, true, false], (fA19.P N).pc (C N))]
theorem pok (N : Nat) : (lam N).Ok Tryz.prog (C N) code := pcsOk_cons (c1 := .loop fA19.code) (by kernel_rfl) (fA19.ok N) (pcsOk_nil)
theorem ok (N : Nat) : (S N).con.Ok Tryz.prog 28 := okF (F := S N) [] Tryz.func28 (by kernel_rfl) (by rfl) mix (cok N) (pok N) fun _ => by kernel_rfl
end fD7
namespace fD19
def ins : Sh := s83
def C (N : Nat) : Ctx := ⟨U, 13, fun _ => true, gam [], gamY []⟩
theorem cok (N : Nat) : (C N).Ok Tryz.prog := ⟨U_ok, GamOk.nil, GamYOk.nil⟩
def code : Code := Tryz.f30.body.getD .skip
def outs : Sh := (.cons (.junk) .nil)
end fD19
noncomputable def fD19.run (N : Nat) (t1 : (List UInt8)) : Option (Unit × Unit) :=
  none
namespace fD19
def fn (N : Nat) : Sh.den ins → Option (Sh.den outs) := fun ((_, _), (a, _), _) => fD19.run N a
def S (N : Nat) : Fs := ⟨ins, outs, fn N⟩
def lam (N : Nat) : Pcs := pcs []
theorem pok (N : Nat) : (lam N).Ok Tryz.prog (C N) code := pcsOk_nil
theorem ok (N : Nat) : (S N).con.Ok Tryz.prog 30 := okF (F := S N) [] Tryz.func30 (by kernel_rfl) (by rfl) mix (cok N) (pok N) fun _ => by kernel_rfl
end fD19
namespace fA45
def ins : Sh := (.cons (.els 1 2 (.cons (.fn 30 s83) s30)) .nil)
def C (N : Nat) : Ctx := ⟨U, 18, fun _ => true, gam [(30, (fD19.S N).con)], gamY []⟩
theorem cok (N : Nat) : (C N).Ok Tryz.prog := ⟨U_ok, GamOk.cons (fD19.ok N) (GamOk.nil), GamYOk.nil⟩
def code : Code := Tryz.f29.body.getD .skip
def outs : Sh := (.cons (.junk) .nil)
end fA45
noncomputable def fA45.run (N : Nat) (steps : (List UInt8)) : Option (Unit × Unit) :=
  obind (fD19.run N steps) fun (_, _) =>
    none
namespace fA45
def fn (N : Nat) : Sh.den ins → Option (Sh.den outs) := fun ((((_, _), (a, _), _), (_, _), _), _) => fA45.run N a
def S (N : Nat) : Fs := ⟨ins, outs, fn N⟩
def lam (N : Nat) : Pcs := pcs [([true, false, true, false], (Pc.unroll (C N) (loopBody (sub code [true, false, true, false])) (pcs []) 3))]
theorem pok (N : Nat) : (lam N).Ok Tryz.prog (C N) code := pcsOk_cons (c1 := .loop (loopBody (sub code [true, false, true, false]))) (by kernel_rfl) (unroll_ok (cok N) mix pcsOk_nil 3) (pcsOk_nil)
theorem ok (N : Nat) : (S N).con.Ok Tryz.prog 29 := okF (F := S N) [] Tryz.func29 (by kernel_rfl) (by rfl) mix (cok N) (pok N) fun _ => by kernel_rfl
end fA45
namespace fD15
def ins : Sh := (.cons (.nilp) s82)
def C (N : Nat) : Ctx := ⟨U, 54, fun _ => true, gam [(28, (fD7.S N).con), (29, (fA45.S N).con)], gamY []⟩
theorem cok (N : Nat) : (C N).Ok Tryz.prog := ⟨U_ok, GamOk.cons (fD7.ok N) (GamOk.cons (fA45.ok N) (GamOk.nil)), GamYOk.nil⟩
def code : Code := Tryz.f12.body.getD .skip
def outs : Sh := (.cons (.val (.int .i64)) .nil)
end fD15
noncomputable def fD15.run (N : Nat) (records : T12) : Option (Int × Unit) :=
  bif decide ((records.length : Int) = (0 : Int)) then
    some ((0 : Int), ())
  else
    obind (fD7.run N records) fun (l, n_, _) =>
      bif !(decide (n_ = (0 : Int))) then
        some (n_, ())
      else
        obind (fA45.run N l) fun (_, _) =>
          none
namespace fD15
def fn (N : Nat) : Sh.den ins → Option (Sh.den outs) := fun (_, a, _) => fD15.run N a
def S (N : Nat) : Fs := ⟨ins, outs, fn N⟩
def lam (N : Nat) : Pcs := pcs []
theorem pok (N : Nat) : (lam N).Ok Tryz.prog (C N) code := pcsOk_nil
theorem ok (N : Nat) : (S N).con.Ok Tryz.prog 12 := okF (F := S N) [] Tryz.func12 (by kernel_rfl) (by rfl) mix (cok N) (pok N) fun _ => by kernel_rfl
end fD15
namespace fA46
def ins : Sh := (.cons (.val (.slice .byte)) .nil)
def C (N : Nat) : Ctx := ⟨U, 12, fun _ => true, gam [(86, (fD24.S N).con)], gamY []⟩
theorem cok (N : Nat) : (C N).Ok Tryz.prog := ⟨U_ok, GamOk.cons (fD24.ok N) (GamOk.nil), GamYOk.nil⟩
def code : Code := Tryz.f87.body.getD .skip
def outs : Sh := (.cons (.own 5 .byte) .nil)
end fA46
noncomputable def fA46.run (N : Nat) (b : (List UInt8)) : Option T6 :=
  obind (fD24.run N (IntKind.u64.wrap (b.length : Int))) fun (l, _) =>
    bif room (l.length + b.length) 1 then
      some (l ++ b, ())
    else none
namespace fA46
def fn (N : Nat) : Sh.den ins → Option (Sh.den outs) := fun (a, _) => fA46.run N a
def S (N : Nat) : Fs := ⟨ins, outs, fn N⟩
def lam (N : Nat) : Pcs := pcs []
theorem pok (N : Nat) : (lam N).Ok Tryz.prog (C N) code := pcsOk_nil
theorem ok (N : Nat) : (S N).con.Ok Tryz.prog 87 := okF (F := S N) [] Tryz.func87 (by kernel_rfl) (by rfl) mix (cok N) (pok N) fun _ => by kernel_rfl
end fA46
namespace fC28
def ins : Sh := (.cons (.rown 5 .byte) .nil)
def C (N : Nat) : Ctx := ⟨U, 33, fun _ => true, gam [], gamY []⟩
theorem cok (N : Nat) : (C N).Ok Tryz.prog := ⟨U_ok, GamOk.nil, GamYOk.nil⟩
def code : Code := Tryz.f100.body.getD .skip
def outs : Sh := (.cons (.val (.int .u32)) .nil)
end fC28
namespace fB17
def ins : Sh := (.cons (.rown 5 .byte) s24)
def ts : List Tmp := [0, 3, 4]
def asg : List Tmp := [3, 4, 5, 6, 7, 8, 9, 10, 11, 12, 13, 14, 15, 16, 17, 18, 19, 20, 21, 22, 23, 24, 25, 26, 27, 28, 29, 30]
def C (N : Nat) : Ctx := { fC28.C N with may := fun t => asg.any (Nat.beq t) }
def code : Code := loopBody (sub fC28.code [true, true, false, true, false])
theorem cok (N : Nat) : (C N).Ok Tryz.prog := okC (fC28.cok N) _
def alts : List Alt := [⟨(.exit 0), [3], (.cons (.val (.int .u32)) .nil)⟩]
end fB17
namespace fB22
def ins : Sh := s24
def ts : List Tmp := [3, 5]
def asg : List Tmp := [3, 5, 19, 20, 21, 22, 23, 24, 25, 26, 27, 28, 29, 30]
def C (N : Nat) : Ctx := { fB17.C N with may := fun t => asg.any (Nat.beq t) }
def code : Code := loopBody (sub fB17.code [true, false, false, true, true, false])
theorem cok (N : Nat) : (C N).Ok Tryz.prog := okC (fB17.cok N) _
def alts : List Alt := [⟨(.exit 2), [3], (.cons (.val (.int .u32)) .nil)⟩]
end fB22
noncomputable def fB22.go (N : Nat) : Nat → Int → Int → Option ((Int × Unit))
  | 0, _, _ => none
  | fuel + 1, r, k =>
    bif decide (k < (8 : Int)) then
      bif decide ((r.tmod (2 : Int)) = (1 : Int)) then
        fB22.go N fuel (IntKind.u32.wrap ((BitVec.ofInt 32 (IntKind.u32.wrap (r.tdiv (2 : Int))) ^^^ BitVec.ofInt 32 (3988292384 : Int)).toNat : Int)) (IntKind.i64.wrap (k + (1 : Int)))
      else fB22.go N fuel (IntKind.u32.wrap (r.tdiv (2 : Int))) (IntKind.i64.wrap (k + (1 : Int)))
    else some (r, ())
namespace fB22
def g (N n : Nat) : Sh.den ins → Option (altsDen alts) := fun (a, b, _) => fB22.go N n a b
def P (N : Nat) : Ps := ⟨ts, ins, asg, alts, g N N⟩
def lam (N : Nat) : Pcs := pcs []
theorem pok (N : Nat) : (lam N).Ok Tryz.prog (C N) code := pcsOk_nil
theorem ok (N : Nat) : ((P N).pc (fB17.C N)).Ok Tryz.prog (fB17.C N) (.loop code) := okL (F := P N) (g N) (fB17.cok N) mix (pok N) (fun _ => rfl) rfl fun _ _ => by kernel_rfl
end fB22
noncomputable def fB17.go (N : Nat) : Nat → (List UInt8) → Int → Int → Option ((Int × Unit))
  | 0, _, _, _ => none
  | fuel + 1, b, r, i =>
    bif decide (i < (b.length : Int)) then
      bif inB i b.length then
        bif decide (i.toNat < b.length) then
          obind (fB22.go N N (IntKind.u32.wrap ((BitVec.ofInt 32 r ^^^ BitVec.ofInt 32 (IntKind.u32.wrap ((b.getD i.toNat (0 : UInt8)).toNat : Int))).toNat : Int)) (0 : Int)) fun (r1, _) =>
            fB17.go N fuel b r1 (IntKind.i64.wrap (i + (1 : Int)))
        else none
      else none
    else some (r, ())
namespace fB17
def g (N n : Nat) : Sh.den ins → Option (altsDen alts) := fun (a, b, c, _) => fB17.go N n a b c
def P (N : Nat) : Ps := ⟨ts, ins, asg, alts, g N N⟩
def lam (N : Nat) : Pcs := pcs [([true, false, false, true, true, false], (fB22.P N).pc (C N))]
theorem pok (N : Nat) : (lam N).Ok Tryz.prog (C N) code := pcsOk_cons (c1 := .loop fB22.code) (by kernel_rfl) (fB22.ok N) (pcsOk_nil)
theorem ok (N : Nat) : ((P N).pc (fC28.C N)).Ok Tryz.prog (fC28.C N) (.loop code) := okL (F := P N) (g N) (fC28.cok N) mix (pok N) (fun _ => rfl) rfl fun _ _ => by kernel_rfl
end fB17
noncomputable def fC28.run (N : Nat) (b : (List UInt8)) : Option (Int × Unit) :=
  obind (fB17.go N N b (4294967295 : Int) (0 : Int)) fun (r, _) =>
    some (IntKind.u32.wrap ((BitVec.ofInt 32 r ^^^ BitVec.ofInt 32 (4294967295 : Int)).toNat : Int), ())
namespace fC28
def fn (N : Nat) : Sh.den ins → Option (Sh.den outs) := fun (a, _) => fC28.run N a
def S (N : Nat) : Fs := ⟨ins, outs, fn N⟩
def lam (N : Nat) : Pcs := pcs [([true, true, false, true, false], (fB17.P N).pc (C N))]
theorem pok (N : Nat) : (lam N).Ok Tryz.prog (C N) code := pcsOk_cons (c1 := .loop fB17.code) (by kernel_rfl) (fB17.ok N) (pcsOk_nil)
theorem ok (N : Nat) : (S N).con.Ok Tryz.prog 100 := okF (F := S N) [] Tryz.func100 (by kernel_rfl) (by rfl) mix (cok N) (pok N) fun _ => by kernel_rfl
end fC28
namespace fB45
def ins : Sh := (.cons (.rown 5 .byte) .nil)
def C (N : Nat) : Ctx := ⟨U, 28, fun _ => true, gam [(107, (fA14.S N).con), (100, (fC28.S N).con)], gamY []⟩
theorem cok (N : Nat) : (C N).Ok Tryz.prog := ⟨U_ok, GamOk.cons (fA14.ok N) (GamOk.cons (fC28.ok N) (GamOk.nil)), GamYOk.nil⟩
def code : Code := Tryz.f88.body.getD .skip
def outs : Sh := s25
end fB45
noncomputable def fB45.run (N : Nat) (b : (List UInt8)) : Option T17 :=
  bif decide ((b.length : Int) > (16777216 : Int)) then
    some (([] : List UInt8), (12 : Int), ())
  else
    obind (fA14.run N (IntKind.u64.wrap (b.length : Int)) (4 : Int)) fun (l, _) =>
      obind (fC28.run N l) fun (n_, _) =>
        obind (fA14.run N (IntKind.u64.wrap n_) (4 : Int)) fun (l1, _) =>
          bif room (l.length + l1.length) 1 then
            bif room ((l ++ l1).length + b.length) 1 then
              obind (fC28.run N b) fun (n1, _) =>
                obind (fA14.run N (IntKind.u64.wrap n1) (4 : Int)) fun (l2, _) =>
                  bif room (((l ++ l1) ++ b).length + l2.length) 1 then
                    some (((l ++ l1) ++ b) ++ l2, (0 : Int), ())
                  else none
            else none
          else none
namespace fB45
def fn (N : Nat) : Sh.den ins → Option (Sh.den outs) := fun (a, _) => fB45.run N a
def S (N : Nat) : Fs := ⟨ins, outs, fn N⟩
def lam (N : Nat) : Pcs := pcs []
theorem pok (N : Nat) : (lam N).Ok Tryz.prog (C N) code := pcsOk_nil
theorem ok (N : Nat) : (S N).con.Ok Tryz.prog 88 := okF (F := S N) [] Tryz.func88 (by kernel_rfl) (by rfl) mix (cok N) (pok N) fun _ => by kernel_rfl
end fB45
namespace fD13
def ins : Sh := s82
def C (N : Nat) : Ctx := ⟨U, 50, fun _ => true, gam [(86, (fD24.S N).con), (87, (fA46.S N).con), (88, (fB45.S N).con)], gamY []⟩
theorem cok (N : Nat) : (C N).Ok Tryz.prog := ⟨U_ok, GamOk.cons (fD24.ok N) (GamOk.cons (fA46.ok N) (GamOk.cons (fB45.ok N) (GamOk.nil))), GamYOk.nil⟩
def code : Code := Tryz.f52.body.getD .skip
def outs : Sh := s25
end fD13
namespace fC29
def ins : Sh := s81
def ts : List Tmp := [0, 4, 5]
def asg : List Tmp := [2, 3, 4, 5, 10, 11, 12, 13, 14, 15, 16, 17, 18, 19, 20, 21, 22, 23, 24]
def C (N : Nat) : Ctx := { fD13.C N with may := fun t => asg.any (Nat.beq t) }
def code : Code := loopBody (sub fD13.code [true, true, false, true, false])
theorem cok (N : Nat) : (C N).Ok Tryz.prog := okC (fD13.cok N) _
def alts : List Alt := [⟨.ret, [2, 3], s25⟩, ⟨(.exit 0), [], .nil⟩]
end fC29
noncomputable def fC29.go (N : Nat) : Nat → T12 → Int → Int → Option (T17 ⊕ Unit)
  | 0, _, _, _ => none
  | fuel + 1, records, n_, i =>
    bif decide (i < (records.length : Int)) then
      bif inB i records.length then
        bif decide ((IntKind.i64.wrap (n_ + ((records.getD i.toNat ([] : List UInt8)).length : Int))) > (16777216 : Int)) then
          some (.inl (([] : List UInt8), (90 : Int), ()))
        else fC29.go N fuel records (IntKind.i64.wrap (n_ + ((records.getD i.toNat ([] : List UInt8)).length : Int))) (IntKind.i64.wrap (i + (1 : Int)))
      else none
    else some (.inr ())
namespace fC29
def g (N n : Nat) : Sh.den ins → Option (altsDen alts) := fun (a, b, c, _) => fC29.go N n a b c
def P (N : Nat) : Ps := ⟨ts, ins, asg, alts, g N N⟩
def lam (N : Nat) : Pcs := pcs []
theorem pok (N : Nat) : (lam N).Ok Tryz.prog (C N) code := pcsOk_nil
theorem ok (N : Nat) : ((P N).pc (fD13.C N)).Ok Tryz.prog (fD13.C N) (.loop code) := okL (F := P N) (g N) (fD13.cok N) mix (pok N) (fun _ => rfl) rfl fun _ _ => by kernel_rfl
end fC29
namespace fC31
def ins : Sh := (.cons (.val (.slice (.slice .byte))) s25)
def ts : List Tmp := [0, 6, 7]
def asg : List Tmp := [6, 7, 29, 30, 31, 32, 33, 34, 35, 36, 37, 38, 39, 40, 41]
def C (N : Nat) : Ctx := { fD13.C N with may := fun t => asg.any (Nat.beq t) }
def code : Code := loopBody (sub fD13.code [true, true, true, true, false, true, false])
theorem cok (N : Nat) : (C N).Ok Tryz.prog := okC (fD13.cok N) _
def alts : List Alt := [⟨(.exit 2), [6], (.cons (.own 5 .byte) .nil)⟩]
end fC31
noncomputable def fC31.go (N : Nat) : Nat → T12 → (List UInt8) → Int → Option (T6)
  | 0, _, _, _ => none
  | fuel + 1, records, b, i =>
    bif decide (i < (records.length : Int)) then
      bif inB i records.length then
        obind (fA46.run N (records.getD i.toNat ([] : List UInt8))) fun (l, _) =>
          bif room (b.length + l.length) 1 then
            fC31.go N fuel records (b ++ l) (IntKind.i64.wrap (i + (1 : Int)))
          else none
      else none
    else some (b, ())
namespace fC31
def g (N n : Nat) : Sh.den ins → Option (altsDen alts) := fun (a, b, c, _) => fC31.go N n a b c
def P (N : Nat) : Ps := ⟨ts, ins, asg, alts, g N N⟩
def lam (N : Nat) : Pcs := pcs []
theorem pok (N : Nat) : (lam N).Ok Tryz.prog (C N) code := pcsOk_nil
theorem ok (N : Nat) : ((P N).pc (fD13.C N)).Ok Tryz.prog (fD13.C N) (.loop code) := okL (F := P N) (g N) (fD13.cok N) mix (pok N) (fun _ => rfl) rfl fun _ _ => by kernel_rfl
end fC31
noncomputable def fD13.run (N : Nat) (records : T12) : Option T17 :=
  obind (fC29.go N N records (0 : Int) (0 : Int)) fun y => match y with
  | .inl (t2, t3, _) =>
      some (t2, t3, ())
  | .inr (_) =>
      obind (fD24.run N (IntKind.u64.wrap (records.length : Int))) fun (l, _) =>
        obind (fC31.go N N records l (0 : Int)) fun (b, _) =>
          obind (fB45.run N b) fun (l1, n_, _) =>
            bif !(decide (n_ = (0 : Int))) then
              some (([] : List UInt8), (90 : Int), ())
            else some (l1, (0 : Int), ())
namespace fD13
def fn (N : Nat) : Sh.den ins → Option (Sh.den outs) := fun (a, _) => fD13.run N a
def S (N : Nat) : Fs := ⟨ins, outs, fn N⟩
def lam (N : Nat) : Pcs := pcs [([true, true, false, true, false], (fC29.P N).pc (C N)), ([true, true, true, true, false, true, false], (fC31.P N).pc (C N))]
theorem pok (N : Nat) : (lam N).Ok Tryz.prog (C N) code := pcsOk_cons (c1 := .loop fC29.code) (by kernel_rfl) (fC29.ok N) (pcsOk_cons (c1 := .loop fC31.code) (by kernel_rfl) (fC31.ok N) (pcsOk_nil))
theorem ok (N : Nat) : (S N).con.Ok Tryz.prog 52 := okF (F := S N) [] Tryz.func52 (by kernel_rfl) (by rfl) mix (cok N) (pok N) fun _ => by kernel_rfl
end fD13
namespace fC1
def ins : Sh := (.cons (.val (.pair (.int .i64) (.pair (.int .i64) (.pair (.slice (.pair .str (.pair (.slice .byte) (.int .i64)))) (.pair .bool (.pair .bool (.int .i64))))))) (.cons (.val (.pair .str (.pair (.slice (.slice .byte)) (.int .i64)))) s82))
def C (N : Nat) : Ctx := ⟨U, 63, fun _ => true, gam [(52, (fD13.S N).con), (48, (fA16.S N).con), (47, (ref_Do.S N).con)], gamY []⟩
theorem cok (N : Nat) : (C N).Ok Tryz.prog := ⟨U_ok, GamOk.cons (fD13.ok N) (GamOk.cons (fA16.ok N) (GamOk.cons (ref_Do.ok N) (GamOk.nil))), GamYOk.nil⟩
def code : Code := Tryz.f25.body.getD .skip
def outs : Sh := s66
end fC1
namespace fC23
def ins : Sh := (.cons (.box 28 s55) (.cons (.rbox 32 (.cons (.val .str) s84)) (.cons (.rown 5 .byte) (.cons (.val (.int .i64)) .nil))))
def ts : List Tmp := [3, 4, 9, 10]
def asg : List Tmp := [10, 22, 23, 24, 25, 26, 27, 28, 29, 30, 31]
def C (N : Nat) : Ctx := { fC1.C N with may := fun t => asg.any (Nat.beq t) }
def code : Code := (sub fC1.code [true, true, true, false]).getD .skip
theorem cok (N : Nat) : (C N).Ok Tryz.prog := okC (fC1.cok N) _
def alts : List Alt := [⟨.normal, [10], s67⟩]
end fC23
noncomputable def fC23.run (N : Nat) (room_ : Int) (steps : Int) (files : (List T1)) (armed : Bool) (dead : Bool) (left : Int) (name : (List UInt8)) (l : T12) (size : Int) (f : (List UInt8)) (e : Int) : Option (T52) :=
  bif decide (e = (0 : Int)) then
    obind (fA16.run N (room_, steps, files, armed, dead, left) name f) fun (v, n_, _) =>
      some ((v.1, v.2.1, v.2.2.1, v.2.2.2.1, v.2.2.2.2.1, v.2.2.2.2.2, ()), n_, ())
  else some ((room_, steps, files, armed, dead, left, ()), e, ())
namespace fC23
def fn (N : Nat) : Sh.den ins → Option (altsDen alts) := fun ((a, b, c, d, e, f, _), (g, h, i, _), j, k, _) => fC23.run N a b c d e f g h i j k
def P (N : Nat) : Ps := ⟨ts, ins, asg, alts, fn N⟩
def lam (N : Nat) : Pcs := pcs []
theorem pok (N : Nat) : (lam N).Ok Tryz.prog (C N) code := pcsOk_nil
theorem ok (N : Nat) : ((P N).pc (fC1.C N)).Ok Tryz.prog (fC1.C N) code := okP (F := P N) (fC1.cok N) mix (pok N) fun _ => by kernel_rfl
end fC23
namespace fB23
def ins : Sh := (.cons (.box 28 s55) (.cons (.rbox 32 (.cons (.val .str) s84)) (.cons (.val (.int .i64)) .nil)))
def ts : List Tmp := [3, 4, 10]
def asg : List Tmp := [10, 32, 33, 34, 35, 36, 37, 38, 39, 40]
def C (N : Nat) : Ctx := { fC1.C N with may := fun t => asg.any (Nat.beq t) }
def code : Code := (sub fC1.code [true, true, true, true, false]).getD .skip
theorem cok (N : Nat) : (C N).Ok Tryz.prog := okC (fC1.cok N) _
def alts : List Alt := [⟨.normal, [10], s67⟩]
end fB23
noncomputable def fB23.run (N : Nat) (room_ : Int) (steps : Int) (files : (List T1)) (armed : Bool) (dead : Bool) (left : Int) (name : (List UInt8)) (l : T12) (size : Int) (e : Int) : Option (T52) :=
  bif decide (e = (0 : Int)) then
    obind (ref_Do.run N (room_, steps, files, armed, dead, left) (1 : Int) name ([] : List UInt8) (0 : Int)) fun (v, n_, _) =>
      some ((v.1, v.2.1, v.2.2.1, v.2.2.2.1, v.2.2.2.2.1, v.2.2.2.2.2, ()), n_, ())
  else some ((room_, steps, files, armed, dead, left, ()), e, ())
namespace fB23
def fn (N : Nat) : Sh.den ins → Option (altsDen alts) := fun ((a, b, c, d, e, f, _), (g, h, i, _), j, _) => fB23.run N a b c d e f g h i j
def P (N : Nat) : Ps := ⟨ts, ins, asg, alts, fn N⟩
def lam (N : Nat) : Pcs := pcs []
theorem pok (N : Nat) : (lam N).Ok Tryz.prog (C N) code := pcsOk_nil
theorem ok (N : Nat) : ((P N).pc (fC1.C N)).Ok Tryz.prog (fC1.C N) code := okP (F := P N) (fC1.cok N) mix (pok N) fun _ => by kernel_rfl
end fB23
noncomputable def fC1.run (N : Nat) (d : T5) (l : T53) (records : T12) : Option T54 :=
  bif decide ((records.length : Int) = (0 : Int)) then
    some (d, l, (0 : Int), ())
  else
    obind (fD13.run N records) fun (l1, n_, _) =>
      obind (fC23.run N d.1 d.2.1 d.2.2.1 d.2.2.2.1 d.2.2.2.2.1 d.2.2.2.2.2 l.1 l.2.1 l.2.2 l1 n_) fun ((room_, steps, files, armed, dead, left, _), e, _) =>
        obind (fB23.run N room_ steps files armed dead left l.1 l.2.1 l.2.2 e) fun ((room1, steps1, files1, armed1, dead1, left1, _), e1, _) =>
          bif !(decide (e1 = (0 : Int))) then
            some ((room1, steps1, files1, armed1, dead1, left1), l, e1, ())
          else
            bif room l.2.1.length 24 then
              bif room (l.2.1.length + records.length) 24 then
                some ((room1, steps1, files1, armed1, dead1, left1), (l.1, l.2.1 ++ records, IntKind.i64.wrap (l.2.2 + (l1.length : Int))), (0 : Int), ())
              else none
            else none
namespace fC1
def fn (N : Nat) : Sh.den ins → Option (Sh.den outs) := fun (a, b, c, _) => fC1.run N a b c
def S (N : Nat) : Fs := ⟨ins, outs, fn N⟩
def lam (N : Nat) : Pcs := pcs [([true, true, true, false], (fC23.P N).pc (C N)), ([true, true, true, true, false], (fB23.P N).pc (C N))]
theorem pok (N : Nat) : (lam N).Ok Tryz.prog (C N) code := pcsOk_cons (c1 := fC23.code) (by kernel_rfl) (fC23.ok N) (pcsOk_cons (c1 := fB23.code) (by kernel_rfl) (fB23.ok N) (pcsOk_nil))
theorem ok (N : Nat) : (S N).con.Ok Tryz.prog 25 := okF (F := S N) [] Tryz.func25 (by kernel_rfl) (by rfl) mix (cok N) (pok N) fun _ => by kernel_rfl
end fC1
namespace fD22
def ins : Sh := (.cons (.nilp) .nil)
def C (N : Nat) : Ctx := ⟨U, 8, fun _ => true, gam [], gamY []⟩
theorem cok (N : Nat) : (C N).Ok Tryz.prog := ⟨U_ok, GamOk.nil, GamYOk.nil⟩
def code : Code := Tryz.f13.body.getD .skip
def outs : Sh := (.cons (.junk) .nil)
end fD22
noncomputable def fD22.run (N : Nat)  : Option (Unit × Unit) :=
  none
namespace fD22
def fn (N : Nat) : Sh.den ins → Option (Sh.den outs) := fun _ => fD22.run N
def S (N : Nat) : Fs := ⟨ins, outs, fn N⟩
def lam (N : Nat) : Pcs := pcs []
theorem pok (N : Nat) : (lam N).Ok Tryz.prog (C N) code := pcsOk_nil
theorem ok (N : Nat) : (S N).con.Ok Tryz.prog 13 := okF (F := S N) [] Tryz.func13 (by kernel_rfl) (by rfl) mix (cok N) (pok N) fun _ => by kernel_rfl
end fD22
namespace law_step
def ins : Sh := (.cons (.agg s85) s86)
def C (N : Nat) : Ctx := ⟨U, 161, fun _ => true, gam [(17, (fD5.S N).con), (18, (fD1.S N).con), (19, (((law_laid_b.S N).con).or (law_laid.S N).con)), (16, (fD9.S N).con), (20, (fB1.S N).con), (21, (fC12.S N).con), (22, (fB40.S N).con), (23, (fA6.S N).con), (24, (fA15.S N).con), (8, (law_step_b.S N).con), (12, (fD15.S N).con), (25, (fC1.S N).con), (13, (fD22.S N).con)], gamY []⟩
theorem cok (N : Nat) : (C N).Ok Tryz.prog := ⟨U_ok, GamOk.cons (fD5.ok N) (GamOk.cons (fD1.ok N) (GamOk.cons (Con.or_ok (law_laid_b.ok N) (law_laid.ok N)) (GamOk.cons (fD9.ok N) (GamOk.cons (fB1.ok N) (GamOk.cons (fC12.ok N) (GamOk.cons (fB40.ok N) (GamOk.cons (fA6.ok N) (GamOk.cons (fA15.ok N) (GamOk.cons (law_step_b.ok N) (GamOk.cons (fD15.ok N) (GamOk.cons (fC1.ok N) (GamOk.cons (fD22.ok N) (GamOk.nil))))))))))))), GamYOk.nil⟩
def code : Code := Tryz.f8.body.getD .skip
def outs : List Sh := [(.cons (.upd 0 54 s1) s72), (.cons (.upd 0 54 s1) s80), (.cons (.upd 0 54 s1) s87), s88]
end law_step
namespace law_step_0
def ins : Sh := (.cons (.rbox 34 s69) .nil)
def ts : List Tmp := [2]
def asg : List Tmp := [6, 7, 22, 23, 24, 25, 26, 27]
def C (N : Nat) : Ctx := { law_step.C N with may := fun t => asg.any (Nat.beq t) }
def code : Code := (sub law_step.code [true, false, true, false, true, false, false]).getD .skip
theorem cok (N : Nat) : (C N).Ok Tryz.prog := okC (law_step.cok N) _
def alts : List Alt := [⟨.normal, [6, 7], (.cons (.upd 1 54 s1) s15)⟩, ⟨.normal, [6, 7], (.cons (.upd 1 54 s1) s18)⟩]
end law_step_0
noncomputable def law_step_0.run (N : Nat) (room_ : Int) (used : Int) (files : (List T1)) (steps : Int) (left : Int) (dead : Bool) (rd : Int) (rd1 : Int) (rd2 : (List T1)) (rd3 : Bool) (rd4 : Bool) (rd5 : Int) (rl : (List UInt8)) (rl1 : T12) (rl2 : Int) (up : Bool) : Option (T13 ⊕ T15) :=
  obind (fD5.run N room_ used files steps left dead ([(108 : UInt8), (111 : UInt8), (103 : UInt8)] : List UInt8)) fun y => match y with
  | .inl ((room1, used1, files1, steps1, left1, dead1, _), _, n_, _) =>
      some (.inl ((room1, used1, files1, steps1, left1, dead1, ()), (), n_, ()))
  | .inr ((room2, used2, files2, steps2, left2, dead2, _), (_, name, l, size, _), n1, _) =>
      some (.inr ((room2, used2, files2, steps2, left2, dead2, ()), ((), name, l, size, ()), n1, ()))
namespace law_step_0
def fn (N : Nat) : Sh.den ins → Option (altsDen alts) := fun (((a, b, c, d, e, f, _), _, g, h, i, j, k, l, m, o, p, q, _), _) => law_step_0.run N a b c d e f g h i j k l m o p q
def P (N : Nat) : Ps := ⟨ts, ins, asg, alts, fn N⟩
def lam (N : Nat) : Pcs := pcs []
theorem pok (N : Nat) : (lam N).Ok Tryz.prog (C N) code := pcsOk_nil
theorem ok (N : Nat) : ((P N).pc (law_step.C N)).Ok Tryz.prog (law_step.C N) code := okP (F := P N) (law_step.cok N) mix (pok N) fun _ => by kernel_rfl
end law_step_0
namespace law_step_1
def ins : Sh := (.cons (.rbox 34 s69) .nil)
def ts : List Tmp := [2]
def asg : List Tmp := [11, 12, 46, 47, 48, 49, 50, 51]
def C (N : Nat) : Ctx := { law_step.C N with may := fun t => asg.any (Nat.beq t) }
def code : Code := (sub law_step.code [true, false, true, false, true, true, true, false, false]).getD .skip
theorem cok (N : Nat) : (C N).Ok Tryz.prog := okC (law_step.cok N) _
def alts : List Alt := [⟨.normal, [11, 12], (.cons (.upd 1 54 s1) s15)⟩, ⟨.normal, [11, 12], (.cons (.upd 1 54 s1) s18)⟩]
end law_step_1
noncomputable def law_step_1.run (N : Nat) (room_ : Int) (used : Int) (files : (List T1)) (steps : Int) (left : Int) (dead : Bool) (rd : Int) (rd1 : Int) (rd2 : (List T1)) (rd3 : Bool) (rd4 : Bool) (rd5 : Int) (rl : (List UInt8)) (rl1 : T12) (rl2 : Int) (up : Bool) : Option (T13 ⊕ T15) :=
  obind (fD9.run N room_ used files steps left dead ([(108 : UInt8), (111 : UInt8), (103 : UInt8)] : List UInt8)) fun y => match y with
  | .inl ((room1, used1, files1, steps1, left1, dead1, _), _, n_, _) =>
      some (.inl ((room1, used1, files1, steps1, left1, dead1, ()), (), n_, ()))
  | .inr ((room2, used2, files2, steps2, left2, dead2, _), (_, name, l, size, _), n1, _) =>
      some (.inr ((room2, used2, files2, steps2, left2, dead2, ()), ((), name, l, size, ()), n1, ()))
namespace law_step_1
def fn (N : Nat) : Sh.den ins → Option (altsDen alts) := fun (((a, b, c, d, e, f, _), _, g, h, i, j, k, l, m, o, p, q, _), _) => law_step_1.run N a b c d e f g h i j k l m o p q
def P (N : Nat) : Ps := ⟨ts, ins, asg, alts, fn N⟩
def lam (N : Nat) : Pcs := pcs []
theorem pok (N : Nat) : (lam N).Ok Tryz.prog (C N) code := pcsOk_nil
theorem ok (N : Nat) : ((P N).pc (law_step.C N)).Ok Tryz.prog (law_step.C N) code := okP (F := P N) (law_step.cok N) mix (pok N) fun _ => by kernel_rfl
end law_step_1
noncomputable def law_step.run (N : Nat) (room_ : Int) (used : Int) (files : (List T1)) (steps : Int) (left : Int) (dead : Bool) (w : Int) (w1 : Int) (w2 : (List T1)) (w3 : Bool) (w4 : Bool) (w5 : Int) (w6 : (List UInt8)) (w7 : T12) (w8 : Int) (w9 : Bool) (o : T68) : Option T73 :=
  bif decide (o.1 = (2 : Int)) then
    obind (law_step_0.run N room_ used files steps left dead w w1 w2 w3 w4 w5 w6 w7 w8 w9) fun y => match y with
    | .inl ((room3, used3, files3, steps3, left3, dead3, _), _, e, _) =>
        obind (fD1.run N (w, w1, w2, w3, w4, w5) ([(108 : UInt8), (111 : UInt8), (103 : UInt8)] : List UInt8)) fun (v, v1, n2, _) =>
          obind (law_laid.run N room3 used3 files3 steps3 left3 dead3 w w1 w2 w3 w4 w5 w6 w7 w8 w9 e v v1 n2) fun ((room5, used5, files5, steps5, left5, dead5, _), (_, _, v2, v3, v4, v5, v6, v7, v8, v9, v10, v11, _), b, _) =>
            some (.inl ((room5, used5, files5, steps5, left5, dead5, ()), ((), (), v2, v3, v4, v5, v6, v7, v8, v9, v10, v11, ()), b, ()))
    | .inr ((room4, used4, files4, steps4, left4, dead4, _), (_, name1, l1, size1, _), e1, _) =>
        obind (fD1.run N (w, w1, w2, w3, w4, w5) ([(108 : UInt8), (111 : UInt8), (103 : UInt8)] : List UInt8)) fun (v12, v13, n3, _) =>
          obind (law_laid_b.run N room4 used4 files4 steps4 left4 dead4 w w1 w2 w3 w4 w5 w6 w7 w8 w9 name1 l1 size1 e1 v12 v13 n3) fun ((room6, used6, files6, steps6, left6, dead6, _), (_, name2, l2, size2, _), (_, _, v14, v15, v16, v17, v18, v19, v20, v21, v22, v23, _), b1, _) =>
            some (.inr (.inl ((room6, used6, files6, steps6, left6, dead6, ()), ((), ((), name2, l2, size2, ()), v14, v15, v16, v17, v18, v19, v20, v21, v22, v23, ()), b1, ())))
  else
    bif decide (o.1 = (3 : Int)) then
      obind (law_step_1.run N room_ used files steps left dead w w1 w2 w3 w4 w5 w6 w7 w8 w9) fun y => match y with
      | .inl ((room9, used9, files9, steps9, left9, dead9, _), _, e2, _) =>
          obind (fB1.run N (w, w1, w2, w3, w4, w5) ([(108 : UInt8), (111 : UInt8), (103 : UInt8)] : List UInt8)) fun (v24, v25, n6, _) =>
            obind (law_laid.run N room9 used9 files9 steps9 left9 dead9 w w1 w2 w3 w4 w5 w6 w7 w8 w9 e2 v24 v25 n6) fun ((room11, used11, files11, steps11, left11, dead11, _), (_, _, v26, v27, v28, v29, v30, v31, v32, v33, v34, v35, _), b2, _) =>
              some (.inl ((room11, used11, files11, steps11, left11, dead11, ()), ((), (), v26, v27, v28, v29, v30, v31, v32, v33, v34, v35, ()), b2, ()))
      | .inr ((room10, used10, files10, steps10, left10, dead10, _), (_, name4, l4, size4, _), e3, _) =>
          obind (fB1.run N (w, w1, w2, w3, w4, w5) ([(108 : UInt8), (111 : UInt8), (103 : UInt8)] : List UInt8)) fun (v36, v37, n7, _) =>
            obind (law_laid_b.run N room10 used10 files10 steps10 left10 dead10 w w1 w2 w3 w4 w5 w6 w7 w8 w9 name4 l4 size4 e3 v36 v37 n7) fun ((room12, used12, files12, steps12, left12, dead12, _), (_, name5, l5, size5, _), (_, _, v38, v39, v40, v41, v42, v43, v44, v45, v46, v47, _), b3, _) =>
              some (.inr (.inl ((room12, used12, files12, steps12, left12, dead12, ()), ((), ((), name5, l5, size5, ()), v38, v39, v40, v41, v42, v43, v44, v45, v46, v47, ()), b3, ())))
    else
      bif decide (o.1 = (4 : Int)) then
        obind (fC12.run N room_ used files steps left dead o.2.1) fun ((room13, used13, files13, steps13, left13, dead13, _), _) =>
          obind (fB40.run N (w, w1, w2, w3, w4, w5) o.2.1) fun (v48, _) =>
            some (.inl ((room13, used13, files13, steps13, left13, dead13, ()), ((), (), v48.1, v48.2.1, v48.2.2.1, v48.2.2.2.1, v48.2.2.2.2.1, v48.2.2.2.2.2, w6, w7, w8, w9, ()), true, ()))
      else
        bif decide (o.1 = (5 : Int)) then
          obind (fA6.run N room_ used files steps left dead o.2.2.2) fun ((room14, used14, files14, steps14, left14, dead14, _), (room15, used15, files15, steps15, left15, dead15, _), _) =>
            obind (fA15.run N (w, w1, w2, w3, w4, w5) o.2.2.2) fun (v49, _) =>
              obind (law_step_b.run N room15 used15 files15 steps15 left15 dead15 v49.1 v49.2.1 v49.2.2.1 v49.2.2.2.1 v49.2.2.2.2.1 v49.2.2.2.2.2 w6 w7 w8 w9) fun y => match y with
              | .inl ((room16, used16, files16, steps16, left16, dead16, _), (_, _, v50, v51, v52, v53, v54, v55, v56, v57, v58, v59, _), b4, _) =>
                  some (.inr (.inr (.inl ((room14, used14, files14, steps14, left14, dead14, ()), ((room16, used16, files16, steps16, left16, dead16, ()), (), v50, v51, v52, v53, v54, v55, v56, v57, v58, v59, ()), b4, ()))))
              | .inr ((room17, used17, files17, steps17, left17, dead17, _), (_, (_, name6, l6, size6, _), v60, v61, v62, v63, v64, v65, v66, v67, v68, v69, _), b5, _) =>
                  some (.inr (.inr (.inr ((room14, used14, files14, steps14, left14, dead14, ()), ((room17, used17, files17, steps17, left17, dead17, ()), ((), name6, l6, size6, ()), v60, v61, v62, v63, v64, v65, v66, v67, v68, v69, ()), b5, ()))))
        else
          bif !w9 then
            some (.inl ((room_, used, files, steps, left, dead, ()), ((), (), w, w1, w2, w3, w4, w5, w6, w7, w8, w9, ()), true, ()))
          else
            bif decide (o.1 = (0 : Int)) then
              obind (fD15.run N o.2.2.1) fun (n8, _) =>
                obind (fC1.run N (w, w1, w2, w3, w4, w5) (w6, w7, w8) o.2.2.1) fun (v70, v71, n9, _) =>
                  some (.inl ((room_, used, files, steps, left, dead, ()), ((), (), v70.1, v70.2.1, v70.2.2.1, v70.2.2.2.1, v70.2.2.2.2.1, v70.2.2.2.2.2, v71.1, v71.2.1, v71.2.2, w9, ()), decide (n8 = n9), ()))
            else
              obind (fD22.run N) fun (_, _) =>
                none
namespace law_step
def fn (N : Nat) : Sh.den ins → Option (shsDen outs) := fun (((a, b, c, d, e, f, _), _, g, h, i, j, k, l, m, o, p, q, _), r, _) => law_step.run N a b c d e f g h i j k l m o p q r
def S (N : Nat) : Fm := ⟨ins, outs, fn N⟩
def lam (N : Nat) : Pcs := pcs [([true, false, true, false, true, false, false], (law_step_0.P N).pc (C N)), ([true, false, true, false, true, true, true, false, false], (law_step_1.P N).pc (C N))]
theorem pok (N : Nat) : (lam N).Ok Tryz.prog (C N) code := pcsOk_cons (c1 := law_step_0.code) (by kernel_rfl) (law_step_0.ok N) (pcsOk_cons (c1 := law_step_1.code) (by kernel_rfl) (law_step_1.ok N) (pcsOk_nil))
theorem ok (N : Nat) : (S N).con.Ok Tryz.prog 8 := okM (F := S N) [] Tryz.func8 (by kernel_rfl) (by rfl) mix (cok N) (pok N) fun _ => by kernel_rfl
end law_step
namespace law_laid_c
def ins : Sh := (.cons (.agg (.cons (.box 54 s1) (.cons (.nilp) s71))) s70)
def C (N : Nat) : Ctx := ⟨U, 34, fun _ => true, gam [], gamY []⟩
theorem cok (N : Nat) : (C N).Ok Tryz.prog := ⟨U_ok, GamOk.nil, GamYOk.nil⟩
def code : Code := Tryz.f19.body.getD .skip
def outs : Sh := (.cons (.upd 0 54 s1) s72)
end law_laid_c
noncomputable def law_laid_c.run (N : Nat) (room_ : Int) (used : Int) (files : (List T1)) (steps : Int) (left : Int) (dead : Bool) (w : Int) (w1 : Int) (w2 : (List T1)) (w3 : Bool) (w4 : Bool) (w5 : Int) (w6 : (List UInt8)) (w7 : T12) (w8 : Int) (w9 : Bool) (e : Int) (rd : T5) (rl : T53) (f : Int) : Option T56 :=
  bif decide (e = f) then
    some ((room_, used, files, steps, left, dead, ()), ((), (), rd.1, rd.2.1, rd.2.2.1, rd.2.2.2.1, rd.2.2.2.2.1, rd.2.2.2.2.2, rl.1, rl.2.1, rl.2.2, decide (f = (0 : Int)), ()), false == (decide (f = (0 : Int))), ())
  else some ((room_, used, files, steps, left, dead, ()), ((), (), rd.1, rd.2.1, rd.2.2.1, rd.2.2.2.1, rd.2.2.2.2.1, rd.2.2.2.2.2, rl.1, rl.2.1, rl.2.2, decide (f = (0 : Int)), ()), false, ())
namespace law_laid_c
def fn (N : Nat) : Sh.den ins → Option (Sh.den outs) := fun (((a, b, c, d, e, f, _), _, g, h, i, j, k, l, m, o, p, q, _), _, r, s, t, u, _) => law_laid_c.run N a b c d e f g h i j k l m o p q r s t u
def S (N : Nat) : Fs := ⟨ins, outs, fn N⟩
def lam (N : Nat) : Pcs := pcs []
theorem pok (N : Nat) : (lam N).Ok Tryz.prog (C N) code := pcsOk_nil
theorem ok (N : Nat) : (S N).con.Ok Tryz.prog 19 := okF (F := S N) [] Tryz.func19 (by kernel_rfl) (by rfl) mix (cok N) (pok N) fun _ => by kernel_rfl
end law_laid_c
namespace law_laid_d
def ins : Sh := (.cons (.agg (.cons (.box 54 s1) (.cons (.nilp) s71))) s73)
def C (N : Nat) : Ctx := ⟨U, 34, fun _ => true, gam [], gamY []⟩
theorem cok (N : Nat) : (C N).Ok Tryz.prog := ⟨U_ok, GamOk.nil, GamYOk.nil⟩
def code : Code := Tryz.f19.body.getD .skip
def outs : Sh := s89
end law_laid_d
noncomputable def law_laid_d.run (N : Nat) (room_ : Int) (used : Int) (files : (List T1)) (steps : Int) (left : Int) (dead : Bool) (w : Int) (w1 : Int) (w2 : (List T1)) (w3 : Bool) (w4 : Bool) (w5 : Int) (w6 : (List UInt8)) (w7 : T12) (w8 : Int) (w9 : Bool) (name : (List UInt8)) (l : T12) (size : Int) (e : Int) (rd : T5) (rl : T53) (f : Int) : Option T57 :=
  bif decide (e = f) then
    some ((room_, used, files, steps, left, dead, ()), ((), name, l, size, ()), ((), (), rd.1, rd.2.1, rd.2.2.1, rd.2.2.2.1, rd.2.2.2.2.1, rd.2.2.2.2.2, rl.1, rl.2.1, rl.2.2, decide (f = (0 : Int)), ()), true == (decide (f = (0 : Int))), ())
  else some ((room_, used, files, steps, left, dead, ()), ((), name, l, size, ()), ((), (), rd.1, rd.2.1, rd.2.2.1, rd.2.2.2.1, rd.2.2.2.2.1, rd.2.2.2.2.2, rl.1, rl.2.1, rl.2.2, decide (f = (0 : Int)), ()), false, ())
namespace law_laid_d
def fn (N : Nat) : Sh.den ins → Option (Sh.den outs) := fun (((a, b, c, d, e, f, _), _, g, h, i, j, k, l, m, o, p, q, _), (_, r, s, t, _), u, v, w, x, _) => law_laid_d.run N a b c d e f g h i j k l m o p q r s t u v w x
def S (N : Nat) : Fs := ⟨ins, outs, fn N⟩
def lam (N : Nat) : Pcs := pcs []
theorem pok (N : Nat) : (lam N).Ok Tryz.prog (C N) code := pcsOk_nil
theorem ok (N : Nat) : (S N).con.Ok Tryz.prog 19 := okF (F := S N) [] Tryz.func19 (by kernel_rfl) (by rfl) mix (cok N) (pok N) fun _ => by kernel_rfl
end law_laid_d
namespace law_step_d
def ins : Sh := (.cons (.agg (.cons (.box 54 s1) (.cons (.nilp) s71))) s79)
def C (N : Nat) : Ctx := ⟨U, 161, fun _ => true, gam [(17, (fD5.S N).con), (18, (fD1.S N).con), (19, (((law_laid_d.S N).con).or (law_laid_c.S N).con))], gamY []⟩
theorem cok (N : Nat) : (C N).Ok Tryz.prog := ⟨U_ok, GamOk.cons (fD5.ok N) (GamOk.cons (fD1.ok N) (GamOk.cons (Con.or_ok (law_laid_d.ok N) (law_laid_c.ok N)) (GamOk.nil))), GamYOk.nil⟩
def code : Code := Tryz.f8.body.getD .skip
def outs : List Sh := [(.cons (.upd 0 54 s1) s72), (.cons (.upd 0 54 s1) s80)]
end law_step_d
namespace law_step_d_0
def ins : Sh := s90
def ts : List Tmp := [2]
def asg : List Tmp := [6, 7, 22, 23, 24, 25, 26, 27]
def C (N : Nat) : Ctx := { law_step_d.C N with may := fun t => asg.any (Nat.beq t) }
def code : Code := (sub law_step_d.code [true, false, true, false, true, false, false]).getD .skip
theorem cok (N : Nat) : (C N).Ok Tryz.prog := okC (law_step_d.cok N) _
def alts : List Alt := [⟨.normal, [6, 7], (.cons (.upd 1 54 s1) s15)⟩, ⟨.normal, [6, 7], (.cons (.upd 1 54 s1) s18)⟩]
end law_step_d_0
noncomputable def law_step_d_0.run (N : Nat) (room_ : Int) (used : Int) (files : (List T1)) (steps : Int) (left : Int) (dead : Bool) (rd : Int) (rd1 : Int) (rd2 : (List T1)) (rd3 : Bool) (rd4 : Bool) (rd5 : Int) (rl : (List UInt8)) (rl1 : T12) (rl2 : Int) (up : Bool) : Option (T13 ⊕ T15) :=
  obind (fD5.run N room_ used files steps left dead ([(108 : UInt8), (111 : UInt8), (103 : UInt8)] : List UInt8)) fun y => match y with
  | .inl ((room1, used1, files1, steps1, left1, dead1, _), _, n_, _) =>
      some (.inl ((room1, used1, files1, steps1, left1, dead1, ()), (), n_, ()))
  | .inr ((room2, used2, files2, steps2, left2, dead2, _), (_, name, l, size, _), n1, _) =>
      some (.inr ((room2, used2, files2, steps2, left2, dead2, ()), ((), name, l, size, ()), n1, ()))
namespace law_step_d_0
def fn (N : Nat) : Sh.den ins → Option (altsDen alts) := fun (((a, b, c, d, e, f, _), _, g, h, i, j, k, l, m, o, p, q, _), _) => law_step_d_0.run N a b c d e f g h i j k l m o p q
def P (N : Nat) : Ps := ⟨ts, ins, asg, alts, fn N⟩
def lam (N : Nat) : Pcs := pcs []
theorem pok (N : Nat) : (lam N).Ok Tryz.prog (C N) code := pcsOk_nil
theorem ok (N : Nat) : ((P N).pc (law_step_d.C N)).Ok Tryz.prog (law_step_d.C N) code := okP (F := P N) (law_step_d.cok N) mix (pok N) fun _ => by kernel_rfl
end law_step_d_0
noncomputable def law_step_d.run (N : Nat) (room_ : Int) (used : Int) (files : (List T1)) (steps : Int) (left : Int) (dead : Bool) (w : Int) (w1 : Int) (w2 : (List T1)) (w3 : Bool) (w4 : Bool) (w5 : Int) (w6 : (List UInt8)) (w7 : T12) (w8 : Int) (w9 : Bool) : Option (T56 ⊕ T66) :=
  obind (law_step_d_0.run N room_ used files steps left dead w w1 w2 w3 w4 w5 w6 w7 w8 w9) fun y => match y with
  | .inl ((room3, used3, files3, steps3, left3, dead3, _), _, e, _) =>
      obind (fD1.run N (w, w1, w2, w3, w4, w5) ([(108 : UInt8), (111 : UInt8), (103 : UInt8)] : List UInt8)) fun (v, v1, n2, _) =>
        obind (law_laid_c.run N room3 used3 files3 steps3 left3 dead3 w w1 w2 w3 w4 w5 w6 w7 w8 w9 e v v1 n2) fun ((room5, used5, files5, steps5, left5, dead5, _), (_, _, v2, v3, v4, v5, v6, v7, v8, v9, v10, v11, _), b, _) =>
          some (.inl ((room5, used5, files5, steps5, left5, dead5, ()), ((), (), v2, v3, v4, v5, v6, v7, v8, v9, v10, v11, ()), b, ()))
  | .inr ((room4, used4, files4, steps4, left4, dead4, _), (_, name1, l1, size1, _), e1, _) =>
      obind (fD1.run N (w, w1, w2, w3, w4, w5) ([(108 : UInt8), (111 : UInt8), (103 : UInt8)] : List UInt8)) fun (v12, v13, n3, _) =>
        obind (law_laid_d.run N room4 used4 files4 steps4 left4 dead4 w w1 w2 w3 w4 w5 w6 w7 w8 w9 name1 l1 size1 e1 v12 v13 n3) fun ((room6, used6, files6, steps6, left6, dead6, _), (_, name2, l2, size2, _), (_, _, v14, v15, v16, v17, v18, v19, v20, v21, v22, v23, _), b1, _) =>
          some (.inr ((room6, used6, files6, steps6, left6, dead6, ()), ((), ((), name2, l2, size2, ()), v14, v15, v16, v17, v18, v19, v20, v21, v22, v23, ()), b1, ()))
namespace law_step_d
def fn (N : Nat) : Sh.den ins → Option (shsDen outs) := fun (((a, b, c, d, e, f, _), _, g, h, i, j, k, l, m, o, p, q, _), (_, _, _, _, _), _) => law_step_d.run N a b c d e f g h i j k l m o p q
def S (N : Nat) : Fm := ⟨ins, outs, fn N⟩
def lam (N : Nat) : Pcs := pcs [([true, false, true, false, true, false, false], (law_step_d_0.P N).pc (C N))]
theorem pok (N : Nat) : (lam N).Ok Tryz.prog (C N) code := pcsOk_cons (c1 := law_step_d_0.code) (by kernel_rfl) (law_step_d_0.ok N) (pcsOk_nil)
theorem ok (N : Nat) : (S N).con.Ok Tryz.prog 8 := okM (F := S N) [] Tryz.func8 (by kernel_rfl) (by rfl) mix (cok N) (pok N) fun _ => by kernel_rfl
end law_step_d
namespace law_step_c
def ins : Sh := (.cons (.agg (.cons (.box 54 s1) (.cons (.nilp) s71))) s86)
def C (N : Nat) : Ctx := ⟨U, 161, fun _ => true, gam [(17, (fD5.S N).con), (18, (fD1.S N).con), (19, (((law_laid_d.S N).con).or (law_laid_c.S N).con)), (16, (fD9.S N).con), (20, (fB1.S N).con), (21, (fC12.S N).con), (22, (fB40.S N).con), (23, (fA6.S N).con), (24, (fA15.S N).con), (8, (law_step_d.S N).con), (12, (fD15.S N).con), (25, (fC1.S N).con), (13, (fD22.S N).con)], gamY []⟩
theorem cok (N : Nat) : (C N).Ok Tryz.prog := ⟨U_ok, GamOk.cons (fD5.ok N) (GamOk.cons (fD1.ok N) (GamOk.cons (Con.or_ok (law_laid_d.ok N) (law_laid_c.ok N)) (GamOk.cons (fD9.ok N) (GamOk.cons (fB1.ok N) (GamOk.cons (fC12.ok N) (GamOk.cons (fB40.ok N) (GamOk.cons (fA6.ok N) (GamOk.cons (fA15.ok N) (GamOk.cons (law_step_d.ok N) (GamOk.cons (fD15.ok N) (GamOk.cons (fC1.ok N) (GamOk.cons (fD22.ok N) (GamOk.nil))))))))))))), GamYOk.nil⟩
def code : Code := Tryz.f8.body.getD .skip
def outs : List Sh := [(.cons (.upd 0 54 s1) s72), (.cons (.upd 0 54 s1) s80), (.cons (.upd 0 54 s1) s87), s88]
end law_step_c
namespace law_step_c_0
def ins : Sh := s90
def ts : List Tmp := [2]
def asg : List Tmp := [6, 7, 22, 23, 24, 25, 26, 27]
def C (N : Nat) : Ctx := { law_step_c.C N with may := fun t => asg.any (Nat.beq t) }
def code : Code := (sub law_step_c.code [true, false, true, false, true, false, false]).getD .skip
theorem cok (N : Nat) : (C N).Ok Tryz.prog := okC (law_step_c.cok N) _
def alts : List Alt := [⟨.normal, [6, 7], (.cons (.upd 1 54 s1) s15)⟩, ⟨.normal, [6, 7], (.cons (.upd 1 54 s1) s18)⟩]
end law_step_c_0
noncomputable def law_step_c_0.run (N : Nat) (room_ : Int) (used : Int) (files : (List T1)) (steps : Int) (left : Int) (dead : Bool) (rd : Int) (rd1 : Int) (rd2 : (List T1)) (rd3 : Bool) (rd4 : Bool) (rd5 : Int) (rl : (List UInt8)) (rl1 : T12) (rl2 : Int) (up : Bool) : Option (T13 ⊕ T15) :=
  obind (fD5.run N room_ used files steps left dead ([(108 : UInt8), (111 : UInt8), (103 : UInt8)] : List UInt8)) fun y => match y with
  | .inl ((room1, used1, files1, steps1, left1, dead1, _), _, n_, _) =>
      some (.inl ((room1, used1, files1, steps1, left1, dead1, ()), (), n_, ()))
  | .inr ((room2, used2, files2, steps2, left2, dead2, _), (_, name, l, size, _), n1, _) =>
      some (.inr ((room2, used2, files2, steps2, left2, dead2, ()), ((), name, l, size, ()), n1, ()))
namespace law_step_c_0
def fn (N : Nat) : Sh.den ins → Option (altsDen alts) := fun (((a, b, c, d, e, f, _), _, g, h, i, j, k, l, m, o, p, q, _), _) => law_step_c_0.run N a b c d e f g h i j k l m o p q
def P (N : Nat) : Ps := ⟨ts, ins, asg, alts, fn N⟩
def lam (N : Nat) : Pcs := pcs []
theorem pok (N : Nat) : (lam N).Ok Tryz.prog (C N) code := pcsOk_nil
theorem ok (N : Nat) : ((P N).pc (law_step_c.C N)).Ok Tryz.prog (law_step_c.C N) code := okP (F := P N) (law_step_c.cok N) mix (pok N) fun _ => by kernel_rfl
end law_step_c_0
namespace law_step_c_1
def ins : Sh := s90
def ts : List Tmp := [2]
def asg : List Tmp := [11, 12, 46, 47, 48, 49, 50, 51]
def C (N : Nat) : Ctx := { law_step_c.C N with may := fun t => asg.any (Nat.beq t) }
def code : Code := (sub law_step_c.code [true, false, true, false, true, true, true, false, false]).getD .skip
theorem cok (N : Nat) : (C N).Ok Tryz.prog := okC (law_step_c.cok N) _
def alts : List Alt := [⟨.normal, [11, 12], (.cons (.upd 1 54 s1) s15)⟩, ⟨.normal, [11, 12], (.cons (.upd 1 54 s1) s18)⟩]
end law_step_c_1
noncomputable def law_step_c_1.run (N : Nat) (room_ : Int) (used : Int) (files : (List T1)) (steps : Int) (left : Int) (dead : Bool) (rd : Int) (rd1 : Int) (rd2 : (List T1)) (rd3 : Bool) (rd4 : Bool) (rd5 : Int) (rl : (List UInt8)) (rl1 : T12) (rl2 : Int) (up : Bool) : Option (T13 ⊕ T15) :=
  obind (fD9.run N room_ used files steps left dead ([(108 : UInt8), (111 : UInt8), (103 : UInt8)] : List UInt8)) fun y => match y with
  | .inl ((room1, used1, files1, steps1, left1, dead1, _), _, n_, _) =>
      some (.inl ((room1, used1, files1, steps1, left1, dead1, ()), (), n_, ()))
  | .inr ((room2, used2, files2, steps2, left2, dead2, _), (_, name, l, size, _), n1, _) =>
      some (.inr ((room2, used2, files2, steps2, left2, dead2, ()), ((), name, l, size, ()), n1, ()))
namespace law_step_c_1
def fn (N : Nat) : Sh.den ins → Option (altsDen alts) := fun (((a, b, c, d, e, f, _), _, g, h, i, j, k, l, m, o, p, q, _), _) => law_step_c_1.run N a b c d e f g h i j k l m o p q
def P (N : Nat) : Ps := ⟨ts, ins, asg, alts, fn N⟩
def lam (N : Nat) : Pcs := pcs []
theorem pok (N : Nat) : (lam N).Ok Tryz.prog (C N) code := pcsOk_nil
theorem ok (N : Nat) : ((P N).pc (law_step_c.C N)).Ok Tryz.prog (law_step_c.C N) code := okP (F := P N) (law_step_c.cok N) mix (pok N) fun _ => by kernel_rfl
end law_step_c_1
noncomputable def law_step_c.run (N : Nat) (room_ : Int) (used : Int) (files : (List T1)) (steps : Int) (left : Int) (dead : Bool) (w : Int) (w1 : Int) (w2 : (List T1)) (w3 : Bool) (w4 : Bool) (w5 : Int) (w6 : (List UInt8)) (w7 : T12) (w8 : Int) (w9 : Bool) (o : T68) : Option T73 :=
  bif decide (o.1 = (2 : Int)) then
    obind (law_step_c_0.run N room_ used files steps left dead w w1 w2 w3 w4 w5 w6 w7 w8 w9) fun y => match y with
    | .inl ((room3, used3, files3, steps3, left3, dead3, _), _, e, _) =>
        obind (fD1.run N (w, w1, w2, w3, w4, w5) ([(108 : UInt8), (111 : UInt8), (103 : UInt8)] : List UInt8)) fun (v, v1, n2, _) =>
          obind (law_laid_c.run N room3 used3 files3 steps3 left3 dead3 w w1 w2 w3 w4 w5 w6 w7 w8 w9 e v v1 n2) fun ((room5, used5, files5, steps5, left5, dead5, _), (_, _, v2, v3, v4, v5, v6, v7, v8, v9, v10, v11, _), b, _) =>
            some (.inl ((room5, used5, files5, steps5, left5, dead5, ()), ((), (), v2, v3, v4, v5, v6, v7, v8, v9, v10, v11, ()), b, ()))
    | .inr ((room4, used4, files4, steps4, left4, dead4, _), (_, name1, l1, size1, _), e1, _) =>
        obind (fD1.run N (w, w1, w2, w3, w4, w5) ([(108 : UInt8), (111 : UInt8), (103 : UInt8)] : List UInt8)) fun (v12, v13, n3, _) =>
          obind (law_laid_d.run N room4 used4 files4 steps4 left4 dead4 w w1 w2 w3 w4 w5 w6 w7 w8 w9 name1 l1 size1 e1 v12 v13 n3) fun ((room6, used6, files6, steps6, left6, dead6, _), (_, name2, l2, size2, _), (_, _, v14, v15, v16, v17, v18, v19, v20, v21, v22, v23, _), b1, _) =>
            some (.inr (.inl ((room6, used6, files6, steps6, left6, dead6, ()), ((), ((), name2, l2, size2, ()), v14, v15, v16, v17, v18, v19, v20, v21, v22, v23, ()), b1, ())))
  else
    bif decide (o.1 = (3 : Int)) then
      obind (law_step_c_1.run N room_ used files steps left dead w w1 w2 w3 w4 w5 w6 w7 w8 w9) fun y => match y with
      | .inl ((room9, used9, files9, steps9, left9, dead9, _), _, e2, _) =>
          obind (fB1.run N (w, w1, w2, w3, w4, w5) ([(108 : UInt8), (111 : UInt8), (103 : UInt8)] : List UInt8)) fun (v24, v25, n6, _) =>
            obind (law_laid_c.run N room9 used9 files9 steps9 left9 dead9 w w1 w2 w3 w4 w5 w6 w7 w8 w9 e2 v24 v25 n6) fun ((room11, used11, files11, steps11, left11, dead11, _), (_, _, v26, v27, v28, v29, v30, v31, v32, v33, v34, v35, _), b2, _) =>
              some (.inl ((room11, used11, files11, steps11, left11, dead11, ()), ((), (), v26, v27, v28, v29, v30, v31, v32, v33, v34, v35, ()), b2, ()))
      | .inr ((room10, used10, files10, steps10, left10, dead10, _), (_, name4, l4, size4, _), e3, _) =>
          obind (fB1.run N (w, w1, w2, w3, w4, w5) ([(108 : UInt8), (111 : UInt8), (103 : UInt8)] : List UInt8)) fun (v36, v37, n7, _) =>
            obind (law_laid_d.run N room10 used10 files10 steps10 left10 dead10 w w1 w2 w3 w4 w5 w6 w7 w8 w9 name4 l4 size4 e3 v36 v37 n7) fun ((room12, used12, files12, steps12, left12, dead12, _), (_, name5, l5, size5, _), (_, _, v38, v39, v40, v41, v42, v43, v44, v45, v46, v47, _), b3, _) =>
              some (.inr (.inl ((room12, used12, files12, steps12, left12, dead12, ()), ((), ((), name5, l5, size5, ()), v38, v39, v40, v41, v42, v43, v44, v45, v46, v47, ()), b3, ())))
    else
      bif decide (o.1 = (4 : Int)) then
        obind (fC12.run N room_ used files steps left dead o.2.1) fun ((room13, used13, files13, steps13, left13, dead13, _), _) =>
          obind (fB40.run N (w, w1, w2, w3, w4, w5) o.2.1) fun (v48, _) =>
            some (.inl ((room13, used13, files13, steps13, left13, dead13, ()), ((), (), v48.1, v48.2.1, v48.2.2.1, v48.2.2.2.1, v48.2.2.2.2.1, v48.2.2.2.2.2, w6, w7, w8, w9, ()), true, ()))
      else
        bif decide (o.1 = (5 : Int)) then
          obind (fA6.run N room_ used files steps left dead o.2.2.2) fun ((room14, used14, files14, steps14, left14, dead14, _), (room15, used15, files15, steps15, left15, dead15, _), _) =>
            obind (fA15.run N (w, w1, w2, w3, w4, w5) o.2.2.2) fun (v49, _) =>
              obind (law_step_d.run N room15 used15 files15 steps15 left15 dead15 v49.1 v49.2.1 v49.2.2.1 v49.2.2.2.1 v49.2.2.2.2.1 v49.2.2.2.2.2 w6 w7 w8 w9) fun y => match y with
              | .inl ((room16, used16, files16, steps16, left16, dead16, _), (_, _, v50, v51, v52, v53, v54, v55, v56, v57, v58, v59, _), b4, _) =>
                  some (.inr (.inr (.inl ((room14, used14, files14, steps14, left14, dead14, ()), ((room16, used16, files16, steps16, left16, dead16, ()), (), v50, v51, v52, v53, v54, v55, v56, v57, v58, v59, ()), b4, ()))))
              | .inr ((room17, used17, files17, steps17, left17, dead17, _), (_, (_, name6, l6, size6, _), v60, v61, v62, v63, v64, v65, v66, v67, v68, v69, _), b5, _) =>
                  some (.inr (.inr (.inr ((room14, used14, files14, steps14, left14, dead14, ()), ((room17, used17, files17, steps17, left17, dead17, ()), ((), name6, l6, size6, ()), v60, v61, v62, v63, v64, v65, v66, v67, v68, v69, ()), b5, ()))))
        else
          bif !w9 then
            some (.inl ((room_, used, files, steps, left, dead, ()), ((), (), w, w1, w2, w3, w4, w5, w6, w7, w8, w9, ()), true, ()))
          else
            bif decide (o.1 = (0 : Int)) then
              obind (fD15.run N o.2.2.1) fun (n8, _) =>
                obind (fC1.run N (w, w1, w2, w3, w4, w5) (w6, w7, w8) o.2.2.1) fun (v70, v71, n9, _) =>
                  some (.inl ((room_, used, files, steps, left, dead, ()), ((), (), v70.1, v70.2.1, v70.2.2.1, v70.2.2.2.1, v70.2.2.2.2.1, v70.2.2.2.2.2, v71.1, v71.2.1, v71.2.2, w9, ()), decide (n8 = n9), ()))
            else
              obind (fD22.run N) fun (_, _) =>
                none
namespace law_step_c
def fn (N : Nat) : Sh.den ins → Option (shsDen outs) := fun (((a, b, c, d, e, f, _), _, g, h, i, j, k, l, m, o, p, q, _), r, _) => law_step_c.run N a b c d e f g h i j k l m o p q r
def S (N : Nat) : Fm := ⟨ins, outs, fn N⟩
def lam (N : Nat) : Pcs := pcs [([true, false, true, false, true, false, false], (law_step_c_0.P N).pc (C N)), ([true, false, true, false, true, true, true, false, false], (law_step_c_1.P N).pc (C N))]
theorem pok (N : Nat) : (lam N).Ok Tryz.prog (C N) code := pcsOk_cons (c1 := law_step_c_0.code) (by kernel_rfl) (law_step_c_0.ok N) (pcsOk_cons (c1 := law_step_c_1.code) (by kernel_rfl) (law_step_c_1.ok N) (pcsOk_nil))
theorem ok (N : Nat) : (S N).con.Ok Tryz.prog 8 := okM (F := S N) [] Tryz.func8 (by kernel_rfl) (by rfl) mix (cok N) (pok N) fun _ => by kernel_rfl
end law_step_c
namespace Y3
def ins : Sh := (.cons (.box 80 (.cons (.own 9 .str) .nil)) (.cons (.val .str) .nil))
def C (N : Nat) : Ctx := ⟨U, 13, fun _ => true, gam [], gamY []⟩
theorem cok (N : Nat) : (C N).Ok Tryz.prog := ⟨U_ok, GamOk.nil, GamYOk.nil⟩
def code : Code := site3.body
def alts : List Alt := [⟨.normal, [], (.cons (.upd 0 80 (.cons (.own 9 .str) .nil)) .nil)⟩]
end Y3
noncomputable def Y3.run (N : Nat) (l : T12) (t7 : (List UInt8)) : Option (T27) :=
  bif room (l.length + 1) 16 then
    some ((l ++ ([t7] : List (List UInt8)), ()), ())
  else none
namespace Y3
def fn (N : Nat) : Sh.den ins → Option (altsDen alts) := fun ((a, _), b, _) => Y3.run N a b
def F (N : Nat) : Ys := ⟨[3], [7], ins, alts, fn N⟩
def yc (N : Nat) : Yc := (F N).yc
def lam (N : Nat) : Pcs := pcs []
theorem pok (N : Nat) : (lam N).Ok Tryz.prog (C N) site3.body := pcsOk_nil
theorem ev (N : Nat) (x : Sh.den ins) : evC (C N) site3.assign (pcs []) ⟨addT [3, 7] (bld (fun k => k) ins x 0).1 [], (bld (fun k => k) ins x 0).2.1, 1000⟩ (thenC fun s => evC (C N) site3.body (lam N) s (altK alts)) = fn N x := by kernel_rfl
theorem ok (N : Nat) : (yc N).Ok Tryz.prog 1000003 := ys_ok (σ := site3) (k := 3) (C := C N) (F := F N) (n0 := 1000) (fun _ => rfl) (cok N) mix (fun _ => rfl) (show site3.ps.toList = [7] by kernel_rfl) (show site3.ts = [3] by kernel_rfl) (show site3.nt = 13 by kernel_rfl) rfl rfl rfl rfl rfl pcsOk_nil (pok N) (fun x y h => (ev N x).trans h)
end Y3
namespace fA3
def ins : Sh := (.cons s91 (.cons (.rbox 24 (.cons (.rbox 54 s3) .nil)) .nil))
def C (N : Nat) : Ctx := ⟨U, 21, fun _ => true, gam [(85, (fB0.S N).con), (84, (fB16.S N).con)], gamY [(1000003, Y3.yc N)]⟩
theorem cok (N : Nat) : (C N).Ok Tryz.prog := ⟨U_ok, GamOk.cons (fB0.ok N) (GamOk.cons (fB16.ok N) (GamOk.nil)), GamYOk.cons (Y3.ok N) (GamYOk.nil)⟩
def code : Code := Tryz.f83.body.getD .skip
def outs : Sh := s92
end fA3
namespace fB6
def ins : Sh := (.cons s91 (.cons (.rown 9 .str) s13))
def ts : List Tmp := [0, 10, 11, 12]
def asg : List Tmp := [4, 12, 13, 14, 15, 16, 17, 18, 19, 20]
def C (N : Nat) : Ctx := { fA3.C N with may := fun t => asg.any (Nat.beq t) }
def code : Code := loopBody (sub fA3.code [true, false])
theorem cok (N : Nat) : (C N).Ok Tryz.prog := okC (fA3.cok N) _
def alts : List Alt := [⟨(.exit 0), [], s92⟩]
end fB6
noncomputable def fB6.go (N : Nat) : Nat → Int → T12 → T12 → Int → Int → Option (T35)
  | 0, _, _, _, _, _ => none
  | fuel + 1, yield, yield1, t10, t11, t12 =>
    bif decide (t12 < t11) then
      bif inB t12 t10.length then
        bif decide (t12.toNat < t10.length) then
          bif decide (yield = (0 : Int)) then
            obind (Y3.run N yield1 (t10.getD t12.toNat ([] : List UInt8))) fun ((v, _), _) =>
              fB6.go N fuel (0 : Int) v t10 t11 (IntKind.i64.wrap (t12 + (1 : Int)))
          else none
        else none
      else none
    else some ((yield1, ()), (yield, (), (), (), (), ()), ())
namespace fB6
def g (N n : Nat) : Sh.den ins → Option (altsDen alts) := fun ((a, _, _, _, (b, _), _), c, d, e, _) => fB6.go N n a b c d e
def P (N : Nat) : Ps := ⟨ts, ins, asg, alts, g N N⟩
def lam (N : Nat) : Pcs := pcs []
theorem pok (N : Nat) : (lam N).Ok Tryz.prog (C N) code := pcsOk_nil
theorem ok (N : Nat) : ((P N).pc (fA3.C N)).Ok Tryz.prog (fA3.C N) (.loop code) := okL (F := P N) (g N) (fA3.cok N) mix (pok N) (fun _ => rfl) rfl fun _ _ => by kernel_rfl
end fB6
noncomputable def fA3.run (N : Nat) (yield : Int) (yield1 : T12) (room_ : Int) (used : Int) (files : (List T1)) (steps : Int) (left : Int) (dead : Bool) : Option T35 :=
  obind (fB0.run N files) fun (((_, _), _), _) =>
    obind (fB16.run N files) fun (names, _) =>
      obind (fB6.go N N yield yield1 names (names.length : Int) (0 : Int)) fun ((v, _), (v1, _, _, _, _, _), _) =>
        some ((v, ()), (v1, (), (), (), (), ()), ())
namespace fA3
def fn (N : Nat) : Sh.den ins → Option (Sh.den outs) := fun ((a, _, _, _, (b, _), _), ((c, d, e, f, g, h, _), _), _) => fA3.run N a b c d e f g h
def S (N : Nat) : Fs := ⟨ins, outs, fn N⟩
def lam (N : Nat) : Pcs := pcs [([true, false], (fB6.P N).pc (C N))]
theorem pok (N : Nat) : (lam N).Ok Tryz.prog (C N) code := pcsOk_cons (c1 := .loop fB6.code) (by kernel_rfl) (fB6.ok N) (pcsOk_nil)
theorem ok (N : Nat) : (S N).con.Ok Tryz.prog 83 := okF (F := S N) [] Tryz.func83 (by kernel_rfl) (by rfl) mix (cok N) (pok N) fun _ => by kernel_rfl
end fA3
namespace fC14
def ins : Sh := (.cons (.box 54 s1) .nil)
def C (N : Nat) : Ctx := ⟨U, 13, fun _ => true, gam [(49, (fA20.S N).con), (83, (fA3.S N).con)], gamY []⟩
theorem cok (N : Nat) : (C N).Ok Tryz.prog := ⟨U_ok, GamOk.cons (fA20.ok N) (GamOk.cons (fA3.ok N) (GamOk.nil)), GamYOk.nil⟩
def code : Code := Tryz.f34.body.getD .skip
def outs : Sh := (.cons (.upd 0 54 s1) (.cons (.own 9 .str) .nil))
end fC14
noncomputable def fC14.run (N : Nat) (room_ : Int) (used : Int) (files : (List T1)) (steps : Int) (left : Int) (dead : Bool) : Option T74 :=
  obind (fA20.run N room_ used files steps left dead) fun ((room1, used1, files1, steps1, left1, dead1, _), ((_, _), _), _) =>
    obind (fA3.run N (0 : Int) ([] : List (List UInt8)) room1 used1 files1 steps1 left1 dead1) fun ((v, _), (v1, _, _, _, _, _), _) =>
      bif decide (v1 = (0 : Int)) then
        some ((room1, used1, files1, steps1, left1, dead1, ()), v, ())
      else none
namespace fC14
def fn (N : Nat) : Sh.den ins → Option (Sh.den outs) := fun ((a, b, c, d, e, f, _), _) => fC14.run N a b c d e f
def S (N : Nat) : Fs := ⟨ins, outs, fn N⟩
def lam (N : Nat) : Pcs := pcs [([true, true, false, true, false], rfPc (C N) 1000003 (.tmp 6) [3] [.normal])]
theorem pok (N : Nat) : (lam N).Ok Tryz.prog (C N) code := pcsOk_cons (c1 := .rangeFunc (.tmp 6) site3.ps site3.assign site3.body) (by kernel_rfl) (rf_ok (k := 3) (fun _ => rfl) (cok N)) (pcsOk_nil)
theorem ok (N : Nat) : (S N).con.Ok Tryz.prog 34 := okF (F := S N) [] Tryz.func34 (by kernel_rfl) (by rfl) mix (cok N) (pok N) fun _ => by kernel_rfl
end fC14
namespace fD17
def ins : Sh := (.cons (.rbox 54 s3) .nil)
def C (N : Nat) : Ctx := ⟨U, 7, fun _ => true, gam [], gamY []⟩
theorem cok (N : Nat) : (C N).Ok Tryz.prog := ⟨U_ok, GamOk.nil, GamYOk.nil⟩
def code : Code := Tryz.f35.body.getD .skip
def outs : Sh := (.cons (.val (.int .i64)) .nil)
end fD17
noncomputable def fD17.run (N : Nat) (room_ : Int) (used : Int) (files : (List T1)) (steps : Int) (left : Int) (dead : Bool) : Option (Int × Unit) :=
  some (steps, ())
namespace fD17
def fn (N : Nat) : Sh.den ins → Option (Sh.den outs) := fun ((a, b, c, d, e, f, _), _) => fD17.run N a b c d e f
def S (N : Nat) : Fs := ⟨ins, outs, fn N⟩
def lam (N : Nat) : Pcs := pcs []
theorem pok (N : Nat) : (lam N).Ok Tryz.prog (C N) code := pcsOk_nil
theorem ok (N : Nat) : (S N).con.Ok Tryz.prog 35 := okF (F := S N) [] Tryz.func35 (by kernel_rfl) (by rfl) mix (cok N) (pok N) fun _ => by kernel_rfl
end fD17
namespace law_files
def ins : Sh := (.cons (.agg (.cons (.box 54 s1) (.cons (.nilp) s71))) .nil)
def C (N : Nat) : Ctx := ⟨U, 73, fun _ => true, gam [(34, (fC14.S N).con), (35, (fD17.S N).con), (36, (fB12.S N).con), (11, (fA4.S N).con)], gamY []⟩
theorem cok (N : Nat) : (C N).Ok Tryz.prog := ⟨U_ok, GamOk.cons (fC14.ok N) (GamOk.cons (fD17.ok N) (GamOk.cons (fB12.ok N) (GamOk.cons (fA4.ok N) (GamOk.nil)))), GamYOk.nil⟩
def code : Code := Tryz.f15.body.getD .skip
def outs : Sh := s5
end law_files
namespace law_files_0
def ins : Sh := (.cons (.rbox 34 (.cons (.rbox 54 s3) (.cons (.nilp) s71))) s93)
def ts : List Tmp := [1, 3, 38, 39, 40]
def asg : List Tmp := [2, 4, 5, 6, 7, 40, 41, 42, 43, 44, 45, 46, 47, 48, 49, 50, 51, 52, 53, 54, 55, 56, 57, 58, 59, 60, 61, 62, 63, 64, 65, 66, 67, 68, 69, 70, 71, 72]
def C (N : Nat) : Ctx := { law_files.C N with may := fun t => asg.any (Nat.beq t) }
def code : Code := loopBody (sub law_files.code [true, true, true, false, true, false])
theorem cok (N : Nat) : (C N).Ok Tryz.prog := okC (law_files.cok N) _
def alts : List Alt := [⟨.ret, [2], (.cons (.val .bool) .nil)⟩, ⟨(.exit 0), [], .nil⟩]
end law_files_0
noncomputable def law_files_0.go (N : Nat) : Nat → Int → Int → (List T1) → Int → Int → Bool → Int → Int → (List T1) → Bool → Bool → Int → (List UInt8) → T12 → Int → Bool → T12 → (List T1) → Int → Int → Option T11
  | 0, _, _, _, _, _, _, _, _, _, _, _, _, _, _, _, _, _, _, _, _ => none
  | fuel + 1, room_, used, files, steps, left, dead, rd, rd1, rd2, rd3, rd4, rd5, rl, rl1, rl2, up, l, t38, t39, t40 =>
    bif decide (t40 < t39) then
      bif inB t40 t38.length then
        obind (fA4.run N room_ used files steps left dead (t38.getD t40.toNat (([] : List UInt8), ([] : List UInt8), (0 : Int))).1) fun (l1, b, _) =>
          bif inB t40 l.length then
            bif decide (t40.toNat < l.length) then
              bif !(decide ((l.getD t40.toNat ([] : List UInt8)) = (t38.getD t40.toNat (([] : List UInt8), ([] : List UInt8), (0 : Int))).1)) then
                some (.inl (false, ()))
              else
                bif !b then
                  some (.inl (false, ()))
                else
                  bif !(decide (l1 = (t38.getD t40.toNat (([] : List UInt8), ([] : List UInt8), (0 : Int))).2.1)) then
                    some (.inl (false, ()))
                  else law_files_0.go N fuel room_ used files steps left dead rd rd1 rd2 rd3 rd4 rd5 rl rl1 rl2 up l t38 t39 (IntKind.i64.wrap (t40 + (1 : Int)))
            else none
          else none
      else none
    else some (.inr ())
namespace law_files_0
def g (N n : Nat) : Sh.den ins → Option (altsDen alts) := fun (((a, b, c, d, e, f, _), _, g, h, i, j, k, l, m, o, p, q, _), r, s, t, u, _) => law_files_0.go N n a b c d e f g h i j k l m o p q r s t u
def P (N : Nat) : Ps := ⟨ts, ins, asg, alts, g N N⟩
def lam (N : Nat) : Pcs := pcs []
theorem pok (N : Nat) : (lam N).Ok Tryz.prog (C N) code := pcsOk_nil
theorem ok (N : Nat) : ((P N).pc (law_files.C N)).Ok Tryz.prog (law_files.C N) (.loop code) := okL (F := P N) (g N) (law_files.cok N) mix (pok N) (fun _ => rfl) rfl fun _ _ => by kernel_rfl
end law_files_0
noncomputable def law_files.run (N : Nat) (room_ : Int) (used : Int) (files : (List T1)) (steps : Int) (left : Int) (dead : Bool) (w : Int) (w1 : Int) (w2 : (List T1)) (w3 : Bool) (w4 : Bool) (w5 : Int) (w6 : (List UInt8)) (w7 : T12) (w8 : Int) (w9 : Bool) : Option T8 :=
  obind (fC14.run N room_ used files steps left dead) fun ((room1, used1, files1, steps1, left1, dead1, _), l, _) =>
    bif !(decide ((l.length : Int) = (w2.length : Int))) then
      some ((room1, used1, files1, steps1, left1, dead1, ()), false, ())
    else
      obind (fD17.run N room1 used1 files1 steps1 left1 dead1) fun (n_, _) =>
        bif !(decide (n_ = w1)) then
          some ((room1, used1, files1, steps1, left1, dead1, ()), false, ())
        else
          obind (fB12.run N room1 used1 files1 steps1 left1 dead1) fun (b, _) =>
            bif !(b == w4) then
              some ((room1, used1, files1, steps1, left1, dead1, ()), false, ())
            else
              obind (law_files_0.go N N room1 used1 files1 steps1 left1 dead1 w w1 w2 w3 w4 w5 w6 w7 w8 w9 l w2 (w2.length : Int) (0 : Int)) fun y => match y with
              | .inl (t2, _) =>
                  some ((room1, used1, files1, steps1, left1, dead1, ()), t2, ())
              | .inr (_) =>
                  some ((room1, used1, files1, steps1, left1, dead1, ()), true, ())
namespace law_files
def fn (N : Nat) : Sh.den ins → Option (Sh.den outs) := fun (((a, b, c, d, e, f, _), _, g, h, i, j, k, l, m, o, p, q, _), _) => law_files.run N a b c d e f g h i j k l m o p q
def S (N : Nat) : Fs := ⟨ins, outs, fn N⟩
def lam (N : Nat) : Pcs := pcs [([true, true, true, false, true, false], (law_files_0.P N).pc (C N))]
theorem pok (N : Nat) : (lam N).Ok Tryz.prog (C N) code := pcsOk_cons (c1 := .loop law_files_0.code) (by kernel_rfl) (law_files_0.ok N) (pcsOk_nil)
theorem ok (N : Nat) : (S N).con.Ok Tryz.prog 15 := okF (F := S N) [] Tryz.func15 (by kernel_rfl) (by rfl) mix (cok N) (pok N) fun _ => by kernel_rfl
end law_files
namespace law_files_b
def ins : Sh := (.cons (.agg s94) .nil)
def C (N : Nat) : Ctx := ⟨U, 73, fun _ => true, gam [(34, (fC14.S N).con), (35, (fD17.S N).con), (36, (fB12.S N).con), (11, (fA4.S N).con)], gamY []⟩
theorem cok (N : Nat) : (C N).Ok Tryz.prog := ⟨U_ok, GamOk.cons (fC14.ok N) (GamOk.cons (fD17.ok N) (GamOk.cons (fB12.ok N) (GamOk.cons (fA4.ok N) (GamOk.nil)))), GamYOk.nil⟩
def code : Code := Tryz.f15.body.getD .skip
def outs : Sh := s5
end law_files_b
namespace law_files_b_0
def ins : Sh := (.cons (.rbox 34 (.cons (.rbox 54 s3) s95)) s93)
def ts : List Tmp := [1, 3, 38, 39, 40]
def asg : List Tmp := [2, 4, 5, 6, 7, 40, 41, 42, 43, 44, 45, 46, 47, 48, 49, 50, 51, 52, 53, 54, 55, 56, 57, 58, 59, 60, 61, 62, 63, 64, 65, 66, 67, 68, 69, 70, 71, 72]
def C (N : Nat) : Ctx := { law_files_b.C N with may := fun t => asg.any (Nat.beq t) }
def code : Code := loopBody (sub law_files_b.code [true, true, true, false, true, false])
theorem cok (N : Nat) : (C N).Ok Tryz.prog := okC (law_files_b.cok N) _
def alts : List Alt := [⟨.ret, [2], (.cons (.val .bool) .nil)⟩, ⟨(.exit 0), [], .nil⟩]
end law_files_b_0
noncomputable def law_files_b_0.go (N : Nat) : Nat → Int → Int → (List T1) → Int → Int → Bool → (List UInt8) → T12 → Int → Int → Int → (List T1) → Bool → Bool → Int → (List UInt8) → T12 → Int → Bool → T12 → (List T1) → Int → Int → Option T11
  | 0, _, _, _, _, _, _, _, _, _, _, _, _, _, _, _, _, _, _, _, _, _, _, _ => none
  | fuel + 1, room_, used, files, steps, left, dead, name, l, size, rd, rd1, rd2, rd3, rd4, rd5, rl, rl1, rl2, up, l1, t38, t39, t40 =>
    bif decide (t40 < t39) then
      bif inB t40 t38.length then
        obind (fA4.run N room_ used files steps left dead (t38.getD t40.toNat (([] : List UInt8), ([] : List UInt8), (0 : Int))).1) fun (l2, b, _) =>
          bif inB t40 l1.length then
            bif decide (t40.toNat < l1.length) then
              bif !(decide ((l1.getD t40.toNat ([] : List UInt8)) = (t38.getD t40.toNat (([] : List UInt8), ([] : List UInt8), (0 : Int))).1)) then
                some (.inl (false, ()))
              else
                bif !b then
                  some (.inl (false, ()))
                else
                  bif !(decide (l2 = (t38.getD t40.toNat (([] : List UInt8), ([] : List UInt8), (0 : Int))).2.1)) then
                    some (.inl (false, ()))
                  else law_files_b_0.go N fuel room_ used files steps left dead name l size rd rd1 rd2 rd3 rd4 rd5 rl rl1 rl2 up l1 t38 t39 (IntKind.i64.wrap (t40 + (1 : Int)))
            else none
          else none
      else none
    else some (.inr ())
namespace law_files_b_0
def g (N n : Nat) : Sh.den ins → Option (altsDen alts) := fun (((a, b, c, d, e, f, _), (_, g, h, i, _), j, k, l, m, o, p, q, r, s, t, _), u, v, w, x, _) => law_files_b_0.go N n a b c d e f g h i j k l m o p q r s t u v w x
def P (N : Nat) : Ps := ⟨ts, ins, asg, alts, g N N⟩
def lam (N : Nat) : Pcs := pcs []
theorem pok (N : Nat) : (lam N).Ok Tryz.prog (C N) code := pcsOk_nil
theorem ok (N : Nat) : ((P N).pc (law_files_b.C N)).Ok Tryz.prog (law_files_b.C N) (.loop code) := okL (F := P N) (g N) (law_files_b.cok N) mix (pok N) (fun _ => rfl) rfl fun _ _ => by kernel_rfl
end law_files_b_0
noncomputable def law_files_b.run (N : Nat) (room_ : Int) (used : Int) (files : (List T1)) (steps : Int) (left : Int) (dead : Bool) (name : (List UInt8)) (l : T12) (size : Int) (w : Int) (w1 : Int) (w2 : (List T1)) (w3 : Bool) (w4 : Bool) (w5 : Int) (w6 : (List UInt8)) (w7 : T12) (w8 : Int) (w9 : Bool) : Option T8 :=
  obind (fC14.run N room_ used files steps left dead) fun ((room1, used1, files1, steps1, left1, dead1, _), l1, _) =>
    bif !(decide ((l1.length : Int) = (w2.length : Int))) then
      some ((room1, used1, files1, steps1, left1, dead1, ()), false, ())
    else
      obind (fD17.run N room1 used1 files1 steps1 left1 dead1) fun (n_, _) =>
        bif !(decide (n_ = w1)) then
          some ((room1, used1, files1, steps1, left1, dead1, ()), false, ())
        else
          obind (fB12.run N room1 used1 files1 steps1 left1 dead1) fun (b, _) =>
            bif !(b == w4) then
              some ((room1, used1, files1, steps1, left1, dead1, ()), false, ())
            else
              obind (law_files_b_0.go N N room1 used1 files1 steps1 left1 dead1 name l size w w1 w2 w3 w4 w5 w6 w7 w8 w9 l1 w2 (w2.length : Int) (0 : Int)) fun y => match y with
              | .inl (t2, _) =>
                  some ((room1, used1, files1, steps1, left1, dead1, ()), t2, ())
              | .inr (_) =>
                  some ((room1, used1, files1, steps1, left1, dead1, ()), true, ())
namespace law_files_b
def fn (N : Nat) : Sh.den ins → Option (Sh.den outs) := fun (((a, b, c, d, e, f, _), (_, g, h, i, _), j, k, l, m, o, p, q, r, s, t, _), _) => law_files_b.run N a b c d e f g h i j k l m o p q r s t
def S (N : Nat) : Fs := ⟨ins, outs, fn N⟩
def lam (N : Nat) : Pcs := pcs [([true, true, true, false, true, false], (law_files_b_0.P N).pc (C N))]
theorem pok (N : Nat) : (lam N).Ok Tryz.prog (C N) code := pcsOk_cons (c1 := .loop law_files_b_0.code) (by kernel_rfl) (law_files_b_0.ok N) (pcsOk_nil)
theorem ok (N : Nat) : (S N).con.Ok Tryz.prog 15 := okF (F := S N) [] Tryz.func15 (by kernel_rfl) (by rfl) mix (cok N) (pok N) fun _ => by kernel_rfl
end law_files_b
namespace law_laid_e
def ins : Sh := (.cons (.agg s94) s70)
def C (N : Nat) : Ctx := ⟨U, 34, fun _ => true, gam [], gamY []⟩
theorem cok (N : Nat) : (C N).Ok Tryz.prog := ⟨U_ok, GamOk.nil, GamYOk.nil⟩
def code : Code := Tryz.f19.body.getD .skip
def outs : Sh := (.cons (.upd 0 54 s1) s72)
end law_laid_e
noncomputable def law_laid_e.run (N : Nat) (room_ : Int) (used : Int) (files : (List T1)) (steps : Int) (left : Int) (dead : Bool) (name : (List UInt8)) (l : T12) (size : Int) (w : Int) (w1 : Int) (w2 : (List T1)) (w3 : Bool) (w4 : Bool) (w5 : Int) (w6 : (List UInt8)) (w7 : T12) (w8 : Int) (w9 : Bool) (e : Int) (rd : T5) (rl : T53) (f : Int) : Option T56 :=
  bif decide (e = f) then
    some ((room_, used, files, steps, left, dead, ()), ((), (), rd.1, rd.2.1, rd.2.2.1, rd.2.2.2.1, rd.2.2.2.2.1, rd.2.2.2.2.2, rl.1, rl.2.1, rl.2.2, decide (f = (0 : Int)), ()), false == (decide (f = (0 : Int))), ())
  else some ((room_, used, files, steps, left, dead, ()), ((), (), rd.1, rd.2.1, rd.2.2.1, rd.2.2.2.1, rd.2.2.2.2.1, rd.2.2.2.2.2, rl.1, rl.2.1, rl.2.2, decide (f = (0 : Int)), ()), false, ())
namespace law_laid_e
def fn (N : Nat) : Sh.den ins → Option (Sh.den outs) := fun (((a, b, c, d, e, f, _), (_, g, h, i, _), j, k, l, m, o, p, q, r, s, t, _), _, u, v, w, x, _) => law_laid_e.run N a b c d e f g h i j k l m o p q r s t u v w x
def S (N : Nat) : Fs := ⟨ins, outs, fn N⟩
def lam (N : Nat) : Pcs := pcs []
theorem pok (N : Nat) : (lam N).Ok Tryz.prog (C N) code := pcsOk_nil
theorem ok (N : Nat) : (S N).con.Ok Tryz.prog 19 := okF (F := S N) [] Tryz.func19 (by kernel_rfl) (by rfl) mix (cok N) (pok N) fun _ => by kernel_rfl
end law_laid_e
namespace law_laid_f
def ins : Sh := (.cons (.agg s94) s73)
def C (N : Nat) : Ctx := ⟨U, 34, fun _ => true, gam [], gamY []⟩
theorem cok (N : Nat) : (C N).Ok Tryz.prog := ⟨U_ok, GamOk.nil, GamYOk.nil⟩
def code : Code := Tryz.f19.body.getD .skip
def outs : Sh := (.cons (.upd 0 54 s1) (.cons (.upd 4 69 (.cons (.ref 0) (.cons (.val .str) s16))) s74))
end law_laid_f
noncomputable def law_laid_f.run (N : Nat) (room_ : Int) (used : Int) (files : (List T1)) (steps : Int) (left : Int) (dead : Bool) (name : (List UInt8)) (l : T12) (size : Int) (w : Int) (w1 : Int) (w2 : (List T1)) (w3 : Bool) (w4 : Bool) (w5 : Int) (w6 : (List UInt8)) (w7 : T12) (w8 : Int) (w9 : Bool) (name1 : (List UInt8)) (l1 : T12) (size1 : Int) (e : Int) (rd : T5) (rl : T53) (f : Int) : Option T57 :=
  bif decide (e = f) then
    some ((room_, used, files, steps, left, dead, ()), ((), name1, l1, size1, ()), ((), (), rd.1, rd.2.1, rd.2.2.1, rd.2.2.2.1, rd.2.2.2.2.1, rd.2.2.2.2.2, rl.1, rl.2.1, rl.2.2, decide (f = (0 : Int)), ()), true == (decide (f = (0 : Int))), ())
  else some ((room_, used, files, steps, left, dead, ()), ((), name1, l1, size1, ()), ((), (), rd.1, rd.2.1, rd.2.2.1, rd.2.2.2.1, rd.2.2.2.2.1, rd.2.2.2.2.2, rl.1, rl.2.1, rl.2.2, decide (f = (0 : Int)), ()), false, ())
namespace law_laid_f
def fn (N : Nat) : Sh.den ins → Option (Sh.den outs) := fun (((a, b, c, d, e, f, _), (_, g, h, i, _), j, k, l, m, o, p, q, r, s, t, _), (_, u, v, w, _), x, y, z, x26, _) => law_laid_f.run N a b c d e f g h i j k l m o p q r s t u v w x y z x26
def S (N : Nat) : Fs := ⟨ins, outs, fn N⟩
def lam (N : Nat) : Pcs := pcs []
theorem pok (N : Nat) : (lam N).Ok Tryz.prog (C N) code := pcsOk_nil
theorem ok (N : Nat) : (S N).con.Ok Tryz.prog 19 := okF (F := S N) [] Tryz.func19 (by kernel_rfl) (by rfl) mix (cok N) (pok N) fun _ => by kernel_rfl
end law_laid_f
namespace law_laid_g
def ins : Sh := (.cons (.agg s96) s70)
def C (N : Nat) : Ctx := ⟨U, 34, fun _ => true, gam [], gamY []⟩
theorem cok (N : Nat) : (C N).Ok Tryz.prog := ⟨U_ok, GamOk.nil, GamYOk.nil⟩
def code : Code := Tryz.f19.body.getD .skip
def outs : Sh := (.cons (.upd 0 54 s1) s72)
end law_laid_g
noncomputable def law_laid_g.run (N : Nat) (room_ : Int) (used : Int) (files : (List T1)) (steps : Int) (left : Int) (dead : Bool) (room1 : Int) (used1 : Int) (files1 : (List T1)) (steps1 : Int) (left1 : Int) (dead1 : Bool) (name : (List UInt8)) (l : T12) (size : Int) (w : Int) (w1 : Int) (w2 : (List T1)) (w3 : Bool) (w4 : Bool) (w5 : Int) (w6 : (List UInt8)) (w7 : T12) (w8 : Int) (w9 : Bool) (e : Int) (rd : T5) (rl : T53) (f : Int) : Option T56 :=
  bif decide (e = f) then
    some ((room_, used, files, steps, left, dead, ()), ((), (), rd.1, rd.2.1, rd.2.2.1, rd.2.2.2.1, rd.2.2.2.2.1, rd.2.2.2.2.2, rl.1, rl.2.1, rl.2.2, decide (f = (0 : Int)), ()), false == (decide (f = (0 : Int))), ())
  else some ((room_, used, files, steps, left, dead, ()), ((), (), rd.1, rd.2.1, rd.2.2.1, rd.2.2.2.1, rd.2.2.2.2.1, rd.2.2.2.2.2, rl.1, rl.2.1, rl.2.2, decide (f = (0 : Int)), ()), false, ())
namespace law_laid_g
def fn (N : Nat) : Sh.den ins → Option (Sh.den outs) := fun (((a, b, c, d, e, f, _), ((g, h, i, j, k, l, _), m, o, p, _), q, r, s, t, u, v, w, x, y, z, _), _, x26, x27, x28, x29, _) => law_laid_g.run N a b c d e f g h i j k l m o p q r s t u v w x y z x26 x27 x28 x29
def S (N : Nat) : Fs := ⟨ins, outs, fn N⟩
def lam (N : Nat) : Pcs := pcs []
theorem pok (N : Nat) : (lam N).Ok Tryz.prog (C N) code := pcsOk_nil
theorem ok (N : Nat) : (S N).con.Ok Tryz.prog 19 := okF (F := S N) [] Tryz.func19 (by kernel_rfl) (by rfl) mix (cok N) (pok N) fun _ => by kernel_rfl
end law_laid_g
namespace law_laid_h
def ins : Sh := (.cons (.agg s96) s73)
def C (N : Nat) : Ctx := ⟨U, 34, fun _ => true, gam [], gamY []⟩
theorem cok (N : Nat) : (C N).Ok Tryz.prog := ⟨U_ok, GamOk.nil, GamYOk.nil⟩
def code : Code := Tryz.f19.body.getD .skip
def outs : Sh := (.cons (.upd 0 54 s1) (.cons (.upd 6 69 (.cons (.ref 0) (.cons (.val .str) s16))) s74))
end law_laid_h
noncomputable def law_laid_h.run (N : Nat) (room_ : Int) (used : Int) (files : (List T1)) (steps : Int) (left : Int) (dead : Bool) (room1 : Int) (used1 : Int) (files1 : (List T1)) (steps1 : Int) (left1 : Int) (dead1 : Bool) (name : (List UInt8)) (l : T12) (size : Int) (w : Int) (w1 : Int) (w2 : (List T1)) (w3 : Bool) (w4 : Bool) (w5 : Int) (w6 : (List UInt8)) (w7 : T12) (w8 : Int) (w9 : Bool) (name1 : (List UInt8)) (l1 : T12) (size1 : Int) (e : Int) (rd : T5) (rl : T53) (f : Int) : Option T57 :=
  bif decide (e = f) then
    some ((room_, used, files, steps, left, dead, ()), ((), name1, l1, size1, ()), ((), (), rd.1, rd.2.1, rd.2.2.1, rd.2.2.2.1, rd.2.2.2.2.1, rd.2.2.2.2.2, rl.1, rl.2.1, rl.2.2, decide (f = (0 : Int)), ()), true == (decide (f = (0 : Int))), ())
  else some ((room_, used, files, steps, left, dead, ()), ((), name1, l1, size1, ()), ((), (), rd.1, rd.2.1, rd.2.2.1, rd.2.2.2.1, rd.2.2.2.2.1, rd.2.2.2.2.2, rl.1, rl.2.1, rl.2.2, decide (f = (0 : Int)), ()), false, ())
namespace law_laid_h
def fn (N : Nat) : Sh.den ins → Option (Sh.den outs) := fun (((a, b, c, d, e, f, _), ((g, h, i, j, k, l, _), m, o, p, _), q, r, s, t, u, v, w, x, y, z, _), (_, x26, x27, x28, _), x29, x30, x31, x32, _) => law_laid_h.run N a b c d e f g h i j k l m o p q r s t u v w x y z x26 x27 x28 x29 x30 x31 x32
def S (N : Nat) : Fs := ⟨ins, outs, fn N⟩
def lam (N : Nat) : Pcs := pcs []
theorem pok (N : Nat) : (lam N).Ok Tryz.prog (C N) code := pcsOk_nil
theorem ok (N : Nat) : (S N).con.Ok Tryz.prog 19 := okF (F := S N) [] Tryz.func19 (by kernel_rfl) (by rfl) mix (cok N) (pok N) fun _ => by kernel_rfl
end law_laid_h
namespace law_step_f
def ins : Sh := (.cons (.agg s96) s79)
def C (N : Nat) : Ctx := ⟨U, 161, fun _ => true, gam [(17, (fD5.S N).con), (18, (fD1.S N).con), (19, (((law_laid_h.S N).con).or (law_laid_g.S N).con))], gamY []⟩
theorem cok (N : Nat) : (C N).Ok Tryz.prog := ⟨U_ok, GamOk.cons (fD5.ok N) (GamOk.cons (fD1.ok N) (GamOk.cons (Con.or_ok (law_laid_h.ok N) (law_laid_g.ok N)) (GamOk.nil))), GamYOk.nil⟩
def code : Code := Tryz.f8.body.getD .skip
def outs : List Sh := [(.cons (.upd 0 54 s1) s72), (.cons (.upd 0 54 s1) s80)]
end law_step_f
namespace law_step_f_0
def ins : Sh := (.cons (.rbox 34 s96) .nil)
def ts : List Tmp := [2]
def asg : List Tmp := [6, 7, 22, 23, 24, 25, 26, 27]
def C (N : Nat) : Ctx := { law_step_f.C N with may := fun t => asg.any (Nat.beq t) }
def code : Code := (sub law_step_f.code [true, false, true, false, true, false, false]).getD .skip
theorem cok (N : Nat) : (C N).Ok Tryz.prog := okC (law_step_f.cok N) _
def alts : List Alt := [⟨.normal, [6, 7], (.cons (.upd 1 54 s1) s15)⟩, ⟨.normal, [6, 7], (.cons (.upd 1 54 s1) s18)⟩]
end law_step_f_0
noncomputable def law_step_f_0.run (N : Nat) (room_ : Int) (used : Int) (files : (List T1)) (steps : Int) (left : Int) (dead : Bool) (room1 : Int) (used1 : Int) (files1 : (List T1)) (steps1 : Int) (left1 : Int) (dead1 : Bool) (name : (List UInt8)) (l : T12) (size : Int) (rd : Int) (rd1 : Int) (rd2 : (List T1)) (rd3 : Bool) (rd4 : Bool) (rd5 : Int) (rl : (List UInt8)) (rl1 : T12) (rl2 : Int) (up : Bool) : Option (T13 ⊕ T15) :=
  obind (fD5.run N room_ used files steps left dead ([(108 : UInt8), (111 : UInt8), (103 : UInt8)] : List UInt8)) fun y => match y with
  | .inl ((room2, used2, files2, steps2, left2, dead2, _), _, n_, _) =>
      some (.inl ((room2, used2, files2, steps2, left2, dead2, ()), (), n_, ()))
  | .inr ((room3, used3, files3, steps3, left3, dead3, _), (_, name1, l1, size1, _), n1, _) =>
      some (.inr ((room3, used3, files3, steps3, left3, dead3, ()), ((), name1, l1, size1, ()), n1, ()))
namespace law_step_f_0
def fn (N : Nat) : Sh.den ins → Option (altsDen alts) := fun (((a, b, c, d, e, f, _), ((g, h, i, j, k, l, _), m, o, p, _), q, r, s, t, u, v, w, x, y, z, _), _) => law_step_f_0.run N a b c d e f g h i j k l m o p q r s t u v w x y z
def P (N : Nat) : Ps := ⟨ts, ins, asg, alts, fn N⟩
def lam (N : Nat) : Pcs := pcs []
theorem pok (N : Nat) : (lam N).Ok Tryz.prog (C N) code := pcsOk_nil
theorem ok (N : Nat) : ((P N).pc (law_step_f.C N)).Ok Tryz.prog (law_step_f.C N) code := okP (F := P N) (law_step_f.cok N) mix (pok N) fun _ => by kernel_rfl
end law_step_f_0
noncomputable def law_step_f.run (N : Nat) (room_ : Int) (used : Int) (files : (List T1)) (steps : Int) (left : Int) (dead : Bool) (room1 : Int) (used1 : Int) (files1 : (List T1)) (steps1 : Int) (left1 : Int) (dead1 : Bool) (name : (List UInt8)) (l : T12) (size : Int) (w : Int) (w1 : Int) (w2 : (List T1)) (w3 : Bool) (w4 : Bool) (w5 : Int) (w6 : (List UInt8)) (w7 : T12) (w8 : Int) (w9 : Bool) : Option (T56 ⊕ T66) :=
  obind (law_step_f_0.run N room_ used files steps left dead room1 used1 files1 steps1 left1 dead1 name l size w w1 w2 w3 w4 w5 w6 w7 w8 w9) fun y => match y with
  | .inl ((room4, used4, files4, steps4, left4, dead4, _), _, e, _) =>
      obind (fD1.run N (w, w1, w2, w3, w4, w5) ([(108 : UInt8), (111 : UInt8), (103 : UInt8)] : List UInt8)) fun (v, v1, n2, _) =>
        obind (law_laid_g.run N room4 used4 files4 steps4 left4 dead4 room1 used1 files1 steps1 left1 dead1 name l size w w1 w2 w3 w4 w5 w6 w7 w8 w9 e v v1 n2) fun ((room6, used6, files6, steps6, left6, dead6, _), (_, _, v2, v3, v4, v5, v6, v7, v8, v9, v10, v11, _), b, _) =>
          some (.inl ((room6, used6, files6, steps6, left6, dead6, ()), ((), (), v2, v3, v4, v5, v6, v7, v8, v9, v10, v11, ()), b, ()))
  | .inr ((room5, used5, files5, steps5, left5, dead5, _), (_, name2, l2, size2, _), e1, _) =>
      obind (fD1.run N (w, w1, w2, w3, w4, w5) ([(108 : UInt8), (111 : UInt8), (103 : UInt8)] : List UInt8)) fun (v12, v13, n3, _) =>
        obind (law_laid_h.run N room5 used5 files5 steps5 left5 dead5 room1 used1 files1 steps1 left1 dead1 name l size w w1 w2 w3 w4 w5 w6 w7 w8 w9 name2 l2 size2 e1 v12 v13 n3) fun ((room7, used7, files7, steps7, left7, dead7, _), (_, name3, l3, size3, _), (_, _, v14, v15, v16, v17, v18, v19, v20, v21, v22, v23, _), b1, _) =>
          some (.inr ((room7, used7, files7, steps7, left7, dead7, ()), ((), ((), name3, l3, size3, ()), v14, v15, v16, v17, v18, v19, v20, v21, v22, v23, ()), b1, ()))
namespace law_step_f
def fn (N : Nat) : Sh.den ins → Option (shsDen outs) := fun (((a, b, c, d, e, f, _), ((g, h, i, j, k, l, _), m, o, p, _), q, r, s, t, u, v, w, x, y, z, _), (_, _, _, _, _), _) => law_step_f.run N a b c d e f g h i j k l m o p q r s t u v w x y z
def S (N : Nat) : Fm := ⟨ins, outs, fn N⟩
def lam (N : Nat) : Pcs := pcs [([true, false, true, false, true, false, false], (law_step_f_0.P N).pc (C N))]
theorem pok (N : Nat) : (lam N).Ok Tryz.prog (C N) code := pcsOk_cons (c1 := law_step_f_0.code) (by kernel_rfl) (law_step_f_0.ok N) (pcsOk_nil)
theorem ok (N : Nat) : (S N).con.Ok Tryz.prog 8 := okM (F := S N) [] Tryz.func8 (by kernel_rfl) (by rfl) mix (cok N) (pok N) fun _ => by kernel_rfl
end law_step_f
namespace fB5
def ins : Sh := (.cons s31 s82)
def C (N : Nat) : Ctx := ⟨U, 54, fun _ => true, gam [(28, (fD7.S N).con), (29, (fC33.S N).con), (27, (fA0.S N).con)], gamY []⟩
theorem cok (N : Nat) : (C N).Ok Tryz.prog := ⟨U_ok, GamOk.cons (fD7.ok N) (GamOk.cons (fC33.ok N) (GamOk.cons (fA0.ok N) (GamOk.nil))), GamYOk.nil⟩
def code : Code := Tryz.f12.body.getD .skip
def outs : Sh := s32
end fB5
namespace fC10
def ins : Sh := (.cons (.rbox 30 s33) s81)
def ts : List Tmp := [2, 26, 27, 28]
def asg : List Tmp := [8, 28, 29, 30, 31, 32, 33, 34, 35, 36, 37, 38, 39, 40, 41, 42, 43]
def C (N : Nat) : Ctx := { fB5.C N with may := fun t => asg.any (Nat.beq t) }
def code : Code := loopBody (sub fB5.code [true, true, true, true, true, false, true, false, false, true, false])
theorem cok (N : Nat) : (C N).Ok Tryz.prog := okC (fB5.cok N) _
def alts : List Alt := [⟨(.exit 0), [], s34⟩]
end fC10
noncomputable def fC10.go (N : Nat) : Nat → Int → Int → (List T1) → Int → Int → Bool → (List UInt8) → T12 → Int → T12 → Int → Int → Option (T19)
  | 0, _, _, _, _, _, _, _, _, _, _, _, _ => none
  | fuel + 1, room_, used, files, steps, left, dead, name, l, size, t26, t27, t28 =>
    bif decide (t28 < t27) then
      bif inB t28 t26.length then
        obind (fA0.run N (t26.getD t28.toNat ([] : List UInt8))) fun (l1, _) =>
          bif room (l.length + 1) 24 then
            fC10.go N fuel room_ used files steps left dead name (l ++ ([l1] : List (List UInt8))) size t26 t27 (IntKind.i64.wrap (t28 + (1 : Int)))
          else none
      else none
    else some ((room_, used, (), steps, left, dead, ()), ((), name, l, size, ()), ())
namespace fC10
def g (N n : Nat) : Sh.den ins → Option (altsDen alts) := fun ((((a, b, c, d, e, f, _), g, h, i, _), _), j, k, l, _) => fC10.go N n a b c d e f g h i j k l
def P (N : Nat) : Ps := ⟨ts, ins, asg, alts, g N N⟩
def lam (N : Nat) : Pcs := pcs []
theorem pok (N : Nat) : (lam N).Ok Tryz.prog (C N) code := pcsOk_nil
theorem ok (N : Nat) : ((P N).pc (fB5.C N)).Ok Tryz.prog (fB5.C N) (.loop code) := okL (F := P N) (g N) (fB5.cok N) mix (pok N) (fun _ => rfl) rfl fun _ _ => by kernel_rfl
end fC10
noncomputable def fB5.run (N : Nat) (room_ : Int) (used : Int) (files : (List T1)) (steps : Int) (left : Int) (dead : Bool) (name : (List UInt8)) (l : T12) (size : Int) (records : T12) : Option T15 :=
  bif decide ((records.length : Int) = (0 : Int)) then
    some ((room_, used, files, steps, left, dead, ()), ((), name, l, size, ()), (0 : Int), ())
  else
    obind (fD7.run N records) fun (l1, n_, _) =>
      bif !(decide (n_ = (0 : Int))) then
        some ((room_, used, files, steps, left, dead, ()), ((), name, l, size, ()), n_, ())
      else
        obind (fC33.run N room_ used files steps left dead name l size l1) fun ((room1, used1, files1, steps1, left1, dead1, _), n1, _) =>
          bif decide (n1 = (0 : Int)) then
            obind (fC10.go N N room1 used1 files1 steps1 left1 dead1 name l size records (records.length : Int) (0 : Int)) fun ((room2, used2, _, steps2, left2, dead2, _), (_, name1, l2, size1, _), _) =>
              some ((room2, used2, files1, steps2, left2, dead2, ()), ((), name1, l2, IntKind.i64.wrap (size1 + (l1.length : Int)), ()), n1, ())
          else some ((room1, used1, files1, steps1, left1, dead1, ()), ((), name, l, size, ()), n1, ())
namespace fB5
def fn (N : Nat) : Sh.den ins → Option (Sh.den outs) := fun (((a, b, c, d, e, f, _), g, h, i, _), j, _) => fB5.run N a b c d e f g h i j
def S (N : Nat) : Fs := ⟨ins, outs, fn N⟩
def lam (N : Nat) : Pcs := pcs [([true, true, true, true, true, false, true, false, false, true, false], (fC10.P N).pc (C N))]
theorem pok (N : Nat) : (lam N).Ok Tryz.prog (C N) code := pcsOk_cons (c1 := .loop fC10.code) (by kernel_rfl) (fC10.ok N) (pcsOk_nil)
theorem ok (N : Nat) : (S N).con.Ok Tryz.prog 12 := okF (F := S N) [] Tryz.func12 (by kernel_rfl) (by rfl) mix (cok N) (pok N) fun _ => by kernel_rfl
end fB5
namespace fA25
def ins : Sh := (.cons (.rown 43 (.slice .byte)) s82)
def C (N : Nat) : Ctx := ⟨U, 28, fun _ => true, gam [], gamY []⟩
theorem cok (N : Nat) : (C N).Ok Tryz.prog := ⟨U_ok, GamOk.nil, GamYOk.nil⟩
def code : Code := Tryz.f14.body.getD .skip
def outs : Sh := (.cons (.val .bool) .nil)
end fA25
namespace fA32
def ins : Sh := (.cons (.rown 43 (.slice .byte)) s84)
def ts : List Tmp := [0, 1, 5]
def asg : List Tmp := [4, 5, 11, 12, 13, 14, 15, 16, 17, 18, 19, 20, 21, 22, 23, 24, 25, 26, 27]
def C (N : Nat) : Ctx := { fA25.C N with may := fun t => asg.any (Nat.beq t) }
def code : Code := loopBody (sub fA25.code [true, true, false, true, false])
theorem cok (N : Nat) : (C N).Ok Tryz.prog := okC (fA25.cok N) _
def alts : List Alt := [⟨.ret, [4], (.cons (.val .bool) .nil)⟩, ⟨(.exit 0), [], .nil⟩]
end fA32
noncomputable def fA32.go (N : Nat) : Nat → T12 → T12 → Int → Option T11
  | 0, _, _, _ => none
  | fuel + 1, a, b, i =>
    bif decide (i < (a.length : Int)) then
      bif inB i a.length then
        bif decide (i.toNat < a.length) then
          bif inB i b.length then
            bif !(decide ((a.getD i.toNat ([] : List UInt8)) = (b.getD i.toNat ([] : List UInt8)))) then
              some (.inl (false, ()))
            else fA32.go N fuel a b (IntKind.i64.wrap (i + (1 : Int)))
          else none
        else none
      else none
    else some (.inr ())
namespace fA32
def g (N n : Nat) : Sh.den ins → Option (altsDen alts) := fun (a, b, c, _) => fA32.go N n a b c
def P (N : Nat) : Ps := ⟨ts, ins, asg, alts, g N N⟩
def lam (N : Nat) : Pcs := pcs []
theorem pok (N : Nat) : (lam N).Ok Tryz.prog (C N) code := pcsOk_nil
theorem ok (N : Nat) : ((P N).pc (fA25.C N)).Ok Tryz.prog (fA25.C N) (.loop code) := okL (F := P N) (g N) (fA25.cok N) mix (pok N) (fun _ => rfl) rfl fun _ _ => by kernel_rfl
end fA32
noncomputable def fA25.run (N : Nat) (a : T12) (b : T12) : Option (Bool × Unit) :=
  bif !(decide ((a.length : Int) = (b.length : Int))) then
    some (false, ())
  else
    obind (fA32.go N N a b (0 : Int)) fun y => match y with
    | .inl (t4, _) =>
        some (t4, ())
    | .inr (_) =>
        some (true, ())
namespace fA25
def fn (N : Nat) : Sh.den ins → Option (Sh.den outs) := fun (a, b, _) => fA25.run N a b
def S (N : Nat) : Fs := ⟨ins, outs, fn N⟩
def lam (N : Nat) : Pcs := pcs [([true, true, false, true, false], (fA32.P N).pc (C N))]
theorem pok (N : Nat) : (lam N).Ok Tryz.prog (C N) code := pcsOk_cons (c1 := .loop fA32.code) (by kernel_rfl) (fA32.ok N) (pcsOk_nil)
theorem ok (N : Nat) : (S N).con.Ok Tryz.prog 14 := okF (F := S N) [] Tryz.func14 (by kernel_rfl) (by rfl) mix (cok N) (pok N) fun _ => by kernel_rfl
end fA25
namespace law_step_e
def ins : Sh := (.cons (.agg (.cons (.box 54 s1) (.cons s17 s71))) s86)
def C (N : Nat) : Ctx := ⟨U, 161, fun _ => true, gam [(17, (fD5.S N).con), (18, (fD1.S N).con), (19, (((law_laid_f.S N).con).or (law_laid_e.S N).con)), (16, (fD9.S N).con), (20, (fB1.S N).con), (21, (fC12.S N).con), (22, (fB40.S N).con), (23, (fA6.S N).con), (24, (fA15.S N).con), (8, (law_step_f.S N).con), (12, (fB5.S N).con), (25, (fC1.S N).con), (13, (fC26.S N).con), (10, (fD26.S N).con), (9, (law_gone.S N).con), (14, (fA25.S N).con)], gamY []⟩
theorem cok (N : Nat) : (C N).Ok Tryz.prog := ⟨U_ok, GamOk.cons (fD5.ok N) (GamOk.cons (fD1.ok N) (GamOk.cons (Con.or_ok (law_laid_f.ok N) (law_laid_e.ok N)) (GamOk.cons (fD9.ok N) (GamOk.cons (fB1.ok N) (GamOk.cons (fC12.ok N) (GamOk.cons (fB40.ok N) (GamOk.cons (fA6.ok N) (GamOk.cons (fA15.ok N) (GamOk.cons (law_step_f.ok N) (GamOk.cons (fB5.ok N) (GamOk.cons (fC1.ok N) (GamOk.cons (fC26.ok N) (GamOk.cons (fD26.ok N) (GamOk.cons (law_gone.ok N) (GamOk.cons (fA25.ok N) (GamOk.nil)))))))))))))))), GamYOk.nil⟩
def code : Code := Tryz.f8.body.getD .skip
def outs : List Sh := [(.cons (.upd 0 54 s1) (.cons (.upd 2 69 (.cons (.ref 0) (.cons (.val .str) s16))) s72)), (.cons (.upd 0 54 s1) (.cons (.upd 2 69 (.cons (.ref 0) (.cons (.val .str) s16))) s80)), s89, (.cons (.upd 0 54 s1) (.cons (.upd 2 69 (.cons (.ref 0) (.cons (.val .str) s16))) s87)), (.cons (.upd 0 54 s1) (.cons (.upd 2 69 (.cons (.ref 0) (.cons (.val .str) s16))) (.cons (.agg (.cons (.box 54 s1) (.cons (.box 69 (.cons (.ref 4) (.cons (.val .str) s16))) s71))) (.cons (.val .bool) .nil))))]
end law_step_e
namespace law_step_e_0
def ins : Sh := s97
def ts : List Tmp := [2]
def asg : List Tmp := [6, 7, 22, 23, 24, 25, 26, 27]
def C (N : Nat) : Ctx := { law_step_e.C N with may := fun t => asg.any (Nat.beq t) }
def code : Code := (sub law_step_e.code [true, false, true, false, true, false, false]).getD .skip
theorem cok (N : Nat) : (C N).Ok Tryz.prog := okC (law_step_e.cok N) _
def alts : List Alt := [⟨.normal, [6, 7], (.cons (.upd 1 54 s1) s15)⟩, ⟨.normal, [6, 7], (.cons (.upd 1 54 s1) s18)⟩]
end law_step_e_0
noncomputable def law_step_e_0.run (N : Nat) (room_ : Int) (used : Int) (files : (List T1)) (steps : Int) (left : Int) (dead : Bool) (name : (List UInt8)) (l : T12) (size : Int) (rd : Int) (rd1 : Int) (rd2 : (List T1)) (rd3 : Bool) (rd4 : Bool) (rd5 : Int) (rl : (List UInt8)) (rl1 : T12) (rl2 : Int) (up : Bool) : Option (T13 ⊕ T15) :=
  obind (fD5.run N room_ used files steps left dead ([(108 : UInt8), (111 : UInt8), (103 : UInt8)] : List UInt8)) fun y => match y with
  | .inl ((room1, used1, files1, steps1, left1, dead1, _), _, n_, _) =>
      some (.inl ((room1, used1, files1, steps1, left1, dead1, ()), (), n_, ()))
  | .inr ((room2, used2, files2, steps2, left2, dead2, _), (_, name1, l1, size1, _), n1, _) =>
      some (.inr ((room2, used2, files2, steps2, left2, dead2, ()), ((), name1, l1, size1, ()), n1, ()))
namespace law_step_e_0
def fn (N : Nat) : Sh.den ins → Option (altsDen alts) := fun (((a, b, c, d, e, f, _), (_, g, h, i, _), j, k, l, m, o, p, q, r, s, t, _), _) => law_step_e_0.run N a b c d e f g h i j k l m o p q r s t
def P (N : Nat) : Ps := ⟨ts, ins, asg, alts, fn N⟩
def lam (N : Nat) : Pcs := pcs []
theorem pok (N : Nat) : (lam N).Ok Tryz.prog (C N) code := pcsOk_nil
theorem ok (N : Nat) : ((P N).pc (law_step_e.C N)).Ok Tryz.prog (law_step_e.C N) code := okP (F := P N) (law_step_e.cok N) mix (pok N) fun _ => by kernel_rfl
end law_step_e_0
namespace law_step_e_1
def ins : Sh := s97
def ts : List Tmp := [2]
def asg : List Tmp := [11, 12, 46, 47, 48, 49, 50, 51]
def C (N : Nat) : Ctx := { law_step_e.C N with may := fun t => asg.any (Nat.beq t) }
def code : Code := (sub law_step_e.code [true, false, true, false, true, true, true, false, false]).getD .skip
theorem cok (N : Nat) : (C N).Ok Tryz.prog := okC (law_step_e.cok N) _
def alts : List Alt := [⟨.normal, [11, 12], (.cons (.upd 1 54 s1) s15)⟩, ⟨.normal, [11, 12], (.cons (.upd 1 54 s1) s18)⟩]
end law_step_e_1
noncomputable def law_step_e_1.run (N : Nat) (room_ : Int) (used : Int) (files : (List T1)) (steps : Int) (left : Int) (dead : Bool) (name : (List UInt8)) (l : T12) (size : Int) (rd : Int) (rd1 : Int) (rd2 : (List T1)) (rd3 : Bool) (rd4 : Bool) (rd5 : Int) (rl : (List UInt8)) (rl1 : T12) (rl2 : Int) (up : Bool) : Option (T13 ⊕ T15) :=
  obind (fD9.run N room_ used files steps left dead ([(108 : UInt8), (111 : UInt8), (103 : UInt8)] : List UInt8)) fun y => match y with
  | .inl ((room1, used1, files1, steps1, left1, dead1, _), _, n_, _) =>
      some (.inl ((room1, used1, files1, steps1, left1, dead1, ()), (), n_, ()))
  | .inr ((room2, used2, files2, steps2, left2, dead2, _), (_, name1, l1, size1, _), n1, _) =>
      some (.inr ((room2, used2, files2, steps2, left2, dead2, ()), ((), name1, l1, size1, ()), n1, ()))
namespace law_step_e_1
def fn (N : Nat) : Sh.den ins → Option (altsDen alts) := fun (((a, b, c, d, e, f, _), (_, g, h, i, _), j, k, l, m, o, p, q, r, s, t, _), _) => law_step_e_1.run N a b c d e f g h i j k l m o p q r s t
def P (N : Nat) : Ps := ⟨ts, ins, asg, alts, fn N⟩
def lam (N : Nat) : Pcs := pcs []
theorem pok (N : Nat) : (lam N).Ok Tryz.prog (C N) code := pcsOk_nil
theorem ok (N : Nat) : ((P N).pc (law_step_e.C N)).Ok Tryz.prog (law_step_e.C N) code := okP (F := P N) (law_step_e.cok N) mix (pok N) fun _ => by kernel_rfl
end law_step_e_1
noncomputable def law_step_e.run (N : Nat) (room_ : Int) (used : Int) (files : (List T1)) (steps : Int) (left : Int) (dead : Bool) (name : (List UInt8)) (l : T12) (size : Int) (w : Int) (w1 : Int) (w2 : (List T1)) (w3 : Bool) (w4 : Bool) (w5 : Int) (w6 : (List UInt8)) (w7 : T12) (w8 : Int) (w9 : Bool) (o : T68) : Option T78 :=
  bif decide (o.1 = (2 : Int)) then
    obind (law_step_e_0.run N room_ used files steps left dead name l size w w1 w2 w3 w4 w5 w6 w7 w8 w9) fun y => match y with
    | .inl ((room3, used3, files3, steps3, left3, dead3, _), _, e, _) =>
        obind (fD1.run N (w, w1, w2, w3, w4, w5) ([(108 : UInt8), (111 : UInt8), (103 : UInt8)] : List UInt8)) fun (v, v1, n2, _) =>
          obind (law_laid_e.run N room3 used3 files3 steps3 left3 dead3 name l size w w1 w2 w3 w4 w5 w6 w7 w8 w9 e v v1 n2) fun ((room5, used5, files5, steps5, left5, dead5, _), (_, _, v2, v3, v4, v5, v6, v7, v8, v9, v10, v11, _), b, _) =>
            some (.inl ((room5, used5, files5, steps5, left5, dead5, ()), ((), name, l, size, ()), ((), (), v2, v3, v4, v5, v6, v7, v8, v9, v10, v11, ()), b, ()))
    | .inr ((room4, used4, files4, steps4, left4, dead4, _), (_, name2, l2, size2, _), e1, _) =>
        obind (fD1.run N (w, w1, w2, w3, w4, w5) ([(108 : UInt8), (111 : UInt8), (103 : UInt8)] : List UInt8)) fun (v12, v13, n3, _) =>
          obind (law_laid_f.run N room4 used4 files4 steps4 left4 dead4 name l size w w1 w2 w3 w4 w5 w6 w7 w8 w9 name2 l2 size2 e1 v12 v13 n3) fun ((room6, used6, files6, steps6, left6, dead6, _), (_, name3, l3, size3, _), (_, _, v14, v15, v16, v17, v18, v19, v20, v21, v22, v23, _), b1, _) =>
            some (.inr (.inl ((room6, used6, files6, steps6, left6, dead6, ()), ((), name, l, size, ()), ((), ((), name3, l3, size3, ()), v14, v15, v16, v17, v18, v19, v20, v21, v22, v23, ()), b1, ())))
  else
    bif decide (o.1 = (3 : Int)) then
      obind (law_step_e_1.run N room_ used files steps left dead name l size w w1 w2 w3 w4 w5 w6 w7 w8 w9) fun y => match y with
      | .inl ((room9, used9, files9, steps9, left9, dead9, _), _, e2, _) =>
          obind (fB1.run N (w, w1, w2, w3, w4, w5) ([(108 : UInt8), (111 : UInt8), (103 : UInt8)] : List UInt8)) fun (v24, v25, n6, _) =>
            obind (law_laid_e.run N room9 used9 files9 steps9 left9 dead9 name l size w w1 w2 w3 w4 w5 w6 w7 w8 w9 e2 v24 v25 n6) fun ((room11, used11, files11, steps11, left11, dead11, _), (_, _, v26, v27, v28, v29, v30, v31, v32, v33, v34, v35, _), b2, _) =>
              some (.inl ((room11, used11, files11, steps11, left11, dead11, ()), ((), name, l, size, ()), ((), (), v26, v27, v28, v29, v30, v31, v32, v33, v34, v35, ()), b2, ()))
      | .inr ((room10, used10, files10, steps10, left10, dead10, _), (_, name5, l5, size5, _), e3, _) =>
          obind (fB1.run N (w, w1, w2, w3, w4, w5) ([(108 : UInt8), (111 : UInt8), (103 : UInt8)] : List UInt8)) fun (v36, v37, n7, _) =>
            obind (law_laid_f.run N room10 used10 files10 steps10 left10 dead10 name l size w w1 w2 w3 w4 w5 w6 w7 w8 w9 name5 l5 size5 e3 v36 v37 n7) fun ((room12, used12, files12, steps12, left12, dead12, _), (_, name6, l6, size6, _), (_, _, v38, v39, v40, v41, v42, v43, v44, v45, v46, v47, _), b3, _) =>
              some (.inr (.inl ((room12, used12, files12, steps12, left12, dead12, ()), ((), name, l, size, ()), ((), ((), name6, l6, size6, ()), v38, v39, v40, v41, v42, v43, v44, v45, v46, v47, ()), b3, ())))
    else
      bif decide (o.1 = (4 : Int)) then
        obind (fC12.run N room_ used files steps left dead o.2.1) fun ((room13, used13, files13, steps13, left13, dead13, _), _) =>
          obind (fB40.run N (w, w1, w2, w3, w4, w5) o.2.1) fun (v48, _) =>
            some (.inr (.inr (.inl ((room13, used13, files13, steps13, left13, dead13, ()), ((), name, l, size, ()), ((), (), v48.1, v48.2.1, v48.2.2.1, v48.2.2.2.1, v48.2.2.2.2.1, v48.2.2.2.2.2, w6, w7, w8, w9, ()), true, ()))))
      else
        bif decide (o.1 = (5 : Int)) then
          obind (fA6.run N room_ used files steps left dead o.2.2.2) fun ((room14, used14, files14, steps14, left14, dead14, _), (room15, used15, files15, steps15, left15, dead15, _), _) =>
            obind (fA15.run N (w, w1, w2, w3, w4, w5) o.2.2.2) fun (v49, _) =>
              obind (law_step_f.run N room15 used15 files15 steps15 left15 dead15 room14 used14 files14 steps14 left14 dead14 name l size v49.1 v49.2.1 v49.2.2.1 v49.2.2.2.1 v49.2.2.2.2.1 v49.2.2.2.2.2 w6 w7 w8 w9) fun y => match y with
              | .inl ((room16, used16, files16, steps16, left16, dead16, _), (_, _, v50, v51, v52, v53, v54, v55, v56, v57, v58, v59, _), b4, _) =>
                  some (.inr (.inr (.inr (.inl ((room14, used14, files14, steps14, left14, dead14, ()), ((), name, l, size, ()), ((room16, used16, files16, steps16, left16, dead16, ()), (), v50, v51, v52, v53, v54, v55, v56, v57, v58, v59, ()), b4, ())))))
              | .inr ((room17, used17, files17, steps17, left17, dead17, _), (_, (_, name7, l7, size7, _), v60, v61, v62, v63, v64, v65, v66, v67, v68, v69, _), b5, _) =>
                  some (.inr (.inr (.inr (.inr ((room14, used14, files14, steps14, left14, dead14, ()), ((), name, l, size, ()), ((room17, used17, files17, steps17, left17, dead17, ()), ((), name7, l7, size7, ()), v60, v61, v62, v63, v64, v65, v66, v67, v68, v69, ()), b5, ())))))
        else
          bif !w9 then
            some (.inr (.inr (.inl ((room_, used, files, steps, left, dead, ()), ((), name, l, size, ()), ((), (), w, w1, w2, w3, w4, w5, w6, w7, w8, w9, ()), true, ()))))
          else
            bif decide (o.1 = (0 : Int)) then
              obind (fB5.run N room_ used files steps left dead name l size o.2.2.1) fun ((room18, used18, files18, steps18, left18, dead18, _), (_, name8, l8, size8, _), n8, _) =>
                obind (fC1.run N (w, w1, w2, w3, w4, w5) (w6, w7, w8) o.2.2.1) fun (v70, v71, n9, _) =>
                  some (.inr (.inr (.inl ((room18, used18, files18, steps18, left18, dead18, ()), ((), name8, l8, size8, ()), ((), (), v70.1, v70.2.1, v70.2.2.1, v70.2.2.2.1, v70.2.2.2.2.1, v70.2.2.2.2.2, v71.1, v71.2.1, v71.2.2, w9, ()), decide (n8 = n9), ()))))
            else
              obind (fC26.run N room_ used files steps left dead name l size) fun (n10, _) =>
                bif decide (n10 = (w7.length : Int)) then
                  obind (fD26.run N room_ used files steps left dead name l size) fun (n11, _) =>
                    bif decide (n11 = w8) then
                      obind (law_gone.run N room_ used files steps left dead name l size) fun ((room19, used19, files19, steps19, left19, dead19, _), (_, name9, l9, size9, _), l10, _) =>
                        obind (fA25.run N l10 w7) fun (b6, _) =>
                          some (.inr (.inr (.inl ((room19, used19, files19, steps19, left19, dead19, ()), ((), name9, l9, size9, ()), ((), (), w, w1, w2, w3, w4, w5, w6, w7, w8, w9, ()), b6, ()))))
                    else some (.inr (.inr (.inl ((room_, used, files, steps, left, dead, ()), ((), name, l, size, ()), ((), (), w, w1, w2, w3, w4, w5, w6, w7, w8, w9, ()), false, ()))))
                else some (.inr (.inr (.inl ((room_, used, files, steps, left, dead, ()), ((), name, l, size, ()), ((), (), w, w1, w2, w3, w4, w5, w6, w7, w8, w9, ()), false, ()))))
namespace law_step_e
def fn (N : Nat) : Sh.den ins → Option (shsDen outs) := fun (((a, b, c, d, e, f, _), (_, g, h, i, _), j, k, l, m, o, p, q, r, s, t, _), u, _) => law_step_e.run N a b c d e f g h i j k l m o p q r s t u
def S (N : Nat) : Fm := ⟨ins, outs, fn N⟩
def lam (N : Nat) : Pcs := pcs [([true, false, true, false, true, false, false], (law_step_e_0.P N).pc (C N)), ([true, false, true, false, true, true, true, false, false], (law_step_e_1.P N).pc (C N))]
theorem pok (N : Nat) : (lam N).Ok Tryz.prog (C N) code := pcsOk_cons (c1 := law_step_e_0.code) (by kernel_rfl) (law_step_e_0.ok N) (pcsOk_cons (c1 := law_step_e_1.code) (by kernel_rfl) (law_step_e_1.ok N) (pcsOk_nil))
theorem ok (N : Nat) : (S N).con.Ok Tryz.prog 8 := okM (F := S N) [] Tryz.func8 (by kernel_rfl) (by rfl) mix (cok N) (pok N) fun _ => by kernel_rfl
end law_step_e
namespace law_RedoAll
def ins : Sh := (.cons (.val (.int .i64)) (.cons (.val (.slice (.pair (.int .i64) (.pair (.int .i64) (.pair (.slice (.slice .byte)) (.slice (.int .i64))))))) .nil))
def C (N : Nat) : Ctx := ⟨U, 56, fun _ => true, gam [(5, (fD30.S N).con), (6, (fD46.S N).con), (7, (law_alive.S N).con), (8, (((((law_step.S N).con).or (law_step_e.S N).con)).or (law_step_c.S N).con)), (15, (((law_files_b.S N).con).or (law_files.S N).con))], gamY []⟩
theorem cok (N : Nat) : (C N).Ok Tryz.prog := ⟨U_ok, GamOk.cons (fD30.ok N) (GamOk.cons (fD46.ok N) (GamOk.cons (law_alive.ok N) (GamOk.cons (Con.or_ok (Con.or_ok (law_step.ok N) (law_step_e.ok N)) (law_step_c.ok N)) (GamOk.cons (Con.or_ok (law_files_b.ok N) (law_files.ok N)) (GamOk.nil))))), GamYOk.nil⟩
def code : Code := Tryz.f4.body.getD .skip
def outs : Sh := (.cons (.val .bool) .nil)
end law_RedoAll
namespace law_RedoAll_0
def ins : Sh := (.cons (.box 34 s85) .nil)
def ts : List Tmp := [5]
def asg : List Tmp := [6, 21, 22, 23, 24, 25, 26]
def C (N : Nat) : Ctx := { law_RedoAll.C N with may := fun t => asg.any (Nat.beq t) }
def code : Code := (sub law_RedoAll.code [true, true, true, false]).getD .skip
theorem cok (N : Nat) : (C N).Ok Tryz.prog := okC (law_RedoAll.cok N) _
def alts : List Alt := [⟨.normal, [6], s98⟩, ⟨.normal, [6], s99⟩, ⟨.normal, [6], (.cons (.upd 1 54 s1) s100)⟩, ⟨.normal, [6], s101⟩]
end law_RedoAll_0
noncomputable def law_RedoAll_0.run (N : Nat) (room_ : Int) (used : Int) (files : (List T1)) (steps : Int) (left : Int) (dead : Bool) (rd : Int) (rd1 : Int) (rd2 : (List T1)) (rd3 : Bool) (rd4 : Bool) (rd5 : Int) (rl : (List UInt8)) (rl1 : T12) (rl2 : Int) (up : Bool) : Option T73 :=
  obind (law_step.run N room_ used files steps left dead rd rd1 rd2 rd3 rd4 rd5 rl rl1 rl2 up ((3 : Int), (0 : Int), ([] : List (List UInt8)), ([] : List Int))) fun y => match y with
  | .inl ((room1, used1, files1, steps1, left1, dead1, _), (_, _, v, v1, v2, v3, v4, v5, v6, v7, v8, v9, _), b, _) =>
      some (.inl ((room1, used1, files1, steps1, left1, dead1, ()), ((), (), v, v1, v2, v3, v4, v5, v6, v7, v8, v9, ()), b, ()))
  | .inr (.inl ((room2, used2, files2, steps2, left2, dead2, _), (_, (_, name, l, size, _), v10, v11, v12, v13, v14, v15, v16, v17, v18, v19, _), b1, _)) =>
      some (.inr (.inl ((room2, used2, files2, steps2, left2, dead2, ()), ((), ((), name, l, size, ()), v10, v11, v12, v13, v14, v15, v16, v17, v18, v19, ()), b1, ())))
  | .inr (.inr (.inl ((room3, used3, files3, steps3, left3, dead3, _), ((room4, used4, files4, steps4, left4, dead4, _), _, v20, v21, v22, v23, v24, v25, v26, v27, v28, v29, _), b2, _))) =>
      some (.inr (.inr (.inl ((room3, used3, files3, steps3, left3, dead3, ()), ((room4, used4, files4, steps4, left4, dead4, ()), (), v20, v21, v22, v23, v24, v25, v26, v27, v28, v29, ()), b2, ()))))
  | .inr (.inr (.inr ((room5, used5, files5, steps5, left5, dead5, _), ((room6, used6, files6, steps6, left6, dead6, _), (_, name1, l1, size1, _), v30, v31, v32, v33, v34, v35, v36, v37, v38, v39, _), b3, _))) =>
      some (.inr (.inr (.inr ((room5, used5, files5, steps5, left5, dead5, ()), ((room6, used6, files6, steps6, left6, dead6, ()), ((), name1, l1, size1, ()), v30, v31, v32, v33, v34, v35, v36, v37, v38, v39, ()), b3, ()))))
namespace law_RedoAll_0
def fn (N : Nat) : Sh.den ins → Option (altsDen alts) := fun (((a, b, c, d, e, f, _), _, g, h, i, j, k, l, m, o, p, q, _), _) => law_RedoAll_0.run N a b c d e f g h i j k l m o p q
def P (N : Nat) : Ps := ⟨ts, ins, asg, alts, fn N⟩
def lam (N : Nat) : Pcs := pcs []
theorem pok (N : Nat) : (lam N).Ok Tryz.prog (C N) code := pcsOk_nil
theorem ok (N : Nat) : ((P N).pc (law_RedoAll.C N)).Ok Tryz.prog (law_RedoAll.C N) code := okP (F := P N) (law_RedoAll.cok N) mix (pok N) fun _ => by kernel_rfl
end law_RedoAll_0
namespace law_RedoAll_1
def ins0 : Sh := (.cons (.box 34 (.cons (.box 54 (.cons (.val (.int .i64)) (.cons (.val (.int .i64)) (.cons (.own 3000000 (.pair .str (.pair (.slice .byte) (.int .i64)))) (.cons (.val (.int .i64)) (.cons (.val (.int .i64)) (.cons (.val .bool) .nil))))))) (.cons (.nilp) (.cons (.val (.int .i64)) (.cons (.val (.int .i64)) (.cons (.val (.slice (.pair .str (.pair (.slice .byte) (.int .i64))))) (.cons (.val .bool) (.cons (.val .bool) (.cons (.val (.int .i64)) (.cons (.val .str) (.cons (.val (.slice (.slice .byte))) (.cons (.val (.int .i64)) (.cons (.val .bool) .nil))))))))))))) (.cons (.val (.slice (.pair (.int .i64) (.pair (.int .i64) (.pair (.slice (.slice .byte)) (.slice (.int .i64))))))) (.cons (.val (.int .i64)) (.cons (.val (.int .i64)) .nil))))
def ins1 : Sh := (.cons (.box 34 (.cons (.box 54 (.cons (.val (.int .i64)) (.cons (.val (.int .i64)) (.cons (.own 3000000 (.pair .str (.pair (.slice .byte) (.int .i64)))) (.cons (.val (.int .i64)) (.cons (.val (.int .i64)) (.cons (.val .bool) .nil))))))) (.cons (.box 69 (.cons (.ref 1) (.cons (.val .str) (.cons (.own 43 (.slice .byte)) (.cons (.val (.int .i64)) .nil))))) (.cons (.val (.int .i64)) (.cons (.val (.int .i64)) (.cons (.val (.slice (.pair .str (.pair (.slice .byte) (.int .i64))))) (.cons (.val .bool) (.cons (.val .bool) (.cons (.val (.int .i64)) (.cons (.val .str) (.cons (.val (.slice (.slice .byte))) (.cons (.val (.int .i64)) (.cons (.val .bool) .nil))))))))))))) (.cons (.val (.slice (.pair (.int .i64) (.pair (.int .i64) (.pair (.slice (.slice .byte)) (.slice (.int .i64))))))) (.cons (.val (.int .i64)) (.cons (.val (.int .i64)) .nil))))
def heads : List Sh := [ins0, ins1]
def ts : List Tmp := [5, 29, 30, 31]
def asg : List Tmp := [4, 6, 8, 31, 32, 33, 34, 35, 36, 37, 38, 39, 40, 41, 42, 43, 44, 45, 46, 47, 48]
def C (N : Nat) : Ctx := { law_RedoAll.C N with may := fun t => asg.any (Nat.beq t) }
def code : Code := loopBody (sub law_RedoAll.code [true, true, true, true, true, false, true, false])
theorem cok (N : Nat) : (C N).Ok Tryz.prog := okC (law_RedoAll.cok N) _
def alts : List Alt := [⟨.ret, [4], s100⟩, ⟨.ret, [4], s103⟩, ⟨(.exit 0), [], (.cons (.upd 0 34 (.cons (.box 54 s1) (.cons (.nilp) s71))) .nil)⟩, ⟨(.exit 0), [], (.cons (.upd 0 34 s102) .nil)⟩]
end law_RedoAll_1
noncomputable def law_RedoAll_1.go (N : Nat) : Nat → (T79 ⊕ T80) → Option T83
  | 0, _ => none
  | fuel + 1, .inl (((room_, used, files, steps, left, dead, ()), (), rd, rd1, rd2, rd3, rd4, rd5, rl, rl1, rl2, up, ()), t29, t30, t31, ()) =>
    bif decide (t31 < t30) then
      bif inB t31 t29.length then
        obind (law_step_c.run N room_ used files steps left dead rd rd1 rd2 rd3 rd4 rd5 rl rl1 rl2 up (t29.getD t31.toNat ((0 : Int), (0 : Int), ([] : List (List UInt8)), ([] : List Int)))) fun y => match y with
        | .inl ((room1, used1, files1, steps1, left1, dead1, _), (_, _, v, v1, v2, v3, v4, v5, v6, v7, v8, v9, _), b, _) =>
            bif !b then
              some (.inl (((room1, used1, files1, steps1, left1, dead1, ()), (), v, v1, v2, v3, v4, v5, v6, v7, v8, v9, ()), false, ()))
            else
              obind (law_files.run N room1 used1 files1 steps1 left1 dead1 v v1 v2 v3 v4 v5 v6 v7 v8 v9) fun ((room7, used7, files7, steps7, left7, dead7, _), b4, _) =>
                bif !b4 then
                  some (.inl (((room7, used7, files7, steps7, left7, dead7, ()), (), v, v1, v2, v3, v4, v5, v6, v7, v8, v9, ()), false, ()))
                else law_RedoAll_1.go N fuel (.inl (((room7, used7, files7, steps7, left7, dead7, ()), (), v, v1, v2, v3, v4, v5, v6, v7, v8, v9, ()), t29, t30, IntKind.i64.wrap (t31 + (1 : Int)), ()))
        | .inr (.inl ((room2, used2, files2, steps2, left2, dead2, _), (_, (_, name, l, size, _), v10, v11, v12, v13, v14, v15, v16, v17, v18, v19, _), b1, _)) =>
            bif !b1 then
              some (.inr (.inl (((room2, used2, files2, steps2, left2, dead2, ()), ((), name, l, size, ()), v10, v11, v12, v13, v14, v15, v16, v17, v18, v19, ()), false, ())))
            else
              obind (law_files_b.run N room2 used2 files2 steps2 left2 dead2 name l size v10 v11 v12 v13 v14 v15 v16 v17 v18 v19) fun ((room8, used8, files8, steps8, left8, dead8, _), b5, _) =>
                bif !b5 then
                  some (.inr (.inl (((room8, used8, files8, steps8, left8, dead8, ()), ((), name, l, size, ()), v10, v11, v12, v13, v14, v15, v16, v17, v18, v19, ()), false, ())))
                else law_RedoAll_1.go N fuel (.inr (((room8, used8, files8, steps8, left8, dead8, ()), ((), name, l, size, ()), v10, v11, v12, v13, v14, v15, v16, v17, v18, v19, ()), t29, t30, IntKind.i64.wrap (t31 + (1 : Int)), ()))
        | .inr (.inr (.inl ((room3, used3, files3, steps3, left3, dead3, _), ((room4, used4, files4, steps4, left4, dead4, _), _, v20, v21, v22, v23, v24, v25, v26, v27, v28, v29, _), b2, _))) =>
            bif !b2 then
              some (.inl (((room4, used4, files4, steps4, left4, dead4, ()), (), v20, v21, v22, v23, v24, v25, v26, v27, v28, v29, ()), false, ()))
            else
              obind (law_files.run N room4 used4 files4 steps4 left4 dead4 v20 v21 v22 v23 v24 v25 v26 v27 v28 v29) fun ((room9, used9, files9, steps9, left9, dead9, _), b6, _) =>
                bif !b6 then
                  some (.inl (((room9, used9, files9, steps9, left9, dead9, ()), (), v20, v21, v22, v23, v24, v25, v26, v27, v28, v29, ()), false, ()))
                else law_RedoAll_1.go N fuel (.inl (((room9, used9, files9, steps9, left9, dead9, ()), (), v20, v21, v22, v23, v24, v25, v26, v27, v28, v29, ()), t29, t30, IntKind.i64.wrap (t31 + (1 : Int)), ()))
        | .inr (.inr (.inr ((room5, used5, files5, steps5, left5, dead5, _), ((room6, used6, files6, steps6, left6, dead6, _), (_, name1, l1, size1, _), v30, v31, v32, v33, v34, v35, v36, v37, v38, v39, _), b3, _))) =>
            bif !b3 then
              some (.inr (.inl (((room6, used6, files6, steps6, left6, dead6, ()), ((), name1, l1, size1, ()), v30, v31, v32, v33, v34, v35, v36, v37, v38, v39, ()), false, ())))
            else
              obind (law_files_b.run N room6 used6 files6 steps6 left6 dead6 name1 l1 size1 v30 v31 v32 v33 v34 v35 v36 v37 v38 v39) fun ((room10, used10, files10, steps10, left10, dead10, _), b7, _) =>
                bif !b7 then
                  some (.inr (.inl (((room10, used10, files10, steps10, left10, dead10, ()), ((), name1, l1, size1, ()), v30, v31, v32, v33, v34, v35, v36, v37, v38, v39, ()), false, ())))
                else law_RedoAll_1.go N fuel (.inr (((room10, used10, files10, steps10, left10, dead10, ()), ((), name1, l1, size1, ()), v30, v31, v32, v33, v34, v35, v36, v37, v38, v39, ()), t29, t30, IntKind.i64.wrap (t31 + (1 : Int)), ()))
      else none
    else some (.inr (.inr (.inl (((room_, used, files, steps, left, dead, ()), (), rd, rd1, rd2, rd3, rd4, rd5, rl, rl1, rl2, up, ()), ()))))
  | fuel + 1, .inr (((room_, used, files, steps, left, dead, ()), ((), name, l, size, ()), rd, rd1, rd2, rd3, rd4, rd5, rl, rl1, rl2, up, ()), t29, t30, t31, ()) =>
    bif decide (t31 < t30) then
      bif inB t31 t29.length then
        obind (law_step_e.run N room_ used files steps left dead name l size rd rd1 rd2 rd3 rd4 rd5 rl rl1 rl2 up (t29.getD t31.toNat ((0 : Int), (0 : Int), ([] : List (List UInt8)), ([] : List Int)))) fun y => match y with
        | .inl ((room1, used1, files1, steps1, left1, dead1, _), (_, name1, l1, size1, _), (_, _, v, v1, v2, v3, v4, v5, v6, v7, v8, v9, _), b, _) =>
            bif !b then
              some (.inl (((room1, used1, files1, steps1, left1, dead1, ()), (), v, v1, v2, v3, v4, v5, v6, v7, v8, v9, ()), false, ()))
            else
              obind (law_files.run N room1 used1 files1 steps1 left1 dead1 v v1 v2 v3 v4 v5 v6 v7 v8 v9) fun ((room8, used8, files8, steps8, left8, dead8, _), b5, _) =>
                bif !b5 then
                  some (.inl (((room8, used8, files8, steps8, left8, dead8, ()), (), v, v1, v2, v3, v4, v5, v6, v7, v8, v9, ()), false, ()))
                else law_RedoAll_1.go N fuel (.inl (((room8, used8, files8, steps8, left8, dead8, ()), (), v, v1, v2, v3, v4, v5, v6, v7, v8, v9, ()), t29, t30, IntKind.i64.wrap (t31 + (1 : Int)), ()))
        | .inr (.inl ((room2, used2, files2, steps2, left2, dead2, _), (_, name2, l2, size2, _), (_, (_, name3, l3, size3, _), v10, v11, v12, v13, v14, v15, v16, v17, v18, v19, _), b1, _)) =>
            bif !b1 then
              some (.inr (.inl (((room2, used2, files2, steps2, left2, dead2, ()), ((), name3, l3, size3, ()), v10, v11, v12, v13, v14, v15, v16, v17, v18, v19, ()), false, ())))
            else
              obind (law_files_b.run N room2 used2 files2 steps2 left2 dead2 name3 l3 size3 v10 v11 v12 v13 v14 v15 v16 v17 v18 v19) fun ((room9, used9, files9, steps9, left9, dead9, _), b6, _) =>
                bif !b6 then
                  some (.inr (.inl (((room9, used9, files9, steps9, left9, dead9, ()), ((), name3, l3, size3, ()), v10, v11, v12, v13, v14, v15, v16, v17, v18, v19, ()), false, ())))
                else law_RedoAll_1.go N fuel (.inr (((room9, used9, files9, steps9, left9, dead9, ()), ((), name3, l3, size3, ()), v10, v11, v12, v13, v14, v15, v16, v17, v18, v19, ()), t29, t30, IntKind.i64.wrap (t31 + (1 : Int)), ()))
        | .inr (.inr (.inl ((room3, used3, files3, steps3, left3, dead3, _), (_, name4, l4, size4, _), (_, _, v20, v21, v22, v23, v24, v25, v26, v27, v28, v29, _), b2, _))) =>
            bif !b2 then
              some (.inr (.inl (((room3, used3, files3, steps3, left3, dead3, ()), ((), name4, l4, size4, ()), v20, v21, v22, v23, v24, v25, v26, v27, v28, v29, ()), false, ())))
            else
              obind (law_files_b.run N room3 used3 files3 steps3 left3 dead3 name4 l4 size4 v20 v21 v22 v23 v24 v25 v26 v27 v28 v29) fun ((room10, used10, files10, steps10, left10, dead10, _), b7, _) =>
                bif !b7 then
                  some (.inr (.inl (((room10, used10, files10, steps10, left10, dead10, ()), ((), name4, l4, size4, ()), v20, v21, v22, v23, v24, v25, v26, v27, v28, v29, ()), false, ())))
                else law_RedoAll_1.go N fuel (.inr (((room10, used10, files10, steps10, left10, dead10, ()), ((), name4, l4, size4, ()), v20, v21, v22, v23, v24, v25, v26, v27, v28, v29, ()), t29, t30, IntKind.i64.wrap (t31 + (1 : Int)), ()))
        | .inr (.inr (.inr (.inl ((room4, used4, files4, steps4, left4, dead4, _), (_, name5, l5, size5, _), ((room5, used5, files5, steps5, left5, dead5, _), _, v30, v31, v32, v33, v34, v35, v36, v37, v38, v39, _), b3, _)))) =>
            bif !b3 then
              some (.inl (((room5, used5, files5, steps5, left5, dead5, ()), (), v30, v31, v32, v33, v34, v35, v36, v37, v38, v39, ()), false, ()))
            else
              obind (law_files.run N room5 used5 files5 steps5 left5 dead5 v30 v31 v32 v33 v34 v35 v36 v37 v38 v39) fun ((room11, used11, files11, steps11, left11, dead11, _), b8, _) =>
                bif !b8 then
                  some (.inl (((room11, used11, files11, steps11, left11, dead11, ()), (), v30, v31, v32, v33, v34, v35, v36, v37, v38, v39, ()), false, ()))
                else law_RedoAll_1.go N fuel (.inl (((room11, used11, files11, steps11, left11, dead11, ()), (), v30, v31, v32, v33, v34, v35, v36, v37, v38, v39, ()), t29, t30, IntKind.i64.wrap (t31 + (1 : Int)), ()))
        | .inr (.inr (.inr (.inr ((room6, used6, files6, steps6, left6, dead6, _), (_, name6, l6, size6, _), ((room7, used7, files7, steps7, left7, dead7, _), (_, name7, l7, size7, _), v40, v41, v42, v43, v44, v45, v46, v47, v48, v49, _), b4, _)))) =>
            bif !b4 then
              some (.inr (.inl (((room7, used7, files7, steps7, left7, dead7, ()), ((), name7, l7, size7, ()), v40, v41, v42, v43, v44, v45, v46, v47, v48, v49, ()), false, ())))
            else
              obind (law_files_b.run N room7 used7 files7 steps7 left7 dead7 name7 l7 size7 v40 v41 v42 v43 v44 v45 v46 v47 v48 v49) fun ((room12, used12, files12, steps12, left12, dead12, _), b9, _) =>
                bif !b9 then
                  some (.inr (.inl (((room12, used12, files12, steps12, left12, dead12, ()), ((), name7, l7, size7, ()), v40, v41, v42, v43, v44, v45, v46, v47, v48, v49, ()), false, ())))
                else law_RedoAll_1.go N fuel (.inr (((room12, used12, files12, steps12, left12, dead12, ()), ((), name7, l7, size7, ()), v40, v41, v42, v43, v44, v45, v46, v47, v48, v49, ()), t29, t30, IntKind.i64.wrap (t31 + (1 : Int)), ()))
      else none
    else some (.inr (.inr (.inr (((room_, used, files, steps, left, dead, ()), ((), name, l, size, ()), rd, rd1, rd2, rd3, rd4, rd5, rl, rl1, rl2, up, ()), ()))))
namespace law_RedoAll_1
def g (N n : Nat) : shsDen heads → Option (altsDen alts) := law_RedoAll_1.go N n
def P (N : Nat) : Lm := ⟨ts, heads, asg, alts, g N N⟩
def lam (N : Nat) : Pcs := pcs []
theorem pok (N : Nat) : (lam N).Ok Tryz.prog (C N) code := pcsOk_nil
theorem ok (N : Nat) : ((P N).pc (law_RedoAll.C N)).Ok Tryz.prog (law_RedoAll.C N) (.loop code) := lm_ok (F := P N) (law_RedoAll.cok N) mix (pok N) (g N) (fun _ => rfl) rfl fun n y => match y with | .inl _ => by kernel_rfl | .inr (_) => by kernel_rfl
end law_RedoAll_1
noncomputable def law_RedoAll.run (N : Nat) (room_ : Int) (script : (List T68)) : Option (Bool × Unit) :=
  obind (fD30.run N room_) fun ((room1, used, files, steps, left, dead, _), _) =>
    obind (fD46.run N room_) fun (v, _) =>
      obind (law_alive.run N) fun (b, _) =>
        bif !b then
          some (false, ())
        else
          obind (law_RedoAll_0.run N room1 used files steps left dead v.1 v.2.1 v.2.2.1 v.2.2.2.1 v.2.2.2.2.1 v.2.2.2.2.2 ([] : List UInt8) ([] : List (List UInt8)) (0 : Int) false) fun y => match y with
          | .inl ((room8, used7, files7, steps7, left7, dead7, _), (_, _, rd, rd1, rd2, rd3, rd4, rd5, rl, rl1, rl2, up, _), ok_, _) =>
              bif !ok_ then
                some (false, ())
              else
                obind (law_RedoAll_1.go N N (.inl (((room8, used7, files7, steps7, left7, dead7, ()), (), rd, rd1, rd2, rd3, rd4, rd5, rl, rl1, rl2, up, ()), script, (script.length : Int), (0 : Int), ()))) fun y => match y with
                | .inl (((room14, used13, files13, steps13, left13, dead13, _), _, rd24, rd25, rd26, rd27, rd28, rd29, rl12, rl13, rl14, up4, _), t4, _) =>
                    some (t4, ())
                | .inr (.inl (((room15, used14, files14, steps14, left14, dead14, _), (_, name4, l4, size4, _), rd30, rd31, rd32, rd33, rd34, rd35, rl15, rl16, rl17, up5, _), t41, _)) =>
                    some (t41, ())
                | .inr (.inr (.inl (((room16, used15, files15, steps15, left15, dead15, _), _, rd36, rd37, rd38, rd39, rd40, rd41, rl18, rl19, rl20, up6, _), _))) =>
                    obind (law_step_c.run N room16 used15 files15 steps15 left15 dead15 rd36 rd37 rd38 rd39 rd40 rd41 rl18 rl19 rl20 up6 ((1 : Int), (0 : Int), ([] : List (List UInt8)), ([] : List Int))) fun y => match y with
                    | .inl ((room18, used17, files17, steps17, left17, dead17, _), (_, _, v41, v42, v43, v44, v45, v46, v47, v48, v49, v50, _), b5, _) =>
                        some (b5, ())
                    | .inr (.inl ((room19, used18, files18, steps18, left18, dead18, _), (_, (_, name6, l6, size6, _), v51, v52, v53, v54, v55, v56, v57, v58, v59, v60, _), b6, _)) =>
                        some (b6, ())
                    | .inr (.inr (.inl ((room20, used19, files19, steps19, left19, dead19, _), ((room21, used20, files20, steps20, left20, dead20, _), _, v61, v62, v63, v64, v65, v66, v67, v68, v69, v70, _), b7, _))) =>
                        some (b7, ())
                    | .inr (.inr (.inr ((room22, used21, files21, steps21, left21, dead21, _), ((room23, used22, files22, steps22, left22, dead22, _), (_, name7, l7, size7, _), v71, v72, v73, v74, v75, v76, v77, v78, v79, v80, _), b8, _))) =>
                        some (b8, ())
                | .inr (.inr (.inr (((room17, used16, files16, steps16, left16, dead16, _), (_, name5, l5, size5, _), rd42, rd43, rd44, rd45, rd46, rd47, rl21, rl22, rl23, up7, _), _))) =>
                    obind (law_step_e.run N room17 used16 files16 steps16 left16 dead16 name5 l5 size5 rd42 rd43 rd44 rd45 rd46 rd47 rl21 rl22 rl23 up7 ((1 : Int), (0 : Int), ([] : List (List UInt8)), ([] : List Int))) fun y => match y with
                    | .inl ((room24, used23, files23, steps23, left23, dead23, _), (_, name8, l8, size8, _), (_, _, v81, v82, v83, v84, v85, v86, v87, v88, v89, v90, _), b9, _) =>
                        some (b9, ())
                    | .inr (.inl ((room25, used24, files24, steps24, left24, dead24, _), (_, name9, l9, size9, _), (_, (_, name10, l10, size10, _), v91, v92, v93, v94, v95, v96, v97, v98, v99, v100, _), b10, _)) =>
                        some (b10, ())
                    | .inr (.inr (.inl ((room26, used25, files25, steps25, left25, dead25, _), (_, name11, l11, size11, _), (_, _, v101, v102, v103, v104, v105, v106, v107, v108, v109, v110, _), b11, _))) =>
                        some (b11, ())
                    | .inr (.inr (.inr (.inl ((room27, used26, files26, steps26, left26, dead26, _), (_, name12, l12, size12, _), ((room28, used27, files27, steps27, left27, dead27, _), _, v111, v112, v113, v114, v115, v116, v117, v118, v119, v120, _), b12, _)))) =>
                        some (b12, ())
                    | .inr (.inr (.inr (.inr ((room29, used28, files28, steps28, left28, dead28, _), (_, name13, l13, size13, _), ((room30, used29, files29, steps29, left29, dead29, _), (_, name14, l14, size14, _), v121, v122, v123, v124, v125, v126, v127, v128, v129, v130, _), b13, _)))) =>
                        some (b13, ())
          | .inr (.inl ((room9, used8, files8, steps8, left8, dead8, _), (_, (_, name2, l2, size2, _), rd6, rd7, rd8, rd9, rd10, rd11, rl3, rl4, rl5, up1, _), ok1, _)) =>
              bif !ok1 then
                some (false, ())
              else
                obind (law_RedoAll_1.go N N (.inr (((room9, used8, files8, steps8, left8, dead8, ()), ((), name2, l2, size2, ()), rd6, rd7, rd8, rd9, rd10, rd11, rl3, rl4, rl5, up1, ()), script, (script.length : Int), (0 : Int), ()))) fun y => match y with
                | .inl (((room31, used30, files30, steps30, left30, dead30, _), _, rd48, rd49, rd50, rd51, rd52, rd53, rl24, rl25, rl26, up8, _), t42, _) =>
                    some (t42, ())
                | .inr (.inl (((room32, used31, files31, steps31, left31, dead31, _), (_, name15, l15, size15, _), rd54, rd55, rd56, rd57, rd58, rd59, rl27, rl28, rl29, up9, _), t43, _)) =>
                    some (t43, ())
                | .inr (.inr (.inl (((room33, used32, files32, steps32, left32, dead32, _), _, rd60, rd61, rd62, rd63, rd64, rd65, rl30, rl31, rl32, up10, _), _))) =>
                    obind (law_step_c.run N room33 used32 files32 steps32 left32 dead32 rd60 rd61 rd62 rd63 rd64 rd65 rl30 rl31 rl32 up10 ((1 : Int), (0 : Int), ([] : List (List UInt8)), ([] : List Int))) fun y => match y with
                    | .inl ((room35, used34, files34, steps34, left34, dead34, _), (_, _, v131, v132, v133, v134, v135, v136, v137, v138, v139, v140, _), b14, _) =>
                        some (b14, ())
                    | .inr (.inl ((room36, used35, files35, steps35, left35, dead35, _), (_, (_, name17, l17, size17, _), v141, v142, v143, v144, v145, v146, v147, v148, v149, v150, _), b15, _)) =>
                        some (b15, ())
                    | .inr (.inr (.inl ((room37, used36, files36, steps36, left36, dead36, _), ((room38, used37, files37, steps37, left37, dead37, _), _, v151, v152, v153, v154, v155, v156, v157, v158, v159, v160, _), b16, _))) =>
                        some (b16, ())
                    | .inr (.inr (.inr ((room39, used38, files38, steps38, left38, dead38, _), ((room40, used39, files39, steps39, left39, dead39, _), (_, name18, l18, size18, _), v161, v162, v163, v164, v165, v166, v167, v168, v169, v170, _), b17, _))) =>
                        some (b17, ())
                | .inr (.inr (.inr (((room34, used33, files33, steps33, left33, dead33, _), (_, name16, l16, size16, _), rd66, rd67, rd68, rd69, rd70, rd71, rl33, rl34, rl35, up11, _), _))) =>
                    obind (law_step_e.run N room34 used33 files33 steps33 left33 dead33 name16 l16 size16 rd66 rd67 rd68 rd69 rd70 rd71 rl33 rl34 rl35 up11 ((1 : Int), (0 : Int), ([] : List (List UInt8)), ([] : List Int))) fun y => match y with
                    | .inl ((room41, used40, files40, steps40, left40, dead40, _), (_, name19, l19, size19, _), (_, _, v171, v172, v173, v174, v175, v176, v177, v178, v179, v180, _), b18, _) =>
                        some (b18, ())
                    | .inr (.inl ((room42, used41, files41, steps41, left41, dead41, _), (_, name20, l20, size20, _), (_, (_, name21, l21, size21, _), v181, v182, v183, v184, v185, v186, v187, v188, v189, v190, _), b19, _)) =>
                        some (b19, ())
                    | .inr (.inr (.inl ((room43, used42, files42, steps42, left42, dead42, _), (_, name22, l22, size22, _), (_, _, v191, v192, v193, v194, v195, v196, v197, v198, v199, v200, _), b20, _))) =>
                        some (b20, ())
                    | .inr (.inr (.inr (.inl ((room44, used43, files43, steps43, left43, dead43, _), (_, name23, l23, size23, _), ((room45, used44, files44, steps44, left44, dead44, _), _, v201, v202, v203, v204, v205, v206, v207, v208, v209, v210, _), b21, _)))) =>
                        some (b21, ())
                    | .inr (.inr (.inr (.inr ((room46, used45, files45, steps45, left45, dead45, _), (_, name24, l24, size24, _), ((room47, used46, files46, steps46, left46, dead46, _), (_, name25, l25, size25, _), v211, v212, v213, v214, v215, v216, v217, v218, v219, v220, _), b22, _)))) =>
                        some (b22, ())
          | .inr (.inr (.inl ((room10, used9, files9, steps9, left9, dead9, _), ((room11, used10, files10, steps10, left10, dead10, _), _, rd12, rd13, rd14, rd15, rd16, rd17, rl6, rl7, rl8, up2, _), ok2, _))) =>
              bif !ok2 then
                some (false, ())
              else
                obind (law_RedoAll_1.go N N (.inl (((room11, used10, files10, steps10, left10, dead10, ()), (), rd12, rd13, rd14, rd15, rd16, rd17, rl6, rl7, rl8, up2, ()), script, (script.length : Int), (0 : Int), ()))) fun y => match y with
                | .inl (((room48, used47, files47, steps47, left47, dead47, _), _, rd72, rd73, rd74, rd75, rd76, rd77, rl36, rl37, rl38, up12, _), t44, _) =>
                    some (t44, ())
                | .inr (.inl (((room49, used48, files48, steps48, left48, dead48, _), (_, name26, l26, size26, _), rd78, rd79, rd80, rd81, rd82, rd83, rl39, rl40, rl41, up13, _), t45, _)) =>
                    some (t45, ())
                | .inr (.inr (.inl (((room50, used49, files49, steps49, left49, dead49, _), _, rd84, rd85, rd86, rd87, rd88, rd89, rl42, rl43, rl44, up14, _), _))) =>
                    obind (law_step_c.run N room50 used49 files49 steps49 left49 dead49 rd84 rd85 rd86 rd87 rd88 rd89 rl42 rl43 rl44 up14 ((1 : Int), (0 : Int), ([] : List (List UInt8)), ([] : List Int))) fun y => match y with
                    | .inl ((room52, used51, files51, steps51, left51, dead51, _), (_, _, v221, v222, v223, v224, v225, v226, v227, v228, v229, v230, _), b23, _) =>
                        some (b23, ())
                    | .inr (.inl ((room53, used52, files52, steps52, left52, dead52, _), (_, (_, name28, l28, size28, _), v231, v232, v233, v234, v235, v236, v237, v238, v239, v240, _), b24, _)) =>
                        some (b24, ())
                    | .inr (.inr (.inl ((room54, used53, files53, steps53, left53, dead53, _), ((room55, used54, files54, steps54, left54, dead54, _), _, v241, v242, v243, v244, v245, v246, v247, v248, v249, v250, _), b25, _))) =>
                        some (b25, ())
                    | .inr (.inr (.inr ((room56, used55, files55, steps55, left55, dead55, _), ((room57, used56, files56, steps56, left56, dead56, _), (_, name29, l29, size29, _), v251, v252, v253, v254, v255, v256, v257, v258, v259, v260, _), b26, _))) =>
                        some (b26, ())
                | .inr (.inr (.inr (((room51, used50, files50, steps50, left50, dead50, _), (_, name27, l27, size27, _), rd90, rd91, rd92, rd93, rd94, rd95, rl45, rl46, rl47, up15, _), _))) =>
                    obind (law_step_e.run N room51 used50 files50 steps50 left50 dead50 name27 l27 size27 rd90 rd91 rd92 rd93 rd94 rd95 rl45 rl46 rl47 up15 ((1 : Int), (0 : Int), ([] : List (List UInt8)), ([] : List Int))) fun y => match y with
                    | .inl ((room58, used57, files57, steps57, left57, dead57, _), (_, name30, l30, size30, _), (_, _, v261, v262, v263, v264, v265, v266, v267, v268, v269, v270, _), b27, _) =>
                        some (b27, ())
                    | .inr (.inl ((room59, used58, files58, steps58, left58, dead58, _), (_, name31, l31, size31, _), (_, (_, name32, l32, size32, _), v271, v272, v273, v274, v275, v276, v277, v278, v279, v280, _), b28, _)) =>
                        some (b28, ())
                    | .inr (.inr (.inl ((room60, used59, files59, steps59, left59, dead59, _), (_, name33, l33, size33, _), (_, _, v281, v282, v283, v284, v285, v286, v287, v288, v289, v290, _), b29, _))) =>
                        some (b29, ())
                    | .inr (.inr (.inr (.inl ((room61, used60, files60, steps60, left60, dead60, _), (_, name34, l34, size34, _), ((room62, used61, files61, steps61, left61, dead61, _), _, v291, v292, v293, v294, v295, v296, v297, v298, v299, v300, _), b30, _)))) =>
                        some (b30, ())
                    | .inr (.inr (.inr (.inr ((room63, used62, files62, steps62, left62, dead62, _), (_, name35, l35, size35, _), ((room64, used63, files63, steps63, left63, dead63, _), (_, name36, l36, size36, _), v301, v302, v303, v304, v305, v306, v307, v308, v309, v310, _), b31, _)))) =>
                        some (b31, ())
          | .inr (.inr (.inr ((room12, used11, files11, steps11, left11, dead11, _), ((room13, used12, files12, steps12, left12, dead12, _), (_, name3, l3, size3, _), rd18, rd19, rd20, rd21, rd22, rd23, rl9, rl10, rl11, up3, _), ok3, _))) =>
              bif !ok3 then
                some (false, ())
              else
                obind (law_RedoAll_1.go N N (.inr (((room13, used12, files12, steps12, left12, dead12, ()), ((), name3, l3, size3, ()), rd18, rd19, rd20, rd21, rd22, rd23, rl9, rl10, rl11, up3, ()), script, (script.length : Int), (0 : Int), ()))) fun y => match y with
                | .inl (((room65, used64, files64, steps64, left64, dead64, _), _, rd96, rd97, rd98, rd99, rd100, rd101, rl48, rl49, rl50, up16, _), t46, _) =>
                    some (t46, ())
                | .inr (.inl (((room66, used65, files65, steps65, left65, dead65, _), (_, name37, l37, size37, _), rd102, rd103, rd104, rd105, rd106, rd107, rl51, rl52, rl53, up17, _), t47, _)) =>
                    some (t47, ())
                | .inr (.inr (.inl (((room67, used66, files66, steps66, left66, dead66, _), _, rd108, rd109, rd110, rd111, rd112, rd113, rl54, rl55, rl56, up18, _), _))) =>
                    obind (law_step_c.run N room67 used66 files66 steps66 left66 dead66 rd108 rd109 rd110 rd111 rd112 rd113 rl54 rl55 rl56 up18 ((1 : Int), (0 : Int), ([] : List (List UInt8)), ([] : List Int))) fun y => match y with
                    | .inl ((room69, used68, files68, steps68, left68, dead68, _), (_, _, v311, v312, v313, v314, v315, v316, v317, v318, v319, v320, _), b32, _) =>
                        some (b32, ())
                    | .inr (.inl ((room70, used69, files69, steps69, left69, dead69, _), (_, (_, name39, l39, size39, _), v321, v322, v323, v324, v325, v326, v327, v328, v329, v330, _), b33, _)) =>
                        some (b33, ())
                    | .inr (.inr (.inl ((room71, used70, files70, steps70, left70, dead70, _), ((room72, used71, files71, steps71, left71, dead71, _), _, v331, v332, v333, v334, v335, v336, v337, v338, v339, v340, _), b34, _))) =>
                        some (b34, ())
                    | .inr (.inr (.inr ((room73, used72, files72, steps72, left72, dead72, _), ((room74, used73, files73, steps73, left73, dead73, _), (_, name40, l40, size40, _), v341, v342, v343, v344, v345, v346, v347, v348, v349, v350, _), b35, _))) =>
                        some (b35, ())
                | .inr (.inr (.inr (((room68, used67, files67, steps67, left67, dead67, _), (_, name38, l38, size38, _), rd114, rd115, rd116, rd117, rd118, rd119, rl57, rl58, rl59, up19, _), _))) =>
                    obind (law_step_e.run N room68 used67 files67 steps67 left67 dead67 name38 l38 size38 rd114 rd115 rd116 rd117 rd118 rd119 rl57 rl58 rl59 up19 ((1 : Int), (0 : Int), ([] : List (List UInt8)), ([] : List Int))) fun y => match y with
                    | .inl ((room75, used74, files74, steps74, left74, dead74, _), (_, name41, l41, size41, _), (_, _, v351, v352, v353, v354, v355, v356, v357, v358, v359, v360, _), b36, _) =>
                        some (b36, ())
                    | .inr (.inl ((room76, used75, files75, steps75, left75, dead75, _), (_, name42, l42, size42, _), (_, (_, name43, l43, size43, _), v361, v362, v363, v364, v365, v366, v367, v368, v369, v370, _), b37, _)) =>
                        some (b37, ())
                    | .inr (.inr (.inl ((room77, used76, files76, steps76, left76, dead76, _), (_, name44, l44, size44, _), (_, _, v371, v372, v373, v374, v375, v376, v377, v378, v379, v380, _), b38, _))) =>
                        some (b38, ())
                    | .inr (.inr (.inr (.inl ((room78, used77, files77, steps77, left77, dead77, _), (_, name45, l45, size45, _), ((room79, used78, files78, steps78, left78, dead78, _), _, v381, v382, v383, v384, v385, v386, v387, v388, v389, v390, _), b39, _)))) =>
                        some (b39, ())
                    | .inr (.inr (.inr (.inr ((room80, used79, files79, steps79, left79, dead79, _), (_, name46, l46, size46, _), ((room81, used80, files80, steps80, left80, dead80, _), (_, name47, l47, size47, _), v391, v392, v393, v394, v395, v396, v397, v398, v399, v400, _), b40, _)))) =>
                        some (b40, ())
namespace law_RedoAll
def fn (N : Nat) : Sh.den ins → Option (Sh.den outs) := fun (a, b, _) => law_RedoAll.run N a b
def S (N : Nat) : Fs := ⟨ins, outs, fn N⟩
def lam (N : Nat) : Pcs := pcs [([true, true, true, false], (law_RedoAll_0.P N).pc (C N)), ([true, true, true, true, true, false, true, false], (law_RedoAll_1.P N).pc (C N))]
theorem pok (N : Nat) : (lam N).Ok Tryz.prog (C N) code := pcsOk_cons (c1 := law_RedoAll_0.code) (by kernel_rfl) (law_RedoAll_0.ok N) (pcsOk_cons (c1 := .loop law_RedoAll_1.code) (by kernel_rfl) (law_RedoAll_1.ok N) (pcsOk_nil))
theorem ok (N : Nat) : (S N).con.Ok Tryz.prog 4 := okF (F := S N) [] Tryz.func4 (by kernel_rfl) (by rfl) mix (cok N) (pok N) fun _ => by kernel_rfl
end law_RedoAll
end
end Go.Hay.YthlojpcjafefjaaGreat
