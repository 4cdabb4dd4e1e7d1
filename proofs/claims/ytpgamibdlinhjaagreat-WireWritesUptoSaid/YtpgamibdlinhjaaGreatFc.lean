/- Functions of the program as functions of Lean, and that they are what the program computes. Conditions: none. -/
import Derived.Test.YtpgamibdlinhjaaGreatFb
set_option linter.unusedVariables false
namespace Go.Hay.YtpgamibdlinhjaaGreat
open Go Go.Hay Go.Proofs
noncomputable section
set_option maxRecDepth 100000
namespace fD20
def fn (N : Nat) : Sh.den ins → Option (Sh.den outs) := fun ((a, b, _), c, _) => fD20.run N a b c
def S (N : Nat) : Fs := ⟨ins, outs, fn N⟩
def lam (N : Nat) : Pcs := pcs [([true, true, false, true, false], (fC21.P N).pc (C N)), ([true, true, true, true, true, false], (fD56.P N).pc (C N))]
theorem pok (N : Nat) : (lam N).Ok Tryz.prog (C N) code := pcsOk_cons (c1 := .loop fC21.code) (by kernel_rfl) (fC21.ok N) (pcsOk_cons (c1 := .loop fD56.code) (by kernel_rfl) (fD56.ok N) (pcsOk_nil))
theorem ok (N : Nat) : (S N).con.Ok Tryz.prog 47 := okF (F := S N) [] Tryz.func47 (by kernel_rfl) (by rfl) mix (cok N) (pok N) fun _ => by kernel_rfl
end fD20
namespace fC57
def ins : Sh := s91
def C (N : Nat) : Ctx := ⟨U, 9, fun _ => true, gam [(20, (fC3.S N).con)], gamY []⟩
theorem cok (N : Nat) : (C N).Ok Tryz.prog := ⟨U_ok, GamOk.cons (fC3.ok N) (GamOk.nil), GamYOk.nil⟩
def code : Code := Tryz.f48.body.getD .skip
def outs : Sh := (.cons (.upd 0 57 s90) .nil)
end fC57
def fC57.run (N : Nat) (b : (List UInt8)) (bad : Bool) (is_ : Bool) : Option (T54 × Unit) :=
  bif is_ then
    obind (fC3.run N b bad (1 : Int) (1 : Int)) fun ((b1, bad1, _), _) =>
      some ((b1, bad1, ()), ())
  else
    obind (fC3.run N b bad (0 : Int) (1 : Int)) fun ((b2, bad2, _), _) =>
      some ((b2, bad2, ()), ())
namespace fC57
def fn (N : Nat) : Sh.den ins → Option (Sh.den outs) := fun ((a, b, _), c, _) => fC57.run N a b c
def S (N : Nat) : Fs := ⟨ins, outs, fn N⟩
def lam (N : Nat) : Pcs := pcs []
theorem pok (N : Nat) : (lam N).Ok Tryz.prog (C N) code := pcsOk_nil
theorem ok (N : Nat) : (S N).con.Ok Tryz.prog 48 := okF (F := S N) [] Tryz.func48 (by kernel_rfl) (by rfl) mix (cok N) (pok N) fun _ => by kernel_rfl
end fC57
namespace fB19
def ins : Sh := (.cons (.box 57 s90) s6)
def C (N : Nat) : Ctx := ⟨U, 36, fun _ => true, gam [(83, (fB59.S N).con), (85, (fD62.S N).con), (84, (fA67.S N).con), (20, (fC3.S N).con)], gamY []⟩
theorem cok (N : Nat) : (C N).Ok Tryz.prog := ⟨U_ok, GamOk.cons (fB59.ok N) (GamOk.cons (fD62.ok N) (GamOk.cons (fA67.ok N) (GamOk.cons (fC3.ok N) (GamOk.nil)))), GamYOk.nil⟩
def code : Code := Tryz.f50.body.getD .skip
def outs : Sh := (.cons (.upd 0 57 s90) .nil)
end fB19
namespace fC28
def ins : Sh := (.cons (.box 57 s90) s89)
def ts : List Tmp := [0, 1, 4]
def asg : List Tmp := [4, 9, 10, 11, 12, 13, 14, 15, 16, 17, 18, 19, 20, 21, 22, 23, 24, 25, 26, 27, 28, 29, 30, 31, 32, 33, 34, 35]
def C (N : Nat) : Ctx := { fB19.C N with may := fun t => asg.any (Nat.beq t) }
def code : Code := loopBody (sub fB19.code [true, true, false])
theorem cok (N : Nat) : (C N).Ok Tryz.prog := okC (fB19.cok N) _
def alts : List Alt := [⟨(.exit 0), [], (.cons (.upd 0 57 s90) .nil)⟩]
end fC28
def fC28.go (N : Nat) : Nat → (List UInt8) → Bool → (List T6) → Int → Option ((T54 × Unit))
  | 0, _, _, _, _ => none
  | fuel + 1, b, bad, l, i =>
    bif decide (i < (l.length : Int)) then
      bif inB i l.length then
        obind (fD62.run N b bad (l.getD i.toNat (((0 : Int), (0 : Int)), ([] : List T4), (0 : Int))).1) fun ((b1, bad1, _), _) =>
          bif inB i l.length then
            obind (fA67.run N b1 bad1 (l.getD i.toNat (((0 : Int), (0 : Int)), ([] : List T4), (0 : Int))).2.1) fun ((b2, bad2, _), _) =>
              bif inB i l.length then
                obind (fC3.run N b2 bad2 (l.getD i.toNat (((0 : Int), (0 : Int)), ([] : List T4), (0 : Int))).2.2 (8 : Int)) fun ((b3, bad3, _), _) =>
                  fC28.go N fuel b3 bad3 l (IntKind.i64.wrap (i + (1 : Int)))
              else none
          else none
      else none
    else some ((b, bad, ()), ())
namespace fC28
def g (N n : Nat) : Sh.den ins → Option (altsDen alts) := fun ((a, b, _), c, d, _) => fC28.go N n a b c d
def P (N : Nat) : Ps := ⟨ts, ins, asg, alts, g N N⟩
def lam (N : Nat) : Pcs := pcs []
theorem pok (N : Nat) : (lam N).Ok Tryz.prog (C N) code := pcsOk_nil
theorem ok (N : Nat) : ((P N).pc (fB19.C N)).Ok Tryz.prog (fB19.C N) (.loop code) := okL (F := P N) (g N) (fB19.cok N) mix (pok N) (fun _ => rfl) rfl fun _ _ => by kernel_rfl
end fC28
def fB19.run (N : Nat) (b : (List UInt8)) (bad : Bool) (l : (List T6)) : Option (T54 × Unit) :=
  obind (fB59.run N b bad (l.length : Int)) fun ((b1, bad1, _), _) =>
    obind (fC28.go N N b1 bad1 l (0 : Int)) fun ((b2, bad2, _), _) =>
      some ((b2, bad2, ()), ())
namespace fB19
def fn (N : Nat) : Sh.den ins → Option (Sh.den outs) := fun ((a, b, _), c, _) => fB19.run N a b c
def S (N : Nat) : Fs := ⟨ins, outs, fn N⟩
def lam (N : Nat) : Pcs := pcs [([true, true, false], (fC28.P N).pc (C N))]
theorem pok (N : Nat) : (lam N).Ok Tryz.prog (C N) code := pcsOk_cons (c1 := .loop fC28.code) (by kernel_rfl) (fC28.ok N) (pcsOk_nil)
theorem ok (N : Nat) : (S N).con.Ok Tryz.prog 50 := okF (F := S N) [] Tryz.func50 (by kernel_rfl) (by rfl) mix (cok N) (pok N) fun _ => by kernel_rfl
end fB19
namespace fD64
def ins : Sh := (.cons (.box 57 s90) s98)
def C (N : Nat) : Ctx := ⟨U, 91, fun _ => true, gam [(20, (fC3.S N).con), (47, (fD20.S N).con), (48, (fC57.S N).con), (49, (fD12.S N).con), (50, (fB19.S N).con), (21, (fC59.S N).con)], gamY []⟩
theorem cok (N : Nat) : (C N).Ok Tryz.prog := ⟨U_ok, GamOk.cons (fC3.ok N) (GamOk.cons (fD20.ok N) (GamOk.cons (fC57.ok N) (GamOk.cons (fD12.ok N) (GamOk.cons (fB19.ok N) (GamOk.cons (fC59.ok N) (GamOk.nil)))))), GamYOk.nil⟩
def code : Code := Tryz.f22.body.getD .skip
def outs : Sh := (.cons (.upd 0 57 s90) .nil)
end fD64
def fD64.run (N : Nat) (b : (List UInt8)) (bad : Bool) (m : T53) (c : UInt8) : Option (T54 × Unit) :=
  bif decide ((c.toNat : Int) = (120 : Int)) then
    obind (fC3.run N b bad m.2.2.2.1 (8 : Int)) fun ((b1, bad1, _), _) =>
      some ((b1, bad1, ()), ())
  else
    bif decide ((c.toNat : Int) = (98 : Int)) then
      obind (fC3.run N b bad m.2.2.2.2.1 (8 : Int)) fun ((b2, bad2, _), _) =>
        some ((b2, bad2, ()), ())
    else
      bif decide ((c.toNat : Int) = (112 : Int)) then
        obind (fD20.run N b bad m.2.2.2.2.2.2.2.2.2.2.2.2.2.2.2.1) fun ((b3, bad3, _), _) =>
          some ((b3, bad3, ()), ())
      else
        bif decide ((c.toNat : Int) = (121 : Int)) then
          obind (fC57.run N b bad m.2.2.2.2.2.2.2.2.2.2.2.1) fun ((b4, bad4, _), _) =>
            some ((b4, bad4, ()), ())
        else
          bif decide ((c.toNat : Int) = (101 : Int)) then
            obind (fC3.run N b bad m.2.2.2.2.2.1 (8 : Int)) fun ((b5, bad5, _), _) =>
              some ((b5, bad5, ()), ())
          else
            bif decide ((c.toNat : Int) = (109 : Int)) then
              obind (fC3.run N b bad m.2.2.2.2.2.2.2.1 (8 : Int)) fun ((b6, bad6, _), _) =>
                some ((b6, bad6, ()), ())
            else
              bif decide ((c.toNat : Int) = (113 : Int)) then
                obind (fC3.run N b bad m.2.2.2.2.2.2.2.2.1 (8 : Int)) fun ((b7, bad7, _), _) =>
                  some ((b7, bad7, ()), ())
              else
                bif decide ((c.toNat : Int) = (97 : Int)) then
                  obind (fD12.run N b bad m.2.2.2.2.2.2.2.2.2.2.2.2.2.2.1) fun ((b8, bad8, _), _) =>
                    some ((b8, bad8, ()), ())
                else
                  bif decide ((c.toNat : Int) = (110 : Int)) then
                    obind (fC57.run N b bad m.2.2.2.2.2.2.2.2.2.2.2.2.1) fun ((b9, bad9, _), _) =>
                      some ((b9, bad9, ()), ())
                  else
                    bif decide ((c.toNat : Int) = (118 : Int)) then
                      obind (fB19.run N b bad m.2.2.2.2.2.2.2.2.2.2.2.2.2.2.2.2) fun ((b10, bad10, _), _) =>
                        some ((b10, bad10, ()), ())
                    else
                      bif decide ((c.toNat : Int) = (119 : Int)) then
                        obind (fC57.run N b bad m.2.2.2.2.2.2.2.2.2.2.2.2.2.1) fun ((b11, bad11, _), _) =>
                          some ((b11, bad11, ()), ())
                      else
                        bif decide ((c.toNat : Int) = (100 : Int)) then
                          obind (fC59.run N b bad m.2.2.2.2.2.2.2.2.2.2.1) fun ((b12, bad12, _), _) =>
                            some ((b12, bad12, ()), ())
                        else
                          bif decide ((c.toNat : Int) = (116 : Int)) then
                            obind (fC3.run N b bad m.2.2.2.2.2.2.2.2.2.1 (8 : Int)) fun ((b13, bad13, _), _) =>
                              some ((b13, bad13, ()), ())
                          else
                            bif decide ((c.toNat : Int) = (115 : Int)) then
                              obind (fC3.run N b bad m.2.2.2.2.2.2.1 (8 : Int)) fun ((b14, bad14, _), _) =>
                                some ((b14, bad14, ()), ())
                            else some ((b, bad, ()), ())
namespace fD64
def fn (N : Nat) : Sh.den ins → Option (Sh.den outs) := fun ((a, b, _), c, d, _) => fD64.run N a b c d
def S (N : Nat) : Fs := ⟨ins, outs, fn N⟩
def lam (N : Nat) : Pcs := pcs []
theorem pok (N : Nat) : (lam N).Ok Tryz.prog (C N) code := pcsOk_nil
theorem ok (N : Nat) : (S N).con.Ok Tryz.prog 22 := okF (F := S N) [] Tryz.func22 (by kernel_rfl) (by rfl) mix (cok N) (pok N) fun _ => by kernel_rfl
end fD64
namespace fD66
def ins : Sh := (.cons (.rown 5 .byte) .nil)
def C (N : Nat) : Ctx := ⟨U, 33, fun _ => true, gam [], gamY []⟩
theorem cok (N : Nat) : (C N).Ok Tryz.prog := ⟨U_ok, GamOk.nil, GamYOk.nil⟩
def code : Code := Tryz.f51.body.getD .skip
def outs : Sh := (.cons (.val (.int .u32)) .nil)
end fD66
namespace fA43
def ins : Sh := (.cons (.rown 5 .byte) s79)
def ts : List Tmp := [0, 3, 4]
def asg : List Tmp := [3, 4, 5, 6, 7, 8, 9, 10, 11, 12, 13, 14, 15, 16, 17, 18, 19, 20, 21, 22, 23, 24, 25, 26, 27, 28, 29, 30]
def C (N : Nat) : Ctx := { fD66.C N with may := fun t => asg.any (Nat.beq t) }
def code : Code := loopBody (sub fD66.code [true, true, false, true, false])
theorem cok (N : Nat) : (C N).Ok Tryz.prog := okC (fD66.cok N) _
def alts : List Alt := [⟨(.exit 0), [3], (.cons (.val (.int .u32)) .nil)⟩]
end fA43
namespace fA58
def ins : Sh := s79
def ts : List Tmp := [3, 5]
def asg : List Tmp := [3, 5, 19, 20, 21, 22, 23, 24, 25, 26, 27, 28, 29, 30]
def C (N : Nat) : Ctx := { fA43.C N with may := fun t => asg.any (Nat.beq t) }
def code : Code := loopBody (sub fA43.code [true, false, false, true, true, false])
theorem cok (N : Nat) : (C N).Ok Tryz.prog := okC (fA43.cok N) _
def alts : List Alt := [⟨(.exit 2), [3], (.cons (.val (.int .u32)) .nil)⟩]
end fA58
def fA58.go (N : Nat) : Nat → Int → Int → Option ((Int × Unit))
  | 0, _, _ => none
  | fuel + 1, r, k =>
    bif decide (k < (8 : Int)) then
      bif decide ((r.tmod (2 : Int)) = (1 : Int)) then
        fA58.go N fuel (IntKind.u32.wrap ((BitVec.ofInt 32 (IntKind.u32.wrap (r.tdiv (2 : Int))) ^^^ BitVec.ofInt 32 (3988292384 : Int)).toNat : Int)) (IntKind.i64.wrap (k + (1 : Int)))
      else fA58.go N fuel (IntKind.u32.wrap (r.tdiv (2 : Int))) (IntKind.i64.wrap (k + (1 : Int)))
    else some (r, ())
namespace fA58
def g (N n : Nat) : Sh.den ins → Option (altsDen alts) := fun (a, b, _) => fA58.go N n a b
def P (N : Nat) : Ps := ⟨ts, ins, asg, alts, g N N⟩
def lam (N : Nat) : Pcs := pcs []
theorem pok (N : Nat) : (lam N).Ok Tryz.prog (C N) code := pcsOk_nil
theorem ok (N : Nat) : ((P N).pc (fA43.C N)).Ok Tryz.prog (fA43.C N) (.loop code) := okL (F := P N) (g N) (fA43.cok N) mix (pok N) (fun _ => rfl) rfl fun _ _ => by kernel_rfl
end fA58
def fA43.go (N : Nat) : Nat → (List UInt8) → Int → Int → Option ((Int × Unit))
  | 0, _, _, _ => none
  | fuel + 1, b, r, i =>
    bif decide (i < (b.length : Int)) then
      bif inB i b.length then
        bif decide (i.toNat < b.length) then
          obind (fA58.go N N (IntKind.u32.wrap ((BitVec.ofInt 32 r ^^^ BitVec.ofInt 32 (IntKind.u32.wrap ((b.getD i.toNat (0 : UInt8)).toNat : Int))).toNat : Int)) (0 : Int)) fun (r1, _) =>
            fA43.go N fuel b r1 (IntKind.i64.wrap (i + (1 : Int)))
        else none
      else none
    else some (r, ())
namespace fA43
def g (N n : Nat) : Sh.den ins → Option (altsDen alts) := fun (a, b, c, _) => fA43.go N n a b c
def P (N : Nat) : Ps := ⟨ts, ins, asg, alts, g N N⟩
def lam (N : Nat) : Pcs := pcs [([true, false, false, true, true, false], (fA58.P N).pc (C N))]
theorem pok (N : Nat) : (lam N).Ok Tryz.prog (C N) code := pcsOk_cons (c1 := .loop fA58.code) (by kernel_rfl) (fA58.ok N) (pcsOk_nil)
theorem ok (N : Nat) : ((P N).pc (fD66.C N)).Ok Tryz.prog (fD66.C N) (.loop code) := okL (F := P N) (g N) (fD66.cok N) mix (pok N) (fun _ => rfl) rfl fun _ _ => by kernel_rfl
end fA43
def fD66.run (N : Nat) (b : (List UInt8)) : Option (Int × Unit) :=
  obind (fA43.go N N b (4294967295 : Int) (0 : Int)) fun (r, _) =>
    some (IntKind.u32.wrap ((BitVec.ofInt 32 r ^^^ BitVec.ofInt 32 (4294967295 : Int)).toNat : Int), ())
namespace fD66
def fn (N : Nat) : Sh.den ins → Option (Sh.den outs) := fun (a, _) => fD66.run N a
def S (N : Nat) : Fs := ⟨ins, outs, fn N⟩
def lam (N : Nat) : Pcs := pcs [([true, true, false, true, false], (fA43.P N).pc (C N))]
theorem pok (N : Nat) : (lam N).Ok Tryz.prog (C N) code := pcsOk_cons (c1 := .loop fA43.code) (by kernel_rfl) (fA43.ok N) (pcsOk_nil)
theorem ok (N : Nat) : (S N).con.Ok Tryz.prog 51 := okF (F := S N) [] Tryz.func51 (by kernel_rfl) (by rfl) mix (cok N) (pok N) fun _ => by kernel_rfl
end fD66
namespace fB71
def ins : Sh := (.cons (.rown 5 .byte) .nil)
def C (N : Nat) : Ctx := ⟨U, 28, fun _ => true, gam [(45, (fC15.S N).con), (51, (fD66.S N).con)], gamY []⟩
theorem cok (N : Nat) : (C N).Ok Tryz.prog := ⟨U_ok, GamOk.cons (fC15.ok N) (GamOk.cons (fD66.ok N) (GamOk.nil)), GamYOk.nil⟩
def code : Code := Tryz.f23.body.getD .skip
def outs : Sh := s22
end fB71
def fB71.run (N : Nat) (b : (List UInt8)) : Option T17 :=
  bif decide ((b.length : Int) > (16777216 : Int)) then
    some (([] : List UInt8), (12 : Int), ())
  else
    obind (fC15.run N (IntKind.u64.wrap (b.length : Int)) (4 : Int)) fun (l, _) =>
      obind (fD66.run N l) fun (n_, _) =>
        obind (fC15.run N (IntKind.u64.wrap n_) (4 : Int)) fun (l1, _) =>
          bif room (l.length + l1.length) 1 then
            bif room ((l ++ l1).length + b.length) 1 then
              obind (fD66.run N b) fun (n1, _) =>
                obind (fC15.run N (IntKind.u64.wrap n1) (4 : Int)) fun (l2, _) =>
                  bif room (((l ++ l1) ++ b).length + l2.length) 1 then
                    some (((l ++ l1) ++ b) ++ l2, (0 : Int), ())
                  else none
            else none
          else none
namespace fB71
def fn (N : Nat) : Sh.den ins → Option (Sh.den outs) := fun (a, _) => fB71.run N a
def S (N : Nat) : Fs := ⟨ins, outs, fn N⟩
def lam (N : Nat) : Pcs := pcs []
theorem pok (N : Nat) : (lam N).Ok Tryz.prog (C N) code := pcsOk_nil
theorem ok (N : Nat) : (S N).con.Ok Tryz.prog 23 := okF (F := S N) [] Tryz.func23 (by kernel_rfl) (by rfl) mix (cok N) (pok N) fun _ => by kernel_rfl
end fB71
namespace fB44
def ins : Sh := s82
def C (N : Nat) : Ctx := ⟨U, 65, fun _ => true, gam [(18, (fD58.S N).con), (19, (fA56.S N).con), (9, (fB67.S N).con), (20, (fC3.S N).con), (21, (fC59.S N).con), (22, (fD64.S N).con), (23, (fB71.S N).con)], gamY []⟩
theorem cok (N : Nat) : (C N).Ok Tryz.prog := ⟨U_ok, GamOk.cons (fD58.ok N) (GamOk.cons (fA56.ok N) (GamOk.cons (fB67.ok N) (GamOk.cons (fC3.ok N) (GamOk.cons (fC59.ok N) (GamOk.cons (fD64.ok N) (GamOk.cons (fB71.ok N) (GamOk.nil))))))), GamYOk.nil⟩
def code : Code := Tryz.f6.body.getD .skip
def outs : Sh := s22
end fB44
namespace fB56
def ins : Sh := (.cons (.rbox 31 s7) (.cons (.val .str) s92))
def ts : List Tmp := [1, 4, 5, 6]
def asg : List Tmp := [6, 36, 37, 38, 39, 40, 41, 42, 43, 44, 45, 46, 47]
def C (N : Nat) : Ctx := { fB44.C N with may := fun t => asg.any (Nat.beq t) }
def code : Code := loopBody (sub fB44.code [true, true, true, true, true, true, true, false, true, false])
theorem cok (N : Nat) : (C N).Ok Tryz.prog := okC (fB44.cok N) _
def alts : List Alt := [⟨(.exit 0), [], (.cons (.upd 1 57 s90) .nil)⟩]
end fB56
def fB56.go (N : Nat) : Nat → Int → Int → Int → Int → Int → Int → Int → Int → Int → Int → Int → Bool → Bool → Bool → Int → Int → (List T7) → (List T8) → (List T6) → (List UInt8) → (List UInt8) → Bool → Int → Option ((T54 × Unit))
  | 0, _, _, _, _, _, _, _, _, _, _, _, _, _, _, _, _, _, _, _, _, _, _, _ => none
  | fuel + 1, jA, jB_, jC_, jD, jE, jF, jG, jH, jI, jJ, jK, jL, jM, jN, jO_, jO1, jP, jP1, jQ, f, b, bad, i =>
    bif decide (i < (f.length : Int)) then
      bif inB i f.length then
        obind (fD64.run N b bad (jA, jB_, jC_, jD, jE, jF, jG, jH, jI, jJ, jK, jL, jM, jN, (jO_, jO1), (jP, jP1), jQ) (Hay.u8 ((f.getD i.toNat (0 : UInt8)).toNat : Int))) fun ((b1, bad1, _), _) =>
          fB56.go N fuel jA jB_ jC_ jD jE jF jG jH jI jJ jK jL jM jN jO_ jO1 jP jP1 jQ f b1 bad1 (IntKind.i64.wrap (i + (1 : Int)))
      else none
    else some ((b, bad, ()), ())
namespace fB56
def g (N n : Nat) : Sh.den ins → Option (altsDen alts) := fun ((a, b, c, d, e, f, g, h, i, j, k, l, m, o, p, q, r, s, t, _), u, (v, w, _), x, _) => fB56.go N n a b c d e f g h i j k l m o p q r s t u v w x
def P (N : Nat) : Ps := ⟨ts, ins, asg, alts, g N N⟩
def lam (N : Nat) : Pcs := pcs []
theorem pok (N : Nat) : (lam N).Ok Tryz.prog (C N) code := pcsOk_nil
theorem ok (N : Nat) : ((P N).pc (fB44.C N)).Ok Tryz.prog (fB44.C N) (.loop code) := okL (F := P N) (g N) (fB44.cok N) mix (pok N) (fun _ => rfl) rfl fun _ _ => by kernel_rfl
end fB56
def fB44.run (N : Nat) (m : T53) : Option T17 :=
  obind (fD58.run N m.1) fun (s, _) =>
    bif decide (s = ([] : List UInt8)) then
      some (([] : List UInt8), (170 : Int), ())
    else
      obind (fA56.run N m) fun (v, _) =>
        obind (fB67.run N m v) fun (b, _) =>
          bif !b then
            some (([] : List UInt8), (170 : Int), ())
          else
            obind (fC3.run N ([] : List UInt8) false (IntKind.u64.wrap m.1) (1 : Int)) fun ((b1, bad, _), _) =>
              obind (fC59.run N b1 bad m.2.1) fun ((b2, bad1, _), _) =>
                obind (fC59.run N b2 bad1 m.2.2.1) fun ((b3, bad2, _), _) =>
                  obind (fB56.go N N m.1 m.2.1 m.2.2.1 m.2.2.2.1 m.2.2.2.2.1 m.2.2.2.2.2.1 m.2.2.2.2.2.2.1 m.2.2.2.2.2.2.2.1 m.2.2.2.2.2.2.2.2.1 m.2.2.2.2.2.2.2.2.2.1 m.2.2.2.2.2.2.2.2.2.2.1 m.2.2.2.2.2.2.2.2.2.2.2.1 m.2.2.2.2.2.2.2.2.2.2.2.2.1 m.2.2.2.2.2.2.2.2.2.2.2.2.2.1 m.2.2.2.2.2.2.2.2.2.2.2.2.2.2.1.1 m.2.2.2.2.2.2.2.2.2.2.2.2.2.2.1.2 m.2.2.2.2.2.2.2.2.2.2.2.2.2.2.2.1.1 m.2.2.2.2.2.2.2.2.2.2.2.2.2.2.2.1.2 m.2.2.2.2.2.2.2.2.2.2.2.2.2.2.2.2 s b3 bad2 (0 : Int)) fun ((b4, bad3, _), _) =>
                    obind (fB71.run N b4) fun (l, n_, _) =>
                      bif bad3 then
                        some (([] : List UInt8), (170 : Int), ())
                      else
                        bif !(decide (n_ = (0 : Int))) then
                          some (([] : List UInt8), (170 : Int), ())
                        else some (l, (0 : Int), ())
namespace fB44
def fn (N : Nat) : Sh.den ins → Option (Sh.den outs) := fun (a, _) => fB44.run N a
def S (N : Nat) : Fs := ⟨ins, outs, fn N⟩
def lam (N : Nat) : Pcs := pcs [([true, true, true, true, true, true, true, false, true, false], (fB56.P N).pc (C N))]
theorem pok (N : Nat) : (lam N).Ok Tryz.prog (C N) code := pcsOk_cons (c1 := .loop fB56.code) (by kernel_rfl) (fB56.ok N) (pcsOk_nil)
theorem ok (N : Nat) : (S N).con.Ok Tryz.prog 6 := okF (F := S N) [] Tryz.func6 (by kernel_rfl) (by rfl) mix (cok N) (pok N) fun _ => by kernel_rfl
end fB44
namespace fD15
def ins : Sh := (.cons (.val (.slice .byte)) .nil)
def C (N : Nat) : Ctx := ⟨U, 54, fun _ => true, gam [], gamY []⟩
theorem cok (N : Nat) : (C N).Ok Tryz.prog := ⟨U_ok, GamOk.nil, GamYOk.nil⟩
def code : Code := Tryz.f38.body.getD .skip
def outs : Sh := (.cons (.val (.int .u32)) .nil)
end fD15
namespace fC17
def ins : Sh := s78
def ts : List Tmp := [3, 9]
def asg : List Tmp := [4, 5, 9, 10, 11, 12, 13, 14, 15, 16, 17, 18, 19, 20, 21, 22, 23, 24, 25, 26]
def C (N : Nat) : Ctx := { fD15.C N with may := fun t => asg.any (Nat.beq t) }
def code : Code := loopBody (sub fD15.code [true, true, false, true, false])
theorem cok (N : Nat) : (C N).Ok Tryz.prog := okC (fD15.cok N) _
def alts : List Alt := [⟨(.exit 0), [], (.cons (.updr 0 129 (.int .u32)) .nil)⟩]
end fC17
namespace fC42
def ins : Sh := s79
def ts : List Tmp := [5, 14]
def asg : List Tmp := [5, 14, 15, 16, 17, 18, 19, 20, 21, 22]
def C (N : Nat) : Ctx := { fC17.C N with may := fun t => asg.any (Nat.beq t) }
def code : Code := loopBody (sub fC17.code [true, true, false, false, true, true, false, true, false])
theorem cok (N : Nat) : (C N).Ok Tryz.prog := okC (fC17.cok N) _
def alts : List Alt := [⟨(.exit 2), [5], (.cons (.val (.int .u32)) .nil)⟩]
end fC42
def fC42.go (N : Nat) : Nat → Int → Int → Option ((Int × Unit))
  | 0, _, _ => none
  | fuel + 1, c, t14 =>
    bif decide (t14 < (4 : Int)) then
      fC42.go N fuel (IntKind.u32.wrap ((BitVec.ofInt 32 (c.fdiv (2 : Int)) ^^^ BitVec.ofInt 32 (IntKind.u32.wrap ((3988292384 : Int) * (IntKind.u32.wrap ((BitVec.ofInt 32 c &&& BitVec.ofInt 32 (1 : Int)).toNat : Int))))).toNat : Int)) (IntKind.i64.wrap (t14 + (1 : Int)))
    else some (c, ())
namespace fC42
def g (N n : Nat) : Sh.den ins → Option (altsDen alts) := fun (a, b, _) => fC42.go N n a b
def P (N : Nat) : Ps := ⟨ts, ins, asg, alts, g N N⟩
def lam (N : Nat) : Pcs := pcs []
theorem pok (N : Nat) : (lam N).Ok Tryz.prog (C N) code := pcsOk_nil
theorem ok (N : Nat) : ((P N).pc (fC17.C N)).Ok Tryz.prog (fC17.C N) (.loop code) := okL (F := P N) (g N) (fC17.cok N) mix (pok N) (fun _ => rfl) rfl fun _ _ => by kernel_rfl
end fC42
def fC17.go (N : Nat) : Nat → (List Int) → Int → Option (T43)
  | 0, _, _ => none
  | fuel + 1, half, t9 =>
    bif decide (t9 < (16 : Int)) then
      obind (fC42.go N N (IntKind.u32.wrap t9) (0 : Int)) fun (c, _) =>
        bif inB t9 16 then
          bif decide (t9.toNat < half.length) then
            fC17.go N fuel (half.set t9.toNat c) (IntKind.i64.wrap (t9 + (1 : Int)))
          else none
        else none
    else some (half, ())
namespace fC17
def g (N n : Nat) : Sh.den ins → Option (altsDen alts) := fun (a, b, _) => fC17.go N n a b
def P (N : Nat) : Ps := ⟨ts, ins, asg, alts, g N N⟩
def lam (N : Nat) : Pcs := pcs [([true, true, false, false, true, true, false, true, false], (fC42.P N).pc (C N))]
theorem pok (N : Nat) : (lam N).Ok Tryz.prog (C N) code := pcsOk_cons (c1 := .loop fC42.code) (by kernel_rfl) (fC42.ok N) (pcsOk_nil)
theorem ok (N : Nat) : ((P N).pc (fD15.C N)).Ok Tryz.prog (fD15.C N) (.loop code) := okL (F := P N) (g N) (fD15.cok N) mix (pok N) (fun _ => rfl) rfl fun _ _ => by kernel_rfl
end fC17
namespace fA52
def ins : Sh := (.cons (.arr 129 (.int .u32) 16) (.cons (.val (.int .u32)) (.cons (.val (.slice .byte)) s20)))
def ts : List Tmp := [3, 6, 27, 28, 29]
def asg : List Tmp := [6, 8, 29, 30, 31, 32, 33, 34, 35, 36, 37, 38, 39, 40, 41, 42, 43, 44, 45, 46, 47, 48, 49, 50, 51]
def C (N : Nat) : Ctx := { fD15.C N with may := fun t => asg.any (Nat.beq t) }
def code : Code := loopBody (sub fD15.code [true, true, true, true, false, true, false])
theorem cok (N : Nat) : (C N).Ok Tryz.prog := okC (fD15.cok N) _
def alts : List Alt := [⟨(.exit 4), [6], (.cons (.val (.int .u32)) .nil)⟩]
end fA52
def fA52.go (N : Nat) : Nat → (List Int) → Int → (List UInt8) → Int → Int → Option ((Int × Unit))
  | 0, _, _, _, _, _ => none
  | fuel + 1, half, c, t27, t28, t29 =>
    bif decide (t29 < t28) then
      bif inB t29 t27.length then
        bif inB (IntKind.u32.wrap ((BitVec.ofInt 32 (IntKind.u32.wrap ((BitVec.ofInt 32 c ^^^ BitVec.ofInt 32 (IntKind.u32.wrap ((t27.getD t29.toNat (0 : UInt8)).toNat : Int))).toNat : Int)) &&& BitVec.ofInt 32 (15 : Int)).toNat : Int)) 16 then
          bif decide ((IntKind.u32.wrap ((BitVec.ofInt 32 (IntKind.u32.wrap ((BitVec.ofInt 32 c ^^^ BitVec.ofInt 32 (IntKind.u32.wrap ((t27.getD t29.toNat (0 : UInt8)).toNat : Int))).toNat : Int)) &&& BitVec.ofInt 32 (15 : Int)).toNat : Int)).toNat < half.length) then
            bif inB (IntKind.u32.wrap ((BitVec.ofInt 32 (IntKind.u32.wrap ((BitVec.ofInt 32 (half.getD (IntKind.u32.wrap ((BitVec.ofInt 32 (IntKind.u32.wrap ((BitVec.ofInt 32 c ^^^ BitVec.ofInt 32 (IntKind.u32.wrap ((t27.getD t29.toNat (0 : UInt8)).toNat : Int))).toNat : Int)) &&& BitVec.ofInt 32 (15 : Int)).toNat : Int)).toNat (0 : Int)) ^^^ BitVec.ofInt 32 ((IntKind.u32.wrap ((BitVec.ofInt 32 c ^^^ BitVec.ofInt 32 (IntKind.u32.wrap ((t27.getD t29.toNat (0 : UInt8)).toNat : Int))).toNat : Int)).fdiv (16 : Int))).toNat : Int)) &&& BitVec.ofInt 32 (15 : Int)).toNat : Int)) 16 then
              bif decide ((IntKind.u32.wrap ((BitVec.ofInt 32 (IntKind.u32.wrap ((BitVec.ofInt 32 (half.getD (IntKind.u32.wrap ((BitVec.ofInt 32 (IntKind.u32.wrap ((BitVec.ofInt 32 c ^^^ BitVec.ofInt 32 (IntKind.u32.wrap ((t27.getD t29.toNat (0 : UInt8)).toNat : Int))).toNat : Int)) &&& BitVec.ofInt 32 (15 : Int)).toNat : Int)).toNat (0 : Int)) ^^^ BitVec.ofInt 32 ((IntKind.u32.wrap ((BitVec.ofInt 32 c ^^^ BitVec.ofInt 32 (IntKind.u32.wrap ((t27.getD t29.toNat (0 : UInt8)).toNat : Int))).toNat : Int)).fdiv (16 : Int))).toNat : Int)) &&& BitVec.ofInt 32 (15 : Int)).toNat : Int)).toNat < half.length) then
                fA52.go N fuel half (IntKind.u32.wrap ((BitVec.ofInt 32 (half.getD (IntKind.u32.wrap ((BitVec.ofInt 32 (IntKind.u32.wrap ((BitVec.ofInt 32 (half.getD (IntKind.u32.wrap ((BitVec.ofInt 32 (IntKind.u32.wrap ((BitVec.ofInt 32 c ^^^ BitVec.ofInt 32 (IntKind.u32.wrap ((t27.getD t29.toNat (0 : UInt8)).toNat : Int))).toNat : Int)) &&& BitVec.ofInt 32 (15 : Int)).toNat : Int)).toNat (0 : Int)) ^^^ BitVec.ofInt 32 ((IntKind.u32.wrap ((BitVec.ofInt 32 c ^^^ BitVec.ofInt 32 (IntKind.u32.wrap ((t27.getD t29.toNat (0 : UInt8)).toNat : Int))).toNat : Int)).fdiv (16 : Int))).toNat : Int)) &&& BitVec.ofInt 32 (15 : Int)).toNat : Int)).toNat (0 : Int)) ^^^ BitVec.ofInt 32 ((IntKind.u32.wrap ((BitVec.ofInt 32 (half.getD (IntKind.u32.wrap ((BitVec.ofInt 32 (IntKind.u32.wrap ((BitVec.ofInt 32 c ^^^ BitVec.ofInt 32 (IntKind.u32.wrap ((t27.getD t29.toNat (0 : UInt8)).toNat : Int))).toNat : Int)) &&& BitVec.ofInt 32 (15 : Int)).toNat : Int)).toNat (0 : Int)) ^^^ BitVec.ofInt 32 ((IntKind.u32.wrap ((BitVec.ofInt 32 c ^^^ BitVec.ofInt 32 (IntKind.u32.wrap ((t27.getD t29.toNat (0 : UInt8)).toNat : Int))).toNat : Int)).fdiv (16 : Int))).toNat : Int)).fdiv (16 : Int))).toNat : Int)) t27 t28 (IntKind.i64.wrap (t29 + (1 : Int)))
              else none
            else none
          else none
        else none
      else none
    else some (c, ())
namespace fA52
def g (N n : Nat) : Sh.den ins → Option (altsDen alts) := fun (a, b, c, d, e, _) => fA52.go N n a b c d e
def P (N : Nat) : Ps := ⟨ts, ins, asg, alts, g N N⟩
def lam (N : Nat) : Pcs := pcs []
theorem pok (N : Nat) : (lam N).Ok Tryz.prog (C N) code := pcsOk_nil
theorem ok (N : Nat) : ((P N).pc (fD15.C N)).Ok Tryz.prog (fD15.C N) (.loop code) := okL (F := P N) (g N) (fD15.cok N) mix (pok N) (fun _ => rfl) rfl fun _ _ => by kernel_rfl
end fA52
def fD15.run (N : Nat) (b : (List UInt8)) : Option (Int × Unit) :=
  obind (fC17.go N N (List.replicate 16 (0 : Int)) (0 : Int)) fun (v, _) =>
    obind (fA52.go N N v (4294967295 : Int) b (b.length : Int) (0 : Int)) fun (c, _) =>
      some (IntKind.u32.wrap ((BitVec.ofInt 32 (4294967295 : Int) ^^^ BitVec.ofInt 32 c).toNat : Int), ())
namespace fD15
def fn (N : Nat) : Sh.den ins → Option (Sh.den outs) := fun (a, _) => fD15.run N a
def S (N : Nat) : Fs := ⟨ins, outs, fn N⟩
def lam (N : Nat) : Pcs := pcs [([true, true, false, true, false], (fC17.P N).pc (C N)), ([true, true, true, true, false, true, false], (fA52.P N).pc (C N))]
theorem pok (N : Nat) : (lam N).Ok Tryz.prog (C N) code := pcsOk_cons (c1 := .loop fC17.code) (by kernel_rfl) (fC17.ok N) (pcsOk_cons (c1 := .loop fA52.code) (by kernel_rfl) (fA52.ok N) (pcsOk_nil))
theorem ok (N : Nat) : (S N).con.Ok Tryz.prog 38 := okF (F := S N) [] Tryz.func38 (by kernel_rfl) (by rfl) mix (cok N) (pok N) fun _ => by kernel_rfl
end fD15
namespace fD65
def ins : Sh := (.cons (.val (.slice .byte)) .nil)
def C (N : Nat) : Ctx := ⟨U, 7, fun _ => true, gam [(36, (fD8.S N).con)], gamY []⟩
theorem cok (N : Nat) : (C N).Ok Tryz.prog := ⟨U_ok, GamOk.cons (fD8.ok N) (GamOk.nil), GamYOk.nil⟩
def code : Code := Tryz.f15.body.getD .skip
def outs : Sh := (.cons (.box 83 s44) .nil)
end fD65
def fD65.run (N : Nat) (b : (List UInt8)) : Option (T17 × Unit) :=
  obind (fD8.run N b) fun (l, _) =>
    some ((l, (0 : Int), ()), ())
namespace fD65
def fn (N : Nat) : Sh.den ins → Option (Sh.den outs) := fun (a, _) => fD65.run N a
def S (N : Nat) : Fs := ⟨ins, outs, fn N⟩
def lam (N : Nat) : Pcs := pcs []
theorem pok (N : Nat) : (lam N).Ok Tryz.prog (C N) code := pcsOk_nil
theorem ok (N : Nat) : (S N).con.Ok Tryz.prog 15 := okF (F := S N) [] Tryz.func15 (by kernel_rfl) (by rfl) mix (cok N) (pok N) fun _ => by kernel_rfl
end fD65
namespace fD61
def ins : Sh := (.cons (.val (.slice .byte)) .nil)
def C (N : Nat) : Ctx := ⟨U, 51, fun _ => true, gam [(15, (fD65.S N).con), (53, (fD4.S N).con), (38, (((fB17.S N).con).or (fD15.S N).con)), (54, (fD11.S N).con)], gamY []⟩
theorem cok (N : Nat) : (C N).Ok Tryz.prog := ⟨U_ok, GamOk.cons (fD65.ok N) (GamOk.cons (fD4.ok N) (GamOk.cons (Con.or_ok (fB17.ok N) (fD15.ok N)) (GamOk.cons (fD11.ok N) (GamOk.nil)))), GamYOk.nil⟩
def code : Code := Tryz.f26.body.getD .skip
def outs : Sh := (.cons (.own 5 .byte) s20)
end fD61
def fD61.run (N : Nat) (b : (List UInt8)) : Option T57 :=
  obind (fD65.run N b) fun ((b1, e, _), _) =>
    obind (fD4.run N b1 e) fun ((b2, e1, _), n_, _) =>
      obind (fD4.run N b2 e1) fun ((b3, e2, _), n1, _) =>
        bif !(decide (e2 = (0 : Int))) then
          some (([] : List UInt8), (0 : Int), (10 : Int), ())
        else
          bif okB (0 : Int) (4 : Int) b.length then
            obind (fD15.run N (b.take 4)) fun (n2, _) =>
              bif !(decide (n1 = n2)) then
                some (([] : List UInt8), (0 : Int), (14 : Int), ())
              else
                bif decide (n_ > (16777216 : Int)) then
                  some (([] : List UInt8), (0 : Int), (12 : Int), ())
                else
                  obind (fD11.run N b3 e2 (IntKind.i64.wrap n_)) fun ((b4, e3, _), l, _) =>
                    obind (fD4.run N b4 e3) fun ((b5, e4, _), n3, _) =>
                      bif !(decide (e4 = (0 : Int))) then
                        some (([] : List UInt8), (0 : Int), (10 : Int), ())
                      else
                        obind (fB17.run N l) fun (n4, _) =>
                          bif !(decide (n3 = n4)) then
                            some (([] : List UInt8), (0 : Int), (14 : Int), ())
                          else some (l, IntKind.i64.wrap ((IntKind.i64.wrap n_) + (12 : Int)), (0 : Int), ())
          else none
namespace fD61
def fn (N : Nat) : Sh.den ins → Option (Sh.den outs) := fun (a, _) => fD61.run N a
def S (N : Nat) : Fs := ⟨ins, outs, fn N⟩
def lam (N : Nat) : Pcs := pcs []
theorem pok (N : Nat) : (lam N).Ok Tryz.prog (C N) code := pcsOk_nil
theorem ok (N : Nat) : (S N).con.Ok Tryz.prog 26 := okF (F := S N) [] Tryz.func26 (by kernel_rfl) (by rfl) mix (cok N) (pok N) fun _ => by kernel_rfl
end fD61
namespace fC50
def ins : Sh := (.cons (.rbox 83 s44) .nil)
def C (N : Nat) : Ctx := ⟨U, 20, fun _ => true, gam [], gamY []⟩
theorem cok (N : Nat) : (C N).Ok Tryz.prog := ⟨U_ok, GamOk.nil, GamYOk.nil⟩
def code : Code := Tryz.f27.body.getD .skip
def outs : Sh := (.cons (.val (.int .i64)) .nil)
end fC50
def fC50.run (N : Nat) (b : (List UInt8)) (e : Int) : Option (Int × Unit) :=
  bif decide (e = (0 : Int)) then
    bif decide ((b.length : Int) > (0 : Int)) then
      some ((13 : Int), ())
    else some (e, ())
  else some (e, ())
namespace fC50
def fn (N : Nat) : Sh.den ins → Option (Sh.den outs) := fun ((a, b, _), _) => fC50.run N a b
def S (N : Nat) : Fs := ⟨ins, outs, fn N⟩
def lam (N : Nat) : Pcs := pcs []
theorem pok (N : Nat) : (lam N).Ok Tryz.prog (C N) code := pcsOk_nil
theorem ok (N : Nat) : (S N).con.Ok Tryz.prog 27 := okF (F := S N) [] Tryz.func27 (by kernel_rfl) (by rfl) mix (cok N) (pok N) fun _ => by kernel_rfl
end fC50
namespace fB68
def ins : Sh := (.cons (.val (.slice .byte)) .nil)
def C (N : Nat) : Ctx := ⟨U, 44, fun _ => true, gam [(26, (fD61.S N).con), (15, (fC62.S N).con), (13, (fC27.S N).con), (27, (fC50.S N).con)], gamY []⟩
theorem cok (N : Nat) : (C N).Ok Tryz.prog := ⟨U_ok, GamOk.cons (fD61.ok N) (GamOk.cons (fC62.ok N) (GamOk.cons (fC27.ok N) (GamOk.cons (fC50.ok N) (GamOk.nil)))), GamYOk.nil⟩
def code : Code := Tryz.f10.body.getD .skip
def outs : Sh := s99
end fB68
def fB68.run (N : Nat) (b : (List UInt8)) : Option T58 :=
  obind (fD61.run N b) fun (l, n_, n1, _) =>
    bif !(decide (n1 = (0 : Int))) then
      some (((0 : Int), (0 : Int), (0 : Int), (0 : Int), (0 : Int), (0 : Int), (0 : Int), (0 : Int), (0 : Int), (0 : Int), (0 : Int), false, false, false, ((0 : Int), (0 : Int)), (([] : List T7), ([] : List T8)), ([] : List T6)), (170 : Int), ())
    else
      bif !(decide (n_ = (b.length : Int))) then
        some (((0 : Int), (0 : Int), (0 : Int), (0 : Int), (0 : Int), (0 : Int), (0 : Int), (0 : Int), (0 : Int), (0 : Int), (0 : Int), false, false, false, ((0 : Int), (0 : Int)), (([] : List T7), ([] : List T8)), ([] : List T6)), (170 : Int), ())
      else
        obind (fC62.run N l) fun ((b1, e, _), _) =>
          obind (fC27.run N b1 e false (0 : Int) (0 : Int) (0 : Int) (0 : Int) (0 : Int) (0 : Int) (0 : Int) (0 : Int) (0 : Int) (0 : Int) (0 : Int) false false false (0 : Int) (0 : Int) ([] : List T7) ([] : List T8) ([] : List T6)) fun ((b2, e1, _), (_, _, jT, _), (jA, jB_, jC_, jD, jE, jF, jG, jH, jI, jJ, jK, jL, jM, jN, jO_, jO1, jP, jP1, jQ, _), _) =>
            bif jT then
              some (((0 : Int), (0 : Int), (0 : Int), (0 : Int), (0 : Int), (0 : Int), (0 : Int), (0 : Int), (0 : Int), (0 : Int), (0 : Int), false, false, false, ((0 : Int), (0 : Int)), (([] : List T7), ([] : List T8)), ([] : List T6)), (170 : Int), ())
            else
              obind (fC50.run N b2 e1) fun (n2, _) =>
                bif !(decide (n2 = (0 : Int))) then
                  some (((0 : Int), (0 : Int), (0 : Int), (0 : Int), (0 : Int), (0 : Int), (0 : Int), (0 : Int), (0 : Int), (0 : Int), (0 : Int), false, false, false, ((0 : Int), (0 : Int)), (([] : List T7), ([] : List T8)), ([] : List T6)), (170 : Int), ())
                else some ((jA, jB_, jC_, jD, jE, jF, jG, jH, jI, jJ, jK, jL, jM, jN, (jO_, jO1), (jP, jP1), jQ), (0 : Int), ())
namespace fB68
def fn (N : Nat) : Sh.den ins → Option (Sh.den outs) := fun (a, _) => fB68.run N a
def S (N : Nat) : Fs := ⟨ins, outs, fn N⟩
def lam (N : Nat) : Pcs := pcs []
theorem pok (N : Nat) : (lam N).Ok Tryz.prog (C N) code := pcsOk_nil
theorem ok (N : Nat) : (S N).con.Ok Tryz.prog 10 := okF (F := S N) [] Tryz.func10 (by kernel_rfl) (by rfl) mix (cok N) (pok N) fun _ => by kernel_rfl
end fB68
namespace fC65
def ins : Sh := s82
def C (N : Nat) : Ctx := ⟨U, 12, fun _ => true, gam [(5, (fA34.S N).con)], gamY []⟩
theorem cok (N : Nat) : (C N).Ok Tryz.prog := ⟨U_ok, GamOk.cons (fA34.ok N) (GamOk.nil), GamYOk.nil⟩
def code : Code := Tryz.f8.body.getD .skip
def outs : Sh := (.cons (.val .bool) .nil)
end fC65
def fC65.run (N : Nat) (m : T53) : Option (Bool × Unit) :=
  obind (fA34.run N m) fun (l, n_, _) =>
    some (decide (n_ = (0 : Int)), ())
namespace fC65
def fn (N : Nat) : Sh.den ins → Option (Sh.den outs) := fun (a, _) => fC65.run N a
def S (N : Nat) : Fs := ⟨ins, outs, fn N⟩
def lam (N : Nat) : Pcs := pcs []
theorem pok (N : Nat) : (lam N).Ok Tryz.prog (C N) code := pcsOk_nil
theorem ok (N : Nat) : (S N).con.Ok Tryz.prog 8 := okF (F := S N) [] Tryz.func8 (by kernel_rfl) (by rfl) mix (cok N) (pok N) fun _ => by kernel_rfl
end fC65
namespace law_alive
def ins : Sh := .nil
def C (N : Nat) : Ctx := ⟨U, 64, fun _ => true, gam [(5, (fA34.S N).con), (10, (fB68.S N).con), (8, (fC65.S N).con)], gamY []⟩
theorem cok (N : Nat) : (C N).Ok Tryz.prog := ⟨U_ok, GamOk.cons (fA34.ok N) (GamOk.cons (fB68.ok N) (GamOk.cons (fC65.ok N) (GamOk.nil))), GamYOk.nil⟩
def code : Code := Tryz.f7.body.getD .skip
def outs : Sh := (.cons (.val .bool) .nil)
end law_alive
def law_alive.run (N : Nat)  : Option (Bool × Unit) :=
  obind (fA34.run N ((11 : Int), (2 : Int), (1 : Int), (0 : Int), (0 : Int), (0 : Int), (0 : Int), (5 : Int), (0 : Int), (0 : Int), (0 : Int), false, false, false, ((0 : Int), (0 : Int)), (([] : List T7), ([] : List T8)), ([] : List T6))) fun (l, n_, _) =>
    obind (fB68.run N l) fun (v, n1, _) =>
      bif decide (n_ = (0 : Int)) then
        bif decide ((l.length : Int) = (23 : Int)) then
          bif inB (8 : Int) l.length then
            bif decide (((l.getD 8 (0 : UInt8)).toNat : Int) = (11 : Int)) then
              bif inB (9 : Int) l.length then
                bif decide (((l.getD 9 (0 : UInt8)).toNat : Int) = (2 : Int)) then
                  bif inB (10 : Int) l.length then
                    bif decide (((l.getD 10 (0 : UInt8)).toNat : Int) = (1 : Int)) then
                      bif inB (18 : Int) l.length then
                        bif decide (((l.getD 18 (0 : UInt8)).toNat : Int) = (5 : Int)) then
                          bif decide (n1 = (0 : Int)) then
                            bif decide (v.2.2.2.2.2.2.2.1 = (5 : Int)) then
                              bif decide (v.2.1 = (2 : Int)) then
                                obind (fC65.run N v) fun (b, _) =>
                                  some (b, ())
                              else some (false, ())
                            else some (false, ())
                          else some (false, ())
                        else some (false, ())
                      else none
                    else some (false, ())
                  else none
                else some (false, ())
              else none
            else some (false, ())
          else none
        else some (false, ())
      else some (false, ())
namespace law_alive
def fn (N : Nat) : Sh.den ins → Option (Sh.den outs) := fun _ => law_alive.run N
def S (N : Nat) : Fs := ⟨ins, outs, fn N⟩
def lam (N : Nat) : Pcs := pcs []
theorem pok (N : Nat) : (lam N).Ok Tryz.prog (C N) code := pcsOk_nil
theorem ok (N : Nat) : (S N).con.Ok Tryz.prog 7 := okF (F := S N) [] Tryz.func7 (by kernel_rfl) (by rfl) mix (cok N) (pok N) fun _ => by kernel_rfl
end law_alive
namespace law_WireWrites
def ins : Sh := s82
def C (N : Nat) : Ctx := ⟨U, 48, fun _ => true, gam [(5, (fA34.S N).con), (6, (fB44.S N).con), (7, (law_alive.S N).con), (8, (fC65.S N).con), (9, (fB67.S N).con)], gamY []⟩
theorem cok (N : Nat) : (C N).Ok Tryz.prog := ⟨U_ok, GamOk.cons (fA34.ok N) (GamOk.cons (fB44.ok N) (GamOk.cons (law_alive.ok N) (GamOk.cons (fC65.ok N) (GamOk.cons (fB67.ok N) (GamOk.nil))))), GamYOk.nil⟩
def code : Code := Tryz.f3.body.getD .skip
def outs : Sh := (.cons (.val .bool) .nil)
end law_WireWrites
def law_WireWrites.run (N : Nat) (m : T53) : Option (Bool × Unit) :=
  bif room m.2.2.2.2.2.2.2.2.2.2.2.2.2.2.2.2.length 48 then
    obind (fA34.run N m) fun (l, n_, _) =>
      obind (fB44.run N m) fun (l1, n1, _) =>
        obind (law_alive.run N) fun (b, _) =>
          bif b then
            bif decide (l = l1) then
              bif decide (n_ = n1) then
                obind (fC65.run N m) fun (b1, _) =>
                  bif b1 == (decide (n1 = (0 : Int))) then
                    obind (fB67.run N m m) fun (b2, _) =>
                      some (b2, ())
                  else some (false, ())
              else some (false, ())
            else some (false, ())
          else some (false, ())
  else none
namespace law_WireWrites
def fn (N : Nat) : Sh.den ins → Option (Sh.den outs) := fun (a, _) => law_WireWrites.run N a
def S (N : Nat) : Fs := ⟨ins, outs, fn N⟩
def lam (N : Nat) : Pcs := pcs []
theorem pok (N : Nat) : (lam N).Ok Tryz.prog (C N) code := pcsOk_nil
theorem ok (N : Nat) : (S N).con.Ok Tryz.prog 3 := okF (F := S N) [] Tryz.func3 (by kernel_rfl) (by rfl) mix (cok N) (pok N) fun _ => by kernel_rfl
end law_WireWrites
end
end Go.Hay.YtpgamibdlinhjaaGreat
