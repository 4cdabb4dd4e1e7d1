/- Functions of the program as functions of Lean, and that they are what the program computes. Conditions: none. -/
import Derived.Test.YtpgamibdlinhjaaGreatFb
set_option linter.unusedVariables false
namespace Go.Hay.YtpgamibdlinhjaaGreat
open Go Go.Hay Go.Proofs
noncomputable section
set_option maxRecDepth 100000
namespace fB21
def fn (N : Nat) : Sh.den ins → Option (Sh.den outs) := fun ((a, b, _), c, _) => fB21.run N a b c
def S (N : Nat) : Fs := ⟨ins, outs, fn N⟩
def lam (N : Nat) : Pcs := pcs [([true, true, false, true, false], (fB22.P N).pc (C N)), ([true, true, true, true, true, false], (fA60.P N).pc (C N))]
theorem pok (N : Nat) : (lam N).Ok Tryz.prog (C N) code := pcsOk_cons (c1 := .loop fB22.code) (by kernel_rfl) (fB22.ok N) (pcsOk_cons (c1 := .loop fA60.code) (by kernel_rfl) (fA60.ok N) (pcsOk_nil))
theorem ok (N : Nat) : (S N).con.Ok Tryz.prog 47 := okF (F := S N) [] Tryz.func47 (by kernel_rfl) (by rfl) mix (cok N) (pok N) fun _ => by kernel_rfl
end fB21
namespace fA62
def ins : Sh := s91
def C (N : Nat) : Ctx := ⟨U, 9, fun _ => true, gam [(20, (fB3.S N).con)], gamY []⟩
theorem cok (N : Nat) : (C N).Ok Tryz.prog := ⟨U_ok, GamOk.cons (fB3.ok N) (GamOk.nil), GamYOk.nil⟩
def code : Code := Tryz.f48.body.getD .skip
def outs : Sh := (.cons (.upd 0 57 s90) .nil)
end fA62
def fA62.run (N : Nat) (b : (List UInt8)) (bad : Bool) (is_ : Bool) : Option (T54 × Unit) :=
  bif is_ then
    obind (fB3.run N b bad (1 : Int) (1 : Int)) fun ((b1, bad1, _), _) =>
      some ((b1, bad1, ()), ())
  else
    obind (fB3.run N b bad (0 : Int) (1 : Int)) fun ((b2, bad2, _), _) =>
      some ((b2, bad2, ()), ())
namespace fA62
def fn (N : Nat) : Sh.den ins → Option (Sh.den outs) := fun ((a, b, _), c, _) => fA62.run N a b c
def S (N : Nat) : Fs := ⟨ins, outs, fn N⟩
def lam (N : Nat) : Pcs := pcs []
theorem pok (N : Nat) : (lam N).Ok Tryz.prog (C N) code := pcsOk_nil
theorem ok (N : Nat) : (S N).con.Ok Tryz.prog 48 := okF (F := S N) [] Tryz.func48 (by kernel_rfl) (by rfl) mix (cok N) (pok N) fun _ => by kernel_rfl
end fA62
namespace fD18
def ins : Sh := (.cons (.box 57 s90) s6)
def C (N : Nat) : Ctx := ⟨U, 36, fun _ => true, gam [(83, (fB63.S N).con), (85, (fC66.S N).con), (84, (fA74.S N).con), (20, (fB3.S N).con)], gamY []⟩
theorem cok (N : Nat) : (C N).Ok Tryz.prog := ⟨U_ok, GamOk.cons (fB63.ok N) (GamOk.cons (fC66.ok N) (GamOk.cons (fA74.ok N) (GamOk.cons (fB3.ok N) (GamOk.nil)))), GamYOk.nil⟩
def code : Code := Tryz.f50.body.getD .skip
def outs : Sh := (.cons (.upd 0 57 s90) .nil)
end fD18
namespace fA29
def ins : Sh := (.cons (.box 57 s90) s89)
def ts : List Tmp := [0, 1, 4]
def asg : List Tmp := [4, 9, 10, 11, 12, 13, 14, 15, 16, 17, 18, 19, 20, 21, 22, 23, 24, 25, 26, 27, 28, 29, 30, 31, 32, 33, 34, 35]
def C (N : Nat) : Ctx := { fD18.C N with may := fun t => asg.any (Nat.beq t) }
def code : Code := loopBody (sub fD18.code [true, true, false])
theorem cok (N : Nat) : (C N).Ok Tryz.prog := okC (fD18.cok N) _
def alts : List Alt := [⟨(.exit 0), [], (.cons (.upd 0 57 s90) .nil)⟩]
end fA29
def fA29.go (N : Nat) : Nat → (List UInt8) → Bool → (List T6) → Int → Option ((T54 × Unit))
  | 0, _, _, _, _ => none
  | fuel + 1, b, bad, l, i =>
    bif decide (i < (l.length : Int)) then
      bif inB i l.length then
        obind (fC66.run N b bad (l.getD i.toNat (((0 : Int), (0 : Int)), ([] : List T4), (0 : Int))).1) fun ((b1, bad1, _), _) =>
          bif inB i l.length then
            obind (fA74.run N b1 bad1 (l.getD i.toNat (((0 : Int), (0 : Int)), ([] : List T4), (0 : Int))).2.1) fun ((b2, bad2, _), _) =>
              bif inB i l.length then
                obind (fB3.run N b2 bad2 (l.getD i.toNat (((0 : Int), (0 : Int)), ([] : List T4), (0 : Int))).2.2 (8 : Int)) fun ((b3, bad3, _), _) =>
                  fA29.go N fuel b3 bad3 l (IntKind.i64.wrap (i + (1 : Int)))
              else none
          else none
      else none
    else some ((b, bad, ()), ())
namespace fA29
def g (N n : Nat) : Sh.den ins → Option (altsDen alts) := fun ((a, b, _), c, d, _) => fA29.go N n a b c d
def P (N : Nat) : Ps := ⟨ts, ins, asg, alts, g N N⟩
def lam (N : Nat) : Pcs := pcs []
theorem pok (N : Nat) : (lam N).Ok Tryz.prog (C N) code := pcsOk_nil
theorem ok (N : Nat) : ((P N).pc (fD18.C N)).Ok Tryz.prog (fD18.C N) (.loop code) := okL (F := P N) (g N) (fD18.cok N) mix (pok N) (fun _ => rfl) rfl fun _ _ => by kernel_rfl
end fA29
def fD18.run (N : Nat) (b : (List UInt8)) (bad : Bool) (l : (List T6)) : Option (T54 × Unit) :=
  obind (fB63.run N b bad (l.length : Int)) fun ((b1, bad1, _), _) =>
    obind (fA29.go N N b1 bad1 l (0 : Int)) fun ((b2, bad2, _), _) =>
      some ((b2, bad2, ()), ())
namespace fD18
def fn (N : Nat) : Sh.den ins → Option (Sh.den outs) := fun ((a, b, _), c, _) => fD18.run N a b c
def S (N : Nat) : Fs := ⟨ins, outs, fn N⟩
def lam (N : Nat) : Pcs := pcs [([true, true, false], (fA29.P N).pc (C N))]
theorem pok (N : Nat) : (lam N).Ok Tryz.prog (C N) code := pcsOk_cons (c1 := .loop fA29.code) (by kernel_rfl) (fA29.ok N) (pcsOk_nil)
theorem ok (N : Nat) : (S N).con.Ok Tryz.prog 50 := okF (F := S N) [] Tryz.func50 (by kernel_rfl) (by rfl) mix (cok N) (pok N) fun _ => by kernel_rfl
end fD18
namespace fB71
def ins : Sh := (.cons (.box 57 s90) s98)
def C (N : Nat) : Ctx := ⟨U, 91, fun _ => true, gam [(20, (fB3.S N).con), (47, (fB21.S N).con), (48, (fA62.S N).con), (49, (fA12.S N).con), (50, (fD18.S N).con), (21, (fA63.S N).con)], gamY []⟩
theorem cok (N : Nat) : (C N).Ok Tryz.prog := ⟨U_ok, GamOk.cons (fB3.ok N) (GamOk.cons (fB21.ok N) (GamOk.cons (fA62.ok N) (GamOk.cons (fA12.ok N) (GamOk.cons (fD18.ok N) (GamOk.cons (fA63.ok N) (GamOk.nil)))))), GamYOk.nil⟩
def code : Code := Tryz.f22.body.getD .skip
def outs : Sh := (.cons (.upd 0 57 s90) .nil)
end fB71
def fB71.run (N : Nat) (b : (List UInt8)) (bad : Bool) (m : T53) (c : UInt8) : Option (T54 × Unit) :=
  bif decide ((c.toNat : Int) = (120 : Int)) then
    obind (fB3.run N b bad m.2.2.2.1 (8 : Int)) fun ((b1, bad1, _), _) =>
      some ((b1, bad1, ()), ())
  else
    bif decide ((c.toNat : Int) = (98 : Int)) then
      obind (fB3.run N b bad m.2.2.2.2.1 (8 : Int)) fun ((b2, bad2, _), _) =>
        some ((b2, bad2, ()), ())
    else
      bif decide ((c.toNat : Int) = (112 : Int)) then
        obind (fB21.run N b bad m.2.2.2.2.2.2.2.2.2.2.2.2.2.2.2.1) fun ((b3, bad3, _), _) =>
          some ((b3, bad3, ()), ())
      else
        bif decide ((c.toNat : Int) = (121 : Int)) then
          obind (fA62.run N b bad m.2.2.2.2.2.2.2.2.2.2.2.1) fun ((b4, bad4, _), _) =>
            some ((b4, bad4, ()), ())
        else
          bif decide ((c.toNat : Int) = (101 : Int)) then
            obind (fB3.run N b bad m.2.2.2.2.2.1 (8 : Int)) fun ((b5, bad5, _), _) =>
              some ((b5, bad5, ()), ())
          else
            bif decide ((c.toNat : Int) = (109 : Int)) then
              obind (fB3.run N b bad m.2.2.2.2.2.2.2.1 (8 : Int)) fun ((b6, bad6, _), _) =>
                some ((b6, bad6, ()), ())
            else
              bif decide ((c.toNat : Int) = (113 : Int)) then
                obind (fB3.run N b bad m.2.2.2.2.2.2.2.2.1 (8 : Int)) fun ((b7, bad7, _), _) =>
                  some ((b7, bad7, ()), ())
              else
                bif decide ((c.toNat : Int) = (97 : Int)) then
                  obind (fA12.run N b bad m.2.2.2.2.2.2.2.2.2.2.2.2.2.2.1) fun ((b8, bad8, _), _) =>
                    some ((b8, bad8, ()), ())
                else
                  bif decide ((c.toNat : Int) = (110 : Int)) then
                    obind (fA62.run N b bad m.2.2.2.2.2.2.2.2.2.2.2.2.1) fun ((b9, bad9, _), _) =>
                      some ((b9, bad9, ()), ())
                  else
                    bif decide ((c.toNat : Int) = (118 : Int)) then
                      obind (fD18.run N b bad m.2.2.2.2.2.2.2.2.2.2.2.2.2.2.2.2) fun ((b10, bad10, _), _) =>
                        some ((b10, bad10, ()), ())
                    else
                      bif decide ((c.toNat : Int) = (119 : Int)) then
                        obind (fA62.run N b bad m.2.2.2.2.2.2.2.2.2.2.2.2.2.1) fun ((b11, bad11, _), _) =>
                          some ((b11, bad11, ()), ())
                      else
                        bif decide ((c.toNat : Int) = (100 : Int)) then
                          obind (fA63.run N b bad m.2.2.2.2.2.2.2.2.2.2.1) fun ((b12, bad12, _), _) =>
                            some ((b12, bad12, ()), ())
                        else
                          bif decide ((c.toNat : Int) = (116 : Int)) then
                            obind (fB3.run N b bad m.2.2.2.2.2.2.2.2.2.1 (8 : Int)) fun ((b13, bad13, _), _) =>
                              some ((b13, bad13, ()), ())
                          else
                            bif decide ((c.toNat : Int) = (115 : Int)) then
                              obind (fB3.run N b bad m.2.2.2.2.2.2.1 (8 : Int)) fun ((b14, bad14, _), _) =>
                                some ((b14, bad14, ()), ())
                            else some ((b, bad, ()), ())
namespace fB71
def fn (N : Nat) : Sh.den ins → Option (Sh.den outs) := fun ((a, b, _), c, d, _) => fB71.run N a b c d
def S (N : Nat) : Fs := ⟨ins, outs, fn N⟩
def lam (N : Nat) : Pcs := pcs []
theorem pok (N : Nat) : (lam N).Ok Tryz.prog (C N) code := pcsOk_nil
theorem ok (N : Nat) : (S N).con.Ok Tryz.prog 22 := okF (F := S N) [] Tryz.func22 (by kernel_rfl) (by rfl) mix (cok N) (pok N) fun _ => by kernel_rfl
end fB71
namespace fA73
def ins : Sh := (.cons (.rown 5 .byte) .nil)
def C (N : Nat) : Ctx := ⟨U, 33, fun _ => true, gam [], gamY []⟩
theorem cok (N : Nat) : (C N).Ok Tryz.prog := ⟨U_ok, GamOk.nil, GamYOk.nil⟩
def code : Code := Tryz.f51.body.getD .skip
def outs : Sh := (.cons (.val (.int .u32)) .nil)
end fA73
namespace fB43
def ins : Sh := (.cons (.rown 5 .byte) s79)
def ts : List Tmp := [0, 3, 4]
def asg : List Tmp := [3, 4, 5, 6, 7, 8, 9, 10, 11, 12, 13, 14, 15, 16, 17, 18, 19, 20, 21, 22, 23, 24, 25, 26, 27, 28, 29, 30]
def C (N : Nat) : Ctx := { fA73.C N with may := fun t => asg.any (Nat.beq t) }
def code : Code := loopBody (sub fA73.code [true, true, false, true, false])
theorem cok (N : Nat) : (C N).Ok Tryz.prog := okC (fA73.cok N) _
def alts : List Alt := [⟨(.exit 0), [3], (.cons (.val (.int .u32)) .nil)⟩]
end fB43
namespace fC61
def ins : Sh := s79
def ts : List Tmp := [3, 5]
def asg : List Tmp := [3, 5, 19, 20, 21, 22, 23, 24, 25, 26, 27, 28, 29, 30]
def C (N : Nat) : Ctx := { fB43.C N with may := fun t => asg.any (Nat.beq t) }
def code : Code := loopBody (sub fB43.code [true, false, false, true, true, false])
theorem cok (N : Nat) : (C N).Ok Tryz.prog := okC (fB43.cok N) _
def alts : List Alt := [⟨(.exit 2), [3], (.cons (.val (.int .u32)) .nil)⟩]
end fC61
def fC61.go (N : Nat) : Nat → Int → Int → Option ((Int × Unit))
  | 0, _, _ => none
  | fuel + 1, r, k =>
    bif decide (k < (8 : Int)) then
      bif decide ((r.tmod (2 : Int)) = (1 : Int)) then
        fC61.go N fuel (IntKind.u32.wrap ((BitVec.ofInt 32 (IntKind.u32.wrap (r.tdiv (2 : Int))) ^^^ BitVec.ofInt 32 (3988292384 : Int)).toNat : Int)) (IntKind.i64.wrap (k + (1 : Int)))
      else fC61.go N fuel (IntKind.u32.wrap (r.tdiv (2 : Int))) (IntKind.i64.wrap (k + (1 : Int)))
    else some (r, ())
namespace fC61
def g (N n : Nat) : Sh.den ins → Option (altsDen alts) := fun (a, b, _) => fC61.go N n a b
def P (N : Nat) : Ps := ⟨ts, ins, asg, alts, g N N⟩
def lam (N : Nat) : Pcs := pcs []
theorem pok (N : Nat) : (lam N).Ok Tryz.prog (C N) code := pcsOk_nil
theorem ok (N : Nat) : ((P N).pc (fB43.C N)).Ok Tryz.prog (fB43.C N) (.loop code) := okL (F := P N) (g N) (fB43.cok N) mix (pok N) (fun _ => rfl) rfl fun _ _ => by kernel_rfl
end fC61
def fB43.go (N : Nat) : Nat → (List UInt8) → Int → Int → Option ((Int × Unit))
  | 0, _, _, _ => none
  | fuel + 1, b, r, i =>
    bif decide (i < (b.length : Int)) then
      bif inB i b.length then
        bif decide (i.toNat < b.length) then
          obind (fC61.go N N (IntKind.u32.wrap ((BitVec.ofInt 32 r ^^^ BitVec.ofInt 32 (IntKind.u32.wrap ((b.getD i.toNat (0 : UInt8)).toNat : Int))).toNat : Int)) (0 : Int)) fun (r1, _) =>
            fB43.go N fuel b r1 (IntKind.i64.wrap (i + (1 : Int)))
        else none
      else none
    else some (r, ())
namespace fB43
def g (N n : Nat) : Sh.den ins → Option (altsDen alts) := fun (a, b, c, _) => fB43.go N n a b c
def P (N : Nat) : Ps := ⟨ts, ins, asg, alts, g N N⟩
def lam (N : Nat) : Pcs := pcs [([true, false, false, true, true, false], (fC61.P N).pc (C N))]
theorem pok (N : Nat) : (lam N).Ok Tryz.prog (C N) code := pcsOk_cons (c1 := .loop fC61.code) (by kernel_rfl) (fC61.ok N) (pcsOk_nil)
theorem ok (N : Nat) : ((P N).pc (fA73.C N)).Ok Tryz.prog (fA73.C N) (.loop code) := okL (F := P N) (g N) (fA73.cok N) mix (pok N) (fun _ => rfl) rfl fun _ _ => by kernel_rfl
end fB43
def fA73.run (N : Nat) (b : (List UInt8)) : Option (Int × Unit) :=
  obind (fB43.go N N b (4294967295 : Int) (0 : Int)) fun (r, _) =>
    some (IntKind.u32.wrap ((BitVec.ofInt 32 r ^^^ BitVec.ofInt 32 (4294967295 : Int)).toNat : Int), ())
namespace fA73
def fn (N : Nat) : Sh.den ins → Option (Sh.den outs) := fun (a, _) => fA73.run N a
def S (N : Nat) : Fs := ⟨ins, outs, fn N⟩
def lam (N : Nat) : Pcs := pcs [([true, true, false, true, false], (fB43.P N).pc (C N))]
theorem pok (N : Nat) : (lam N).Ok Tryz.prog (C N) code := pcsOk_cons (c1 := .loop fB43.code) (by kernel_rfl) (fB43.ok N) (pcsOk_nil)
theorem ok (N : Nat) : (S N).con.Ok Tryz.prog 51 := okF (F := S N) [] Tryz.func51 (by kernel_rfl) (by rfl) mix (cok N) (pok N) fun _ => by kernel_rfl
end fA73
namespace fD79
def ins : Sh := (.cons (.rown 5 .byte) .nil)
def C (N : Nat) : Ctx := ⟨U, 28, fun _ => true, gam [(45, (fC14.S N).con), (51, (fA73.S N).con)], gamY []⟩
theorem cok (N : Nat) : (C N).Ok Tryz.prog := ⟨U_ok, GamOk.cons (fC14.ok N) (GamOk.cons (fA73.ok N) (GamOk.nil)), GamYOk.nil⟩
def code : Code := Tryz.f23.body.getD .skip
def outs : Sh := s22
end fD79
def fD79.run (N : Nat) (b : (List UInt8)) : Option T17 :=
  bif decide ((b.length : Int) > (16777216 : Int)) then
    some (([] : List UInt8), (12 : Int), ())
  else
    obind (fC14.run N (IntKind.u64.wrap (b.length : Int)) (4 : Int)) fun (l, _) =>
      obind (fA73.run N l) fun (n_, _) =>
        obind (fC14.run N (IntKind.u64.wrap n_) (4 : Int)) fun (l1, _) =>
          bif room (l.length + l1.length) 1 then
            bif room ((l ++ l1).length + b.length) 1 then
              obind (fA73.run N b) fun (n1, _) =>
                obind (fC14.run N (IntKind.u64.wrap n1) (4 : Int)) fun (l2, _) =>
                  bif room (((l ++ l1) ++ b).length + l2.length) 1 then
                    some (((l ++ l1) ++ b) ++ l2, (0 : Int), ())
                  else none
            else none
          else none
namespace fD79
def fn (N : Nat) : Sh.den ins → Option (Sh.den outs) := fun (a, _) => fD79.run N a
def S (N : Nat) : Fs := ⟨ins, outs, fn N⟩
def lam (N : Nat) : Pcs := pcs []
theorem pok (N : Nat) : (lam N).Ok Tryz.prog (C N) code := pcsOk_nil
theorem ok (N : Nat) : (S N).con.Ok Tryz.prog 23 := okF (F := S N) [] Tryz.func23 (by kernel_rfl) (by rfl) mix (cok N) (pok N) fun _ => by kernel_rfl
end fD79
namespace fC46
def ins : Sh := s82
def C (N : Nat) : Ctx := ⟨U, 65, fun _ => true, gam [(18, (fC38.S N).con), (19, (fC57.S N).con), (9, (fC74.S N).con), (20, (fB3.S N).con), (21, (fA63.S N).con), (22, (fB71.S N).con), (23, (fD79.S N).con)], gamY []⟩
theorem cok (N : Nat) : (C N).Ok Tryz.prog := ⟨U_ok, GamOk.cons (fC38.ok N) (GamOk.cons (fC57.ok N) (GamOk.cons (fC74.ok N) (GamOk.cons (fB3.ok N) (GamOk.cons (fA63.ok N) (GamOk.cons (fB71.ok N) (GamOk.cons (fD79.ok N) (GamOk.nil))))))), GamYOk.nil⟩
def code : Code := Tryz.f6.body.getD .skip
def outs : Sh := s22
end fC46
namespace fD55
def ins : Sh := (.cons (.rbox 31 s7) (.cons (.val .str) s92))
def ts : List Tmp := [1, 4, 5, 6]
def asg : List Tmp := [6, 36, 37, 38, 39, 40, 41, 42, 43, 44, 45, 46, 47]
def C (N : Nat) : Ctx := { fC46.C N with may := fun t => asg.any (Nat.beq t) }
def code : Code := loopBody (sub fC46.code [true, true, true, true, true, true, true, false, true, false])
theorem cok (N : Nat) : (C N).Ok Tryz.prog := okC (fC46.cok N) _
def alts : List Alt := [⟨(.exit 0), [], (.cons (.upd 1 57 s90) .nil)⟩]
end fD55
def fD55.go (N : Nat) : Nat → Int → Int → Int → Int → Int → Int → Int → Int → Int → Int → Int → Bool → Bool → Bool → Int → Int → (List T7) → (List T8) → (List T6) → (List UInt8) → (List UInt8) → Bool → Int → Option ((T54 × Unit))
  | 0, _, _, _, _, _, _, _, _, _, _, _, _, _, _, _, _, _, _, _, _, _, _, _ => none
  | fuel + 1, jA, jB_, jC_, jD, jE, jF, jG, jH, jI, jJ, jK, jL, jM, jN, jO_, jO1, jP, jP1, jQ, f, b, bad, i =>
    bif decide (i < (f.length : Int)) then
      bif inB i f.length then
        obind (fB71.run N b bad (jA, jB_, jC_, jD, jE, jF, jG, jH, jI, jJ, jK, jL, jM, jN, (jO_, jO1), (jP, jP1), jQ) (Hay.u8 ((f.getD i.toNat (0 : UInt8)).toNat : Int))) fun ((b1, bad1, _), _) =>
          fD55.go N fuel jA jB_ jC_ jD jE jF jG jH jI jJ jK jL jM jN jO_ jO1 jP jP1 jQ f b1 bad1 (IntKind.i64.wrap (i + (1 : Int)))
      else none
    else some ((b, bad, ()), ())
namespace fD55
def g (N n : Nat) : Sh.den ins → Option (altsDen alts) := fun ((a, b, c, d, e, f, g, h, i, j, k, l, m, o, p, q, r, s, t, _), u, (v, w, _), x, _) => fD55.go N n a b c d e f g h i j k l m o p q r s t u v w x
def P (N : Nat) : Ps := ⟨ts, ins, asg, alts, g N N⟩
def lam (N : Nat) : Pcs := pcs []
theorem pok (N : Nat) : (lam N).Ok Tryz.prog (C N) code := pcsOk_nil
theorem ok (N : Nat) : ((P N).pc (fC46.C N)).Ok Tryz.prog (fC46.C N) (.loop code) := okL (F := P N) (g N) (fC46.cok N) mix (pok N) (fun _ => rfl) rfl fun _ _ => by kernel_rfl
end fD55
def fC46.run (N : Nat) (m : T53) : Option T17 :=
  obind (fC38.run N m.1) fun (s, _) =>
    bif decide (s = ([] : List UInt8)) then
      some (([] : List UInt8), (170 : Int), ())
    else
      obind (fC57.run N m) fun (v, _) =>
        obind (fC74.run N m v) fun (b, _) =>
          bif !b then
            some (([] : List UInt8), (170 : Int), ())
          else
            obind (fB3.run N ([] : List UInt8) false (IntKind.u64.wrap m.1) (1 : Int)) fun ((b1, bad, _), _) =>
              obind (fA63.run N b1 bad m.2.1) fun ((b2, bad1, _), _) =>
                obind (fA63.run N b2 bad1 m.2.2.1) fun ((b3, bad2, _), _) =>
                  obind (fD55.go N N m.1 m.2.1 m.2.2.1 m.2.2.2.1 m.2.2.2.2.1 m.2.2.2.2.2.1 m.2.2.2.2.2.2.1 m.2.2.2.2.2.2.2.1 m.2.2.2.2.2.2.2.2.1 m.2.2.2.2.2.2.2.2.2.1 m.2.2.2.2.2.2.2.2.2.2.1 m.2.2.2.2.2.2.2.2.2.2.2.1 m.2.2.2.2.2.2.2.2.2.2.2.2.1 m.2.2.2.2.2.2.2.2.2.2.2.2.2.1 m.2.2.2.2.2.2.2.2.2.2.2.2.2.2.1.1 m.2.2.2.2.2.2.2.2.2.2.2.2.2.2.1.2 m.2.2.2.2.2.2.2.2.2.2.2.2.2.2.2.1.1 m.2.2.2.2.2.2.2.2.2.2.2.2.2.2.2.1.2 m.2.2.2.2.2.2.2.2.2.2.2.2.2.2.2.2 s b3 bad2 (0 : Int)) fun ((b4, bad3, _), _) =>
                    obind (fD79.run N b4) fun (l, n_, _) =>
                      bif bad3 then
                        some (([] : List UInt8), (170 : Int), ())
                      else
                        bif !(decide (n_ = (0 : Int))) then
                          some (([] : List UInt8), (170 : Int), ())
                        else some (l, (0 : Int), ())
namespace fC46
def fn (N : Nat) : Sh.den ins → Option (Sh.den outs) := fun (a, _) => fC46.run N a
def S (N : Nat) : Fs := ⟨ins, outs, fn N⟩
def lam (N : Nat) : Pcs := pcs [([true, true, true, true, true, true, true, false, true, false], (fD55.P N).pc (C N))]
theorem pok (N : Nat) : (lam N).Ok Tryz.prog (C N) code := pcsOk_cons (c1 := .loop fD55.code) (by kernel_rfl) (fD55.ok N) (pcsOk_nil)
theorem ok (N : Nat) : (S N).con.Ok Tryz.prog 6 := okF (F := S N) [] Tryz.func6 (by kernel_rfl) (by rfl) mix (cok N) (pok N) fun _ => by kernel_rfl
end fC46
namespace fA15
def ins : Sh := (.cons (.val (.slice .byte)) .nil)
def C (N : Nat) : Ctx := ⟨U, 54, fun _ => true, gam [], gamY []⟩
theorem cok (N : Nat) : (C N).Ok Tryz.prog := ⟨U_ok, GamOk.nil, GamYOk.nil⟩
def code : Code := Tryz.f38.body.getD .skip
def outs : Sh := (.cons (.val (.int .u32)) .nil)
end fA15
namespace fA17
def ins : Sh := s78
def ts : List Tmp := [3, 9]
def asg : List Tmp := [4, 5, 9, 10, 11, 12, 13, 14, 15, 16, 17, 18, 19, 20, 21, 22, 23, 24, 25, 26]
def C (N : Nat) : Ctx := { fA15.C N with may := fun t => asg.any (Nat.beq t) }
def code : Code := loopBody (sub fA15.code [true, true, false, true, false])
theorem cok (N : Nat) : (C N).Ok Tryz.prog := okC (fA15.cok N) _
def alts : List Alt := [⟨(.exit 0), [], (.cons (.updr 0 129 (.int .u32)) .nil)⟩]
end fA17
namespace fA43
def ins : Sh := s79
def ts : List Tmp := [5, 14]
def asg : List Tmp := [5, 14, 15, 16, 17, 18, 19, 20, 21, 22]
def C (N : Nat) : Ctx := { fA17.C N with may := fun t => asg.any (Nat.beq t) }
def code : Code := loopBody (sub fA17.code [true, true, false, false, true, true, false, true, false])
theorem cok (N : Nat) : (C N).Ok Tryz.prog := okC (fA17.cok N) _
def alts : List Alt := [⟨(.exit 2), [5], (.cons (.val (.int .u32)) .nil)⟩]
end fA43
def fA43.go (N : Nat) : Nat → Int → Int → Option ((Int × Unit))
  | 0, _, _ => none
  | fuel + 1, c, t14 =>
    bif decide (t14 < (4 : Int)) then
      fA43.go N fuel (IntKind.u32.wrap ((BitVec.ofInt 32 (c.fdiv (2 : Int)) ^^^ BitVec.ofInt 32 (IntKind.u32.wrap ((3988292384 : Int) * (IntKind.u32.wrap ((BitVec.ofInt 32 c &&& BitVec.ofInt 32 (1 : Int)).toNat : Int))))).toNat : Int)) (IntKind.i64.wrap (t14 + (1 : Int)))
    else some (c, ())
namespace fA43
def g (N n : Nat) : Sh.den ins → Option (altsDen alts) := fun (a, b, _) => fA43.go N n a b
def P (N : Nat) : Ps := ⟨ts, ins, asg, alts, g N N⟩
def lam (N : Nat) : Pcs := pcs []
theorem pok (N : Nat) : (lam N).Ok Tryz.prog (C N) code := pcsOk_nil
theorem ok (N : Nat) : ((P N).pc (fA17.C N)).Ok Tryz.prog (fA17.C N) (.loop code) := okL (F := P N) (g N) (fA17.cok N) mix (pok N) (fun _ => rfl) rfl fun _ _ => by kernel_rfl
end fA43
def fA17.go (N : Nat) : Nat → (List Int) → Int → Option (T43)
  | 0, _, _ => none
  | fuel + 1, half, t9 =>
    bif decide (t9 < (16 : Int)) then
      obind (fA43.go N N (IntKind.u32.wrap t9) (0 : Int)) fun (c, _) =>
        bif inB t9 16 then
          bif decide (t9.toNat < half.length) then
            fA17.go N fuel (half.set t9.toNat c) (IntKind.i64.wrap (t9 + (1 : Int)))
          else none
        else none
    else some (half, ())
namespace fA17
def g (N n : Nat) : Sh.den ins → Option (altsDen alts) := fun (a, b, _) => fA17.go N n a b
def P (N : Nat) : Ps := ⟨ts, ins, asg, alts, g N N⟩
def lam (N : Nat) : Pcs := pcs [([true, true, false, false, true, true, false, true, false], (fA43.P N).pc (C N))]
theorem pok (N : Nat) : (lam N).Ok Tryz.prog (C N) code := pcsOk_cons (c1 := .loop fA43.code) (by kernel_rfl) (fA43.ok N) (pcsOk_nil)
theorem ok (N : Nat) : ((P N).pc (fA15.C N)).Ok Tryz.prog (fA15.C N) (.loop code) := okL (F := P N) (g N) (fA15.cok N) mix (pok N) (fun _ => rfl) rfl fun _ _ => by kernel_rfl
end fA17
namespace fC49
def ins : Sh := (.cons (.arr 129 (.int .u32) 16) (.cons (.val (.int .u32)) (.cons (.val (.slice .byte)) s20)))
def ts : List Tmp := [3, 6, 27, 28, 29]
def asg : List Tmp := [6, 8, 29, 30, 31, 32, 33, 34, 35, 36, 37, 38, 39, 40, 41, 42, 43, 44, 45, 46, 47, 48, 49, 50, 51]
def C (N : Nat) : Ctx := { fA15.C N with may := fun t => asg.any (Nat.beq t) }
def code : Code := loopBody (sub fA15.code [true, true, true, true, false, true, false])
theorem cok (N : Nat) : (C N).Ok Tryz.prog := okC (fA15.cok N) _
def alts : List Alt := [⟨(.exit 4), [6], (.cons (.val (.int .u32)) .nil)⟩]
end fC49
def fC49.go (N : Nat) : Nat → (List Int) → Int → (List UInt8) → Int → Int → Option ((Int × Unit))
  | 0, _, _, _, _, _ => none
  | fuel + 1, half, c, t27, t28, t29 =>
    bif decide (t29 < t28) then
      bif inB t29 t27.length then
        bif inB (IntKind.u32.wrap ((BitVec.ofInt 32 (IntKind.u32.wrap ((BitVec.ofInt 32 c ^^^ BitVec.ofInt 32 (IntKind.u32.wrap ((t27.getD t29.toNat (0 : UInt8)).toNat : Int))).toNat : Int)) &&& BitVec.ofInt 32 (15 : Int)).toNat : Int)) 16 then
          bif decide ((IntKind.u32.wrap ((BitVec.ofInt 32 (IntKind.u32.wrap ((BitVec.ofInt 32 c ^^^ BitVec.ofInt 32 (IntKind.u32.wrap ((t27.getD t29.toNat (0 : UInt8)).toNat : Int))).toNat : Int)) &&& BitVec.ofInt 32 (15 : Int)).toNat : Int)).toNat < half.length) then
            bif inB (IntKind.u32.wrap ((BitVec.ofInt 32 (IntKind.u32.wrap ((BitVec.ofInt 32 (half.getD (IntKind.u32.wrap ((BitVec.ofInt 32 (IntKind.u32.wrap ((BitVec.ofInt 32 c ^^^ BitVec.ofInt 32 (IntKind.u32.wrap ((t27.getD t29.toNat (0 : UInt8)).toNat : Int))).toNat : Int)) &&& BitVec.ofInt 32 (15 : Int)).toNat : Int)).toNat (0 : Int)) ^^^ BitVec.ofInt 32 ((IntKind.u32.wrap ((BitVec.ofInt 32 c ^^^ BitVec.ofInt 32 (IntKind.u32.wrap ((t27.getD t29.toNat (0 : UInt8)).toNat : Int))).toNat : Int)).fdiv (16 : Int))).toNat : Int)) &&& BitVec.ofInt 32 (15 : Int)).toNat : Int)) 16 then
              bif decide ((IntKind.u32.wrap ((BitVec.ofInt 32 (IntKind.u32.wrap ((BitVec.ofInt 32 (half.getD (IntKind.u32.wrap ((BitVec.ofInt 32 (IntKind.u32.wrap ((BitVec.ofInt 32 c ^^^ BitVec.ofInt 32 (IntKind.u32.wrap ((t27.getD t29.toNat (0 : UInt8)).toNat : Int))).toNat : Int)) &&& BitVec.ofInt 32 (15 : Int)).toNat : Int)).toNat (0 : Int)) ^^^ BitVec.ofInt 32 ((IntKind.u32.wrap ((BitVec.ofInt 32 c ^^^ BitVec.ofInt 32 (IntKind.u32.wrap ((t27.getD t29.toNat (0 : UInt8)).toNat : Int))).toNat : Int)).fdiv (16 : Int))).toNat : Int)) &&& BitVec.ofInt 32 (15 : Int)).toNat : Int)).toNat < half.length) then
                fC49.go N fuel half (IntKind.u32.wrap ((BitVec.ofInt 32 (half.getD (IntKind.u32.wrap ((BitVec.ofInt 32 (IntKind.u32.wrap ((BitVec.ofInt 32 (half.getD (IntKind.u32.wrap ((BitVec.ofInt 32 (IntKind.u32.wrap ((BitVec.ofInt 32 c ^^^ BitVec.ofInt 32 (IntKind.u32.wrap ((t27.getD t29.toNat (0 : UInt8)).toNat : Int))).toNat : Int)) &&& BitVec.ofInt 32 (15 : Int)).toNat : Int)).toNat (0 : Int)) ^^^ BitVec.ofInt 32 ((IntKind.u32.wrap ((BitVec.ofInt 32 c ^^^ BitVec.ofInt 32 (IntKind.u32.wrap ((t27.getD t29.toNat (0 : UInt8)).toNat : Int))).toNat : Int)).fdiv (16 : Int))).toNat : Int)) &&& BitVec.ofInt 32 (15 : Int)).toNat : Int)).toNat (0 : Int)) ^^^ BitVec.ofInt 32 ((IntKind.u32.wrap ((BitVec.ofInt 32 (half.getD (IntKind.u32.wrap ((BitVec.ofInt 32 (IntKind.u32.wrap ((BitVec.ofInt 32 c ^^^ BitVec.ofInt 32 (IntKind.u32.wrap ((t27.getD t29.toNat (0 : UInt8)).toNat : Int))).toNat : Int)) &&& BitVec.ofInt 32 (15 : Int)).toNat : Int)).toNat (0 : Int)) ^^^ BitVec.ofInt 32 ((IntKind.u32.wrap ((BitVec.ofInt 32 c ^^^ BitVec.ofInt 32 (IntKind.u32.wrap ((t27.getD t29.toNat (0 : UInt8)).toNat : Int))).toNat : Int)).fdiv (16 : Int))).toNat : Int)).fdiv (16 : Int))).toNat : Int)) t27 t28 (IntKind.i64.wrap (t29 + (1 : Int)))
              else none
            else none
          else none
        else none
      else none
    else some (c, ())
namespace fC49
def g (N n : Nat) : Sh.den ins → Option (altsDen alts) := fun (a, b, c, d, e, _) => fC49.go N n a b c d e
def P (N : Nat) : Ps := ⟨ts, ins, asg, alts, g N N⟩
def lam (N : Nat) : Pcs := pcs []
theorem pok (N : Nat) : (lam N).Ok Tryz.prog (C N) code := pcsOk_nil
theorem ok (N : Nat) : ((P N).pc (fA15.C N)).Ok Tryz.prog (fA15.C N) (.loop code) := okL (F := P N) (g N) (fA15.cok N) mix (pok N) (fun _ => rfl) rfl fun _ _ => by kernel_rfl
end fC49
def fA15.run (N : Nat) (b : (List UInt8)) : Option (Int × Unit) :=
  obind (fA17.go N N (List.replicate 16 (0 : Int)) (0 : Int)) fun (v, _) =>
    obind (fC49.go N N v (4294967295 : Int) b (b.length : Int) (0 : Int)) fun (c, _) =>
      some (IntKind.u32.wrap ((BitVec.ofInt 32 (4294967295 : Int) ^^^ BitVec.ofInt 32 c).toNat : Int), ())
namespace fA15
def fn (N : Nat) : Sh.den ins → Option (Sh.den outs) := fun (a, _) => fA15.run N a
def S (N : Nat) : Fs := ⟨ins, outs, fn N⟩
def lam (N : Nat) : Pcs := pcs [([true, true, false, true, false], (fA17.P N).pc (C N)), ([true, true, true, true, false, true, false], (fC49.P N).pc (C N))]
theorem pok (N : Nat) : (lam N).Ok Tryz.prog (C N) code := pcsOk_cons (c1 := .loop fA17.code) (by kernel_rfl) (fA17.ok N) (pcsOk_cons (c1 := .loop fC49.code) (by kernel_rfl) (fC49.ok N) (pcsOk_nil))
theorem ok (N : Nat) : (S N).con.Ok Tryz.prog 38 := okF (F := S N) [] Tryz.func38 (by kernel_rfl) (by rfl) mix (cok N) (pok N) fun _ => by kernel_rfl
end fA15
namespace fC72
def ins : Sh := (.cons (.val (.slice .byte)) .nil)
def C (N : Nat) : Ctx := ⟨U, 7, fun _ => true, gam [(36, (fC8.S N).con)], gamY []⟩
theorem cok (N : Nat) : (C N).Ok Tryz.prog := ⟨U_ok, GamOk.cons (fC8.ok N) (GamOk.nil), GamYOk.nil⟩
def code : Code := Tryz.f15.body.getD .skip
def outs : Sh := (.cons (.box 83 s44) .nil)
end fC72
def fC72.run (N : Nat) (b : (List UInt8)) : Option (T17 × Unit) :=
  obind (fC8.run N b) fun (l, _) =>
    some ((l, (0 : Int), ()), ())
namespace fC72
def fn (N : Nat) : Sh.den ins → Option (Sh.den outs) := fun (a, _) => fC72.run N a
def S (N : Nat) : Fs := ⟨ins, outs, fn N⟩
def lam (N : Nat) : Pcs := pcs []
theorem pok (N : Nat) : (lam N).Ok Tryz.prog (C N) code := pcsOk_nil
theorem ok (N : Nat) : (S N).con.Ok Tryz.prog 15 := okF (F := S N) [] Tryz.func15 (by kernel_rfl) (by rfl) mix (cok N) (pok N) fun _ => by kernel_rfl
end fC72
namespace fC67
def ins : Sh := (.cons (.val (.slice .byte)) .nil)
def C (N : Nat) : Ctx := ⟨U, 51, fun _ => true, gam [(15, (fC72.S N).con), (53, (fC4.S N).con), (38, (((fD16.S N).con).or (fA15.S N).con)), (54, (fC11.S N).con)], gamY []⟩
theorem cok (N : Nat) : (C N).Ok Tryz.prog := ⟨U_ok, GamOk.cons (fC72.ok N) (GamOk.cons (fC4.ok N) (GamOk.cons (Con.or_ok (fD16.ok N) (fA15.ok N)) (GamOk.cons (fC11.ok N) (GamOk.nil)))), GamYOk.nil⟩
def code : Code := Tryz.f26.body.getD .skip
def outs : Sh := (.cons (.own 5 .byte) s20)
end fC67
def fC67.run (N : Nat) (b : (List UInt8)) : Option T57 :=
  obind (fC72.run N b) fun ((b1, e, _), _) =>
    obind (fC4.run N b1 e) fun ((b2, e1, _), n_, _) =>
      obind (fC4.run N b2 e1) fun ((b3, e2, _), n1, _) =>
        bif !(decide (e2 = (0 : Int))) then
          some (([] : List UInt8), (0 : Int), (10 : Int), ())
        else
          bif okB (0 : Int) (4 : Int) b.length then
            obind (fA15.run N (b.take 4)) fun (n2, _) =>
              bif !(decide (n1 = n2)) then
                some (([] : List UInt8), (0 : Int), (14 : Int), ())
              else
                bif decide (n_ > (16777216 : Int)) then
                  some (([] : List UInt8), (0 : Int), (12 : Int), ())
                else
                  obind (fC11.run N b3 e2 (IntKind.i64.wrap n_)) fun ((b4, e3, _), l, _) =>
                    obind (fC4.run N b4 e3) fun ((b5, e4, _), n3, _) =>
                      bif !(decide (e4 = (0 : Int))) then
                        some (([] : List UInt8), (0 : Int), (10 : Int), ())
                      else
                        obind (fD16.run N l) fun (n4, _) =>
                          bif !(decide (n3 = n4)) then
                            some (([] : List UInt8), (0 : Int), (14 : Int), ())
                          else some (l, IntKind.i64.wrap ((IntKind.i64.wrap n_) + (12 : Int)), (0 : Int), ())
          else none
namespace fC67
def fn (N : Nat) : Sh.den ins → Option (Sh.den outs) := fun (a, _) => fC67.run N a
def S (N : Nat) : Fs := ⟨ins, outs, fn N⟩
def lam (N : Nat) : Pcs := pcs []
theorem pok (N : Nat) : (lam N).Ok Tryz.prog (C N) code := pcsOk_nil
theorem ok (N : Nat) : (S N).con.Ok Tryz.prog 26 := okF (F := S N) [] Tryz.func26 (by kernel_rfl) (by rfl) mix (cok N) (pok N) fun _ => by kernel_rfl
end fC67
namespace fB18
def ins : Sh := (.cons (.rbox 83 s44) .nil)
def C (N : Nat) : Ctx := ⟨U, 20, fun _ => true, gam [], gamY []⟩
theorem cok (N : Nat) : (C N).Ok Tryz.prog := ⟨U_ok, GamOk.nil, GamYOk.nil⟩
def code : Code := Tryz.f27.body.getD .skip
def outs : Sh := (.cons (.val (.int .i64)) .nil)
end fB18
def fB18.run (N : Nat) (b : (List UInt8)) (e : Int) : Option (Int × Unit) :=
  bif decide (e = (0 : Int)) then
    bif decide ((b.length : Int) > (0 : Int)) then
      some ((13 : Int), ())
    else some (e, ())
  else some (e, ())
namespace fB18
def fn (N : Nat) : Sh.den ins → Option (Sh.den outs) := fun ((a, b, _), _) => fB18.run N a b
def S (N : Nat) : Fs := ⟨ins, outs, fn N⟩
def lam (N : Nat) : Pcs := pcs []
theorem pok (N : Nat) : (lam N).Ok Tryz.prog (C N) code := pcsOk_nil
theorem ok (N : Nat) : (S N).con.Ok Tryz.prog 27 := okF (F := S N) [] Tryz.func27 (by kernel_rfl) (by rfl) mix (cok N) (pok N) fun _ => by kernel_rfl
end fB18
namespace fC62
def ins : Sh := (.cons (.val (.slice .byte)) .nil)
def C (N : Nat) : Ctx := ⟨U, 44, fun _ => true, gam [(26, (fC67.S N).con), (15, (fD66.S N).con), (13, (fC28.S N).con), (27, (fB18.S N).con)], gamY []⟩
theorem cok (N : Nat) : (C N).Ok Tryz.prog := ⟨U_ok, GamOk.cons (fC67.ok N) (GamOk.cons (fD66.ok N) (GamOk.cons (fC28.ok N) (GamOk.cons (fB18.ok N) (GamOk.nil)))), GamYOk.nil⟩
def code : Code := Tryz.f10.body.getD .skip
def outs : Sh := s99
end fC62
def fC62.run (N : Nat) (b : (List UInt8)) : Option T58 :=
  obind (fC67.run N b) fun (l, n_, n1, _) =>
    bif !(decide (n1 = (0 : Int))) then
      some (((0 : Int), (0 : Int), (0 : Int), (0 : Int), (0 : Int), (0 : Int), (0 : Int), (0 : Int), (0 : Int), (0 : Int), (0 : Int), false, false, false, ((0 : Int), (0 : Int)), (([] : List T7), ([] : List T8)), ([] : List T6)), (170 : Int), ())
    else
      bif !(decide (n_ = (b.length : Int))) then
        some (((0 : Int), (0 : Int), (0 : Int), (0 : Int), (0 : Int), (0 : Int), (0 : Int), (0 : Int), (0 : Int), (0 : Int), (0 : Int), false, false, false, ((0 : Int), (0 : Int)), (([] : List T7), ([] : List T8)), ([] : List T6)), (170 : Int), ())
      else
        obind (fD66.run N l) fun ((b1, e, _), _) =>
          obind (fC28.run N b1 e false (0 : Int) (0 : Int) (0 : Int) (0 : Int) (0 : Int) (0 : Int) (0 : Int) (0 : Int) (0 : Int) (0 : Int) (0 : Int) false false false (0 : Int) (0 : Int) ([] : List T7) ([] : List T8) ([] : List T6)) fun ((b2, e1, _), (_, _, jT, _), (jA, jB_, jC_, jD, jE, jF, jG, jH, jI, jJ, jK, jL, jM, jN, jO_, jO1, jP, jP1, jQ, _), _) =>
            bif jT then
              some (((0 : Int), (0 : Int), (0 : Int), (0 : Int), (0 : Int), (0 : Int), (0 : Int), (0 : Int), (0 : Int), (0 : Int), (0 : Int), false, false, false, ((0 : Int), (0 : Int)), (([] : List T7), ([] : List T8)), ([] : List T6)), (170 : Int), ())
            else
              obind (fB18.run N b2 e1) fun (n2, _) =>
                bif !(decide (n2 = (0 : Int))) then
                  some (((0 : Int), (0 : Int), (0 : Int), (0 : Int), (0 : Int), (0 : Int), (0 : Int), (0 : Int), (0 : Int), (0 : Int), (0 : Int), false, false, false, ((0 : Int), (0 : Int)), (([] : List T7), ([] : List T8)), ([] : List T6)), (170 : Int), ())
                else some ((jA, jB_, jC_, jD, jE, jF, jG, jH, jI, jJ, jK, jL, jM, jN, (jO_, jO1), (jP, jP1), jQ), (0 : Int), ())
namespace fC62
def fn (N : Nat) : Sh.den ins → Option (Sh.den outs) := fun (a, _) => fC62.run N a
def S (N : Nat) : Fs := ⟨ins, outs, fn N⟩
def lam (N : Nat) : Pcs := pcs []
theorem pok (N : Nat) : (lam N).Ok Tryz.prog (C N) code := pcsOk_nil
theorem ok (N : Nat) : (S N).con.Ok Tryz.prog 10 := okF (F := S N) [] Tryz.func10 (by kernel_rfl) (by rfl) mix (cok N) (pok N) fun _ => by kernel_rfl
end fC62
namespace fA81
def ins : Sh := s82
def C (N : Nat) : Ctx := ⟨U, 12, fun _ => true, gam [(5, (fB65.S N).con)], gamY []⟩
theorem cok (N : Nat) : (C N).Ok Tryz.prog := ⟨U_ok, GamOk.cons (fB65.ok N) (GamOk.nil), GamYOk.nil⟩
def code : Code := Tryz.f8.body.getD .skip
def outs : Sh := (.cons (.val .bool) .nil)
end fA81
def fA81.run (N : Nat) (m : T53) : Option (Bool × Unit) :=
  obind (fB65.run N m) fun (l, n_, _) =>
    some (decide (n_ = (0 : Int)), ())
namespace fA81
def fn (N : Nat) : Sh.den ins → Option (Sh.den outs) := fun (a, _) => fA81.run N a
def S (N : Nat) : Fs := ⟨ins, outs, fn N⟩
def lam (N : Nat) : Pcs := pcs []
theorem pok (N : Nat) : (lam N).Ok Tryz.prog (C N) code := pcsOk_nil
theorem ok (N : Nat) : (S N).con.Ok Tryz.prog 8 := okF (F := S N) [] Tryz.func8 (by kernel_rfl) (by rfl) mix (cok N) (pok N) fun _ => by kernel_rfl
end fA81
namespace law_alive
def ins : Sh := .nil
def C (N : Nat) : Ctx := ⟨U, 64, fun _ => true, gam [(5, (fB65.S N).con), (10, (fC62.S N).con), (8, (fA81.S N).con)], gamY []⟩
theorem cok (N : Nat) : (C N).Ok Tryz.prog := ⟨U_ok, GamOk.cons (fB65.ok N) (GamOk.cons (fC62.ok N) (GamOk.cons (fA81.ok N) (GamOk.nil))), GamYOk.nil⟩
def code : Code := Tryz.f7.body.getD .skip
def outs : Sh := (.cons (.val .bool) .nil)
end law_alive
def law_alive.run (N : Nat)  : Option (Bool × Unit) :=
  obind (fB65.run N ((11 : Int), (2 : Int), (1 : Int), (0 : Int), (0 : Int), (0 : Int), (0 : Int), (5 : Int), (0 : Int), (0 : Int), (0 : Int), false, false, false, ((0 : Int), (0 : Int)), (([] : List T7), ([] : List T8)), ([] : List T6))) fun (l, n_, _) =>
    obind (fC62.run N l) fun (v, n1, _) =>
      bif decide (n_ = (0 : Int)) then
        bif decide ((l.length : Int) = (23 : Int)) then
          bif inB (8 : Int) l.length then
            bif decide (((l.getD 8 (0 : UInt8)).toNat : Int) = (11 : Int)) then
              bif inB (9 : Int) l.length then
                bif decide (((l.getD 9 (0 : UInt8)).toNat : Int) = (2 : Int)) then
                  bif inB (10 : Int) l.length then
                    bif decide (((l.getD 10 (0 : UInt8)).toNat : Int) = (1 : Int)) then
                      bif inB (18 : Int) l.length then
                        bif decide (((l.getD 18 (0 : UInt8)).toNat : Int) = (5 : Int)) then
                          bif decide (n1 = (0 : Int)) then
                            bif decide (v.2.2.2.2.2.2.2.1 = (5 : Int)) then
                              bif decide (v.2.1 = (2 : Int)) then
                                obind (fA81.run N v) fun (b, _) =>
                                  some (b, ())
                              else some (false, ())
                            else some (false, ())
                          else some (false, ())
                        else some (false, ())
                      else none
                    else some (false, ())
                  else none
                else some (false, ())
              else none
            else some (false, ())
          else none
        else some (false, ())
      else some (false, ())
namespace law_alive
def fn (N : Nat) : Sh.den ins → Option (Sh.den outs) := fun _ => law_alive.run N
def S (N : Nat) : Fs := ⟨ins, outs, fn N⟩
def lam (N : Nat) : Pcs := pcs []
theorem pok (N : Nat) : (lam N).Ok Tryz.prog (C N) code := pcsOk_nil
theorem ok (N : Nat) : (S N).con.Ok Tryz.prog 7 := okF (F := S N) [] Tryz.func7 (by kernel_rfl) (by rfl) mix (cok N) (pok N) fun _ => by kernel_rfl
end law_alive
namespace fA58
def ins : Sh := (.cons (.val (.slice .byte)) .nil)
def C (N : Nat) : Ctx := ⟨U, 20, fun _ => true, gam [], gamY []⟩
theorem cok (N : Nat) : (C N).Ok Tryz.prog := ⟨U_ok, GamOk.nil, GamYOk.nil⟩
def code : Code := Tryz.f55.body.getD .skip
def outs : Sh := (.cons (.val (.int .u64)) .nil)
end fA58
namespace fD72
def ins : Sh := (.cons (.val (.slice .byte)) s10)
def ts : List Tmp := [0, 3, 4]
def asg : List Tmp := [3, 4, 5, 6, 7, 8, 9, 10, 11, 12, 13, 14, 15, 16, 17, 18]
def C (N : Nat) : Ctx := { fA58.C N with may := fun t => asg.any (Nat.beq t) }
def code : Code := loopBody (sub fA58.code [true, true, false, true, false])
theorem cok (N : Nat) : (C N).Ok Tryz.prog := okC (fA58.cok N) _
def alts : List Alt := [⟨(.exit 0), [3], (.cons (.val (.int .u64)) .nil)⟩]
end fD72
def fD72.go (N : Nat) : Nat → (List UInt8) → Int → Int → Option ((Int × Unit))
  | 0, _, _, _ => none
  | fuel + 1, b, n_, i =>
    bif decide (i < (b.length : Int)) then
      bif inB i b.length then
        fD72.go N fuel b (IntKind.u64.wrap ((IntKind.u64.wrap ((256 : Int) * n_)) + (IntKind.u64.wrap ((b.getD i.toNat (0 : UInt8)).toNat : Int)))) (IntKind.i64.wrap (i + (1 : Int)))
      else none
    else some (n_, ())
namespace fD72
def g (N n : Nat) : Sh.den ins → Option (altsDen alts) := fun (a, b, c, _) => fD72.go N n a b c
def P (N : Nat) : Ps := ⟨ts, ins, asg, alts, g N N⟩
def lam (N : Nat) : Pcs := pcs []
theorem pok (N : Nat) : (lam N).Ok Tryz.prog (C N) code := pcsOk_nil
theorem ok (N : Nat) : ((P N).pc (fA58.C N)).Ok Tryz.prog (fA58.C N) (.loop code) := okL (F := P N) (g N) (fA58.cok N) mix (pok N) (fun _ => rfl) rfl fun _ _ => by kernel_rfl
end fD72
def fA58.run (N : Nat) (b : (List UInt8)) : Option (Int × Unit) :=
  obind (fD72.go N N b (0 : Int) (0 : Int)) fun (n_, _) =>
    some (n_, ())
namespace fA58
def fn (N : Nat) : Sh.den ins → Option (Sh.den outs) := fun (a, _) => fA58.run N a
def S (N : Nat) : Fs := ⟨ins, outs, fn N⟩
def lam (N : Nat) : Pcs := pcs [([true, true, false, true, false], (fD72.P N).pc (C N))]
theorem pok (N : Nat) : (lam N).Ok Tryz.prog (C N) code := pcsOk_cons (c1 := .loop fD72.code) (by kernel_rfl) (fD72.ok N) (pcsOk_nil)
theorem ok (N : Nat) : (S N).con.Ok Tryz.prog 55 := okF (F := S N) [] Tryz.func55 (by kernel_rfl) (by rfl) mix (cok N) (pok N) fun _ => by kernel_rfl
end fA58
namespace fB53
def ins : Sh := (.cons (.val (.slice .byte)) .nil)
def C (N : Nat) : Ctx := ⟨U, 33, fun _ => true, gam [], gamY []⟩
theorem cok (N : Nat) : (C N).Ok Tryz.prog := ⟨U_ok, GamOk.nil, GamYOk.nil⟩
def code : Code := Tryz.f51.body.getD .skip
def outs : Sh := (.cons (.val (.int .u32)) .nil)
end fB53
namespace fA28
def ins : Sh := (.cons (.val (.slice .byte)) s79)
def ts : List Tmp := [0, 3, 4]
def asg : List Tmp := [3, 4, 5, 6, 7, 8, 9, 10, 11, 12, 13, 14, 15, 16, 17, 18, 19, 20, 21, 22, 23, 24, 25, 26, 27, 28, 29, 30]
def C (N : Nat) : Ctx := { fB53.C N with may := fun t => asg.any (Nat.beq t) }
def code : Code := loopBody (sub fB53.code [true, true, false, true, false])
theorem cok (N : Nat) : (C N).Ok Tryz.prog := okC (fB53.cok N) _
def alts : List Alt := [⟨(.exit 0), [3], (.cons (.val (.int .u32)) .nil)⟩]
end fA28
namespace fD41
def ins : Sh := s79
def ts : List Tmp := [3, 5]
def asg : List Tmp := [3, 5, 19, 20, 21, 22, 23, 24, 25, 26, 27, 28, 29, 30]
def C (N : Nat) : Ctx := { fA28.C N with may := fun t => asg.any (Nat.beq t) }
def code : Code := loopBody (sub fA28.code [true, false, false, true, true, false])
theorem cok (N : Nat) : (C N).Ok Tryz.prog := okC (fA28.cok N) _
def alts : List Alt := [⟨(.exit 2), [3], (.cons (.val (.int .u32)) .nil)⟩]
end fD41
def fD41.go (N : Nat) : Nat → Int → Int → Option ((Int × Unit))
  | 0, _, _ => none
  | fuel + 1, r, k =>
    bif decide (k < (8 : Int)) then
      bif decide ((r.tmod (2 : Int)) = (1 : Int)) then
        fD41.go N fuel (IntKind.u32.wrap ((BitVec.ofInt 32 (IntKind.u32.wrap (r.tdiv (2 : Int))) ^^^ BitVec.ofInt 32 (3988292384 : Int)).toNat : Int)) (IntKind.i64.wrap (k + (1 : Int)))
      else fD41.go N fuel (IntKind.u32.wrap (r.tdiv (2 : Int))) (IntKind.i64.wrap (k + (1 : Int)))
    else some (r, ())
namespace fD41
def g (N n : Nat) : Sh.den ins → Option (altsDen alts) := fun (a, b, _) => fD41.go N n a b
def P (N : Nat) : Ps := ⟨ts, ins, asg, alts, g N N⟩
def lam (N : Nat) : Pcs := pcs []
theorem pok (N : Nat) : (lam N).Ok Tryz.prog (C N) code := pcsOk_nil
theorem ok (N : Nat) : ((P N).pc (fA28.C N)).Ok Tryz.prog (fA28.C N) (.loop code) := okL (F := P N) (g N) (fA28.cok N) mix (pok N) (fun _ => rfl) rfl fun _ _ => by kernel_rfl
end fD41
def fA28.go (N : Nat) : Nat → (List UInt8) → Int → Int → Option ((Int × Unit))
  | 0, _, _, _ => none
  | fuel + 1, b, r, i =>
    bif decide (i < (b.length : Int)) then
      bif inB i b.length then
        obind (fD41.go N N (IntKind.u32.wrap ((BitVec.ofInt 32 r ^^^ BitVec.ofInt 32 (IntKind.u32.wrap ((b.getD i.toNat (0 : UInt8)).toNat : Int))).toNat : Int)) (0 : Int)) fun (r1, _) =>
          fA28.go N fuel b r1 (IntKind.i64.wrap (i + (1 : Int)))
      else none
    else some (r, ())
namespace fA28
def g (N n : Nat) : Sh.den ins → Option (altsDen alts) := fun (a, b, c, _) => fA28.go N n a b c
def P (N : Nat) : Ps := ⟨ts, ins, asg, alts, g N N⟩
def lam (N : Nat) : Pcs := pcs [([true, false, false, true, true, false], (fD41.P N).pc (C N))]
theorem pok (N : Nat) : (lam N).Ok Tryz.prog (C N) code := pcsOk_cons (c1 := .loop fD41.code) (by kernel_rfl) (fD41.ok N) (pcsOk_nil)
theorem ok (N : Nat) : ((P N).pc (fB53.C N)).Ok Tryz.prog (fB53.C N) (.loop code) := okL (F := P N) (g N) (fB53.cok N) mix (pok N) (fun _ => rfl) rfl fun _ _ => by kernel_rfl
end fA28
def fB53.run (N : Nat) (b : (List UInt8)) : Option (Int × Unit) :=
  obind (fA28.go N N b (4294967295 : Int) (0 : Int)) fun (r, _) =>
    some (IntKind.u32.wrap ((BitVec.ofInt 32 r ^^^ BitVec.ofInt 32 (4294967295 : Int)).toNat : Int), ())
namespace fB53
def fn (N : Nat) : Sh.den ins → Option (Sh.den outs) := fun (a, _) => fB53.run N a
def S (N : Nat) : Fs := ⟨ins, outs, fn N⟩
def lam (N : Nat) : Pcs := pcs [([true, true, false, true, false], (fA28.P N).pc (C N))]
theorem pok (N : Nat) : (lam N).Ok Tryz.prog (C N) code := pcsOk_cons (c1 := .loop fA28.code) (by kernel_rfl) (fA28.ok N) (pcsOk_nil)
theorem ok (N : Nat) : (S N).con.Ok Tryz.prog 51 := okF (F := S N) [] Tryz.func51 (by kernel_rfl) (by rfl) mix (cok N) (pok N) fun _ => by kernel_rfl
end fB53
namespace fC76
def ins : Sh := (.cons (.val (.slice .byte)) .nil)
def C (N : Nat) : Ctx := ⟨U, 48, fun _ => true, gam [(55, (fA58.S N).con), (51, (fB53.S N).con)], gamY []⟩
theorem cok (N : Nat) : (C N).Ok Tryz.prog := ⟨U_ok, GamOk.cons (fA58.ok N) (GamOk.cons (fB53.ok N) (GamOk.nil)), GamYOk.nil⟩
def code : Code := Tryz.f28.body.getD .skip
def outs : Sh := (.cons (.val (.slice .byte)) s20)
end fC76
def fC76.run (N : Nat) (b : (List UInt8)) : Option T57 :=
  bif decide ((b.length : Int) < (8 : Int)) then
    some (([] : List UInt8), (0 : Int), (10 : Int), ())
  else
    bif okB (0 : Int) (4 : Int) b.length then
      obind (fA58.run N (b.take 4)) fun (n_, _) =>
        bif okB (4 : Int) (8 : Int) b.length then
          obind (fA58.run N ((b.take 8).drop 4)) fun (n1, _) =>
            bif okB (0 : Int) (4 : Int) b.length then
              obind (fB53.run N (b.take 4)) fun (n2, _) =>
                bif !(decide (n1 = (IntKind.u64.wrap n2))) then
                  some (([] : List UInt8), (0 : Int), (14 : Int), ())
                else
                  bif decide ((IntKind.i64.wrap n_) > (16777216 : Int)) then
                    some (([] : List UInt8), (0 : Int), (12 : Int), ())
                  else
                    bif decide ((IntKind.i64.wrap ((b.length : Int) - (12 : Int))) < (IntKind.i64.wrap n_)) then
                      some (([] : List UInt8), (0 : Int), (10 : Int), ())
                    else
                      bif okB (IntKind.i64.wrap ((8 : Int) + (IntKind.i64.wrap n_))) (IntKind.i64.wrap ((12 : Int) + (IntKind.i64.wrap n_))) b.length then
                        obind (fA58.run N ((b.take (IntKind.i64.wrap ((12 : Int) + (IntKind.i64.wrap n_))).toNat).drop (IntKind.i64.wrap ((8 : Int) + (IntKind.i64.wrap n_))).toNat)) fun (n3, _) =>
                          bif okB (8 : Int) (IntKind.i64.wrap ((8 : Int) + (IntKind.i64.wrap n_))) b.length then
                            obind (fB53.run N ((b.take (IntKind.i64.wrap ((8 : Int) + (IntKind.i64.wrap n_))).toNat).drop 8)) fun (n4, _) =>
                              bif !(decide (n3 = (IntKind.u64.wrap n4))) then
                                some (([] : List UInt8), (0 : Int), (14 : Int), ())
                              else
                                bif okB (8 : Int) (IntKind.i64.wrap ((8 : Int) + (IntKind.i64.wrap n_))) b.length then
                                  some ((b.take (IntKind.i64.wrap ((8 : Int) + (IntKind.i64.wrap n_))).toNat).drop 8, IntKind.i64.wrap ((IntKind.i64.wrap n_) + (12 : Int)), (0 : Int), ())
                                else none
                          else none
                      else none
            else none
        else none
    else none
namespace fC76
def fn (N : Nat) : Sh.den ins → Option (Sh.den outs) := fun (a, _) => fC76.run N a
def S (N : Nat) : Fs := ⟨ins, outs, fn N⟩
def lam (N : Nat) : Pcs := pcs []
theorem pok (N : Nat) : (lam N).Ok Tryz.prog (C N) code := pcsOk_nil
theorem ok (N : Nat) : (S N).con.Ok Tryz.prog 28 := okF (F := S N) [] Tryz.func28 (by kernel_rfl) (by rfl) mix (cok N) (pok N) fun _ => by kernel_rfl
end fC76
namespace fC78
def ins : Sh := s100
def C (N : Nat) : Ctx := ⟨U, 46, fun _ => true, gam [], gamY []⟩
theorem cok (N : Nat) : (C N).Ok Tryz.prog := ⟨U_ok, GamOk.nil, GamYOk.nil⟩
def code : Code := Tryz.f90.body.getD .skip
def outs : Sh := s101
end fC78
def fC78.run (N : Nat) (r : T59) (n_ : Int) : Option T60 :=
  bif !(decide (r.2.2 = (0 : Int))) then
    some (r, ([] : List UInt8), ())
  else
    bif decide (n_ < (0 : Int)) then
      some ((r.1, r.2.1, (12 : Int)), ([] : List UInt8), ())
    else
      bif decide (n_ > (IntKind.i64.wrap ((r.1.length : Int) - r.2.1))) then
        some ((r.1, r.2.1, (10 : Int)), ([] : List UInt8), ())
      else
        bif okB r.2.1 (IntKind.i64.wrap (r.2.1 + n_)) r.1.length then
          bif room ((r.1.take (IntKind.i64.wrap (r.2.1 + n_)).toNat).drop r.2.1.toNat).length 1 then
            some ((r.1, IntKind.i64.wrap (r.2.1 + n_), r.2.2), (r.1.take (IntKind.i64.wrap (r.2.1 + n_)).toNat).drop r.2.1.toNat, ())
          else none
        else none
namespace fC78
def fn (N : Nat) : Sh.den ins → Option (Sh.den outs) := fun (a, b, _) => fC78.run N a b
def S (N : Nat) : Fs := ⟨ins, outs, fn N⟩
def lam (N : Nat) : Pcs := pcs []
theorem pok (N : Nat) : (lam N).Ok Tryz.prog (C N) code := pcsOk_nil
theorem ok (N : Nat) : (S N).con.Ok Tryz.prog 90 := okF (F := S N) [] Tryz.func90 (by kernel_rfl) (by rfl) mix (cok N) (pok N) fun _ => by kernel_rfl
end fC78
namespace fB45
def ins : Sh := (.cons (.rown 5 .byte) .nil)
def C (N : Nat) : Ctx := ⟨U, 20, fun _ => true, gam [], gamY []⟩
theorem cok (N : Nat) : (C N).Ok Tryz.prog := ⟨U_ok, GamOk.nil, GamYOk.nil⟩
def code : Code := Tryz.f55.body.getD .skip
def outs : Sh := (.cons (.val (.int .u64)) .nil)
end fB45
namespace fB59
def ins : Sh := (.cons (.rown 5 .byte) s10)
def ts : List Tmp := [0, 3, 4]
def asg : List Tmp := [3, 4, 5, 6, 7, 8, 9, 10, 11, 12, 13, 14, 15, 16, 17, 18]
def C (N : Nat) : Ctx := { fB45.C N with may := fun t => asg.any (Nat.beq t) }
def code : Code := loopBody (sub fB45.code [true, true, false, true, false])
theorem cok (N : Nat) : (C N).Ok Tryz.prog := okC (fB45.cok N) _
def alts : List Alt := [⟨(.exit 0), [3], (.cons (.val (.int .u64)) .nil)⟩]
end fB59
def fB59.go (N : Nat) : Nat → (List UInt8) → Int → Int → Option ((Int × Unit))
  | 0, _, _, _ => none
  | fuel + 1, b, n_, i =>
    bif decide (i < (b.length : Int)) then
      bif inB i b.length then
        bif decide (i.toNat < b.length) then
          fB59.go N fuel b (IntKind.u64.wrap ((IntKind.u64.wrap ((256 : Int) * n_)) + (IntKind.u64.wrap ((b.getD i.toNat (0 : UInt8)).toNat : Int)))) (IntKind.i64.wrap (i + (1 : Int)))
        else none
      else none
    else some (n_, ())
namespace fB59
def g (N n : Nat) : Sh.den ins → Option (altsDen alts) := fun (a, b, c, _) => fB59.go N n a b c
def P (N : Nat) : Ps := ⟨ts, ins, asg, alts, g N N⟩
def lam (N : Nat) : Pcs := pcs []
theorem pok (N : Nat) : (lam N).Ok Tryz.prog (C N) code := pcsOk_nil
theorem ok (N : Nat) : ((P N).pc (fB45.C N)).Ok Tryz.prog (fB45.C N) (.loop code) := okL (F := P N) (g N) (fB45.cok N) mix (pok N) (fun _ => rfl) rfl fun _ _ => by kernel_rfl
end fB59
def fB45.run (N : Nat) (b : (List UInt8)) : Option (Int × Unit) :=
  obind (fB59.go N N b (0 : Int) (0 : Int)) fun (n_, _) =>
    some (n_, ())
namespace fB45
def fn (N : Nat) : Sh.den ins → Option (Sh.den outs) := fun (a, _) => fB45.run N a
def S (N : Nat) : Fs := ⟨ins, outs, fn N⟩
def lam (N : Nat) : Pcs := pcs [([true, true, false, true, false], (fB59.P N).pc (C N))]
theorem pok (N : Nat) : (lam N).Ok Tryz.prog (C N) code := pcsOk_cons (c1 := .loop fB59.code) (by kernel_rfl) (fB59.ok N) (pcsOk_nil)
theorem ok (N : Nat) : (S N).con.Ok Tryz.prog 55 := okF (F := S N) [] Tryz.func55 (by kernel_rfl) (by rfl) mix (cok N) (pok N) fun _ => by kernel_rfl
end fB45
namespace fB73
def ins : Sh := s100
def C (N : Nat) : Ctx := ⟨U, 16, fun _ => true, gam [(90, (fC78.S N).con), (55, (fB45.S N).con)], gamY []⟩
theorem cok (N : Nat) : (C N).Ok Tryz.prog := ⟨U_ok, GamOk.cons (fC78.ok N) (GamOk.cons (fB45.ok N) (GamOk.nil)), GamYOk.nil⟩
def code : Code := Tryz.f56.body.getD .skip
def outs : Sh := s102
end fB73
def fB73.run (N : Nat) (r : T59) (many : Int) : Option T61 :=
  obind (fC78.run N r many) fun (v, l, _) =>
    obind (fB45.run N l) fun (n_, _) =>
      some (v, n_, ())
namespace fB73
def fn (N : Nat) : Sh.den ins → Option (Sh.den outs) := fun (a, b, _) => fB73.run N a b
def S (N : Nat) : Fs := ⟨ins, outs, fn N⟩
def lam (N : Nat) : Pcs := pcs []
theorem pok (N : Nat) : (lam N).Ok Tryz.prog (C N) code := pcsOk_nil
theorem ok (N : Nat) : (S N).con.Ok Tryz.prog 56 := okF (F := S N) [] Tryz.func56 (by kernel_rfl) (by rfl) mix (cok N) (pok N) fun _ => by kernel_rfl
end fB73
namespace fB4
def ins : Sh := (.cons s103 (.cons (.val (.int .i64)) .nil))
def C (N : Nat) : Ctx := ⟨U, 21, fun _ => true, gam [(56, (fB73.S N).con)], gamY []⟩
theorem cok (N : Nat) : (C N).Ok Tryz.prog := ⟨U_ok, GamOk.cons (fB73.ok N) (GamOk.nil), GamYOk.nil⟩
def code : Code := Tryz.f29.body.getD .skip
def outs : Sh := (.cons (.upd 0 70 (.cons (.val (.slice .byte)) s20)) (.cons (.val (.int .u64)) .nil))
end fB4
def fB4.run (N : Nat) (x : (List UInt8)) (x1 : Int) (x2 : Int) (many : Int) : Option T62 :=
  obind (fB73.run N (x, x1, x2) many) fun (v, n_, _) =>
    some ((v.1, v.2.1, v.2.2, ()), n_, ())
namespace fB4
def fn (N : Nat) : Sh.den ins → Option (Sh.den outs) := fun ((a, b, c, _), d, _) => fB4.run N a b c d
def S (N : Nat) : Fs := ⟨ins, outs, fn N⟩
def lam (N : Nat) : Pcs := pcs []
theorem pok (N : Nat) : (lam N).Ok Tryz.prog (C N) code := pcsOk_nil
theorem ok (N : Nat) : (S N).con.Ok Tryz.prog 29 := okF (F := S N) [] Tryz.func29 (by kernel_rfl) (by rfl) mix (cok N) (pok N) fun _ => by kernel_rfl
end fB4
namespace fB14
def ins : Sh := (.cons (.val (.pair (.slice .byte) (.pair (.int .i64) (.int .i64)))) (.cons (.val (.int .u64)) (.cons (.val .bool) .nil)))
def C (N : Nat) : Ctx := ⟨U, 63, fun _ => true, gam [(56, (fB73.S N).con), (86, (fB28.S N).con)], gamY []⟩
theorem cok (N : Nat) : (C N).Ok Tryz.prog := ⟨U_ok, GamOk.cons (fB73.ok N) (GamOk.cons (fB28.ok N) (GamOk.nil)), GamYOk.nil⟩
def code : Code := Tryz.f107.body.getD .skip
def outs : Sh := s102
end fB14
namespace fB77
def ins : Sh := s104
def ts : List Tmp := [8, 9]
def asg : List Tmp := [18, 19, 20, 21, 22, 23, 24]
def C (N : Nat) : Ctx := { fB14.C N with may := fun t => asg.any (Nat.beq t) }
def code : Code := (sub fB14.code [true, true, true, false, false]).getD .skip
theorem cok (N : Nat) : (C N).Ok Tryz.prog := okC (fB14.cok N) _
def alts : List Alt := [⟨.normal, [24], (.cons (.val .bool) .nil)⟩]
end fB77
def fB77.run (N : Nat) (b : (List UInt8)) (jO_ : Int) (e : Int) (c : Int) : Option ((Bool × Unit)) :=
  bif decide (e = (0 : Int)) then
    some (decide (c ≥ (253 : Int)), ())
  else some (false, ())
namespace fB77
def fn (N : Nat) : Sh.den ins → Option (altsDen alts) := fun ((a, b, c, _), d, _) => fB77.run N a b c d
def P (N : Nat) : Ps := ⟨ts, ins, asg, alts, fn N⟩
def lam (N : Nat) : Pcs := pcs []
theorem pok (N : Nat) : (lam N).Ok Tryz.prog (C N) code := pcsOk_nil
theorem ok (N : Nat) : ((P N).pc (fB14.C N)).Ok Tryz.prog (fB14.C N) code := okP (F := P N) (fB14.cok N) mix (pok N) fun _ => by kernel_rfl
end fB77
namespace fC26
def ins : Sh := (.cons (.box 68 (.cons (.val (.slice .byte)) s20)) s55)
def ts : List Tmp := [8, 9, 10]
def asg : List Tmp := [10, 11, 18, 19, 20, 21, 22, 23, 24, 25, 26, 27, 28, 29, 30, 31, 32, 33, 34]
def C (N : Nat) : Ctx := { fB14.C N with may := fun t => asg.any (Nat.beq t) }
def code : Code := (sub fB14.code [true, true, true, false]).getD .skip
theorem cok (N : Nat) : (C N).Ok Tryz.prog := okC (fB14.cok N) _
def alts : List Alt := [⟨.normal, [10], (.cons (.upd 0 68 (.cons (.val (.slice .byte)) s20)) (.cons (.val (.int .u64)) .nil))⟩]
end fC26
namespace fC63
def ins : Sh := s104
def ts : List Tmp := [8, 9]
def asg : List Tmp := [18, 19, 20, 21, 22, 23, 24]
def C (N : Nat) : Ctx := { fC26.C N with may := fun t => asg.any (Nat.beq t) }
def code : Code := (sub fC26.code [false]).getD .skip
theorem cok (N : Nat) : (C N).Ok Tryz.prog := okC (fC26.cok N) _
def alts : List Alt := [⟨.normal, [24], (.cons (.val .bool) .nil)⟩]
end fC63
def fC63.run (N : Nat) (b : (List UInt8)) (jO_ : Int) (e : Int) (c : Int) : Option ((Bool × Unit)) :=
  bif decide (e = (0 : Int)) then
    some (decide (c ≥ (253 : Int)), ())
  else some (false, ())
namespace fC63
def fn (N : Nat) : Sh.den ins → Option (altsDen alts) := fun ((a, b, c, _), d, _) => fC63.run N a b c d
def P (N : Nat) : Ps := ⟨ts, ins, asg, alts, fn N⟩
def lam (N : Nat) : Pcs := pcs []
theorem pok (N : Nat) : (lam N).Ok Tryz.prog (C N) code := pcsOk_nil
theorem ok (N : Nat) : ((P N).pc (fC26.C N)).Ok Tryz.prog (fC26.C N) code := okP (F := P N) (fC26.cok N) mix (pok N) fun _ => by kernel_rfl
end fC63
def fC26.run (N : Nat) (b : (List UInt8)) (jO_ : Int) (e : Int) (c : Int) (n_ : Int) : Option (T62) :=
  obind (fC63.run N b jO_ e c) fun (t24, _) =>
    bif t24 then
      bif decide (c = (254 : Int)) then
        bif decide (c = (255 : Int)) then
          obind (fB73.run N (b, jO_, e) (8 : Int)) fun (v, n1, _) =>
            some ((v.1, v.2.1, v.2.2, ()), n1, ())
        else
          obind (fB73.run N (b, jO_, e) (4 : Int)) fun (v1, n2, _) =>
            some ((v1.1, v1.2.1, v1.2.2, ()), n2, ())
      else
        bif decide (c = (255 : Int)) then
          obind (fB73.run N (b, jO_, e) (8 : Int)) fun (v2, n3, _) =>
            some ((v2.1, v2.2.1, v2.2.2, ()), n3, ())
        else
          obind (fB73.run N (b, jO_, e) (2 : Int)) fun (v3, n4, _) =>
            some ((v3.1, v3.2.1, v3.2.2, ()), n4, ())
    else some ((b, jO_, e, ()), n_, ())
namespace fC26
def fn (N : Nat) : Sh.den ins → Option (altsDen alts) := fun ((a, b, c, _), d, e, _) => fC26.run N a b c d e
def P (N : Nat) : Ps := ⟨ts, ins, asg, alts, fn N⟩
def lam (N : Nat) : Pcs := pcs [([false], (fC63.P N).pc (C N))]
theorem pok (N : Nat) : (lam N).Ok Tryz.prog (C N) code := pcsOk_cons (c1 := fC63.code) (by kernel_rfl) (fC63.ok N) (pcsOk_nil)
theorem ok (N : Nat) : ((P N).pc (fB14.C N)).Ok Tryz.prog (fB14.C N) code := okP (F := P N) (fB14.cok N) mix (pok N) fun _ => by kernel_rfl
end fC26
def fB14.run (N : Nat) (r : T59) (most : Int) (negative : Bool) : Option T61 :=
  obind (fB73.run N r (1 : Int)) fun (v, n_, _) =>
    obind (fC26.run N v.1 v.2.1 v.2.2 n_ n_) fun ((b, jO_, e, _), n5, _) =>
      bif !(decide (e = (0 : Int))) then
        some ((r.1, r.2.1, e), (0 : Int), ())
      else
        obind (fB28.run N n5) fun (l, _) =>
          bif !(decide ((l.length : Int) = (IntKind.i64.wrap (jO_ - r.2.1)))) then
            some ((r.1, r.2.1, (11 : Int)), (0 : Int), ())
          else
            bif negative then
              some ((r.1, r.2.1, (12 : Int)), (0 : Int), ())
            else
              bif decide (n5 > most) then
                some ((r.1, r.2.1, (12 : Int)), (0 : Int), ())
              else some ((b, jO_, e), n5, ())
namespace fB14
def fn (N : Nat) : Sh.den ins → Option (Sh.den outs) := fun (a, b, c, _) => fB14.run N a b c
def S (N : Nat) : Fs := ⟨ins, outs, fn N⟩
def lam (N : Nat) : Pcs := pcs [([true, true, true, false, false], (fB77.P N).pc (C N)), ([true, true, true, false], (fC26.P N).pc (C N))]
theorem pok (N : Nat) : (lam N).Ok Tryz.prog (C N) code := pcsOk_cons (c1 := fB77.code) (by kernel_rfl) (fB77.ok N) (pcsOk_cons (c1 := fC26.code) (by kernel_rfl) (fC26.ok N) (pcsOk_nil))
theorem ok (N : Nat) : (S N).con.Ok Tryz.prog 107 := okF (F := S N) [] Tryz.func107 (by kernel_rfl) (by rfl) mix (cok N) (pok N) fun _ => by kernel_rfl
end fB14
namespace fA27
def ins : Sh := (.cons s103 (.cons (.val (.int .u64)) .nil))
def C (N : Nat) : Ctx := ⟨U, 22, fun _ => true, gam [(107, (fB14.S N).con)], gamY []⟩
theorem cok (N : Nat) : (C N).Ok Tryz.prog := ⟨U_ok, GamOk.cons (fB14.ok N) (GamOk.nil), GamYOk.nil⟩
def code : Code := Tryz.f91.body.getD .skip
def outs : Sh := (.cons (.upd 0 70 (.cons (.val (.slice .byte)) s20)) (.cons (.val (.int .i64)) .nil))
end fA27
def fA27.run (N : Nat) (x : (List UInt8)) (x1 : Int) (x2 : Int) (most : Int) : Option T62 :=
  obind (fB14.run N (x, x1, x2) most false) fun (v, n_, _) =>
    some ((v.1, v.2.1, v.2.2, ()), IntKind.i64.wrap n_, ())
namespace fA27
def fn (N : Nat) : Sh.den ins → Option (Sh.den outs) := fun ((a, b, c, _), d, _) => fA27.run N a b c d
def S (N : Nat) : Fs := ⟨ins, outs, fn N⟩
def lam (N : Nat) : Pcs := pcs []
theorem pok (N : Nat) : (lam N).Ok Tryz.prog (C N) code := pcsOk_nil
theorem ok (N : Nat) : (S N).con.Ok Tryz.prog 91 := okF (F := S N) [] Tryz.func91 (by kernel_rfl) (by rfl) mix (cok N) (pok N) fun _ => by kernel_rfl
end fA27
namespace fC68
def ins : Sh := (.cons (.rbox 70 (.cons (.val (.slice .byte)) s20)) .nil)
def C (N : Nat) : Ctx := ⟨U, 9, fun _ => true, gam [], gamY []⟩
theorem cok (N : Nat) : (C N).Ok Tryz.prog := ⟨U_ok, GamOk.nil, GamYOk.nil⟩
def code : Code := Tryz.f92.body.getD .skip
def outs : Sh := (.cons (.val .bool) .nil)
end fC68
def fC68.run (N : Nat) (x : (List UInt8)) (x1 : Int) (x2 : Int) : Option (Bool × Unit) :=
  some (decide (x2 = (0 : Int)), ())
namespace fC68
def fn (N : Nat) : Sh.den ins → Option (Sh.den outs) := fun ((a, b, c, _), _) => fC68.run N a b c
def S (N : Nat) : Fs := ⟨ins, outs, fn N⟩
def lam (N : Nat) : Pcs := pcs []
theorem pok (N : Nat) : (lam N).Ok Tryz.prog (C N) code := pcsOk_nil
theorem ok (N : Nat) : (S N).con.Ok Tryz.prog 92 := okF (F := S N) [] Tryz.func92 (by kernel_rfl) (by rfl) mix (cok N) (pok N) fun _ => by kernel_rfl
end fC68
namespace fB32
def ins : Sh := (.cons s103 .nil)
def C (N : Nat) : Ctx := ⟨U, 12, fun _ => true, gam [(91, (fA27.S N).con)], gamY []⟩
theorem cok (N : Nat) : (C N).Ok Tryz.prog := ⟨U_ok, GamOk.cons (fA27.ok N) (GamOk.nil), GamYOk.nil⟩
def code : Code := Tryz.f59.body.getD .skip
def outs : Sh := (.cons (.upd 0 70 (.cons (.val (.slice .byte)) s20)) s94)
end fB32
def fB32.run (N : Nat) (x : (List UInt8)) (x1 : Int) (x2 : Int) : Option T63 :=
  obind (fA27.run N x x1 x2 (2147483647 : Int)) fun ((x3, x4, x5, _), n_, _) =>
    obind (fA27.run N x3 x4 x5 (2147483647 : Int)) fun ((x6, x7, x8, _), n1, _) =>
      some ((x6, x7, x8, ()), (n_, n1), ())
namespace fB32
def fn (N : Nat) : Sh.den ins → Option (Sh.den outs) := fun ((a, b, c, _), _) => fB32.run N a b c
def S (N : Nat) : Fs := ⟨ins, outs, fn N⟩
def lam (N : Nat) : Pcs := pcs []
theorem pok (N : Nat) : (lam N).Ok Tryz.prog (C N) code := pcsOk_nil
theorem ok (N : Nat) : (S N).con.Ok Tryz.prog 59 := okF (F := S N) [] Tryz.func59 (by kernel_rfl) (by rfl) mix (cok N) (pok N) fun _ => by kernel_rfl
end fB32
namespace fA76
def ins : Sh := s100
def C (N : Nat) : Ctx := ⟨U, 38, fun _ => true, gam [(107, (fB14.S N).con), (90, (fC78.S N).con)], gamY []⟩
theorem cok (N : Nat) : (C N).Ok Tryz.prog := ⟨U_ok, GamOk.cons (fB14.ok N) (GamOk.cons (fC78.ok N) (GamOk.nil)), GamYOk.nil⟩
def code : Code := Tryz.f108.body.getD .skip
def outs : Sh := s101
end fA76
def fA76.run (N : Nat) (r : T59) (most : Int) : Option T60 :=
  obind (fB14.run N r (IntKind.u64.wrap most) (decide (most < (0 : Int)))) fun (v, n_, _) =>
    bif !(decide (v.2.2 = (0 : Int))) then
      some (v, ([] : List UInt8), ())
    else
      bif decide (n_ > (IntKind.u64.wrap (IntKind.i64.wrap ((v.1.length : Int) - v.2.1)))) then
        some ((r.1, r.2.1, (10 : Int)), ([] : List UInt8), ())
      else
        obind (fC78.run N v (IntKind.i64.wrap n_)) fun (v1, l, _) =>
          some (v1, l, ())
namespace fA76
def fn (N : Nat) : Sh.den ins → Option (Sh.den outs) := fun (a, b, _) => fA76.run N a b
def S (N : Nat) : Fs := ⟨ins, outs, fn N⟩
def lam (N : Nat) : Pcs := pcs []
theorem pok (N : Nat) : (lam N).Ok Tryz.prog (C N) code := pcsOk_nil
theorem ok (N : Nat) : (S N).con.Ok Tryz.prog 108 := okF (F := S N) [] Tryz.func108 (by kernel_rfl) (by rfl) mix (cok N) (pok N) fun _ => by kernel_rfl
end fA76
namespace fB30
def ins : Sh := (.cons (.val (.slice .byte)) .nil)
def C (N : Nat) : Ctx := ⟨U, 20, fun _ => true, gam [], gamY []⟩
theorem cok (N : Nat) : (C N).Ok Tryz.prog := ⟨U_ok, GamOk.nil, GamYOk.nil⟩
def code : Code := Tryz.f126.body.getD .skip
def outs : Sh := (.cons (.val (.int .u64)) .nil)
end fB30
namespace fD42
def ins : Sh := (.cons (.val (.slice .byte)) s10)
def ts : List Tmp := [0, 3, 4]
def asg : List Tmp := [3, 4, 5, 6, 7, 8, 9, 10, 11, 12, 13, 14, 15, 16, 17, 18]
def C (N : Nat) : Ctx := { fB30.C N with may := fun t => asg.any (Nat.beq t) }
def code : Code := loopBody (sub fB30.code [true, true, false, true, false])
theorem cok (N : Nat) : (C N).Ok Tryz.prog := okC (fB30.cok N) _
def alts : List Alt := [⟨(.exit 0), [3], (.cons (.val (.int .u64)) .nil)⟩]
end fD42
def fD42.go (N : Nat) : Nat → (List UInt8) → Int → Int → Option ((Int × Unit))
  | 0, _, _, _ => none
  | fuel + 1, b, n_, i =>
    bif decide (i < (b.length : Int)) then
      bif inB i b.length then
        fD42.go N fuel b (IntKind.u64.wrap ((IntKind.u64.wrap (n_ * (256 : Int))) + (IntKind.u64.wrap ((b.getD i.toNat (0 : UInt8)).toNat : Int)))) (IntKind.i64.wrap (i + (1 : Int)))
      else none
    else some (n_, ())
namespace fD42
def g (N n : Nat) : Sh.den ins → Option (altsDen alts) := fun (a, b, c, _) => fD42.go N n a b c
def P (N : Nat) : Ps := ⟨ts, ins, asg, alts, g N N⟩
def lam (N : Nat) : Pcs := pcs []
theorem pok (N : Nat) : (lam N).Ok Tryz.prog (C N) code := pcsOk_nil
theorem ok (N : Nat) : ((P N).pc (fB30.C N)).Ok Tryz.prog (fB30.C N) (.loop code) := okL (F := P N) (g N) (fB30.cok N) mix (pok N) (fun _ => rfl) rfl fun _ _ => by kernel_rfl
end fD42
def fB30.run (N : Nat) (b : (List UInt8)) : Option (Int × Unit) :=
  obind (fD42.go N N b (0 : Int) (0 : Int)) fun (n_, _) =>
    some (n_, ())
namespace fB30
def fn (N : Nat) : Sh.den ins → Option (Sh.den outs) := fun (a, _) => fB30.run N a
def S (N : Nat) : Fs := ⟨ins, outs, fn N⟩
def lam (N : Nat) : Pcs := pcs [([true, true, false, true, false], (fD42.P N).pc (C N))]
theorem pok (N : Nat) : (lam N).Ok Tryz.prog (C N) code := pcsOk_cons (c1 := .loop fD42.code) (by kernel_rfl) (fD42.ok N) (pcsOk_nil)
theorem ok (N : Nat) : (S N).con.Ok Tryz.prog 126 := okF (F := S N) [] Tryz.func126 (by kernel_rfl) (by rfl) mix (cok N) (pok N) fun _ => by kernel_rfl
end fB30
namespace fD8
def ins : Sh := (.cons (.val (.slice .byte)) .nil)
def C (N : Nat) : Ctx := ⟨U, 86, fun _ => true, gam [(126, (fB30.S N).con)], gamY []⟩
theorem cok (N : Nat) : (C N).Ok Tryz.prog := ⟨U_ok, GamOk.cons (fB30.ok N) (GamOk.nil), GamYOk.nil⟩
def code : Code := Tryz.f118.body.getD .skip
def outs : Sh := (.cons (.val (.pair (.int .i64) (.pair .bool (.pair (.int .i64) .str)))) (.cons (.val (.int .i64)) .nil))
end fD8
namespace fD75
def ins : Sh := s105
def ts : List Tmp := [0, 2]
def asg : List Tmp := [3, 5, 6, 7, 8, 9, 10, 11, 12, 13, 14]
def C (N : Nat) : Ctx := { fD8.C N with may := fun t => asg.any (Nat.beq t) }
def code : Code := (sub fD8.code [true, false]).getD .skip
theorem cok (N : Nat) : (C N).Ok Tryz.prog := okC (fD8.cok N) _
def alts : List Alt := [⟨.normal, [], (.cons (.upd 0 133 s95) .nil)⟩, ⟨.ret, [3], s106⟩]
end fD75
def fD75.run (N : Nat) (b : (List UInt8)) (jA : Int) (bool : Bool) (int : Int) (text : (List UInt8)) : Option T65 :=
  bif decide ((b.length : Int) > (0 : Int)) then
    bif inB (0 : Int) b.length then
      bif decide (((b.getD 0 (0 : UInt8)).toNat : Int) = (0 : Int)) then
        some (.inr (((0 : Int), false, (0 : Int), ([] : List UInt8), ()), (1 : Int), ()))
      else some (.inl ((jA, bool, int, text, ()), ()))
    else none
  else some (.inl ((jA, bool, int, text, ()), ()))
namespace fD75
def fn (N : Nat) : Sh.den ins → Option (altsDen alts) := fun (a, (b, c, d, e, _), _) => fD75.run N a b c d e
def P (N : Nat) : Ps := ⟨ts, ins, asg, alts, fn N⟩
def lam (N : Nat) : Pcs := pcs []
theorem pok (N : Nat) : (lam N).Ok Tryz.prog (C N) code := pcsOk_nil
theorem ok (N : Nat) : ((P N).pc (fD8.C N)).Ok Tryz.prog (fD8.C N) code := okP (F := P N) (fD8.cok N) mix (pok N) fun _ => by kernel_rfl
end fD75
namespace fA71
def ins : Sh := (.cons (.val (.slice .byte)) .nil)
def ts : List Tmp := [0]
def asg : List Tmp := [15, 16, 17, 18, 19, 20, 21, 22, 23, 24, 25, 26, 27, 28, 29]
def C (N : Nat) : Ctx := { fD8.C N with may := fun t => asg.any (Nat.beq t) }
def code : Code := (sub fD8.code [true, true, false, false]).getD .skip
theorem cok (N : Nat) : (C N).Ok Tryz.prog := okC (fD8.cok N) _
def alts : List Alt := [⟨.normal, [29], (.cons (.val .bool) .nil)⟩]
end fA71
def fA71.run (N : Nat) (b : (List UInt8)) : Option ((Bool × Unit)) :=
  bif decide ((b.length : Int) > (1 : Int)) then
    bif inB (0 : Int) b.length then
      bif decide (((b.getD 0 (0 : UInt8)).toNat : Int) = (1 : Int)) then
        bif inB (1 : Int) b.length then
          some (decide (((b.getD 1 (0 : UInt8)).toNat : Int) < (2 : Int)), ())
        else none
      else some (false, ())
    else none
  else some (false, ())
namespace fA71
def fn (N : Nat) : Sh.den ins → Option (altsDen alts) := fun (a, _) => fA71.run N a
def P (N : Nat) : Ps := ⟨ts, ins, asg, alts, fn N⟩
def lam (N : Nat) : Pcs := pcs []
theorem pok (N : Nat) : (lam N).Ok Tryz.prog (C N) code := pcsOk_nil
theorem ok (N : Nat) : ((P N).pc (fD8.C N)).Ok Tryz.prog (fD8.C N) code := okP (F := P N) (fD8.cok N) mix (pok N) fun _ => by kernel_rfl
end fA71
namespace fC71
def ins : Sh := s105
def ts : List Tmp := [0, 2]
def asg : List Tmp := [3, 35, 36, 37, 38, 39, 40, 41, 42, 43, 44, 45, 46, 47, 48]
def C (N : Nat) : Ctx := { fD8.C N with may := fun t => asg.any (Nat.beq t) }
def code : Code := (sub fD8.code [true, true, true, false]).getD .skip
theorem cok (N : Nat) : (C N).Ok Tryz.prog := okC (fD8.cok N) _
def alts : List Alt := [⟨.normal, [], (.cons (.upd 0 133 s95) .nil)⟩, ⟨.ret, [3], s106⟩]
end fC71
def fC71.run (N : Nat) (b : (List UInt8)) (jA : Int) (bool : Bool) (int : Int) (text : (List UInt8)) : Option T65 :=
  bif decide ((b.length : Int) > (8 : Int)) then
    bif inB (0 : Int) b.length then
      bif decide (((b.getD 0 (0 : UInt8)).toNat : Int) = (2 : Int)) then
        bif okB (1 : Int) (9 : Int) b.length then
          obind (fB30.run N ((b.take 9).drop 1)) fun (n_, _) =>
            some (.inr (((2 : Int), false, IntKind.i64.wrap n_, ([] : List UInt8), ()), (9 : Int), ()))
        else none
      else some (.inl ((jA, bool, int, text, ()), ()))
    else none
  else some (.inl ((jA, bool, int, text, ()), ()))
namespace fC71
def fn (N : Nat) : Sh.den ins → Option (altsDen alts) := fun (a, (b, c, d, e, _), _) => fC71.run N a b c d e
def P (N : Nat) : Ps := ⟨ts, ins, asg, alts, fn N⟩
def lam (N : Nat) : Pcs := pcs []
theorem pok (N : Nat) : (lam N).Ok Tryz.prog (C N) code := pcsOk_nil
theorem ok (N : Nat) : ((P N).pc (fD8.C N)).Ok Tryz.prog (fD8.C N) code := okP (F := P N) (fD8.cok N) mix (pok N) fun _ => by kernel_rfl
end fC71
namespace fC70
def ins : Sh := (.cons (.val (.slice .byte)) .nil)
def ts : List Tmp := [0]
def asg : List Tmp := [49, 50, 51, 52, 53, 54, 55, 56, 57, 58, 59, 60, 61, 62, 63, 64, 65, 66, 67, 68, 69, 70, 71, 72, 73]
def C (N : Nat) : Ctx := { fD8.C N with may := fun t => asg.any (Nat.beq t) }
def code : Code := (sub fD8.code [true, true, true, true, false, false]).getD .skip
theorem cok (N : Nat) : (C N).Ok Tryz.prog := okC (fD8.cok N) _
def alts : List Alt := [⟨.normal, [73], (.cons (.val .bool) .nil)⟩]
end fC70
def fC70.run (N : Nat) (b : (List UInt8)) : Option ((Bool × Unit)) :=
  bif decide ((b.length : Int) > (1 : Int)) then
    bif inB (0 : Int) b.length then
      bif decide (((b.getD 0 (0 : UInt8)).toNat : Int) = (3 : Int)) then
        bif inB (1 : Int) b.length then
          bif decide (((b.getD 1 (0 : UInt8)).toNat : Int) ≤ (64 : Int)) then
            bif inB (1 : Int) b.length then
              some (decide ((b.length : Int) ≥ (IntKind.i64.wrap ((2 : Int) + (IntKind.i64.wrap ((b.getD 1 (0 : UInt8)).toNat : Int))))), ())
            else none
          else some (false, ())
        else none
      else some (false, ())
    else none
  else some (false, ())
namespace fC70
def fn (N : Nat) : Sh.den ins → Option (altsDen alts) := fun (a, _) => fC70.run N a
def P (N : Nat) : Ps := ⟨ts, ins, asg, alts, fn N⟩
def lam (N : Nat) : Pcs := pcs []
theorem pok (N : Nat) : (lam N).Ok Tryz.prog (C N) code := pcsOk_nil
theorem ok (N : Nat) : ((P N).pc (fD8.C N)).Ok Tryz.prog (fD8.C N) code := okP (F := P N) (fD8.cok N) mix (pok N) fun _ => by kernel_rfl
end fC70
def fD8.run (N : Nat) (b : (List UInt8)) : Option T66 :=
  obind (fD75.run N b (0 : Int) false (0 : Int) ([] : List UInt8)) fun y => match y with
  | .inl ((jA, bool, int, text, _), _) =>
      obind (fA71.run N b) fun (t29, _) =>
        bif t29 then
          bif inB (1 : Int) b.length then
            some (((1 : Int), decide (((b.getD 1 (0 : UInt8)).toNat : Int) = (1 : Int)), (0 : Int), ([] : List UInt8)), (2 : Int), ())
          else none
        else
          obind (fC71.run N b jA bool int text) fun y => match y with
          | .inl ((jA2, bool2, int2, text2, _), _) =>
              obind (fC70.run N b) fun (t73, _) =>
                bif t73 then
                  bif inB (1 : Int) b.length then
                    bif okB (2 : Int) (IntKind.i64.wrap ((2 : Int) + (IntKind.i64.wrap ((b.getD 1 (0 : UInt8)).toNat : Int)))) b.length then
                      some (((3 : Int), false, (0 : Int), (b.take (IntKind.i64.wrap ((2 : Int) + (IntKind.i64.wrap ((b.getD 1 (0 : UInt8)).toNat : Int)))).toNat).drop 2), IntKind.i64.wrap ((2 : Int) + (IntKind.i64.wrap ((b.getD 1 (0 : UInt8)).toNat : Int))), ())
                    else none
                  else none
                else some (((0 : Int), false, (0 : Int), ([] : List UInt8)), (0 : Int), ())
          | .inr ((jA3, bool3, int3, text3, _), t31, _) =>
              some ((jA3, bool3, int3, text3), t31, ())
  | .inr ((jA1, bool1, int1, text1, _), t3, _) =>
      some ((jA1, bool1, int1, text1), t3, ())
namespace fD8
def fn (N : Nat) : Sh.den ins → Option (Sh.den outs) := fun (a, _) => fD8.run N a
def S (N : Nat) : Fs := ⟨ins, outs, fn N⟩
def lam (N : Nat) : Pcs := pcs [([true, false], (fD75.P N).pc (C N)), ([true, true, false, false], (fA71.P N).pc (C N)), ([true, true, true, false], (fC71.P N).pc (C N)), ([true, true, true, true, false, false], (fC70.P N).pc (C N))]
theorem pok (N : Nat) : (lam N).Ok Tryz.prog (C N) code := pcsOk_cons (c1 := fD75.code) (by kernel_rfl) (fD75.ok N) (pcsOk_cons (c1 := fA71.code) (by kernel_rfl) (fA71.ok N) (pcsOk_cons (c1 := fC71.code) (by kernel_rfl) (fC71.ok N) (pcsOk_cons (c1 := fC70.code) (by kernel_rfl) (fC70.ok N) (pcsOk_nil))))
theorem ok (N : Nat) : (S N).con.Ok Tryz.prog 118 := okF (F := S N) [] Tryz.func118 (by kernel_rfl) (by rfl) mix (cok N) (pok N) fun _ => by kernel_rfl
end fD8
namespace fC19
def ins : Sh := (.cons (.val (.slice .byte)) .nil)
def C (N : Nat) : Ctx := ⟨U, 47, fun _ => true, gam [(118, (fD8.S N).con)], gamY []⟩
theorem cok (N : Nat) : (C N).Ok Tryz.prog := ⟨U_ok, GamOk.cons (fD8.ok N) (GamOk.nil), GamYOk.nil⟩
def code : Code := Tryz.f109.body.getD .skip
def outs : Sh := s61
end fC19
namespace fC18
def ins : Sh := s62
def ts : List Tmp := [0, 4, 5, 6]
def asg : List Tmp := [2, 3, 4, 5, 6, 7, 8, 18, 19, 20, 21, 22, 23, 24, 25, 26, 27, 28, 29, 30, 31, 32, 33, 34, 35, 36, 37, 38, 39, 40, 41]
def C (N : Nat) : Ctx := { fC19.C N with may := fun t => asg.any (Nat.beq t) }
def code : Code := loopBody (sub fC19.code [true, true, true, true, false, true, false])
theorem cok (N : Nat) : (C N).Ok Tryz.prog := okC (fC19.cok N) _
def alts : List Alt := [⟨.ret, [2, 3], s61⟩, ⟨(.exit 0), [4, 5], s61⟩]
end fC18
def fC18.go (N : Nat) : Nat → (List UInt8) → (List T4) → Int → Int → Option (T35 ⊕ T35)
  | 0, _, _, _, _ => none
  | fuel + 1, b, row, jO_, i =>
    bif inB (0 : Int) b.length then
      bif decide (i < (IntKind.i64.wrap ((b.getD 0 (0 : UInt8)).toNat : Int))) then
        bif okB jO_ (b.length : Int) b.length then
          obind (fD8.run N (b.drop jO_.toNat)) fun (v, n_, _) =>
            bif decide (n_ = (0 : Int)) then
              some (.inl (([] : List T4), (30 : Int), ()))
            else
              bif room (row.length + 1) 40 then
                fC18.go N fuel b (row ++ ([v] : List T4)) (IntKind.i64.wrap (jO_ + n_)) (IntKind.i64.wrap (i + (1 : Int)))
              else none
        else none
      else some (.inr (row, jO_, ()))
    else none
namespace fC18
def g (N n : Nat) : Sh.den ins → Option (altsDen alts) := fun (a, b, c, d, _) => fC18.go N n a b c d
def P (N : Nat) : Ps := ⟨ts, ins, asg, alts, g N N⟩
def lam (N : Nat) : Pcs := pcs []
theorem pok (N : Nat) : (lam N).Ok Tryz.prog (C N) code := pcsOk_nil
theorem ok (N : Nat) : ((P N).pc (fC19.C N)).Ok Tryz.prog (fC19.C N) (.loop code) := okL (F := P N) (g N) (fC19.cok N) mix (pok N) (fun _ => rfl) rfl fun _ _ => by kernel_rfl
end fC18
def fC19.run (N : Nat) (b : (List UInt8)) : Option T35 :=
  bif decide ((b.length : Int) = (0 : Int)) then
    some (([] : List T4), (30 : Int), ())
  else
    bif inB (0 : Int) b.length then
      bif decide (((b.getD 0 (0 : UInt8)).toNat : Int) > (16 : Int)) then
        some (([] : List T4), (30 : Int), ())
      else
        obind (fC18.go N N b ([] : List T4) (1 : Int) (0 : Int)) fun y => match y with
        | .inl (t2, t3, _) =>
            some (t2, t3, ())
        | .inr (row, jO_, _) =>
            bif decide (jO_ < (b.length : Int)) then
              some (([] : List T4), (30 : Int), ())
            else some (row, (0 : Int), ())
    else none
namespace fC19
def fn (N : Nat) : Sh.den ins → Option (Sh.den outs) := fun (a, _) => fC19.run N a
def S (N : Nat) : Fs := ⟨ins, outs, fn N⟩
def lam (N : Nat) : Pcs := pcs [([true, true, true, true, false, true, false], (fC18.P N).pc (C N))]
theorem pok (N : Nat) : (lam N).Ok Tryz.prog (C N) code := pcsOk_cons (c1 := .loop fC18.code) (by kernel_rfl) (fC18.ok N) (pcsOk_nil)
theorem ok (N : Nat) : (S N).con.Ok Tryz.prog 109 := okF (F := S N) [] Tryz.func109 (by kernel_rfl) (by rfl) mix (cok N) (pok N) fun _ => by kernel_rfl
end fC19
namespace fA67
def ins : Sh := (.cons s103 (.cons (.val .bool) .nil))
def C (N : Nat) : Ctx := ⟨U, 14, fun _ => true, gam [(92, (fC68.S N).con)], gamY []⟩
theorem cok (N : Nat) : (C N).Ok Tryz.prog := ⟨U_ok, GamOk.cons (fC68.ok N) (GamOk.nil), GamYOk.nil⟩
def code : Code := Tryz.f95.body.getD .skip
def outs : Sh := (.cons (.upd 0 70 (.cons (.val (.slice .byte)) s20)) .nil)
end fA67
def fA67.run (N : Nat) (x : (List UInt8)) (x1 : Int) (x2 : Int) (ok_ : Bool) : Option (T57 × Unit) :=
  bif !ok_ then
    obind (fC68.run N x x1 x2) fun (b, _) =>
      bif b then
        some ((x, x1, (170 : Int), ()), ())
      else some ((x, x1, x2, ()), ())
  else some ((x, x1, x2, ()), ())
namespace fA67
def fn (N : Nat) : Sh.den ins → Option (Sh.den outs) := fun ((a, b, c, _), d, _) => fA67.run N a b c d
def S (N : Nat) : Fs := ⟨ins, outs, fn N⟩
def lam (N : Nat) : Pcs := pcs []
theorem pok (N : Nat) : (lam N).Ok Tryz.prog (C N) code := pcsOk_nil
theorem ok (N : Nat) : (S N).con.Ok Tryz.prog 95 := okF (F := S N) [] Tryz.func95 (by kernel_rfl) (by rfl) mix (cok N) (pok N) fun _ => by kernel_rfl
end fA67
namespace fC73
def ins : Sh := (.cons s103 .nil)
def C (N : Nat) : Ctx := ⟨U, 29, fun _ => true, gam [(108, (fA76.S N).con), (109, (fC19.S N).con), (95, (fA67.S N).con)], gamY []⟩
theorem cok (N : Nat) : (C N).Ok Tryz.prog := ⟨U_ok, GamOk.cons (fA76.ok N) (GamOk.cons (fC19.ok N) (GamOk.cons (fA67.ok N) (GamOk.nil))), GamYOk.nil⟩
def code : Code := Tryz.f93.body.getD .skip
def outs : Sh := (.cons (.upd 0 70 (.cons (.val (.slice .byte)) s20)) s63)
end fC73
def fC73.run (N : Nat) (x : (List UInt8)) (x1 : Int) (x2 : Int) : Option T67 :=
  obind (fA76.run N (x, x1, x2) (16777216 : Int)) fun (v, l, _) =>
    obind (fC19.run N l) fun (l1, n_, _) =>
      obind (fA67.run N v.1 v.2.1 v.2.2 (decide (n_ = (0 : Int)))) fun ((x3, x4, x5, _), _) =>
        some ((x3, x4, x5, ()), l1, ())
namespace fC73
def fn (N : Nat) : Sh.den ins → Option (Sh.den outs) := fun ((a, b, c, _), _) => fC73.run N a b c
def S (N : Nat) : Fs := ⟨ins, outs, fn N⟩
def lam (N : Nat) : Pcs := pcs []
theorem pok (N : Nat) : (lam N).Ok Tryz.prog (C N) code := pcsOk_nil
theorem ok (N : Nat) : (S N).con.Ok Tryz.prog 93 := okF (F := S N) [] Tryz.func93 (by kernel_rfl) (by rfl) mix (cok N) (pok N) fun _ => by kernel_rfl
end fC73
namespace fB67
def ins : Sh := (.cons s103 .nil)
def C (N : Nat) : Ctx := ⟨U, 13, fun _ => true, gam [(29, (fB4.S N).con)], gamY []⟩
theorem cok (N : Nat) : (C N).Ok Tryz.prog := ⟨U_ok, GamOk.cons (fB4.ok N) (GamOk.nil), GamYOk.nil⟩
def code : Code := Tryz.f94.body.getD .skip
def outs : Sh := (.cons (.upd 0 70 (.cons (.val (.slice .byte)) s20)) s97)
end fB67
def fB67.run (N : Nat) (x : (List UInt8)) (x1 : Int) (x2 : Int) : Option T63 :=
  obind (fB4.run N x x1 x2 (8 : Int)) fun ((x3, x4, x5, _), n_, _) =>
    obind (fB4.run N x3 x4 x5 (4 : Int)) fun ((x6, x7, x8, _), n1, _) =>
      some ((x6, x7, x8, ()), (n_, IntKind.u32.wrap n1), ())
namespace fB67
def fn (N : Nat) : Sh.den ins → Option (Sh.den outs) := fun ((a, b, c, _), _) => fB67.run N a b c
def S (N : Nat) : Fs := ⟨ins, outs, fn N⟩
def lam (N : Nat) : Pcs := pcs []
theorem pok (N : Nat) : (lam N).Ok Tryz.prog (C N) code := pcsOk_nil
theorem ok (N : Nat) : (S N).con.Ok Tryz.prog 94 := okF (F := S N) [] Tryz.func94 (by kernel_rfl) (by rfl) mix (cok N) (pok N) fun _ => by kernel_rfl
end fB67
namespace fB20
def ins : Sh := (.cons s103 .nil)
def C (N : Nat) : Ctx := ⟨U, 63, fun _ => true, gam [(91, (fA27.S N).con), (92, (fC68.S N).con), (59, (fB32.S N).con), (29, (fB4.S N).con), (93, (fC73.S N).con), (94, (fB67.S N).con)], gamY []⟩
theorem cok (N : Nat) : (C N).Ok Tryz.prog := ⟨U_ok, GamOk.cons (fA27.ok N) (GamOk.cons (fC68.ok N) (GamOk.cons (fB32.ok N) (GamOk.cons (fB4.ok N) (GamOk.cons (fC73.ok N) (GamOk.cons (fB67.ok N) (GamOk.nil)))))), GamYOk.nil⟩
def code : Code := Tryz.f57.body.getD .skip
def outs : Sh := (.cons (.upd 0 70 (.cons (.val (.slice .byte)) s20)) s86)
end fB20
namespace fB55
def ins : Sh := (.cons s103 (.cons (.box 28 s107) s20))
def ts : List Tmp := [0, 3, 4, 5]
def asg : List Tmp := [5, 6, 11, 12, 13, 14, 15, 16, 17, 18, 19, 20, 21, 22, 23, 24, 25, 26, 27, 28, 29, 30, 31, 32, 33, 34, 35, 36, 37, 38]
def C (N : Nat) : Ctx := { fB20.C N with may := fun t => asg.any (Nat.beq t) }
def code : Code := loopBody (sub fB20.code [true, true, true, false, true, false])
theorem cok (N : Nat) : (C N).Ok Tryz.prog := okC (fB20.cok N) _
def alts : List Alt := [⟨(.exit 0), [], s108⟩]
end fB55
def fB55.go (N : Nat) : Nat → (List UInt8) → Int → Int → (List T7) → (List T8) → Int → Int → Option (T69)
  | 0, _, _, _, _, _, _, _ => none
  | fuel + 1, x, x1, x2, jR, jS, n_, i =>
    bif decide (i < n_) then
      obind (fC68.run N x x1 x2) fun (b, _) =>
        bif b then
          obind (fB32.run N x x1 x2) fun ((x3, x4, x5, _), v, _) =>
            obind (fB4.run N x3 x4 x5 (4 : Int)) fun ((x6, x7, x8, _), n1, _) =>
              obind (fC73.run N x6 x7 x8) fun ((x9, x10, x11, _), l, _) =>
                bif room (jR.length + 1) 64 then
                  fB55.go N fuel x9 x10 x11 (jR ++ ([(v, ((0 : Int), IntKind.u32.wrap n1), l, (0 : Int))] : List T7)) jS n_ (IntKind.i64.wrap (i + (1 : Int)))
                else none
        else some ((x, x1, x2, ()), (jR, jS, ()), ())
    else some ((x, x1, x2, ()), (jR, jS, ()), ())
namespace fB55
def g (N n : Nat) : Sh.den ins → Option (altsDen alts) := fun ((a, b, c, _), (d, e, _), f, g, _) => fB55.go N n a b c d e f g
def P (N : Nat) : Ps := ⟨ts, ins, asg, alts, g N N⟩
def lam (N : Nat) : Pcs := pcs []
theorem pok (N : Nat) : (lam N).Ok Tryz.prog (C N) code := pcsOk_nil
theorem ok (N : Nat) : ((P N).pc (fB20.C N)).Ok Tryz.prog (fB20.C N) (.loop code) := okL (F := P N) (g N) (fB20.cok N) mix (pok N) (fun _ => rfl) rfl fun _ _ => by kernel_rfl
end fB55
namespace fD56
def ins : Sh := (.cons s103 (.cons (.box 28 s107) s20))
def ts : List Tmp := [0, 3, 4, 7]
def asg : List Tmp := [7, 8, 41, 42, 43, 44, 45, 46, 47, 48, 49, 50, 51, 52, 53, 54, 55, 56, 57, 58, 59, 60, 61]
def C (N : Nat) : Ctx := { fB20.C N with may := fun t => asg.any (Nat.beq t) }
def code : Code := loopBody (sub fB20.code [true, true, true, true, true, false, true, false])
theorem cok (N : Nat) : (C N).Ok Tryz.prog := okC (fB20.cok N) _
def alts : List Alt := [⟨(.exit 2), [], s108⟩]
end fD56
def fD56.go (N : Nat) : Nat → (List UInt8) → Int → Int → (List T7) → (List T8) → Int → Int → Option (T69)
  | 0, _, _, _, _, _, _, _ => none
  | fuel + 1, x, x1, x2, jR, jS, n_, i =>
    bif decide (i < n_) then
      obind (fC68.run N x x1 x2) fun (b, _) =>
        bif b then
          obind (fB32.run N x x1 x2) fun ((x3, x4, x5, _), v, _) =>
            obind (fB67.run N x3 x4 x5) fun ((x6, x7, x8, _), v1, _) =>
              bif room (jS.length + 1) 32 then
                fD56.go N fuel x6 x7 x8 jR (jS ++ ([(v, v1)] : List T8)) n_ (IntKind.i64.wrap (i + (1 : Int)))
              else none
        else some ((x, x1, x2, ()), (jR, jS, ()), ())
    else some ((x, x1, x2, ()), (jR, jS, ()), ())
namespace fD56
def g (N n : Nat) : Sh.den ins → Option (altsDen alts) := fun ((a, b, c, _), (d, e, _), f, g, _) => fD56.go N n a b c d e f g
def P (N : Nat) : Ps := ⟨ts, ins, asg, alts, g N N⟩
def lam (N : Nat) : Pcs := pcs []
theorem pok (N : Nat) : (lam N).Ok Tryz.prog (C N) code := pcsOk_nil
theorem ok (N : Nat) : ((P N).pc (fB20.C N)).Ok Tryz.prog (fB20.C N) (.loop code) := okL (F := P N) (g N) (fB20.cok N) mix (pok N) (fun _ => rfl) rfl fun _ _ => by kernel_rfl
end fD56
def fB20.run (N : Nat) (x : (List UInt8)) (x1 : Int) (x2 : Int) : Option T70 :=
  obind (fA27.run N x x1 x2 (16777216 : Int)) fun ((x3, x4, x5, _), n_, _) =>
    obind (fB55.go N N x3 x4 x5 ([] : List T7) ([] : List T8) n_ (0 : Int)) fun ((x6, x7, x8, _), (jR, jS, _), _) =>
      obind (fA27.run N x6 x7 x8 (16777216 : Int)) fun ((x9, x10, x11, _), n1, _) =>
        obind (fD56.go N N x9 x10 x11 jR jS n1 (0 : Int)) fun ((x12, x13, x14, _), (jR1, jS1, _), _) =>
          some ((x12, x13, x14, ()), (jR1, jS1), ())
namespace fB20
def fn (N : Nat) : Sh.den ins → Option (Sh.den outs) := fun ((a, b, c, _), _) => fB20.run N a b c
def S (N : Nat) : Fs := ⟨ins, outs, fn N⟩
def lam (N : Nat) : Pcs := pcs [([true, true, true, false, true, false], (fB55.P N).pc (C N)), ([true, true, true, true, true, false, true, false], (fD56.P N).pc (C N))]
theorem pok (N : Nat) : (lam N).Ok Tryz.prog (C N) code := pcsOk_cons (c1 := .loop fB55.code) (by kernel_rfl) (fB55.ok N) (pcsOk_cons (c1 := .loop fD56.code) (by kernel_rfl) (fD56.ok N) (pcsOk_nil))
theorem ok (N : Nat) : (S N).con.Ok Tryz.prog 57 := okF (F := S N) [] Tryz.func57 (by kernel_rfl) (by rfl) mix (cok N) (pok N) fun _ => by kernel_rfl
end fB20
namespace fC65
def ins : Sh := (.cons s103 .nil)
def C (N : Nat) : Ctx := ⟨U, 12, fun _ => true, gam [(29, (fB4.S N).con), (95, (fA67.S N).con)], gamY []⟩
theorem cok (N : Nat) : (C N).Ok Tryz.prog := ⟨U_ok, GamOk.cons (fB4.ok N) (GamOk.cons (fA67.ok N) (GamOk.nil)), GamYOk.nil⟩
def code : Code := Tryz.f58.body.getD .skip
def outs : Sh := (.cons (.upd 0 70 (.cons (.val (.slice .byte)) s20)) (.cons (.val .bool) .nil))
end fC65
def fC65.run (N : Nat) (x : (List UInt8)) (x1 : Int) (x2 : Int) : Option T71 :=
  obind (fB4.run N x x1 x2 (1 : Int)) fun ((x3, x4, x5, _), n_, _) =>
    obind (fA67.run N x3 x4 x5 (decide (n_ < (2 : Int)))) fun ((x6, x7, x8, _), _) =>
      some ((x6, x7, x8, ()), decide (n_ = (1 : Int)), ())
namespace fC65
def fn (N : Nat) : Sh.den ins → Option (Sh.den outs) := fun ((a, b, c, _), _) => fC65.run N a b c
def S (N : Nat) : Fs := ⟨ins, outs, fn N⟩
def lam (N : Nat) : Pcs := pcs []
theorem pok (N : Nat) : (lam N).Ok Tryz.prog (C N) code := pcsOk_nil
theorem ok (N : Nat) : (S N).con.Ok Tryz.prog 58 := okF (F := S N) [] Tryz.func58 (by kernel_rfl) (by rfl) mix (cok N) (pok N) fun _ => by kernel_rfl
end fC65
namespace fA19
def ins : Sh := (.cons s103 .nil)
def C (N : Nat) : Ctx := ⟨U, 32, fun _ => true, gam [(91, (fA27.S N).con), (92, (fC68.S N).con), (94, (fB67.S N).con), (93, (fC73.S N).con), (29, (fB4.S N).con)], gamY []⟩
theorem cok (N : Nat) : (C N).Ok Tryz.prog := ⟨U_ok, GamOk.cons (fA27.ok N) (GamOk.cons (fC68.ok N) (GamOk.cons (fB67.ok N) (GamOk.cons (fC73.ok N) (GamOk.cons (fB4.ok N) (GamOk.nil))))), GamYOk.nil⟩
def code : Code := Tryz.f60.body.getD .skip
def outs : Sh := s109
end fA19
namespace fA30
def ins : Sh := (.cons s103 (.cons (.own 93 (.pair (.pair (.int .u64) (.int .u32)) (.pair (.slice (.pair (.int .i64) (.pair .bool (.pair (.int .i64) .str)))) (.int .u64)))) s20))
def ts : List Tmp := [0, 3, 4, 5]
def asg : List Tmp := [3, 5, 6, 9, 10, 11, 12, 13, 14, 15, 16, 17, 18, 19, 20, 21, 22, 23, 24, 25, 26, 27, 28, 29, 30]
def C (N : Nat) : Ctx := { fA19.C N with may := fun t => asg.any (Nat.beq t) }
def code : Code := loopBody (sub fA19.code [true, true, true, false, true, false])
theorem cok (N : Nat) : (C N).Ok Tryz.prog := okC (fA19.cok N) _
def alts : List Alt := [⟨(.exit 0), [3], s109⟩]
end fA30
def fA30.go (N : Nat) : Nat → (List UInt8) → Int → Int → (List T6) → Int → Int → Option (T72)
  | 0, _, _, _, _, _, _ => none
  | fuel + 1, x, x1, x2, l, n_, i =>
    bif decide (i < n_) then
      obind (fC68.run N x x1 x2) fun (b, _) =>
        bif b then
          obind (fB67.run N x x1 x2) fun ((x3, x4, x5, _), v, _) =>
            obind (fC73.run N x3 x4 x5) fun ((x6, x7, x8, _), l1, _) =>
              obind (fB4.run N x6 x7 x8 (8 : Int)) fun ((x9, x10, x11, _), n1, _) =>
                bif room (l.length + 1) 48 then
                  fA30.go N fuel x9 x10 x11 (l ++ ([(v, l1, n1)] : List T6)) n_ (IntKind.i64.wrap (i + (1 : Int)))
                else none
        else some ((x, x1, x2, ()), l, ())
    else some ((x, x1, x2, ()), l, ())
namespace fA30
def g (N n : Nat) : Sh.den ins → Option (altsDen alts) := fun ((a, b, c, _), d, e, f, _) => fA30.go N n a b c d e f
def P (N : Nat) : Ps := ⟨ts, ins, asg, alts, g N N⟩
def lam (N : Nat) : Pcs := pcs []
theorem pok (N : Nat) : (lam N).Ok Tryz.prog (C N) code := pcsOk_nil
theorem ok (N : Nat) : ((P N).pc (fA19.C N)).Ok Tryz.prog (fA19.C N) (.loop code) := okL (F := P N) (g N) (fA19.cok N) mix (pok N) (fun _ => rfl) rfl fun _ _ => by kernel_rfl
end fA30
def fA19.run (N : Nat) (x : (List UInt8)) (x1 : Int) (x2 : Int) : Option T72 :=
  obind (fA27.run N x x1 x2 (16777216 : Int)) fun ((x3, x4, x5, _), n_, _) =>
    obind (fA30.go N N x3 x4 x5 ([] : List T6) n_ (0 : Int)) fun ((x6, x7, x8, _), l, _) =>
      some ((x6, x7, x8, ()), l, ())
namespace fA19
def fn (N : Nat) : Sh.den ins → Option (Sh.den outs) := fun ((a, b, c, _), _) => fA19.run N a b c
def S (N : Nat) : Fs := ⟨ins, outs, fn N⟩
def lam (N : Nat) : Pcs := pcs [([true, true, true, false, true, false], (fA30.P N).pc (C N))]
theorem pok (N : Nat) : (lam N).Ok Tryz.prog (C N) code := pcsOk_cons (c1 := .loop fA30.code) (by kernel_rfl) (fA30.ok N) (pcsOk_nil)
theorem ok (N : Nat) : (S N).con.Ok Tryz.prog 60 := okF (F := S N) [] Tryz.func60 (by kernel_rfl) (by rfl) mix (cok N) (pok N) fun _ => by kernel_rfl
end fA19
namespace fA32
def ins : Sh := (.cons s103 s98)
def C (N : Nat) : Ctx := ⟨U, 80, fun _ => true, gam [(29, (fB4.S N).con), (57, (fB20.S N).con), (58, (fC65.S N).con), (59, (fB32.S N).con), (60, (fA19.S N).con)], gamY []⟩
theorem cok (N : Nat) : (C N).Ok Tryz.prog := ⟨U_ok, GamOk.cons (fB4.ok N) (GamOk.cons (fB20.ok N) (GamOk.cons (fC65.ok N) (GamOk.cons (fB32.ok N) (GamOk.cons (fA19.ok N) (GamOk.nil))))), GamYOk.nil⟩
def code : Code := Tryz.f30.body.getD .skip
def outs : Sh := (.cons (.upd 0 70 (.cons (.val (.slice .byte)) s20)) s82)
end fA32
namespace fD67
def ins : Sh := (.cons s103 (.cons (.val .byte) (.cons (.box 31 s7) .nil)))
def ts : List Tmp := [0, 2, 4]
def asg : List Tmp := [7, 8, 9, 10, 11, 12, 13, 14, 15, 16, 17, 18, 19, 20, 21, 22, 23, 24, 25, 26, 27, 28, 29, 30, 31, 32, 33, 34, 35, 36, 37, 38, 39, 40, 41, 42, 43, 44, 45, 46, 47, 48, 49, 50, 51, 52, 53, 54, 55, 56, 57, 58, 59, 60, 61, 62, 63, 64, 65, 66, 67, 68, 69, 70, 71, 72, 73, 74, 75, 76, 77, 78]
def C (N : Nat) : Ctx := { fA32.C N with may := fun t => asg.any (Nat.beq t) }
def code : Code := (sub fA32.code [true, false]).getD .skip
theorem cok (N : Nat) : (C N).Ok Tryz.prog := okC (fA32.cok N) _
def alts : List Alt := [⟨.normal, [], s110⟩]
end fD67
def fD67.run (N : Nat) (x : (List UInt8)) (x1 : Int) (x2 : Int) (c : UInt8) (jA : Int) (jB_ : Int) (jC_ : Int) (jD : Int) (jE : Int) (jF : Int) (jG : Int) (jH : Int) (jI : Int) (jJ : Int) (jK : Int) (jL : Bool) (jM : Bool) (jN : Bool) (jO_ : Int) (jO1 : Int) (jP : (List T7)) (jP1 : (List T8)) (jQ : (List T6)) : Option (T73) :=
  bif decide ((c.toNat : Int) = (120 : Int)) then
    obind (fB4.run N x x1 x2 (8 : Int)) fun ((x3, x4, x5, _), n_, _) =>
      some ((x3, x4, x5, ()), (jA, jB_, jC_, n_, jE, jF, jG, jH, jI, jJ, jK, jL, jM, jN, jO_, jO1, jP, jP1, jQ, ()), ())
  else
    bif decide ((c.toNat : Int) = (98 : Int)) then
      obind (fB4.run N x x1 x2 (8 : Int)) fun ((x6, x7, x8, _), n1, _) =>
        some ((x6, x7, x8, ()), (jA, jB_, jC_, jD, n1, jF, jG, jH, jI, jJ, jK, jL, jM, jN, jO_, jO1, jP, jP1, jQ, ()), ())
    else
      bif decide ((c.toNat : Int) = (112 : Int)) then
        obind (fB20.run N x x1 x2) fun ((x9, x10, x11, _), v, _) =>
          some ((x9, x10, x11, ()), (jA, jB_, jC_, jD, jE, jF, jG, jH, jI, jJ, jK, jL, jM, jN, jO_, jO1, v.1, v.2, jQ, ()), ())
      else
        bif decide ((c.toNat : Int) = (121 : Int)) then
          obind (fC65.run N x x1 x2) fun ((x12, x13, x14, _), b, _) =>
            some ((x12, x13, x14, ()), (jA, jB_, jC_, jD, jE, jF, jG, jH, jI, jJ, jK, b, jM, jN, jO_, jO1, jP, jP1, jQ, ()), ())
        else
          bif decide ((c.toNat : Int) = (101 : Int)) then
            obind (fB4.run N x x1 x2 (8 : Int)) fun ((x15, x16, x17, _), n2, _) =>
              some ((x15, x16, x17, ()), (jA, jB_, jC_, jD, jE, n2, jG, jH, jI, jJ, jK, jL, jM, jN, jO_, jO1, jP, jP1, jQ, ()), ())
          else
            bif decide ((c.toNat : Int) = (109 : Int)) then
              obind (fB4.run N x x1 x2 (8 : Int)) fun ((x18, x19, x20, _), n3, _) =>
                some ((x18, x19, x20, ()), (jA, jB_, jC_, jD, jE, jF, jG, n3, jI, jJ, jK, jL, jM, jN, jO_, jO1, jP, jP1, jQ, ()), ())
            else
              bif decide ((c.toNat : Int) = (113 : Int)) then
                obind (fB4.run N x x1 x2 (8 : Int)) fun ((x21, x22, x23, _), n4, _) =>
                  some ((x21, x22, x23, ()), (jA, jB_, jC_, jD, jE, jF, jG, jH, n4, jJ, jK, jL, jM, jN, jO_, jO1, jP, jP1, jQ, ()), ())
              else
                bif decide ((c.toNat : Int) = (97 : Int)) then
                  obind (fB32.run N x x1 x2) fun ((x24, x25, x26, _), v1, _) =>
                    some ((x24, x25, x26, ()), (jA, jB_, jC_, jD, jE, jF, jG, jH, jI, jJ, jK, jL, jM, jN, v1.1, v1.2, jP, jP1, jQ, ()), ())
                else
                  bif decide ((c.toNat : Int) = (110 : Int)) then
                    obind (fC65.run N x x1 x2) fun ((x27, x28, x29, _), b1, _) =>
                      some ((x27, x28, x29, ()), (jA, jB_, jC_, jD, jE, jF, jG, jH, jI, jJ, jK, jL, b1, jN, jO_, jO1, jP, jP1, jQ, ()), ())
                  else
                    bif decide ((c.toNat : Int) = (118 : Int)) then
                      obind (fA19.run N x x1 x2) fun ((x30, x31, x32, _), l, _) =>
                        some ((x30, x31, x32, ()), (jA, jB_, jC_, jD, jE, jF, jG, jH, jI, jJ, jK, jL, jM, jN, jO_, jO1, jP, jP1, l, ()), ())
                    else
                      bif decide ((c.toNat : Int) = (119 : Int)) then
                        obind (fC65.run N x x1 x2) fun ((x33, x34, x35, _), b2, _) =>
                          some ((x33, x34, x35, ()), (jA, jB_, jC_, jD, jE, jF, jG, jH, jI, jJ, jK, jL, jM, b2, jO_, jO1, jP, jP1, jQ, ()), ())
                      else
                        bif decide ((c.toNat : Int) = (100 : Int)) then
                          obind (fB4.run N x x1 x2 (1 : Int)) fun ((x36, x37, x38, _), n5, _) =>
                            some ((x36, x37, x38, ()), (jA, jB_, jC_, jD, jE, jF, jG, jH, jI, jJ, IntKind.i64.wrap n5, jL, jM, jN, jO_, jO1, jP, jP1, jQ, ()), ())
                        else
                          bif decide ((c.toNat : Int) = (116 : Int)) then
                            obind (fB4.run N x x1 x2 (8 : Int)) fun ((x39, x40, x41, _), n6, _) =>
                              some ((x39, x40, x41, ()), (jA, jB_, jC_, jD, jE, jF, jG, jH, jI, n6, jK, jL, jM, jN, jO_, jO1, jP, jP1, jQ, ()), ())
                          else
                            bif decide ((c.toNat : Int) = (115 : Int)) then
                              obind (fB4.run N x x1 x2 (8 : Int)) fun ((x42, x43, x44, _), n7, _) =>
                                some ((x42, x43, x44, ()), (jA, jB_, jC_, jD, jE, jF, n7, jH, jI, jJ, jK, jL, jM, jN, jO_, jO1, jP, jP1, jQ, ()), ())
                            else some ((x, x1, x2, ()), (jA, jB_, jC_, jD, jE, jF, jG, jH, jI, jJ, jK, jL, jM, jN, jO_, jO1, jP, jP1, jQ, ()), ())
namespace fD67
def fn (N : Nat) : Sh.den ins → Option (altsDen alts) := fun ((a, b, c, _), d, (e, f, g, h, i, j, k, l, m, o, p, q, r, s, t, u, v, w, x, _), _) => fD67.run N a b c d e f g h i j k l m o p q r s t u v w x
def P (N : Nat) : Ps := ⟨ts, ins, asg, alts, fn N⟩
def lam (N : Nat) : Pcs := pcs []
theorem pok (N : Nat) : (lam N).Ok Tryz.prog (C N) code := pcsOk_nil
theorem ok (N : Nat) : ((P N).pc (fA32.C N)).Ok Tryz.prog (fA32.C N) code := okP (F := P N) (fA32.cok N) mix (pok N) fun _ => by kernel_rfl
end fD67
def fA32.run (N : Nat) (x : (List UInt8)) (x1 : Int) (x2 : Int) (m : T53) (c : UInt8) : Option T74 :=
  obind (fD67.run N x x1 x2 (Hay.u8 (c.toNat : Int)) m.1 m.2.1 m.2.2.1 m.2.2.2.1 m.2.2.2.2.1 m.2.2.2.2.2.1 m.2.2.2.2.2.2.1 m.2.2.2.2.2.2.2.1 m.2.2.2.2.2.2.2.2.1 m.2.2.2.2.2.2.2.2.2.1 m.2.2.2.2.2.2.2.2.2.2.1 m.2.2.2.2.2.2.2.2.2.2.2.1 m.2.2.2.2.2.2.2.2.2.2.2.2.1 m.2.2.2.2.2.2.2.2.2.2.2.2.2.1 m.2.2.2.2.2.2.2.2.2.2.2.2.2.2.1.1 m.2.2.2.2.2.2.2.2.2.2.2.2.2.2.1.2 m.2.2.2.2.2.2.2.2.2.2.2.2.2.2.2.1.1 m.2.2.2.2.2.2.2.2.2.2.2.2.2.2.2.1.2 m.2.2.2.2.2.2.2.2.2.2.2.2.2.2.2.2) fun ((x45, x46, x47, _), (jA, jB_, jC_, jD, jE, jF, jG, jH, jI, jJ, jK, jL, jM, jN, jO_, jO1, jP, jP1, jQ, _), _) =>
    some ((x45, x46, x47, ()), (jA, jB_, jC_, jD, jE, jF, jG, jH, jI, jJ, jK, jL, jM, jN, (jO_, jO1), (jP, jP1), jQ), ())
namespace fA32
def fn (N : Nat) : Sh.den ins → Option (Sh.den outs) := fun ((a, b, c, _), d, e, _) => fA32.run N a b c d e
def S (N : Nat) : Fs := ⟨ins, outs, fn N⟩
def lam (N : Nat) : Pcs := pcs [([true, false], (fD67.P N).pc (C N))]
theorem pok (N : Nat) : (lam N).Ok Tryz.prog (C N) code := pcsOk_cons (c1 := fD67.code) (by kernel_rfl) (fD67.ok N) (pcsOk_nil)
theorem ok (N : Nat) : (S N).con.Ok Tryz.prog 30 := okF (F := S N) [] Tryz.func30 (by kernel_rfl) (by rfl) mix (cok N) (pok N) fun _ => by kernel_rfl
end fA32
namespace fB79
def ins : Sh := (.cons (.val (.pair (.slice .byte) (.pair (.int .i64) (.int .i64)))) .nil)
def C (N : Nat) : Ctx := ⟨U, 16, fun _ => true, gam [], gamY []⟩
theorem cok (N : Nat) : (C N).Ok Tryz.prog := ⟨U_ok, GamOk.nil, GamYOk.nil⟩
def code : Code := Tryz.f31.body.getD .skip
def outs : Sh := (.cons (.val (.int .i64)) .nil)
end fB79
def fB79.run (N : Nat) (r : T59) : Option (Int × Unit) :=
  bif decide (r.2.2 = (0 : Int)) then
    bif decide (r.2.1 < (r.1.length : Int)) then
      some ((13 : Int), ())
    else some (r.2.2, ())
  else some (r.2.2, ())
namespace fB79
def fn (N : Nat) : Sh.den ins → Option (Sh.den outs) := fun (a, _) => fB79.run N a
def S (N : Nat) : Fs := ⟨ins, outs, fn N⟩
def lam (N : Nat) : Pcs := pcs []
theorem pok (N : Nat) : (lam N).Ok Tryz.prog (C N) code := pcsOk_nil
theorem ok (N : Nat) : (S N).con.Ok Tryz.prog 31 := okF (F := S N) [] Tryz.func31 (by kernel_rfl) (by rfl) mix (cok N) (pok N) fun _ => by kernel_rfl
end fB79
namespace fD47
def ins : Sh := (.cons (.val (.slice .byte)) .nil)
def C (N : Nat) : Ctx := ⟨U, 73, fun _ => true, gam [(28, (fC76.S N).con), (29, (fB4.S N).con), (18, (fC38.S N).con), (30, (fA32.S N).con), (31, (fB79.S N).con), (6, (fC46.S N).con)], gamY []⟩
theorem cok (N : Nat) : (C N).Ok Tryz.prog := ⟨U_ok, GamOk.cons (fC76.ok N) (GamOk.cons (fB4.ok N) (GamOk.cons (fC38.ok N) (GamOk.cons (fA32.ok N) (GamOk.cons (fB79.ok N) (GamOk.cons (fC46.ok N) (GamOk.nil)))))), GamYOk.nil⟩
def code : Code := Tryz.f11.body.getD .skip
def outs : Sh := s99
end fD47
namespace fC56
def ins : Sh := (.cons s103 s85)
def ts : List Tmp := [7, 8, 9, 10]
def asg : List Tmp := [10, 45, 46, 47, 48, 49, 50, 51, 52, 53, 54, 55, 56]
def C (N : Nat) : Ctx := { fD47.C N with may := fun t => asg.any (Nat.beq t) }
def code : Code := loopBody (sub fD47.code [true, true, true, true, true, true, true, true, false, true, false])
theorem cok (N : Nat) : (C N).Ok Tryz.prog := okC (fD47.cok N) _
def alts : List Alt := [⟨(.exit 0), [], s110⟩]
end fC56
def fC56.go (N : Nat) : Nat → (List UInt8) → Int → Int → Int → Int → Int → Int → Int → Int → Int → Int → Int → Int → Int → Bool → Bool → Bool → Int → Int → (List T7) → (List T8) → (List T6) → (List UInt8) → Int → Option (T73)
  | 0, _, _, _, _, _, _, _, _, _, _, _, _, _, _, _, _, _, _, _, _, _, _, _, _ => none
  | fuel + 1, x, x1, x2, jA, jB_, jC_, jD, jE, jF, jG, jH, jI, jJ, jK, jL, jM, jN, jO_, jO1, jP, jP1, jQ, f, i =>
    bif decide (i < (f.length : Int)) then
      bif inB i f.length then
        obind (fA32.run N x x1 x2 (jA, jB_, jC_, jD, jE, jF, jG, jH, jI, jJ, jK, jL, jM, jN, (jO_, jO1), (jP, jP1), jQ) (Hay.u8 ((f.getD i.toNat (0 : UInt8)).toNat : Int))) fun ((x3, x4, x5, _), v, _) =>
          fC56.go N fuel x3 x4 x5 v.1 v.2.1 v.2.2.1 v.2.2.2.1 v.2.2.2.2.1 v.2.2.2.2.2.1 v.2.2.2.2.2.2.1 v.2.2.2.2.2.2.2.1 v.2.2.2.2.2.2.2.2.1 v.2.2.2.2.2.2.2.2.2.1 v.2.2.2.2.2.2.2.2.2.2.1 v.2.2.2.2.2.2.2.2.2.2.2.1 v.2.2.2.2.2.2.2.2.2.2.2.2.1 v.2.2.2.2.2.2.2.2.2.2.2.2.2.1 v.2.2.2.2.2.2.2.2.2.2.2.2.2.2.1.1 v.2.2.2.2.2.2.2.2.2.2.2.2.2.2.1.2 v.2.2.2.2.2.2.2.2.2.2.2.2.2.2.2.1.1 v.2.2.2.2.2.2.2.2.2.2.2.2.2.2.2.1.2 v.2.2.2.2.2.2.2.2.2.2.2.2.2.2.2.2 f (IntKind.i64.wrap (i + (1 : Int)))
      else none
    else some ((x, x1, x2, ()), (jA, jB_, jC_, jD, jE, jF, jG, jH, jI, jJ, jK, jL, jM, jN, jO_, jO1, jP, jP1, jQ, ()), ())
namespace fC56
def g (N n : Nat) : Sh.den ins → Option (altsDen alts) := fun ((a, b, c, _), (d, e, f, g, h, i, j, k, l, m, o, p, q, r, s, t, u, v, w, _), x, y, _) => fC56.go N n a b c d e f g h i j k l m o p q r s t u v w x y
def P (N : Nat) : Ps := ⟨ts, ins, asg, alts, g N N⟩
def lam (N : Nat) : Pcs := pcs []
theorem pok (N : Nat) : (lam N).Ok Tryz.prog (C N) code := pcsOk_nil
theorem ok (N : Nat) : ((P N).pc (fD47.C N)).Ok Tryz.prog (fD47.C N) (.loop code) := okL (F := P N) (g N) (fD47.cok N) mix (pok N) (fun _ => rfl) rfl fun _ _ => by kernel_rfl
end fC56
def fD47.run (N : Nat) (b : (List UInt8)) : Option T58 :=
  obind (fC76.run N b) fun (l, n_, n1, _) =>
    bif !(decide (n1 = (0 : Int))) then
      some (((0 : Int), (0 : Int), (0 : Int), (0 : Int), (0 : Int), (0 : Int), (0 : Int), (0 : Int), (0 : Int), (0 : Int), (0 : Int), false, false, false, ((0 : Int), (0 : Int)), (([] : List T7), ([] : List T8)), ([] : List T6)), (170 : Int), ())
    else
      bif !(decide (n_ = (b.length : Int))) then
        some (((0 : Int), (0 : Int), (0 : Int), (0 : Int), (0 : Int), (0 : Int), (0 : Int), (0 : Int), (0 : Int), (0 : Int), (0 : Int), false, false, false, ((0 : Int), (0 : Int)), (([] : List T7), ([] : List T8)), ([] : List T6)), (170 : Int), ())
      else
        obind (fB4.run N l (0 : Int) (0 : Int) (1 : Int)) fun ((x, x1, x2, _), n2, _) =>
          obind (fB4.run N x x1 x2 (1 : Int)) fun ((x3, x4, x5, _), n3, _) =>
            obind (fB4.run N x3 x4 x5 (1 : Int)) fun ((x6, x7, x8, _), n4, _) =>
              obind (fC38.run N (IntKind.i64.wrap n2)) fun (s, _) =>
                obind (fC56.go N N x6 x7 x8 (IntKind.i64.wrap n2) (IntKind.i64.wrap n3) (IntKind.i64.wrap n4) (0 : Int) (0 : Int) (0 : Int) (0 : Int) (0 : Int) (0 : Int) (0 : Int) (0 : Int) false false false (0 : Int) (0 : Int) ([] : List T7) ([] : List T8) ([] : List T6) s (0 : Int)) fun ((x9, x10, x11, _), (jA, jB_, jC_, jD, jE, jF, jG, jH, jI, jJ, jK, jL, jM, jN, jO_, jO1, jP, jP1, jQ, _), _) =>
                  obind (fB79.run N (x9, x10, x11)) fun (n5, _) =>
                    bif !(decide (n5 = (0 : Int))) then
                      some (((0 : Int), (0 : Int), (0 : Int), (0 : Int), (0 : Int), (0 : Int), (0 : Int), (0 : Int), (0 : Int), (0 : Int), (0 : Int), false, false, false, ((0 : Int), (0 : Int)), (([] : List T7), ([] : List T8)), ([] : List T6)), (170 : Int), ())
                    else
                      obind (fC46.run N (jA, jB_, jC_, jD, jE, jF, jG, jH, jI, jJ, jK, jL, jM, jN, (jO_, jO1), (jP, jP1), jQ)) fun (l1, n6, _) =>
                        bif !(decide (n6 = (0 : Int))) then
                          some (((0 : Int), (0 : Int), (0 : Int), (0 : Int), (0 : Int), (0 : Int), (0 : Int), (0 : Int), (0 : Int), (0 : Int), (0 : Int), false, false, false, ((0 : Int), (0 : Int)), (([] : List T7), ([] : List T8)), ([] : List T6)), (170 : Int), ())
                        else some ((jA, jB_, jC_, jD, jE, jF, jG, jH, jI, jJ, jK, jL, jM, jN, (jO_, jO1), (jP, jP1), jQ), (0 : Int), ())
namespace fD47
def fn (N : Nat) : Sh.den ins → Option (Sh.den outs) := fun (a, _) => fD47.run N a
def S (N : Nat) : Fs := ⟨ins, outs, fn N⟩
def lam (N : Nat) : Pcs := pcs [([true, true, true, true, true, true, true, true, false, true, false], (fC56.P N).pc (C N))]
theorem pok (N : Nat) : (lam N).Ok Tryz.prog (C N) code := pcsOk_cons (c1 := .loop fC56.code) (by kernel_rfl) (fC56.ok N) (pcsOk_nil)
theorem ok (N : Nat) : (S N).con.Ok Tryz.prog 11 := okF (F := S N) [] Tryz.func11 (by kernel_rfl) (by rfl) mix (cok N) (pok N) fun _ => by kernel_rfl
end fD47
namespace law_WireReads
def ins : Sh := (.cons (.val (.slice .byte)) .nil)
def C (N : Nat) : Ctx := ⟨U, 38, fun _ => true, gam [(10, (fC62.S N).con), (11, (fD47.S N).con), (7, (law_alive.S N).con), (9, (fC74.S N).con)], gamY []⟩
theorem cok (N : Nat) : (C N).Ok Tryz.prog := ⟨U_ok, GamOk.cons (fC62.ok N) (GamOk.cons (fD47.ok N) (GamOk.cons (law_alive.ok N) (GamOk.cons (fC74.ok N) (GamOk.nil)))), GamYOk.nil⟩
def code : Code := Tryz.f4.body.getD .skip
def outs : Sh := (.cons (.val .bool) .nil)
end law_WireReads
def law_WireReads.run (N : Nat) (raw : (List UInt8)) : Option (Bool × Unit) :=
  bif room raw.length 1 then
    obind (fC62.run N raw) fun (v, n_, _) =>
      obind (fD47.run N raw) fun (v1, n1, _) =>
        obind (law_alive.run N) fun (b, _) =>
          bif b then
            bif decide (n_ = n1) then
              obind (fC74.run N v v1) fun (b1, _) =>
                bif b1 then
                  some (decide (raw = raw), ())
                else some (false, ())
            else some (false, ())
          else some (false, ())
  else none
namespace law_WireReads
def fn (N : Nat) : Sh.den ins → Option (Sh.den outs) := fun (a, _) => law_WireReads.run N a
def S (N : Nat) : Fs := ⟨ins, outs, fn N⟩
def lam (N : Nat) : Pcs := pcs []
theorem pok (N : Nat) : (lam N).Ok Tryz.prog (C N) code := pcsOk_nil
theorem ok (N : Nat) : (S N).con.Ok Tryz.prog 4 := okF (F := S N) [] Tryz.func4 (by kernel_rfl) (by rfl) mix (cok N) (pok N) fun _ => by kernel_rfl
end law_WireReads
end
end Go.Hay.YtpgamibdlinhjaaGreat
