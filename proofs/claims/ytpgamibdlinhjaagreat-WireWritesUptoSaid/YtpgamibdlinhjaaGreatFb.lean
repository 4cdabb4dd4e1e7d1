/- Functions of the program as functions of Lean, and that they are what the program computes. Conditions: none. -/
import Derived.Test.YtpgamibdlinhjaaGreatFa
set_option linter.unusedVariables false
namespace Go.Hay.YtpgamibdlinhjaaGreat
open Go Go.Hay Go.Proofs
noncomputable section
set_option maxRecDepth 100000
namespace fC32
def ins : Sh := s62
def ts : List Tmp := [0, 4, 24, 25]
def asg : List Tmp := [0, 2, 3, 4, 6, 7, 8, 25, 26, 27, 28, 29, 30, 31, 32, 33, 34, 35, 36, 37, 38, 39, 40]
def C (N : Nat) : Ctx := { fD24.C N with may := fun t => asg.any (Nat.beq t) }
def code : Code := loopBody (sub fD24.code [true, true, true, true, false, true, false])
theorem cok (N : Nat) : (C N).Ok Tryz.prog := okC (fD24.cok N) _
def alts : List Alt := [⟨.ret, [2, 3], s61⟩, ⟨(.exit 0), [0, 4], (.cons (.val (.slice .byte)) s63)⟩]
end fC32
def fC32.go (N : Nat) : Nat → (List UInt8) → (List T4) → Int → Int → Option (T35 ⊕ T36)
  | 0, _, _, _, _ => none
  | fuel + 1, b, row, t24, t25 =>
    bif decide (t25 < t24) then
      obind (fB15.run N b) fun (v, l, b1, _) =>
        bif !b1 then
          some (.inl (([] : List T4), (30 : Int), ()))
        else
          bif room (row.length + 1) 40 then
            fC32.go N fuel l (row ++ ([v] : List T4)) t24 (IntKind.i64.wrap (t25 + (1 : Int)))
          else none
    else some (.inr (b, row, ()))
namespace fC32
def g (N n : Nat) : Sh.den ins → Option (altsDen alts) := fun (a, b, c, d, _) => fC32.go N n a b c d
def P (N : Nat) : Ps := ⟨ts, ins, asg, alts, g N N⟩
def lam (N : Nat) : Pcs := pcs []
theorem pok (N : Nat) : (lam N).Ok Tryz.prog (C N) code := pcsOk_nil
theorem ok (N : Nat) : ((P N).pc (fD24.C N)).Ok Tryz.prog (fD24.C N) (.loop code) := okL (F := P N) (g N) (fD24.cok N) mix (pok N) (fun _ => rfl) rfl fun _ _ => by kernel_rfl
end fC32
def fD24.run (N : Nat) (b : (List UInt8)) : Option T35 :=
  bif decide ((b.length : Int) = (0 : Int)) then
    some (([] : List T4), (30 : Int), ())
  else
    bif inB (0 : Int) b.length then
      bif decide (((b.getD 0 (0 : UInt8)).toNat : Int) > (16 : Int)) then
        some (([] : List T4), (30 : Int), ())
      else
        bif inB (0 : Int) b.length then
          bif okB (1 : Int) (b.length : Int) b.length then
            obind (fC32.go N N (b.drop 1) ([] : List T4) (IntKind.i64.wrap ((b.getD 0 (0 : UInt8)).toNat : Int)) (0 : Int)) fun y => match y with
            | .inl (t2, t3, _) =>
                some (t2, t3, ())
            | .inr (b1, row, _) =>
                bif decide ((b1.length : Int) > (0 : Int)) then
                  some (([] : List T4), (30 : Int), ())
                else some (row, (0 : Int), ())
          else none
        else none
    else none
namespace fD24
def fn (N : Nat) : Sh.den ins → Option (Sh.den outs) := fun (a, _) => fD24.run N a
def S (N : Nat) : Fs := ⟨ins, outs, fn N⟩
def lam (N : Nat) : Pcs := pcs [([true, true, true, true, false, true, false], (fC32.P N).pc (C N))]
theorem pok (N : Nat) : (lam N).Ok Tryz.prog (C N) code := pcsOk_cons (c1 := .loop fC32.code) (by kernel_rfl) (fC32.ok N) (pcsOk_nil)
theorem ok (N : Nat) : (S N).con.Ok Tryz.prog 122 := okF (F := S N) [] Tryz.func122 (by kernel_rfl) (by rfl) mix (cok N) (pok N) fun _ => by kernel_rfl
end fD24
namespace fD53
def ins : Sh := (.cons (.box 47 s48) (.cons (.bxo 4 95 s57) .nil))
def C (N : Nat) : Ctx := ⟨U, 39, fun _ => true, gam [(123, (fB16.S N).con), (122, (fD24.S N).con), (34, (fD1.S N).con)], gamY []⟩
theorem cok (N : Nat) : (C N).Ok Tryz.prog := ⟨U_ok, GamOk.cons (fB16.ok N) (GamOk.cons (fD24.ok N) (GamOk.cons (fD1.ok N) (GamOk.nil))), GamYOk.nil⟩
def code : Code := Tryz.f114.body.getD .skip
def outs : Sh := s64
end fD53
def fD53.run (N : Nat) (b : (List UInt8)) (e : Int) (jT : Bool) (jO_ : Int) (jO1 : Int) (ver : Int) (ver1 : Int) (ver2 : (List T4)) (ver3 : Int) : Option T37 :=
  obind (fB16.run N b e (16777216 : Int)) fun ((b1, e1, _), l, _) =>
    obind (fD24.run N l) fun (l1, n_, _) =>
      obind (fD1.run N b1 e1 jT (decide (n_ = (0 : Int)))) fun ((b2, e2, _), (_, _, jT1, _), _) =>
        some ((b2, e2, ()), ((), (), jT1, ()), (jO_, jO1, ver, ver1, l1, ver3, ()), ())
namespace fD53
def fn (N : Nat) : Sh.den ins → Option (Sh.den outs) := fun ((_, (a, b, _), c, _), (d, e, f, g, h, i, _), _) => fD53.run N a b c d e f g h i
def S (N : Nat) : Fs := ⟨ins, outs, fn N⟩
def lam (N : Nat) : Pcs := pcs []
theorem pok (N : Nat) : (lam N).Ok Tryz.prog (C N) code := pcsOk_nil
theorem ok (N : Nat) : (S N).con.Ok Tryz.prog 114 := okF (F := S N) [] Tryz.func114 (by kernel_rfl) (by rfl) mix (cok N) (pok N) fun _ => by kernel_rfl
end fD53
namespace fA10
def ins : Sh := (.cons (.box 47 s48) (.cons (.box 95 s57) .nil))
def C (N : Nat) : Ctx := ⟨U, 39, fun _ => true, gam [(34, (fD1.S N).con), (72, (fB29.S N).con), (113, (fB47.S N).con), (114, (fD53.S N).con)], gamY []⟩
theorem cok (N : Nat) : (C N).Ok Tryz.prog := ⟨U_ok, GamOk.cons (fD1.ok N) (GamOk.cons (fB29.ok N) (GamOk.cons (fB47.ok N) (GamOk.cons (fD53.ok N) (GamOk.nil)))), GamYOk.nil⟩
def code : Code := Tryz.f97.body.getD .skip
def outs : Sh := s64
end fA10
namespace fC20
def ins : Sh := (.cons (.box 47 s48) (.cons (.rbox 95 (.cons (.val (.int .i64)) (.cons (.val (.int .i64)) (.cons (.val (.int .u64)) (.cons (.val (.int .u32)) (.cons (.rown 133 (.pair (.int .i64) (.pair .bool (.pair (.int .i64) .str)))) (.cons (.val (.int .u64)) .nil))))))) .nil))
def ts : List Tmp := [0, 1]
def asg : List Tmp := [4, 5, 6, 7, 8, 9, 10, 11, 12, 13, 14, 15, 16, 17, 18, 19, 20]
def C (N : Nat) : Ctx := { fA10.C N with may := fun t => asg.any (Nat.beq t) }
def code : Code := (sub fA10.code [false]).getD .skip
theorem cok (N : Nat) : (C N).Ok Tryz.prog := okC (fA10.cok N) _
def alts : List Alt := [⟨.normal, [], s50⟩]
end fC20
def fC20.run (N : Nat) (b : (List UInt8)) (e : Int) (jT : Bool) (jO_ : Int) (jO1 : Int) (ver : Int) (ver1 : Int) (ver2 : (List T4)) (ver3 : Int) : Option (T28) :=
  bif decide (ver = (0 : Int)) then
    obind (fD1.run N b e jT (decide (ver3 = (0 : Int)))) fun ((b1, e1, _), (_, _, jT1, _), _) =>
      some ((b1, e1, ()), ((), (), jT1, ()), ())
  else
    obind (fD1.run N b e jT false) fun ((b2, e2, _), (_, _, jT2, _), _) =>
      some ((b2, e2, ()), ((), (), jT2, ()), ())
namespace fC20
def fn (N : Nat) : Sh.den ins → Option (altsDen alts) := fun ((_, (a, b, _), c, _), (d, e, f, g, h, i, _), _) => fC20.run N a b c d e f g h i
def P (N : Nat) : Ps := ⟨ts, ins, asg, alts, fn N⟩
def lam (N : Nat) : Pcs := pcs []
theorem pok (N : Nat) : (lam N).Ok Tryz.prog (C N) code := pcsOk_nil
theorem ok (N : Nat) : ((P N).pc (fA10.C N)).Ok Tryz.prog (fA10.C N) code := okP (F := P N) (fA10.cok N) mix (pok N) fun _ => by kernel_rfl
end fC20
def fA10.run (N : Nat) (b : (List UInt8)) (e : Int) (jT : Bool) (jO_ : Int) (jO1 : Int) (ver : Int) (ver1 : Int) (ver2 : (List T4)) (ver3 : Int) : Option T37 :=
  obind (fC20.run N b e jT jO_ jO1 ver ver1 ver2 ver3) fun ((b3, e3, _), (_, _, jT3, _), _) =>
    obind (fB29.run N b3 e3 jT3 jO_ jO1 ver ver1 ver2 ver3) fun ((b4, e4, _), (jO2, jO3, ver4, ver5, ver6, ver7, _), _) =>
      obind (fB47.run N b4 e4 jT3 jO2 jO3 ver4 ver5 ver6 ver7) fun ((b5, e5, _), (jO4, jO5, ver8, ver9, ver10, ver11, _), _) =>
        obind (fD53.run N b5 e5 jT3 jO4 jO5 ver8 ver9 ver10 ver11) fun ((b6, e6, _), (_, _, jT4, _), (jO6, jO7, ver12, ver13, ver14, ver15, _), _) =>
          some ((b6, e6, ()), ((), (), jT4, ()), (jO6, jO7, ver12, ver13, ver14, ver15, ()), ())
namespace fA10
def fn (N : Nat) : Sh.den ins → Option (Sh.den outs) := fun ((_, (a, b, _), c, _), (d, e, f, g, h, i, _), _) => fA10.run N a b c d e f g h i
def S (N : Nat) : Fs := ⟨ins, outs, fn N⟩
def lam (N : Nat) : Pcs := pcs [([false], (fC20.P N).pc (C N))]
theorem pok (N : Nat) : (lam N).Ok Tryz.prog (C N) code := pcsOk_cons (c1 := fC20.code) (by kernel_rfl) (fC20.ok N) (pcsOk_nil)
theorem ok (N : Nat) : (S N).con.Ok Tryz.prog 97 := okF (F := S N) [] Tryz.func97 (by kernel_rfl) (by rfl) mix (cok N) (pok N) fun _ => by kernel_rfl
end fA10
namespace fD7
def ins : Sh := (.cons (.box 47 s48) (.cons (.bxo 16 31 s52) s24))
def C (N : Nat) : Ctx := ⟨U, 62, fun _ => true, gam [(111, (fA1.S N).con), (112, (fD14.S N).con), (97, (fA10.S N).con)], gamY []⟩
theorem cok (N : Nat) : (C N).Ok Tryz.prog := ⟨U_ok, GamOk.cons (fA1.ok N) (GamOk.cons (fD14.ok N) (GamOk.cons (fA10.ok N) (GamOk.nil))), GamYOk.nil⟩
def code : Code := Tryz.f96.body.getD .skip
def outs : Sh := s53
end fD7
namespace fC10
def ins : Sh := (.cons (.box 47 s48) (.cons (.bxo 16 31 s52) (.cons (.fnb 1 97 (.cons (.ref 0) .nil)) (.cons (.val (.int .u64)) .nil))))
def ts : List Tmp := [0, 1, 2, 8]
def asg : List Tmp := [8, 9, 43, 44, 45, 46, 47, 48, 49, 50, 51, 52, 53, 54, 55, 56, 57, 58, 59, 60, 61]
def C (N : Nat) : Ctx := { fD7.C N with may := fun t => asg.any (Nat.beq t) }
def code : Code := loopBody (sub fD7.code [true, true, true, false])
theorem cok (N : Nat) : (C N).Ok Tryz.prog := okC (fD7.cok N) _
def alts : List Alt := [⟨(.exit 2), [], s53⟩]
end fC10
def fC10.go (N : Nat) : Nat → (List UInt8) → Int → Bool → Int → Int → Int → Int → Int → Int → Int → Int → Int → Int → Int → Bool → Bool → Bool → Int → Int → (List T7) → (List T8) → (List T6) → Int → Option (T29)
  | 0, _, _, _, _, _, _, _, _, _, _, _, _, _, _, _, _, _, _, _, _, _, _, _ => none
  | fuel + 1, b, e, jT, jA, jB_, jC_, jD, jE, jF, jG, jH, jI, jJ, jK, jL, jM, jN, jO_, jO1, jP, jP1, jQ, n_ =>
    bif decide (n_ > (0 : Int)) then
      obind (fD14.run N b e jT) fun (b1, _) =>
        bif !b1 then
          obind (fA10.run N b e jT (0 : Int) (0 : Int) (0 : Int) (0 : Int) ([] : List T4) (0 : Int)) fun ((b2, e1, _), (_, _, jT1, _), (jO2, jO3, ver, ver1, ver2, ver3, _), _) =>
            bif room (jP.length + 1) 64 then
              fC10.go N fuel b2 e1 jT1 jA jB_ jC_ jD jE jF jG jH jI jJ jK jL jM jN jO_ jO1 (jP ++ ([((jO2, jO3), (ver, ver1), ver2, ver3)] : List T7)) jP1 jQ (IntKind.u64.wrap (n_ - (1 : Int)))
            else none
        else some ((b, e, ()), ((), (), jT, ()), (jA, jB_, jC_, jD, jE, jF, jG, jH, jI, jJ, jK, jL, jM, jN, jO_, jO1, jP, jP1, jQ, ()), ())
    else some ((b, e, ()), ((), (), jT, ()), (jA, jB_, jC_, jD, jE, jF, jG, jH, jI, jJ, jK, jL, jM, jN, jO_, jO1, jP, jP1, jQ, ()), ())
namespace fC10
def g (N n : Nat) : Sh.den ins → Option (altsDen alts) := fun ((_, (a, b, _), c, _), (d, e, f, g, h, i, j, k, l, m, o, p, q, r, s, t, u, v, w, _), (_, _), x, _) => fC10.go N n a b c d e f g h i j k l m o p q r s t u v w x
def P (N : Nat) : Ps := ⟨ts, ins, asg, alts, g N N⟩
def lam (N : Nat) : Pcs := pcs []
theorem pok (N : Nat) : (lam N).Ok Tryz.prog (C N) code := pcsOk_nil
theorem ok (N : Nat) : ((P N).pc (fD7.C N)).Ok Tryz.prog (fD7.C N) (.loop code) := okL (F := P N) (g N) (fD7.cok N) mix (pok N) (fun _ => rfl) rfl fun _ _ => by kernel_rfl
end fC10
def fD7.run (N : Nat) (b : (List UInt8)) (e : Int) (jT : Bool) (jA : Int) (jB_ : Int) (jC_ : Int) (jD : Int) (jE : Int) (jF : Int) (jG : Int) (jH : Int) (jI : Int) (jJ : Int) (jK : Int) (jL : Bool) (jM : Bool) (jN : Bool) (jO_ : Int) (jO1 : Int) (jP : (List T7)) (jP1 : (List T8)) (jQ : (List T6)) : Option T29 :=
  obind (fA1.run N b e (16777216 : Int)) fun ((b1, e1, _), n_, _) =>
    obind (fC10.go N N b1 e1 jT jA jB_ jC_ jD jE jF jG jH jI jJ jK jL jM jN jO_ jO1 ([] : List T7) jP1 jQ n_) fun ((b2, e2, _), (_, _, jT1, _), (jA1, jB1, jC1, jD1, jE1, jF1, jG1, jH1, jI1, jJ1, jK1, jL1, jM1, jN1, jO2, jO3, jP2, jP3, jQ1, _), _) =>
      some ((b2, e2, ()), ((), (), jT1, ()), (jA1, jB1, jC1, jD1, jE1, jF1, jG1, jH1, jI1, jJ1, jK1, jL1, jM1, jN1, jO2, jO3, jP2, jP3, jQ1, ()), ())
namespace fD7
def fn (N : Nat) : Sh.den ins → Option (Sh.den outs) := fun ((_, (a, b, _), c, _), (d, e, f, g, h, i, j, k, l, m, o, p, q, r, s, t, u, v, w, _), (_, _), _) => fD7.run N a b c d e f g h i j k l m o p q r s t u v w
def S (N : Nat) : Fs := ⟨ins, outs, fn N⟩
def lam (N : Nat) : Pcs := pcs [([true, true, true, false], (fC10.P N).pc (C N))]
theorem pok (N : Nat) : (lam N).Ok Tryz.prog (C N) code := pcsOk_cons (c1 := .loop fC10.code) (by kernel_rfl) (fC10.ok N) (pcsOk_nil)
theorem ok (N : Nat) : (S N).con.Ok Tryz.prog 96 := okF (F := S N) [] Tryz.func96 (by kernel_rfl) (by rfl) mix (cok N) (pok N) fun _ => by kernel_rfl
end fD7
namespace fC38
def ins : Sh := s65
def C (N : Nat) : Ctx := ⟨U, 38, fun _ => true, gam [(111, (fA1.S N).con)], gamY []⟩
theorem cok (N : Nat) : (C N).Ok Tryz.prog := ⟨U_ok, GamOk.cons (fA1.ok N) (GamOk.nil), GamYOk.nil⟩
def code : Code := Tryz.f102.body.getD .skip
def outs : Sh := s66
end fC38
def fC38.run (N : Nat) (b : (List UInt8)) (e : Int) (jT : Bool) (jO_ : Int) (jO1 : Int) (id_ : Int) (id1 : Int) : Option T38 :=
  obind (fA1.run N b e (2147483647 : Int)) fun ((b1, e1, _), n_, _) =>
    some ((b1, e1, ()), (IntKind.i64.wrap n_, jO1, id_, id1, ()), ())
namespace fC38
def fn (N : Nat) : Sh.den ins → Option (Sh.den outs) := fun ((_, (a, b, _), c, _), (d, e, f, g, _), _) => fC38.run N a b c d e f g
def S (N : Nat) : Fs := ⟨ins, outs, fn N⟩
def lam (N : Nat) : Pcs := pcs []
theorem pok (N : Nat) : (lam N).Ok Tryz.prog (C N) code := pcsOk_nil
theorem ok (N : Nat) : (S N).con.Ok Tryz.prog 102 := okF (F := S N) [] Tryz.func102 (by kernel_rfl) (by rfl) mix (cok N) (pok N) fun _ => by kernel_rfl
end fC38
namespace fB39
def ins : Sh := (.cons (.rbox 47 s48) (.cons (.bxo 1 99 s26) .nil))
def C (N : Nat) : Ctx := ⟨U, 38, fun _ => true, gam [(111, (fA1.S N).con)], gamY []⟩
theorem cok (N : Nat) : (C N).Ok Tryz.prog := ⟨U_ok, GamOk.cons (fA1.ok N) (GamOk.nil), GamYOk.nil⟩
def code : Code := Tryz.f102.body.getD .skip
def outs : Sh := s66
end fB39
def fB39.run (N : Nat) (b : (List UInt8)) (e : Int) (jT : Bool) (jO_ : Int) (jO1 : Int) (id_ : Int) (id1 : Int) : Option T38 :=
  obind (fA1.run N b e (2147483647 : Int)) fun ((b1, e1, _), n_, _) =>
    some ((b1, e1, ()), (jO_, IntKind.i64.wrap n_, id_, id1, ()), ())
namespace fB39
def fn (N : Nat) : Sh.den ins → Option (Sh.den outs) := fun ((_, (a, b, _), c, _), (d, e, f, g, _), _) => fB39.run N a b c d e f g
def S (N : Nat) : Fs := ⟨ins, outs, fn N⟩
def lam (N : Nat) : Pcs := pcs []
theorem pok (N : Nat) : (lam N).Ok Tryz.prog (C N) code := pcsOk_nil
theorem ok (N : Nat) : (S N).con.Ok Tryz.prog 102 := okF (F := S N) [] Tryz.func102 (by kernel_rfl) (by rfl) mix (cok N) (pok N) fun _ => by kernel_rfl
end fB39
namespace fD31
def ins : Sh := s65
def C (N : Nat) : Ctx := ⟨U, 14, fun _ => true, gam [(102, (((fC38.S N).con).or (fB39.S N).con))], gamY []⟩
theorem cok (N : Nat) : (C N).Ok Tryz.prog := ⟨U_ok, GamOk.cons (Con.or_ok (fC38.ok N) (fB39.ok N)) (GamOk.nil), GamYOk.nil⟩
def code : Code := Tryz.f72.body.getD .skip
def outs : Sh := s66
end fD31
def fD31.run (N : Nat) (b : (List UInt8)) (e : Int) (jT : Bool) (jO_ : Int) (jO1 : Int) (id_ : Int) (id1 : Int) : Option T38 :=
  obind (fC38.run N b e jT jO_ jO1 id_ id1) fun ((b1, e1, _), (jO2, jO3, id2, id3, _), _) =>
    obind (fB39.run N b1 e1 jT jO2 jO3 id2 id3) fun ((b2, e2, _), (jO4, jO5, id4, id5, _), _) =>
      some ((b2, e2, ()), (jO4, jO5, id4, id5, ()), ())
namespace fD31
def fn (N : Nat) : Sh.den ins → Option (Sh.den outs) := fun ((_, (a, b, _), c, _), (d, e, f, g, _), _) => fD31.run N a b c d e f g
def S (N : Nat) : Fs := ⟨ins, outs, fn N⟩
def lam (N : Nat) : Pcs := pcs []
theorem pok (N : Nat) : (lam N).Ok Tryz.prog (C N) code := pcsOk_nil
theorem ok (N : Nat) : (S N).con.Ok Tryz.prog 72 := okF (F := S N) [] Tryz.func72 (by kernel_rfl) (by rfl) mix (cok N) (pok N) fun _ => by kernel_rfl
end fD31
namespace fA50
def ins : Sh := s67
def C (N : Nat) : Ctx := ⟨U, 24, fun _ => true, gam [(101, (fB2.S N).con)], gamY []⟩
theorem cok (N : Nat) : (C N).Ok Tryz.prog := ⟨U_ok, GamOk.cons (fB2.ok N) (GamOk.nil), GamYOk.nil⟩
def code : Code := Tryz.f67.body.getD .skip
def outs : Sh := s66
end fA50
def fA50.run (N : Nat) (b : (List UInt8)) (e : Int) (jT : Bool) (jO_ : Int) (jO1 : Int) (id_ : Int) (id1 : Int) : Option T38 :=
  obind (fB2.run N b e) fun ((b1, e1, _), n_, _) =>
    some ((b1, e1, ()), (jO_, jO1, n_, id1, ()), ())
namespace fA50
def fn (N : Nat) : Sh.den ins → Option (Sh.den outs) := fun ((_, (a, b, _), c, _), (d, e, f, g, _), _) => fA50.run N a b c d e f g
def S (N : Nat) : Fs := ⟨ins, outs, fn N⟩
def lam (N : Nat) : Pcs := pcs []
theorem pok (N : Nat) : (lam N).Ok Tryz.prog (C N) code := pcsOk_nil
theorem ok (N : Nat) : (S N).con.Ok Tryz.prog 67 := okF (F := S N) [] Tryz.func67 (by kernel_rfl) (by rfl) mix (cok N) (pok N) fun _ => by kernel_rfl
end fA50
namespace fA45
def ins : Sh := (.cons (.rbox 47 s48) (.cons (.bxo 3 99 s26) .nil))
def C (N : Nat) : Ctx := ⟨U, 24, fun _ => true, gam [(53, (fD4.S N).con)], gamY []⟩
theorem cok (N : Nat) : (C N).Ok Tryz.prog := ⟨U_ok, GamOk.cons (fD4.ok N) (GamOk.nil), GamYOk.nil⟩
def code : Code := Tryz.f113.body.getD .skip
def outs : Sh := s66
end fA45
def fA45.run (N : Nat) (b : (List UInt8)) (e : Int) (jT : Bool) (jO_ : Int) (jO1 : Int) (id_ : Int) (id1 : Int) : Option T38 :=
  obind (fD4.run N b e) fun ((b1, e1, _), n_, _) =>
    some ((b1, e1, ()), (jO_, jO1, id_, n_, ()), ())
namespace fA45
def fn (N : Nat) : Sh.den ins → Option (Sh.den outs) := fun ((_, (a, b, _), c, _), (d, e, f, g, _), _) => fA45.run N a b c d e f g
def S (N : Nat) : Fs := ⟨ins, outs, fn N⟩
def lam (N : Nat) : Pcs := pcs []
theorem pok (N : Nat) : (lam N).Ok Tryz.prog (C N) code := pcsOk_nil
theorem ok (N : Nat) : (S N).con.Ok Tryz.prog 113 := okF (F := S N) [] Tryz.func113 (by kernel_rfl) (by rfl) mix (cok N) (pok N) fun _ => by kernel_rfl
end fA45
namespace fD48
def ins : Sh := s67
def C (N : Nat) : Ctx := ⟨U, 14, fun _ => true, gam [(67, (fA50.S N).con), (113, (fA45.S N).con)], gamY []⟩
theorem cok (N : Nat) : (C N).Ok Tryz.prog := ⟨U_ok, GamOk.cons (fA50.ok N) (GamOk.cons (fA45.ok N) (GamOk.nil)), GamYOk.nil⟩
def code : Code := Tryz.f115.body.getD .skip
def outs : Sh := s66
end fD48
def fD48.run (N : Nat) (b : (List UInt8)) (e : Int) (jT : Bool) (jO_ : Int) (jO1 : Int) (id_ : Int) (id1 : Int) : Option T38 :=
  obind (fA50.run N b e jT jO_ jO1 id_ id1) fun ((b1, e1, _), (jO2, jO3, id2, id3, _), _) =>
    obind (fA45.run N b1 e1 jT jO2 jO3 id2 id3) fun ((b2, e2, _), (jO4, jO5, id4, id5, _), _) =>
      some ((b2, e2, ()), (jO4, jO5, id4, id5, ()), ())
namespace fD48
def fn (N : Nat) : Sh.den ins → Option (Sh.den outs) := fun ((_, (a, b, _), c, _), (d, e, f, g, _), _) => fD48.run N a b c d e f g
def S (N : Nat) : Fs := ⟨ins, outs, fn N⟩
def lam (N : Nat) : Pcs := pcs []
theorem pok (N : Nat) : (lam N).Ok Tryz.prog (C N) code := pcsOk_nil
theorem ok (N : Nat) : (S N).con.Ok Tryz.prog 115 := okF (F := S N) [] Tryz.func115 (by kernel_rfl) (by rfl) mix (cok N) (pok N) fun _ => by kernel_rfl
end fD48
namespace fB32
def ins : Sh := s65
def C (N : Nat) : Ctx := ⟨U, 14, fun _ => true, gam [(72, (fD31.S N).con), (115, (fD48.S N).con)], gamY []⟩
theorem cok (N : Nat) : (C N).Ok Tryz.prog := ⟨U_ok, GamOk.cons (fD31.ok N) (GamOk.cons (fD48.ok N) (GamOk.nil)), GamYOk.nil⟩
def code : Code := Tryz.f99.body.getD .skip
def outs : Sh := s66
end fB32
def fB32.run (N : Nat) (b : (List UInt8)) (e : Int) (jT : Bool) (jO_ : Int) (jO1 : Int) (id_ : Int) (id1 : Int) : Option T38 :=
  obind (fD31.run N b e jT jO_ jO1 id_ id1) fun ((b1, e1, _), (jO2, jO3, id2, id3, _), _) =>
    obind (fD48.run N b1 e1 jT jO2 jO3 id2 id3) fun ((b2, e2, _), (jO4, jO5, id4, id5, _), _) =>
      some ((b2, e2, ()), (jO4, jO5, id4, id5, ()), ())
namespace fB32
def fn (N : Nat) : Sh.den ins → Option (Sh.den outs) := fun ((_, (a, b, _), c, _), (d, e, f, g, _), _) => fB32.run N a b c d e f g
def S (N : Nat) : Fs := ⟨ins, outs, fn N⟩
def lam (N : Nat) : Pcs := pcs []
theorem pok (N : Nat) : (lam N).Ok Tryz.prog (C N) code := pcsOk_nil
theorem ok (N : Nat) : (S N).con.Ok Tryz.prog 99 := okF (F := S N) [] Tryz.func99 (by kernel_rfl) (by rfl) mix (cok N) (pok N) fun _ => by kernel_rfl
end fB32
namespace fA8
def ins : Sh := (.cons (.rbox 47 s48) (.cons (.bxo 17 31 s52) s31))
def C (N : Nat) : Ctx := ⟨U, 62, fun _ => true, gam [(111, (fA1.S N).con), (112, (fD14.S N).con), (99, (fB32.S N).con)], gamY []⟩
theorem cok (N : Nat) : (C N).Ok Tryz.prog := ⟨U_ok, GamOk.cons (fA1.ok N) (GamOk.cons (fD14.ok N) (GamOk.cons (fB32.ok N) (GamOk.nil))), GamYOk.nil⟩
def code : Code := Tryz.f98.body.getD .skip
def outs : Sh := s54
end fA8
namespace fB11
def ins : Sh := (.cons (.rbox 47 s48) (.cons (.bxo 17 31 s52) (.cons (.fnb 1 99 (.cons (.ref 0) .nil)) (.cons (.val (.int .u64)) .nil))))
def ts : List Tmp := [0, 1, 2, 8]
def asg : List Tmp := [8, 9, 43, 44, 45, 46, 47, 48, 49, 50, 51, 52, 53, 54, 55, 56, 57, 58, 59, 60, 61]
def C (N : Nat) : Ctx := { fA8.C N with may := fun t => asg.any (Nat.beq t) }
def code : Code := loopBody (sub fA8.code [true, true, true, false])
theorem cok (N : Nat) : (C N).Ok Tryz.prog := okC (fA8.cok N) _
def alts : List Alt := [⟨(.exit 2), [], s54⟩]
end fB11
def fB11.go (N : Nat) : Nat → (List UInt8) → Int → Bool → Int → Int → Int → Int → Int → Int → Int → Int → Int → Int → Int → Bool → Bool → Bool → Int → Int → (List T7) → (List T8) → (List T6) → Int → Option (T30)
  | 0, _, _, _, _, _, _, _, _, _, _, _, _, _, _, _, _, _, _, _, _, _, _, _ => none
  | fuel + 1, b, e, jT, jA, jB_, jC_, jD, jE, jF, jG, jH, jI, jJ, jK, jL, jM, jN, jO_, jO1, jP, jP1, jQ, n_ =>
    bif decide (n_ > (0 : Int)) then
      obind (fD14.run N b e jT) fun (b1, _) =>
        bif !b1 then
          obind (fB32.run N b e jT (0 : Int) (0 : Int) (0 : Int) (0 : Int)) fun ((b2, e1, _), (jO2, jO3, id_, id1, _), _) =>
            bif room (jP1.length + 1) 32 then
              fB11.go N fuel b2 e1 jT jA jB_ jC_ jD jE jF jG jH jI jJ jK jL jM jN jO_ jO1 jP (jP1 ++ ([((jO2, jO3), id_, id1)] : List T8)) jQ (IntKind.u64.wrap (n_ - (1 : Int)))
            else none
        else some ((b, e, ()), (jA, jB_, jC_, jD, jE, jF, jG, jH, jI, jJ, jK, jL, jM, jN, jO_, jO1, jP, jP1, jQ, ()), ())
    else some ((b, e, ()), (jA, jB_, jC_, jD, jE, jF, jG, jH, jI, jJ, jK, jL, jM, jN, jO_, jO1, jP, jP1, jQ, ()), ())
namespace fB11
def g (N n : Nat) : Sh.den ins → Option (altsDen alts) := fun ((_, (a, b, _), c, _), (d, e, f, g, h, i, j, k, l, m, o, p, q, r, s, t, u, v, w, _), (_, _), x, _) => fB11.go N n a b c d e f g h i j k l m o p q r s t u v w x
def P (N : Nat) : Ps := ⟨ts, ins, asg, alts, g N N⟩
def lam (N : Nat) : Pcs := pcs []
theorem pok (N : Nat) : (lam N).Ok Tryz.prog (C N) code := pcsOk_nil
theorem ok (N : Nat) : ((P N).pc (fA8.C N)).Ok Tryz.prog (fA8.C N) (.loop code) := okL (F := P N) (g N) (fA8.cok N) mix (pok N) (fun _ => rfl) rfl fun _ _ => by kernel_rfl
end fB11
def fA8.run (N : Nat) (b : (List UInt8)) (e : Int) (jT : Bool) (jA : Int) (jB_ : Int) (jC_ : Int) (jD : Int) (jE : Int) (jF : Int) (jG : Int) (jH : Int) (jI : Int) (jJ : Int) (jK : Int) (jL : Bool) (jM : Bool) (jN : Bool) (jO_ : Int) (jO1 : Int) (jP : (List T7)) (jP1 : (List T8)) (jQ : (List T6)) : Option T30 :=
  obind (fA1.run N b e (16777216 : Int)) fun ((b1, e1, _), n_, _) =>
    obind (fB11.go N N b1 e1 jT jA jB_ jC_ jD jE jF jG jH jI jJ jK jL jM jN jO_ jO1 jP ([] : List T8) jQ n_) fun ((b2, e2, _), (jA1, jB1, jC1, jD1, jE1, jF1, jG1, jH1, jI1, jJ1, jK1, jL1, jM1, jN1, jO2, jO3, jP2, jP3, jQ1, _), _) =>
      some ((b2, e2, ()), (jA1, jB1, jC1, jD1, jE1, jF1, jG1, jH1, jI1, jJ1, jK1, jL1, jM1, jN1, jO2, jO3, jP2, jP3, jQ1, ()), ())
namespace fA8
def fn (N : Nat) : Sh.den ins → Option (Sh.den outs) := fun ((_, (a, b, _), c, _), (d, e, f, g, h, i, j, k, l, m, o, p, q, r, s, t, u, v, w, _), (_, _), _) => fA8.run N a b c d e f g h i j k l m o p q r s t u v w
def S (N : Nat) : Fs := ⟨ins, outs, fn N⟩
def lam (N : Nat) : Pcs := pcs [([true, true, true, false], (fB11.P N).pc (C N))]
theorem pok (N : Nat) : (lam N).Ok Tryz.prog (C N) code := pcsOk_cons (c1 := .loop fB11.code) (by kernel_rfl) (fB11.ok N) (pcsOk_nil)
theorem ok (N : Nat) : (S N).con.Ok Tryz.prog 98 := okF (F := S N) [] Tryz.func98 (by kernel_rfl) (by rfl) mix (cok N) (pok N) fun _ => by kernel_rfl
end fA8
namespace fA51
def ins : Sh := (.cons (.box 47 s48) (.cons (.bxo 16 31 s52) .nil))
def C (N : Nat) : Ctx := ⟨U, 18, fun _ => true, gam [(96, (fD7.S N).con), (98, (fA8.S N).con)], gamY []⟩
theorem cok (N : Nat) : (C N).Ok Tryz.prog := ⟨U_ok, GamOk.cons (fD7.ok N) (GamOk.cons (fA8.ok N) (GamOk.nil)), GamYOk.nil⟩
def code : Code := Tryz.f65.body.getD .skip
def outs : Sh := s53
end fA51
def fA51.run (N : Nat) (b : (List UInt8)) (e : Int) (jT : Bool) (jA : Int) (jB_ : Int) (jC_ : Int) (jD : Int) (jE : Int) (jF : Int) (jG : Int) (jH : Int) (jI : Int) (jJ : Int) (jK : Int) (jL : Bool) (jM : Bool) (jN : Bool) (jO_ : Int) (jO1 : Int) (jP : (List T7)) (jP1 : (List T8)) (jQ : (List T6)) : Option T29 :=
  obind (fD7.run N b e jT jA jB_ jC_ jD jE jF jG jH jI jJ jK jL jM jN jO_ jO1 jP jP1 jQ) fun ((b1, e1, _), (_, _, jT1, _), (jA1, jB1, jC1, jD1, jE1, jF1, jG1, jH1, jI1, jJ1, jK1, jL1, jM1, jN1, jO2, jO3, jP2, jP3, jQ1, _), _) =>
    obind (fA8.run N b1 e1 jT1 jA1 jB1 jC1 jD1 jE1 jF1 jG1 jH1 jI1 jJ1 jK1 jL1 jM1 jN1 jO2 jO3 jP2 jP3 jQ1) fun ((b2, e2, _), (jA2, jB2, jC2, jD2, jE2, jF2, jG2, jH2, jI2, jJ2, jK2, jL2, jM2, jN2, jO4, jO5, jP4, jP5, jQ2, _), _) =>
      some ((b2, e2, ()), ((), (), jT1, ()), (jA2, jB2, jC2, jD2, jE2, jF2, jG2, jH2, jI2, jJ2, jK2, jL2, jM2, jN2, jO4, jO5, jP4, jP5, jQ2, ()), ())
namespace fA51
def fn (N : Nat) : Sh.den ins → Option (Sh.den outs) := fun ((_, (a, b, _), c, _), (d, e, f, g, h, i, j, k, l, m, o, p, q, r, s, t, u, v, w, _), _) => fA51.run N a b c d e f g h i j k l m o p q r s t u v w
def S (N : Nat) : Fs := ⟨ins, outs, fn N⟩
def lam (N : Nat) : Pcs := pcs []
theorem pok (N : Nat) : (lam N).Ok Tryz.prog (C N) code := pcsOk_nil
theorem ok (N : Nat) : (S N).con.Ok Tryz.prog 65 := okF (F := S N) [] Tryz.func65 (by kernel_rfl) (by rfl) mix (cok N) (pok N) fun _ => by kernel_rfl
end fA51
namespace fD23
def ins : Sh := s69
def C (N : Nat) : Ctx := ⟨U, 16, fun _ => true, gam [(64, (fB37.S N).con), (65, (fA51.S N).con)], gamY []⟩
theorem cok (N : Nat) : (C N).Ok Tryz.prog := ⟨U_ok, GamOk.cons (fB37.ok N) (GamOk.cons (fA51.ok N) (GamOk.nil)), GamYOk.nil⟩
def code : Code := Tryz.f63.body.getD .skip
def outs : Sh := s70
end fD23
def fD23.run (N : Nat) (b : (List UInt8)) (e : Int) (jT : Bool) (jA : Int) (jB_ : Int) (jC_ : Int) (jD : Int) (jE : Int) (jF : Int) (jG : Int) (jH : Int) (jI : Int) (jJ : Int) (jK : Int) (jL : Bool) (jM : Bool) (jN : Bool) (jO_ : Int) (jO1 : Int) (jP : (List T7)) (jP1 : (List T8)) (jQ : (List T6)) : Option T29 :=
  obind (fB37.run N b e jT jA jB_ jC_ jD jE jF jG jH jI jJ jK jL jM jN jO_ jO1 jP jP1 jQ) fun ((b1, e1, _), (jA1, jB1, jC1, jD1, jE1, jF1, jG1, jH1, jI1, jJ1, jK1, jL1, jM1, jN1, jO2, jO3, jP2, jP3, jQ1, _), _) =>
    obind (fA51.run N b1 e1 jT jA1 jB1 jC1 jD1 jE1 jF1 jG1 jH1 jI1 jJ1 jK1 jL1 jM1 jN1 jO2 jO3 jP2 jP3 jQ1) fun ((b2, e2, _), (_, _, jT1, _), (jA2, jB2, jC2, jD2, jE2, jF2, jG2, jH2, jI2, jJ2, jK2, jL2, jM2, jN2, jO4, jO5, jP4, jP5, jQ2, _), _) =>
      some ((b2, e2, ()), ((), (), jT1, ()), (jA2, jB2, jC2, jD2, jE2, jF2, jG2, jH2, jI2, jJ2, jK2, jL2, jM2, jN2, jO4, jO5, jP4, jP5, jQ2, ()), ())
namespace fD23
def fn (N : Nat) : Sh.den ins → Option (Sh.den outs) := fun (((_, (a, b, _), c, _), _), ((d, e, f, g, h, i, j, k, l, m, o, p, q, r, s, t, u, v, w, _), _), _) => fD23.run N a b c d e f g h i j k l m o p q r s t u v w
def S (N : Nat) : Fs := ⟨ins, outs, fn N⟩
def lam (N : Nat) : Pcs := pcs []
theorem pok (N : Nat) : (lam N).Ok Tryz.prog (C N) code := pcsOk_nil
theorem ok (N : Nat) : (S N).con.Ok Tryz.prog 63 := okF (F := S N) [] Tryz.func63 (by kernel_rfl) (by rfl) mix (cok N) (pok N) fun _ => by kernel_rfl
end fD23
namespace fA9
def ins : Sh := (.cons (.box 47 s48) (.cons (.box 3 (.cons (.val (.int .i64)) .nil)) (.cons (.val (.int .i64)) .nil)))
def C (N : Nat) : Ctx := ⟨U, 41, fun _ => true, gam [(62, (fB6.S N).con), (34, (fD1.S N).con)], gamY []⟩
theorem cok (N : Nat) : (C N).Ok Tryz.prog := ⟨U_ok, GamOk.cons (fB6.ok N) (GamOk.cons (fD1.ok N) (GamOk.nil)), GamYOk.nil⟩
def code : Code := Tryz.f32.body.getD .skip
def outs : Sh := (.cons (.upd 1 83 s44) (.cons (.upd 0 47 s49) (.cons (.upd 2 3 (.cons (.val (.int .i64)) .nil)) .nil)))
end fA9
def fA9.run (N : Nat) (b : (List UInt8)) (e : Int) (jT : Bool) (n_ : Int) (most : Int) : Option T39 :=
  obind (fB6.run N b e) fun ((b1, e1, _), n1, _) =>
    bif decide ((IntKind.i64.wrap (n1.toNat : Int)) ≥ (0 : Int)) then
      obind (fD1.run N b1 e1 jT (decide ((IntKind.i64.wrap (n1.toNat : Int)) ≤ most))) fun ((b2, e2, _), (_, _, jT1, _), _) =>
        some ((b2, e2, ()), ((), (), jT1, ()), (IntKind.i64.wrap (n1.toNat : Int), ()), ())
    else
      obind (fD1.run N b1 e1 jT false) fun ((b3, e3, _), (_, _, jT2, _), _) =>
        some ((b3, e3, ()), ((), (), jT2, ()), (IntKind.i64.wrap (n1.toNat : Int), ()), ())
namespace fA9
def fn (N : Nat) : Sh.den ins → Option (Sh.den outs) := fun ((_, (a, b, _), c, _), (d, _), e, _) => fA9.run N a b c d e
def S (N : Nat) : Fs := ⟨ins, outs, fn N⟩
def lam (N : Nat) : Pcs := pcs []
theorem pok (N : Nat) : (lam N).Ok Tryz.prog (C N) code := pcsOk_nil
theorem ok (N : Nat) : (S N).con.Ok Tryz.prog 32 := okF (F := S N) [] Tryz.func32 (by kernel_rfl) (by rfl) mix (cok N) (pok N) fun _ => by kernel_rfl
end fA9
namespace fD35
def ins : Sh := (.cons (.box 47 s48) (.cons (.bxo 11 31 s52) .nil))
def C (N : Nat) : Ctx := ⟨U, 14, fun _ => true, gam [(32, (fA9.S N).con)], gamY []⟩
theorem cok (N : Nat) : (C N).Ok Tryz.prog := ⟨U_ok, GamOk.cons (fA9.ok N) (GamOk.nil), GamYOk.nil⟩
def code : Code := Tryz.f68.body.getD .skip
def outs : Sh := s53
end fD35
def fD35.run (N : Nat) (b : (List UInt8)) (e : Int) (jT : Bool) (jA : Int) (jB_ : Int) (jC_ : Int) (jD : Int) (jE : Int) (jF : Int) (jG : Int) (jH : Int) (jI : Int) (jJ : Int) (jK : Int) (jL : Bool) (jM : Bool) (jN : Bool) (jO_ : Int) (jO1 : Int) (jP : (List T7)) (jP1 : (List T8)) (jQ : (List T6)) : Option T29 :=
  bif jL then
    obind (fA9.run N b e jT (1 : Int) (1 : Int)) fun ((b1, e1, _), (_, _, jT1, _), (v, _), _) =>
      some ((b1, e1, ()), ((), (), jT1, ()), (jA, jB_, jC_, jD, jE, jF, jG, jH, jI, jJ, jK, decide (v = (1 : Int)), jM, jN, jO_, jO1, jP, jP1, jQ, ()), ())
  else
    obind (fA9.run N b e jT (0 : Int) (1 : Int)) fun ((b2, e2, _), (_, _, jT2, _), (v1, _), _) =>
      some ((b2, e2, ()), ((), (), jT2, ()), (jA, jB_, jC_, jD, jE, jF, jG, jH, jI, jJ, jK, decide (v1 = (1 : Int)), jM, jN, jO_, jO1, jP, jP1, jQ, ()), ())
namespace fD35
def fn (N : Nat) : Sh.den ins → Option (Sh.den outs) := fun ((_, (a, b, _), c, _), (d, e, f, g, h, i, j, k, l, m, o, p, q, r, s, t, u, v, w, _), _) => fD35.run N a b c d e f g h i j k l m o p q r s t u v w
def S (N : Nat) : Fs := ⟨ins, outs, fn N⟩
def lam (N : Nat) : Pcs := pcs []
theorem pok (N : Nat) : (lam N).Ok Tryz.prog (C N) code := pcsOk_nil
theorem ok (N : Nat) : (S N).con.Ok Tryz.prog 68 := okF (F := S N) [] Tryz.func68 (by kernel_rfl) (by rfl) mix (cok N) (pok N) fun _ => by kernel_rfl
end fD35
namespace fC23
def ins : Sh := s69
def C (N : Nat) : Ctx := ⟨U, 12, fun _ => true, gam [(67, (fA13.S N).con), (68, (fD35.S N).con)], gamY []⟩
theorem cok (N : Nat) : (C N).Ok Tryz.prog := ⟨U_ok, GamOk.cons (fA13.ok N) (GamOk.cons (fD35.ok N) (GamOk.nil)), GamYOk.nil⟩
def code : Code := Tryz.f66.body.getD .skip
def outs : Sh := s70
end fC23
def fC23.run (N : Nat) (b : (List UInt8)) (e : Int) (jT : Bool) (jA : Int) (jB_ : Int) (jC_ : Int) (jD : Int) (jE : Int) (jF : Int) (jG : Int) (jH : Int) (jI : Int) (jJ : Int) (jK : Int) (jL : Bool) (jM : Bool) (jN : Bool) (jO_ : Int) (jO1 : Int) (jP : (List T7)) (jP1 : (List T8)) (jQ : (List T6)) : Option T29 :=
  obind (fA13.run N b e jT jA jB_ jC_ jD jE jF jG jH jI jJ jK jL jM jN jO_ jO1 jP jP1 jQ) fun ((b1, e1, _), (jA1, jB1, jC1, jD1, jE1, jF1, jG1, jH1, jI1, jJ1, jK1, jL1, jM1, jN1, jO2, jO3, jP2, jP3, jQ1, _), _) =>
    obind (fD35.run N b1 e1 jT jA1 jB1 jC1 jD1 jE1 jF1 jG1 jH1 jI1 jJ1 jK1 jL1 jM1 jN1 jO2 jO3 jP2 jP3 jQ1) fun ((b2, e2, _), (_, _, jT1, _), (jA2, jB2, jC2, jD2, jE2, jF2, jG2, jH2, jI2, jJ2, jK2, jL2, jM2, jN2, jO4, jO5, jP4, jP5, jQ2, _), _) =>
      some ((b2, e2, ()), ((), (), jT1, ()), (jA2, jB2, jC2, jD2, jE2, jF2, jG2, jH2, jI2, jJ2, jK2, jL2, jM2, jN2, jO4, jO5, jP4, jP5, jQ2, ()), ())
namespace fC23
def fn (N : Nat) : Sh.den ins → Option (Sh.den outs) := fun (((_, (a, b, _), c, _), _), ((d, e, f, g, h, i, j, k, l, m, o, p, q, r, s, t, u, v, w, _), _), _) => fC23.run N a b c d e f g h i j k l m o p q r s t u v w
def S (N : Nat) : Fs := ⟨ins, outs, fn N⟩
def lam (N : Nat) : Pcs := pcs []
theorem pok (N : Nat) : (lam N).Ok Tryz.prog (C N) code := pcsOk_nil
theorem ok (N : Nat) : (S N).con.Ok Tryz.prog 66 := okF (F := S N) [] Tryz.func66 (by kernel_rfl) (by rfl) mix (cok N) (pok N) fun _ => by kernel_rfl
end fC23
namespace fC5
def ins : Sh := (.cons (.rbox 47 s48) (.cons (.bxo 5 31 s52) .nil))
def C (N : Nat) : Ctx := ⟨U, 24, fun _ => true, gam [(101, (fB2.S N).con)], gamY []⟩
theorem cok (N : Nat) : (C N).Ok Tryz.prog := ⟨U_ok, GamOk.cons (fB2.ok N) (GamOk.nil), GamYOk.nil⟩
def code : Code := Tryz.f67.body.getD .skip
def outs : Sh := s54
end fC5
def fC5.run (N : Nat) (b : (List UInt8)) (e : Int) (jT : Bool) (jA : Int) (jB_ : Int) (jC_ : Int) (jD : Int) (jE : Int) (jF : Int) (jG : Int) (jH : Int) (jI : Int) (jJ : Int) (jK : Int) (jL : Bool) (jM : Bool) (jN : Bool) (jO_ : Int) (jO1 : Int) (jP : (List T7)) (jP1 : (List T8)) (jQ : (List T6)) : Option T30 :=
  obind (fB2.run N b e) fun ((b1, e1, _), n_, _) =>
    some ((b1, e1, ()), (jA, jB_, jC_, jD, jE, n_, jG, jH, jI, jJ, jK, jL, jM, jN, jO_, jO1, jP, jP1, jQ, ()), ())
namespace fC5
def fn (N : Nat) : Sh.den ins → Option (Sh.den outs) := fun ((_, (a, b, _), c, _), (d, e, f, g, h, i, j, k, l, m, o, p, q, r, s, t, u, v, w, _), _) => fC5.run N a b c d e f g h i j k l m o p q r s t u v w
def S (N : Nat) : Fs := ⟨ins, outs, fn N⟩
def lam (N : Nat) : Pcs := pcs []
theorem pok (N : Nat) : (lam N).Ok Tryz.prog (C N) code := pcsOk_nil
theorem ok (N : Nat) : (S N).con.Ok Tryz.prog 67 := okF (F := S N) [] Tryz.func67 (by kernel_rfl) (by rfl) mix (cok N) (pok N) fun _ => by kernel_rfl
end fC5
namespace fA38
def ins : Sh := (.cons (.rbox 47 s48) (.cons (.els 1 2 (.cons (.bxo 5 31 s52) (.cons (.refo 2 3) .nil))) .nil))
def C (N : Nat) : Ctx := ⟨U, 16, fun _ => true, gam [(67, (((fA13.S N).con).or (fC5.S N).con))], gamY []⟩
theorem cok (N : Nat) : (C N).Ok Tryz.prog := ⟨U_ok, GamOk.cons (Con.or_ok (fA13.ok N) (fC5.ok N)) (GamOk.nil), GamYOk.nil⟩
def code : Code := Tryz.f64.body.getD .skip
def outs : Sh := s54
end fA38
def fA38.run (N : Nat) (b : (List UInt8)) (e : Int) (jT : Bool) (jA : Int) (jB_ : Int) (jC_ : Int) (jD : Int) (jE : Int) (jF : Int) (jG : Int) (jH : Int) (jI : Int) (jJ : Int) (jK : Int) (jL : Bool) (jM : Bool) (jN : Bool) (jO_ : Int) (jO1 : Int) (jP : (List T7)) (jP1 : (List T8)) (jQ : (List T6)) : Option T30 :=
  obind (fC5.run N b e jT jA jB_ jC_ jD jE jF jG jH jI jJ jK jL jM jN jO_ jO1 jP jP1 jQ) fun ((b1, e1, _), (jA1, jB1, jC1, jD1, jE1, jF1, jG1, jH1, jI1, jJ1, jK1, jL1, jM1, jN1, jO2, jO3, jP2, jP3, jQ1, _), _) =>
    obind (fA13.run N b1 e1 jT jA1 jB1 jC1 jD1 jE1 jF1 jG1 jH1 jI1 jJ1 jK1 jL1 jM1 jN1 jO2 jO3 jP2 jP3 jQ1) fun ((b2, e2, _), (jA2, jB2, jC2, jD2, jE2, jF2, jG2, jH2, jI2, jJ2, jK2, jL2, jM2, jN2, jO4, jO5, jP4, jP5, jQ2, _), _) =>
      some ((b2, e2, ()), (jA2, jB2, jC2, jD2, jE2, jF2, jG2, jH2, jI2, jJ2, jK2, jL2, jM2, jN2, jO4, jO5, jP4, jP5, jQ2, ()), ())
namespace fA38
def fn (N : Nat) : Sh.den ins → Option (Sh.den outs) := fun ((_, (a, b, _), c, _), ((d, e, f, g, h, i, j, k, l, m, o, p, q, r, s, t, u, v, w, _), _, _), _) => fA38.run N a b c d e f g h i j k l m o p q r s t u v w
def S (N : Nat) : Fs := ⟨ins, outs, fn N⟩
def lam (N : Nat) : Pcs := pcs [([true, false], (Pc.unroll (C N) (loopBody (sub code [true, false])) (pcs []) 3))]
theorem pok (N : Nat) : (lam N).Ok Tryz.prog (C N) code := pcsOk_cons (c1 := .loop (loopBody (sub code [true, false]))) (by kernel_rfl) (unroll_ok (cok N) mix pcsOk_nil 3) (pcsOk_nil)
theorem ok (N : Nat) : (S N).con.Ok Tryz.prog 64 := okF (F := S N) [] Tryz.func64 (by kernel_rfl) (by rfl) mix (cok N) (pok N) fun _ => by kernel_rfl
end fA38
namespace fC22
def ins : Sh := s71
def C (N : Nat) : Ctx := ⟨U, 11, fun _ => true, gam [(64, (fA38.S N).con)], gamY []⟩
theorem cok (N : Nat) : (C N).Ok Tryz.prog := ⟨U_ok, GamOk.cons (fA38.ok N) (GamOk.nil), GamYOk.nil⟩
def code : Code := Tryz.f69.body.getD .skip
def outs : Sh := s72
end fC22
def fC22.run (N : Nat) (b : (List UInt8)) (e : Int) (jT : Bool) (jA : Int) (jB_ : Int) (jC_ : Int) (jD : Int) (jE : Int) (jF : Int) (jG : Int) (jH : Int) (jI : Int) (jJ : Int) (jK : Int) (jL : Bool) (jM : Bool) (jN : Bool) (jO_ : Int) (jO1 : Int) (jP : (List T7)) (jP1 : (List T8)) (jQ : (List T6)) : Option T30 :=
  obind (fA38.run N b e jT jA jB_ jC_ jD jE jF jG jH jI jJ jK jL jM jN jO_ jO1 jP jP1 jQ) fun ((b1, e1, _), (jA1, jB1, jC1, jD1, jE1, jF1, jG1, jH1, jI1, jJ1, jK1, jL1, jM1, jN1, jO2, jO3, jP2, jP3, jQ1, _), _) =>
    some ((b1, e1, ()), (jA1, jB1, jC1, jD1, jE1, jF1, jG1, jH1, jI1, jJ1, jK1, jL1, jM1, jN1, jO2, jO3, jP2, jP3, jQ1, ()), ())
namespace fC22
def fn (N : Nat) : Sh.den ins → Option (Sh.den outs) := fun (((_, (a, b, _), c, _), _), ((d, e, f, g, h, i, j, k, l, m, o, p, q, r, s, t, u, v, w, _), _), _) => fC22.run N a b c d e f g h i j k l m o p q r s t u v w
def S (N : Nat) : Fs := ⟨ins, outs, fn N⟩
def lam (N : Nat) : Pcs := pcs []
theorem pok (N : Nat) : (lam N).Ok Tryz.prog (C N) code := pcsOk_nil
theorem ok (N : Nat) : (S N).con.Ok Tryz.prog 69 := okF (F := S N) [] Tryz.func69 (by kernel_rfl) (by rfl) mix (cok N) (pok N) fun _ => by kernel_rfl
end fC22
namespace fC13
def ins : Sh := (.cons (.rbox 47 s48) (.cons (.bxo 7 31 s52) .nil))
def C (N : Nat) : Ctx := ⟨U, 24, fun _ => true, gam [(101, (fB2.S N).con)], gamY []⟩
theorem cok (N : Nat) : (C N).Ok Tryz.prog := ⟨U_ok, GamOk.cons (fB2.ok N) (GamOk.nil), GamYOk.nil⟩
def code : Code := Tryz.f67.body.getD .skip
def outs : Sh := s54
end fC13
def fC13.run (N : Nat) (b : (List UInt8)) (e : Int) (jT : Bool) (jA : Int) (jB_ : Int) (jC_ : Int) (jD : Int) (jE : Int) (jF : Int) (jG : Int) (jH : Int) (jI : Int) (jJ : Int) (jK : Int) (jL : Bool) (jM : Bool) (jN : Bool) (jO_ : Int) (jO1 : Int) (jP : (List T7)) (jP1 : (List T8)) (jQ : (List T6)) : Option T30 :=
  obind (fB2.run N b e) fun ((b1, e1, _), n_, _) =>
    some ((b1, e1, ()), (jA, jB_, jC_, jD, jE, jF, jG, n_, jI, jJ, jK, jL, jM, jN, jO_, jO1, jP, jP1, jQ, ()), ())
namespace fC13
def fn (N : Nat) : Sh.den ins → Option (Sh.den outs) := fun ((_, (a, b, _), c, _), (d, e, f, g, h, i, j, k, l, m, o, p, q, r, s, t, u, v, w, _), _) => fC13.run N a b c d e f g h i j k l m o p q r s t u v w
def S (N : Nat) : Fs := ⟨ins, outs, fn N⟩
def lam (N : Nat) : Pcs := pcs []
theorem pok (N : Nat) : (lam N).Ok Tryz.prog (C N) code := pcsOk_nil
theorem ok (N : Nat) : (S N).con.Ok Tryz.prog 67 := okF (F := S N) [] Tryz.func67 (by kernel_rfl) (by rfl) mix (cok N) (pok N) fun _ => by kernel_rfl
end fC13
namespace fA35
def ins : Sh := (.cons (.rbox 47 s48) (.cons (.els 1 2 (.cons (.bxo 5 31 s52) (.cons (.refo 2 7) .nil))) .nil))
def C (N : Nat) : Ctx := ⟨U, 16, fun _ => true, gam [(67, (((fC5.S N).con).or (fC13.S N).con))], gamY []⟩
theorem cok (N : Nat) : (C N).Ok Tryz.prog := ⟨U_ok, GamOk.cons (Con.or_ok (fC5.ok N) (fC13.ok N)) (GamOk.nil), GamYOk.nil⟩
def code : Code := Tryz.f64.body.getD .skip
def outs : Sh := s54
end fA35
def fA35.run (N : Nat) (b : (List UInt8)) (e : Int) (jT : Bool) (jA : Int) (jB_ : Int) (jC_ : Int) (jD : Int) (jE : Int) (jF : Int) (jG : Int) (jH : Int) (jI : Int) (jJ : Int) (jK : Int) (jL : Bool) (jM : Bool) (jN : Bool) (jO_ : Int) (jO1 : Int) (jP : (List T7)) (jP1 : (List T8)) (jQ : (List T6)) : Option T30 :=
  obind (fC5.run N b e jT jA jB_ jC_ jD jE jF jG jH jI jJ jK jL jM jN jO_ jO1 jP jP1 jQ) fun ((b1, e1, _), (jA1, jB1, jC1, jD1, jE1, jF1, jG1, jH1, jI1, jJ1, jK1, jL1, jM1, jN1, jO2, jO3, jP2, jP3, jQ1, _), _) =>
    obind (fC13.run N b1 e1 jT jA1 jB1 jC1 jD1 jE1 jF1 jG1 jH1 jI1 jJ1 jK1 jL1 jM1 jN1 jO2 jO3 jP2 jP3 jQ1) fun ((b2, e2, _), (jA2, jB2, jC2, jD2, jE2, jF2, jG2, jH2, jI2, jJ2, jK2, jL2, jM2, jN2, jO4, jO5, jP4, jP5, jQ2, _), _) =>
      some ((b2, e2, ()), (jA2, jB2, jC2, jD2, jE2, jF2, jG2, jH2, jI2, jJ2, jK2, jL2, jM2, jN2, jO4, jO5, jP4, jP5, jQ2, ()), ())
namespace fA35
def fn (N : Nat) : Sh.den ins → Option (Sh.den outs) := fun ((_, (a, b, _), c, _), ((d, e, f, g, h, i, j, k, l, m, o, p, q, r, s, t, u, v, w, _), _, _), _) => fA35.run N a b c d e f g h i j k l m o p q r s t u v w
def S (N : Nat) : Fs := ⟨ins, outs, fn N⟩
def lam (N : Nat) : Pcs := pcs [([true, false], (Pc.unroll (C N) (loopBody (sub code [true, false])) (pcs []) 3))]
theorem pok (N : Nat) : (lam N).Ok Tryz.prog (C N) code := pcsOk_cons (c1 := .loop (loopBody (sub code [true, false]))) (by kernel_rfl) (unroll_ok (cok N) mix pcsOk_nil 3) (pcsOk_nil)
theorem ok (N : Nat) : (S N).con.Ok Tryz.prog 64 := okF (F := S N) [] Tryz.func64 (by kernel_rfl) (by rfl) mix (cok N) (pok N) fun _ => by kernel_rfl
end fA35
namespace fA23
def ins : Sh := s71
def C (N : Nat) : Ctx := ⟨U, 11, fun _ => true, gam [(64, (fA35.S N).con)], gamY []⟩
theorem cok (N : Nat) : (C N).Ok Tryz.prog := ⟨U_ok, GamOk.cons (fA35.ok N) (GamOk.nil), GamYOk.nil⟩
def code : Code := Tryz.f70.body.getD .skip
def outs : Sh := s72
end fA23
def fA23.run (N : Nat) (b : (List UInt8)) (e : Int) (jT : Bool) (jA : Int) (jB_ : Int) (jC_ : Int) (jD : Int) (jE : Int) (jF : Int) (jG : Int) (jH : Int) (jI : Int) (jJ : Int) (jK : Int) (jL : Bool) (jM : Bool) (jN : Bool) (jO_ : Int) (jO1 : Int) (jP : (List T7)) (jP1 : (List T8)) (jQ : (List T6)) : Option T30 :=
  obind (fA35.run N b e jT jA jB_ jC_ jD jE jF jG jH jI jJ jK jL jM jN jO_ jO1 jP jP1 jQ) fun ((b1, e1, _), (jA1, jB1, jC1, jD1, jE1, jF1, jG1, jH1, jI1, jJ1, jK1, jL1, jM1, jN1, jO2, jO3, jP2, jP3, jQ1, _), _) =>
    some ((b1, e1, ()), (jA1, jB1, jC1, jD1, jE1, jF1, jG1, jH1, jI1, jJ1, jK1, jL1, jM1, jN1, jO2, jO3, jP2, jP3, jQ1, ()), ())
namespace fA23
def fn (N : Nat) : Sh.den ins → Option (Sh.den outs) := fun (((_, (a, b, _), c, _), _), ((d, e, f, g, h, i, j, k, l, m, o, p, q, r, s, t, u, v, w, _), _), _) => fA23.run N a b c d e f g h i j k l m o p q r s t u v w
def S (N : Nat) : Fs := ⟨ins, outs, fn N⟩
def lam (N : Nat) : Pcs := pcs []
theorem pok (N : Nat) : (lam N).Ok Tryz.prog (C N) code := pcsOk_nil
theorem ok (N : Nat) : (S N).con.Ok Tryz.prog 70 := okF (F := S N) [] Tryz.func70 (by kernel_rfl) (by rfl) mix (cok N) (pok N) fun _ => by kernel_rfl
end fA23
namespace fC14
def ins : Sh := (.cons (.rbox 47 s48) (.cons (.bxo 8 31 s52) .nil))
def C (N : Nat) : Ctx := ⟨U, 24, fun _ => true, gam [(101, (fB2.S N).con)], gamY []⟩
theorem cok (N : Nat) : (C N).Ok Tryz.prog := ⟨U_ok, GamOk.cons (fB2.ok N) (GamOk.nil), GamYOk.nil⟩
def code : Code := Tryz.f67.body.getD .skip
def outs : Sh := s54
end fC14
def fC14.run (N : Nat) (b : (List UInt8)) (e : Int) (jT : Bool) (jA : Int) (jB_ : Int) (jC_ : Int) (jD : Int) (jE : Int) (jF : Int) (jG : Int) (jH : Int) (jI : Int) (jJ : Int) (jK : Int) (jL : Bool) (jM : Bool) (jN : Bool) (jO_ : Int) (jO1 : Int) (jP : (List T7)) (jP1 : (List T8)) (jQ : (List T6)) : Option T30 :=
  obind (fB2.run N b e) fun ((b1, e1, _), n_, _) =>
    some ((b1, e1, ()), (jA, jB_, jC_, jD, jE, jF, jG, jH, n_, jJ, jK, jL, jM, jN, jO_, jO1, jP, jP1, jQ, ()), ())
namespace fC14
def fn (N : Nat) : Sh.den ins → Option (Sh.den outs) := fun ((_, (a, b, _), c, _), (d, e, f, g, h, i, j, k, l, m, o, p, q, r, s, t, u, v, w, _), _) => fC14.run N a b c d e f g h i j k l m o p q r s t u v w
def S (N : Nat) : Fs := ⟨ins, outs, fn N⟩
def lam (N : Nat) : Pcs := pcs []
theorem pok (N : Nat) : (lam N).Ok Tryz.prog (C N) code := pcsOk_nil
theorem ok (N : Nat) : (S N).con.Ok Tryz.prog 67 := okF (F := S N) [] Tryz.func67 (by kernel_rfl) (by rfl) mix (cok N) (pok N) fun _ => by kernel_rfl
end fC14
namespace fD19
def ins : Sh := (.cons (.rbox 47 s48) (.cons (.els 1 2 (.cons (.bxo 8 31 s52) (.cons (.refo 2 5) .nil))) .nil))
def C (N : Nat) : Ctx := ⟨U, 16, fun _ => true, gam [(67, (((fC5.S N).con).or (fC14.S N).con))], gamY []⟩
theorem cok (N : Nat) : (C N).Ok Tryz.prog := ⟨U_ok, GamOk.cons (Con.or_ok (fC5.ok N) (fC14.ok N)) (GamOk.nil), GamYOk.nil⟩
def code : Code := Tryz.f64.body.getD .skip
def outs : Sh := s54
end fD19
def fD19.run (N : Nat) (b : (List UInt8)) (e : Int) (jT : Bool) (jA : Int) (jB_ : Int) (jC_ : Int) (jD : Int) (jE : Int) (jF : Int) (jG : Int) (jH : Int) (jI : Int) (jJ : Int) (jK : Int) (jL : Bool) (jM : Bool) (jN : Bool) (jO_ : Int) (jO1 : Int) (jP : (List T7)) (jP1 : (List T8)) (jQ : (List T6)) : Option T30 :=
  obind (fC14.run N b e jT jA jB_ jC_ jD jE jF jG jH jI jJ jK jL jM jN jO_ jO1 jP jP1 jQ) fun ((b1, e1, _), (jA1, jB1, jC1, jD1, jE1, jF1, jG1, jH1, jI1, jJ1, jK1, jL1, jM1, jN1, jO2, jO3, jP2, jP3, jQ1, _), _) =>
    obind (fC5.run N b1 e1 jT jA1 jB1 jC1 jD1 jE1 jF1 jG1 jH1 jI1 jJ1 jK1 jL1 jM1 jN1 jO2 jO3 jP2 jP3 jQ1) fun ((b2, e2, _), (jA2, jB2, jC2, jD2, jE2, jF2, jG2, jH2, jI2, jJ2, jK2, jL2, jM2, jN2, jO4, jO5, jP4, jP5, jQ2, _), _) =>
      some ((b2, e2, ()), (jA2, jB2, jC2, jD2, jE2, jF2, jG2, jH2, jI2, jJ2, jK2, jL2, jM2, jN2, jO4, jO5, jP4, jP5, jQ2, ()), ())
namespace fD19
def fn (N : Nat) : Sh.den ins → Option (Sh.den outs) := fun ((_, (a, b, _), c, _), ((d, e, f, g, h, i, j, k, l, m, o, p, q, r, s, t, u, v, w, _), _, _), _) => fD19.run N a b c d e f g h i j k l m o p q r s t u v w
def S (N : Nat) : Fs := ⟨ins, outs, fn N⟩
def lam (N : Nat) : Pcs := pcs [([true, false], (Pc.unroll (C N) (loopBody (sub code [true, false])) (pcs []) 3))]
theorem pok (N : Nat) : (lam N).Ok Tryz.prog (C N) code := pcsOk_cons (c1 := .loop (loopBody (sub code [true, false]))) (by kernel_rfl) (unroll_ok (cok N) mix pcsOk_nil 3) (pcsOk_nil)
theorem ok (N : Nat) : (S N).con.Ok Tryz.prog 64 := okF (F := S N) [] Tryz.func64 (by kernel_rfl) (by rfl) mix (cok N) (pok N) fun _ => by kernel_rfl
end fD19
namespace fB38
def ins : Sh := s73
def C (N : Nat) : Ctx := ⟨U, 38, fun _ => true, gam [(111, (fA1.S N).con)], gamY []⟩
theorem cok (N : Nat) : (C N).Ok Tryz.prog := ⟨U_ok, GamOk.cons (fA1.ok N) (GamOk.nil), GamYOk.nil⟩
def code : Code := Tryz.f102.body.getD .skip
def outs : Sh := s54
end fB38
def fB38.run (N : Nat) (b : (List UInt8)) (e : Int) (jT : Bool) (jA : Int) (jB_ : Int) (jC_ : Int) (jD : Int) (jE : Int) (jF : Int) (jG : Int) (jH : Int) (jI : Int) (jJ : Int) (jK : Int) (jL : Bool) (jM : Bool) (jN : Bool) (jO_ : Int) (jO1 : Int) (jP : (List T7)) (jP1 : (List T8)) (jQ : (List T6)) : Option T30 :=
  obind (fA1.run N b e (2147483647 : Int)) fun ((b1, e1, _), n_, _) =>
    some ((b1, e1, ()), (jA, jB_, jC_, jD, jE, jF, jG, jH, jI, jJ, jK, jL, jM, jN, IntKind.i64.wrap n_, jO1, jP, jP1, jQ, ()), ())
namespace fB38
def fn (N : Nat) : Sh.den ins → Option (Sh.den outs) := fun ((_, (a, b, _), c, _), (d, e, f, g, h, i, j, k, l, m, o, p, q, r, s, t, u, v, w, _), _) => fB38.run N a b c d e f g h i j k l m o p q r s t u v w
def S (N : Nat) : Fs := ⟨ins, outs, fn N⟩
def lam (N : Nat) : Pcs := pcs []
theorem pok (N : Nat) : (lam N).Ok Tryz.prog (C N) code := pcsOk_nil
theorem ok (N : Nat) : (S N).con.Ok Tryz.prog 102 := okF (F := S N) [] Tryz.func102 (by kernel_rfl) (by rfl) mix (cok N) (pok N) fun _ => by kernel_rfl
end fB38
namespace fB36
def ins : Sh := (.cons (.rbox 47 s48) (.cons (.bxo 15 31 s52) .nil))
def C (N : Nat) : Ctx := ⟨U, 38, fun _ => true, gam [(111, (fA1.S N).con)], gamY []⟩
theorem cok (N : Nat) : (C N).Ok Tryz.prog := ⟨U_ok, GamOk.cons (fA1.ok N) (GamOk.nil), GamYOk.nil⟩
def code : Code := Tryz.f102.body.getD .skip
def outs : Sh := s54
end fB36
def fB36.run (N : Nat) (b : (List UInt8)) (e : Int) (jT : Bool) (jA : Int) (jB_ : Int) (jC_ : Int) (jD : Int) (jE : Int) (jF : Int) (jG : Int) (jH : Int) (jI : Int) (jJ : Int) (jK : Int) (jL : Bool) (jM : Bool) (jN : Bool) (jO_ : Int) (jO1 : Int) (jP : (List T7)) (jP1 : (List T8)) (jQ : (List T6)) : Option T30 :=
  obind (fA1.run N b e (2147483647 : Int)) fun ((b1, e1, _), n_, _) =>
    some ((b1, e1, ()), (jA, jB_, jC_, jD, jE, jF, jG, jH, jI, jJ, jK, jL, jM, jN, jO_, IntKind.i64.wrap n_, jP, jP1, jQ, ()), ())
namespace fB36
def fn (N : Nat) : Sh.den ins → Option (Sh.den outs) := fun ((_, (a, b, _), c, _), (d, e, f, g, h, i, j, k, l, m, o, p, q, r, s, t, u, v, w, _), _) => fB36.run N a b c d e f g h i j k l m o p q r s t u v w
def S (N : Nat) : Fs := ⟨ins, outs, fn N⟩
def lam (N : Nat) : Pcs := pcs []
theorem pok (N : Nat) : (lam N).Ok Tryz.prog (C N) code := pcsOk_nil
theorem ok (N : Nat) : (S N).con.Ok Tryz.prog 102 := okF (F := S N) [] Tryz.func102 (by kernel_rfl) (by rfl) mix (cok N) (pok N) fun _ => by kernel_rfl
end fB36
namespace fA7
def ins : Sh := s73
def C (N : Nat) : Ctx := ⟨U, 14, fun _ => true, gam [(102, (((fB38.S N).con).or (fB36.S N).con))], gamY []⟩
theorem cok (N : Nat) : (C N).Ok Tryz.prog := ⟨U_ok, GamOk.cons (Con.or_ok (fB38.ok N) (fB36.ok N)) (GamOk.nil), GamYOk.nil⟩
def code : Code := Tryz.f72.body.getD .skip
def outs : Sh := s54
end fA7
def fA7.run (N : Nat) (b : (List UInt8)) (e : Int) (jT : Bool) (jA : Int) (jB_ : Int) (jC_ : Int) (jD : Int) (jE : Int) (jF : Int) (jG : Int) (jH : Int) (jI : Int) (jJ : Int) (jK : Int) (jL : Bool) (jM : Bool) (jN : Bool) (jO_ : Int) (jO1 : Int) (jP : (List T7)) (jP1 : (List T8)) (jQ : (List T6)) : Option T30 :=
  obind (fB38.run N b e jT jA jB_ jC_ jD jE jF jG jH jI jJ jK jL jM jN jO_ jO1 jP jP1 jQ) fun ((b1, e1, _), (jA1, jB1, jC1, jD1, jE1, jF1, jG1, jH1, jI1, jJ1, jK1, jL1, jM1, jN1, jO2, jO3, jP2, jP3, jQ1, _), _) =>
    obind (fB36.run N b1 e1 jT jA1 jB1 jC1 jD1 jE1 jF1 jG1 jH1 jI1 jJ1 jK1 jL1 jM1 jN1 jO2 jO3 jP2 jP3 jQ1) fun ((b2, e2, _), (jA2, jB2, jC2, jD2, jE2, jF2, jG2, jH2, jI2, jJ2, jK2, jL2, jM2, jN2, jO4, jO5, jP4, jP5, jQ2, _), _) =>
      some ((b2, e2, ()), (jA2, jB2, jC2, jD2, jE2, jF2, jG2, jH2, jI2, jJ2, jK2, jL2, jM2, jN2, jO4, jO5, jP4, jP5, jQ2, ()), ())
namespace fA7
def fn (N : Nat) : Sh.den ins → Option (Sh.den outs) := fun ((_, (a, b, _), c, _), (d, e, f, g, h, i, j, k, l, m, o, p, q, r, s, t, u, v, w, _), _) => fA7.run N a b c d e f g h i j k l m o p q r s t u v w
def S (N : Nat) : Fs := ⟨ins, outs, fn N⟩
def lam (N : Nat) : Pcs := pcs []
theorem pok (N : Nat) : (lam N).Ok Tryz.prog (C N) code := pcsOk_nil
theorem ok (N : Nat) : (S N).con.Ok Tryz.prog 72 := okF (F := S N) [] Tryz.func72 (by kernel_rfl) (by rfl) mix (cok N) (pok N) fun _ => by kernel_rfl
end fA7
namespace fD22
def ins : Sh := s71
def C (N : Nat) : Ctx := ⟨U, 16, fun _ => true, gam [(64, (fD19.S N).con), (72, (fA7.S N).con)], gamY []⟩
theorem cok (N : Nat) : (C N).Ok Tryz.prog := ⟨U_ok, GamOk.cons (fD19.ok N) (GamOk.cons (fA7.ok N) (GamOk.nil)), GamYOk.nil⟩
def code : Code := Tryz.f71.body.getD .skip
def outs : Sh := s72
end fD22
def fD22.run (N : Nat) (b : (List UInt8)) (e : Int) (jT : Bool) (jA : Int) (jB_ : Int) (jC_ : Int) (jD : Int) (jE : Int) (jF : Int) (jG : Int) (jH : Int) (jI : Int) (jJ : Int) (jK : Int) (jL : Bool) (jM : Bool) (jN : Bool) (jO_ : Int) (jO1 : Int) (jP : (List T7)) (jP1 : (List T8)) (jQ : (List T6)) : Option T30 :=
  obind (fD19.run N b e jT jA jB_ jC_ jD jE jF jG jH jI jJ jK jL jM jN jO_ jO1 jP jP1 jQ) fun ((b1, e1, _), (jA1, jB1, jC1, jD1, jE1, jF1, jG1, jH1, jI1, jJ1, jK1, jL1, jM1, jN1, jO2, jO3, jP2, jP3, jQ1, _), _) =>
    obind (fA7.run N b1 e1 jT jA1 jB1 jC1 jD1 jE1 jF1 jG1 jH1 jI1 jJ1 jK1 jL1 jM1 jN1 jO2 jO3 jP2 jP3 jQ1) fun ((b2, e2, _), (jA2, jB2, jC2, jD2, jE2, jF2, jG2, jH2, jI2, jJ2, jK2, jL2, jM2, jN2, jO4, jO5, jP4, jP5, jQ2, _), _) =>
      some ((b2, e2, ()), (jA2, jB2, jC2, jD2, jE2, jF2, jG2, jH2, jI2, jJ2, jK2, jL2, jM2, jN2, jO4, jO5, jP4, jP5, jQ2, ()), ())
namespace fD22
def fn (N : Nat) : Sh.den ins → Option (Sh.den outs) := fun (((_, (a, b, _), c, _), _), ((d, e, f, g, h, i, j, k, l, m, o, p, q, r, s, t, u, v, w, _), _), _) => fD22.run N a b c d e f g h i j k l m o p q r s t u v w
def S (N : Nat) : Fs := ⟨ins, outs, fn N⟩
def lam (N : Nat) : Pcs := pcs []
theorem pok (N : Nat) : (lam N).Ok Tryz.prog (C N) code := pcsOk_nil
theorem ok (N : Nat) : (S N).con.Ok Tryz.prog 71 := okF (F := S N) [] Tryz.func71 (by kernel_rfl) (by rfl) mix (cok N) (pok N) fun _ => by kernel_rfl
end fD22
namespace fA41
def ins : Sh := (.cons (.box 47 s48) (.cons (.bxo 12 31 s52) .nil))
def C (N : Nat) : Ctx := ⟨U, 14, fun _ => true, gam [(32, (fA9.S N).con)], gamY []⟩
theorem cok (N : Nat) : (C N).Ok Tryz.prog := ⟨U_ok, GamOk.cons (fA9.ok N) (GamOk.nil), GamYOk.nil⟩
def code : Code := Tryz.f68.body.getD .skip
def outs : Sh := s53
end fA41
def fA41.run (N : Nat) (b : (List UInt8)) (e : Int) (jT : Bool) (jA : Int) (jB_ : Int) (jC_ : Int) (jD : Int) (jE : Int) (jF : Int) (jG : Int) (jH : Int) (jI : Int) (jJ : Int) (jK : Int) (jL : Bool) (jM : Bool) (jN : Bool) (jO_ : Int) (jO1 : Int) (jP : (List T7)) (jP1 : (List T8)) (jQ : (List T6)) : Option T29 :=
  bif jM then
    obind (fA9.run N b e jT (1 : Int) (1 : Int)) fun ((b1, e1, _), (_, _, jT1, _), (v, _), _) =>
      some ((b1, e1, ()), ((), (), jT1, ()), (jA, jB_, jC_, jD, jE, jF, jG, jH, jI, jJ, jK, jL, decide (v = (1 : Int)), jN, jO_, jO1, jP, jP1, jQ, ()), ())
  else
    obind (fA9.run N b e jT (0 : Int) (1 : Int)) fun ((b2, e2, _), (_, _, jT2, _), (v1, _), _) =>
      some ((b2, e2, ()), ((), (), jT2, ()), (jA, jB_, jC_, jD, jE, jF, jG, jH, jI, jJ, jK, jL, decide (v1 = (1 : Int)), jN, jO_, jO1, jP, jP1, jQ, ()), ())
namespace fA41
def fn (N : Nat) : Sh.den ins → Option (Sh.den outs) := fun ((_, (a, b, _), c, _), (d, e, f, g, h, i, j, k, l, m, o, p, q, r, s, t, u, v, w, _), _) => fA41.run N a b c d e f g h i j k l m o p q r s t u v w
def S (N : Nat) : Fs := ⟨ins, outs, fn N⟩
def lam (N : Nat) : Pcs := pcs []
theorem pok (N : Nat) : (lam N).Ok Tryz.prog (C N) code := pcsOk_nil
theorem ok (N : Nat) : (S N).con.Ok Tryz.prog 68 := okF (F := S N) [] Tryz.func68 (by kernel_rfl) (by rfl) mix (cok N) (pok N) fun _ => by kernel_rfl
end fA41
namespace fA44
def ins : Sh := s74
def C (N : Nat) : Ctx := ⟨U, 24, fun _ => true, gam [(101, (fB2.S N).con)], gamY []⟩
theorem cok (N : Nat) : (C N).Ok Tryz.prog := ⟨U_ok, GamOk.cons (fB2.ok N) (GamOk.nil), GamYOk.nil⟩
def code : Code := Tryz.f67.body.getD .skip
def outs : Sh := s75
end fA44
def fA44.run (N : Nat) (b : (List UInt8)) (e : Int) (jT : Bool) (id_ : Int) (id1 : Int) (row : (List T4)) (jU : Int) : Option T40 :=
  obind (fB2.run N b e) fun ((b1, e1, _), n_, _) =>
    some ((b1, e1, ()), (n_, id1, row, jU, ()), ())
namespace fA44
def fn (N : Nat) : Sh.den ins → Option (Sh.den outs) := fun ((_, (a, b, _), c, _), (d, e, f, g, _), _) => fA44.run N a b c d e f g
def S (N : Nat) : Fs := ⟨ins, outs, fn N⟩
def lam (N : Nat) : Pcs := pcs []
theorem pok (N : Nat) : (lam N).Ok Tryz.prog (C N) code := pcsOk_nil
theorem ok (N : Nat) : (S N).con.Ok Tryz.prog 67 := okF (F := S N) [] Tryz.func67 (by kernel_rfl) (by rfl) mix (cok N) (pok N) fun _ => by kernel_rfl
end fA44
namespace fD43
def ins : Sh := (.cons (.rbox 47 s48) (.cons (.bxo 1 93 s56) .nil))
def C (N : Nat) : Ctx := ⟨U, 24, fun _ => true, gam [(53, (fD4.S N).con)], gamY []⟩
theorem cok (N : Nat) : (C N).Ok Tryz.prog := ⟨U_ok, GamOk.cons (fD4.ok N) (GamOk.nil), GamYOk.nil⟩
def code : Code := Tryz.f113.body.getD .skip
def outs : Sh := s75
end fD43
def fD43.run (N : Nat) (b : (List UInt8)) (e : Int) (jT : Bool) (id_ : Int) (id1 : Int) (row : (List T4)) (jU : Int) : Option T40 :=
  obind (fD4.run N b e) fun ((b1, e1, _), n_, _) =>
    some ((b1, e1, ()), (id_, n_, row, jU, ()), ())
namespace fD43
def fn (N : Nat) : Sh.den ins → Option (Sh.den outs) := fun ((_, (a, b, _), c, _), (d, e, f, g, _), _) => fD43.run N a b c d e f g
def S (N : Nat) : Fs := ⟨ins, outs, fn N⟩
def lam (N : Nat) : Pcs := pcs []
theorem pok (N : Nat) : (lam N).Ok Tryz.prog (C N) code := pcsOk_nil
theorem ok (N : Nat) : (S N).con.Ok Tryz.prog 113 := okF (F := S N) [] Tryz.func113 (by kernel_rfl) (by rfl) mix (cok N) (pok N) fun _ => by kernel_rfl
end fD43
namespace fD47
def ins : Sh := s74
def C (N : Nat) : Ctx := ⟨U, 14, fun _ => true, gam [(67, (fA44.S N).con), (113, (fD43.S N).con)], gamY []⟩
theorem cok (N : Nat) : (C N).Ok Tryz.prog := ⟨U_ok, GamOk.cons (fA44.ok N) (GamOk.cons (fD43.ok N) (GamOk.nil)), GamYOk.nil⟩
def code : Code := Tryz.f115.body.getD .skip
def outs : Sh := s75
end fD47
def fD47.run (N : Nat) (b : (List UInt8)) (e : Int) (jT : Bool) (id_ : Int) (id1 : Int) (row : (List T4)) (jU : Int) : Option T40 :=
  obind (fA44.run N b e jT id_ id1 row jU) fun ((b1, e1, _), (id2, id3, row1, jU1, _), _) =>
    obind (fD43.run N b1 e1 jT id2 id3 row1 jU1) fun ((b2, e2, _), (id4, id5, row2, jU2, _), _) =>
      some ((b2, e2, ()), (id4, id5, row2, jU2, ()), ())
namespace fD47
def fn (N : Nat) : Sh.den ins → Option (Sh.den outs) := fun ((_, (a, b, _), c, _), (d, e, f, g, _), _) => fD47.run N a b c d e f g
def S (N : Nat) : Fs := ⟨ins, outs, fn N⟩
def lam (N : Nat) : Pcs := pcs []
theorem pok (N : Nat) : (lam N).Ok Tryz.prog (C N) code := pcsOk_nil
theorem ok (N : Nat) : (S N).con.Ok Tryz.prog 115 := okF (F := S N) [] Tryz.func115 (by kernel_rfl) (by rfl) mix (cok N) (pok N) fun _ => by kernel_rfl
end fD47
namespace fD54
def ins : Sh := (.cons (.box 47 s48) (.cons (.bxo 2 93 s56) .nil))
def C (N : Nat) : Ctx := ⟨U, 39, fun _ => true, gam [(123, (fB16.S N).con), (122, (fD24.S N).con), (34, (fD1.S N).con)], gamY []⟩
theorem cok (N : Nat) : (C N).Ok Tryz.prog := ⟨U_ok, GamOk.cons (fB16.ok N) (GamOk.cons (fD24.ok N) (GamOk.cons (fD1.ok N) (GamOk.nil))), GamYOk.nil⟩
def code : Code := Tryz.f114.body.getD .skip
def outs : Sh := s76
end fD54
def fD54.run (N : Nat) (b : (List UInt8)) (e : Int) (jT : Bool) (id_ : Int) (id1 : Int) (row : (List T4)) (jU : Int) : Option T41 :=
  obind (fB16.run N b e (16777216 : Int)) fun ((b1, e1, _), l, _) =>
    obind (fD24.run N l) fun (l1, n_, _) =>
      obind (fD1.run N b1 e1 jT (decide (n_ = (0 : Int)))) fun ((b2, e2, _), (_, _, jT1, _), _) =>
        some ((b2, e2, ()), ((), (), jT1, ()), (id_, id1, l1, jU, ()), ())
namespace fD54
def fn (N : Nat) : Sh.den ins → Option (Sh.den outs) := fun ((_, (a, b, _), c, _), (d, e, f, g, _), _) => fD54.run N a b c d e f g
def S (N : Nat) : Fs := ⟨ins, outs, fn N⟩
def lam (N : Nat) : Pcs := pcs []
theorem pok (N : Nat) : (lam N).Ok Tryz.prog (C N) code := pcsOk_nil
theorem ok (N : Nat) : (S N).con.Ok Tryz.prog 114 := okF (F := S N) [] Tryz.func114 (by kernel_rfl) (by rfl) mix (cok N) (pok N) fun _ => by kernel_rfl
end fD54
namespace fB51
def ins : Sh := (.cons (.rbox 47 s48) (.cons (.bxo 3 93 s56) .nil))
def C (N : Nat) : Ctx := ⟨U, 24, fun _ => true, gam [(101, (fB2.S N).con)], gamY []⟩
theorem cok (N : Nat) : (C N).Ok Tryz.prog := ⟨U_ok, GamOk.cons (fB2.ok N) (GamOk.nil), GamYOk.nil⟩
def code : Code := Tryz.f67.body.getD .skip
def outs : Sh := s75
end fB51
def fB51.run (N : Nat) (b : (List UInt8)) (e : Int) (jT : Bool) (id_ : Int) (id1 : Int) (row : (List T4)) (jU : Int) : Option T40 :=
  obind (fB2.run N b e) fun ((b1, e1, _), n_, _) =>
    some ((b1, e1, ()), (id_, id1, row, n_, ()), ())
namespace fB51
def fn (N : Nat) : Sh.den ins → Option (Sh.den outs) := fun ((_, (a, b, _), c, _), (d, e, f, g, _), _) => fB51.run N a b c d e f g
def S (N : Nat) : Fs := ⟨ins, outs, fn N⟩
def lam (N : Nat) : Pcs := pcs []
theorem pok (N : Nat) : (lam N).Ok Tryz.prog (C N) code := pcsOk_nil
theorem ok (N : Nat) : (S N).con.Ok Tryz.prog 67 := okF (F := S N) [] Tryz.func67 (by kernel_rfl) (by rfl) mix (cok N) (pok N) fun _ => by kernel_rfl
end fB51
namespace fA24
def ins : Sh := (.cons (.box 47 s48) (.cons (.box 93 s56) .nil))
def C (N : Nat) : Ctx := ⟨U, 19, fun _ => true, gam [(115, (fD47.S N).con), (114, (fD54.S N).con), (67, (fB51.S N).con)], gamY []⟩
theorem cok (N : Nat) : (C N).Ok Tryz.prog := ⟨U_ok, GamOk.cons (fD47.ok N) (GamOk.cons (fD54.ok N) (GamOk.cons (fB51.ok N) (GamOk.nil))), GamYOk.nil⟩
def code : Code := Tryz.f104.body.getD .skip
def outs : Sh := s76
end fA24
def fA24.run (N : Nat) (b : (List UInt8)) (e : Int) (jT : Bool) (id_ : Int) (id1 : Int) (row : (List T4)) (jU : Int) : Option T41 :=
  obind (fD47.run N b e jT id_ id1 row jU) fun ((b1, e1, _), (id2, id3, row1, jU1, _), _) =>
    obind (fD54.run N b1 e1 jT id2 id3 row1 jU1) fun ((b2, e2, _), (_, _, jT1, _), (id4, id5, row2, jU2, _), _) =>
      obind (fB51.run N b2 e2 jT1 id4 id5 row2 jU2) fun ((b3, e3, _), (id6, id7, row3, jU3, _), _) =>
        some ((b3, e3, ()), ((), (), jT1, ()), (id6, id7, row3, jU3, ()), ())
namespace fA24
def fn (N : Nat) : Sh.den ins → Option (Sh.den outs) := fun ((_, (a, b, _), c, _), (d, e, f, g, _), _) => fA24.run N a b c d e f g
def S (N : Nat) : Fs := ⟨ins, outs, fn N⟩
def lam (N : Nat) : Pcs := pcs []
theorem pok (N : Nat) : (lam N).Ok Tryz.prog (C N) code := pcsOk_nil
theorem ok (N : Nat) : (S N).con.Ok Tryz.prog 104 := okF (F := S N) [] Tryz.func104 (by kernel_rfl) (by rfl) mix (cok N) (pok N) fun _ => by kernel_rfl
end fA24
namespace fC6
def ins : Sh := (.cons (.box 47 s48) (.cons (.bxo 18 31 s52) s41))
def C (N : Nat) : Ctx := ⟨U, 62, fun _ => true, gam [(111, (fA1.S N).con), (112, (fD14.S N).con), (104, (fA24.S N).con)], gamY []⟩
theorem cok (N : Nat) : (C N).Ok Tryz.prog := ⟨U_ok, GamOk.cons (fA1.ok N) (GamOk.cons (fD14.ok N) (GamOk.cons (fA24.ok N) (GamOk.nil))), GamYOk.nil⟩
def code : Code := Tryz.f103.body.getD .skip
def outs : Sh := s53
end fC6
namespace fD9
def ins : Sh := (.cons (.box 47 s48) (.cons (.bxo 18 31 s52) (.cons (.fnb 1 104 (.cons (.ref 0) .nil)) (.cons (.val (.int .u64)) .nil))))
def ts : List Tmp := [0, 1, 2, 8]
def asg : List Tmp := [8, 9, 43, 44, 45, 46, 47, 48, 49, 50, 51, 52, 53, 54, 55, 56, 57, 58, 59, 60, 61]
def C (N : Nat) : Ctx := { fC6.C N with may := fun t => asg.any (Nat.beq t) }
def code : Code := loopBody (sub fC6.code [true, true, true, false])
theorem cok (N : Nat) : (C N).Ok Tryz.prog := okC (fC6.cok N) _
def alts : List Alt := [⟨(.exit 2), [], s53⟩]
end fD9
def fD9.go (N : Nat) : Nat → (List UInt8) → Int → Bool → Int → Int → Int → Int → Int → Int → Int → Int → Int → Int → Int → Bool → Bool → Bool → Int → Int → (List T7) → (List T8) → (List T6) → Int → Option (T29)
  | 0, _, _, _, _, _, _, _, _, _, _, _, _, _, _, _, _, _, _, _, _, _, _, _ => none
  | fuel + 1, b, e, jT, jA, jB_, jC_, jD, jE, jF, jG, jH, jI, jJ, jK, jL, jM, jN, jO_, jO1, jP, jP1, jQ, n_ =>
    bif decide (n_ > (0 : Int)) then
      obind (fD14.run N b e jT) fun (b1, _) =>
        bif !b1 then
          obind (fA24.run N b e jT (0 : Int) (0 : Int) ([] : List T4) (0 : Int)) fun ((b2, e1, _), (_, _, jT1, _), (id_, id1, row, jU, _), _) =>
            bif room (jQ.length + 1) 48 then
              fD9.go N fuel b2 e1 jT1 jA jB_ jC_ jD jE jF jG jH jI jJ jK jL jM jN jO_ jO1 jP jP1 (jQ ++ ([((id_, id1), row, jU)] : List T6)) (IntKind.u64.wrap (n_ - (1 : Int)))
            else none
        else some ((b, e, ()), ((), (), jT, ()), (jA, jB_, jC_, jD, jE, jF, jG, jH, jI, jJ, jK, jL, jM, jN, jO_, jO1, jP, jP1, jQ, ()), ())
    else some ((b, e, ()), ((), (), jT, ()), (jA, jB_, jC_, jD, jE, jF, jG, jH, jI, jJ, jK, jL, jM, jN, jO_, jO1, jP, jP1, jQ, ()), ())
namespace fD9
def g (N n : Nat) : Sh.den ins → Option (altsDen alts) := fun ((_, (a, b, _), c, _), (d, e, f, g, h, i, j, k, l, m, o, p, q, r, s, t, u, v, w, _), (_, _), x, _) => fD9.go N n a b c d e f g h i j k l m o p q r s t u v w x
def P (N : Nat) : Ps := ⟨ts, ins, asg, alts, g N N⟩
def lam (N : Nat) : Pcs := pcs []
theorem pok (N : Nat) : (lam N).Ok Tryz.prog (C N) code := pcsOk_nil
theorem ok (N : Nat) : ((P N).pc (fC6.C N)).Ok Tryz.prog (fC6.C N) (.loop code) := okL (F := P N) (g N) (fC6.cok N) mix (pok N) (fun _ => rfl) rfl fun _ _ => by kernel_rfl
end fD9
def fC6.run (N : Nat) (b : (List UInt8)) (e : Int) (jT : Bool) (jA : Int) (jB_ : Int) (jC_ : Int) (jD : Int) (jE : Int) (jF : Int) (jG : Int) (jH : Int) (jI : Int) (jJ : Int) (jK : Int) (jL : Bool) (jM : Bool) (jN : Bool) (jO_ : Int) (jO1 : Int) (jP : (List T7)) (jP1 : (List T8)) (jQ : (List T6)) : Option T29 :=
  obind (fA1.run N b e (16777216 : Int)) fun ((b1, e1, _), n_, _) =>
    obind (fD9.go N N b1 e1 jT jA jB_ jC_ jD jE jF jG jH jI jJ jK jL jM jN jO_ jO1 jP jP1 ([] : List T6) n_) fun ((b2, e2, _), (_, _, jT1, _), (jA1, jB1, jC1, jD1, jE1, jF1, jG1, jH1, jI1, jJ1, jK1, jL1, jM1, jN1, jO2, jO3, jP2, jP3, jQ1, _), _) =>
      some ((b2, e2, ()), ((), (), jT1, ()), (jA1, jB1, jC1, jD1, jE1, jF1, jG1, jH1, jI1, jJ1, jK1, jL1, jM1, jN1, jO2, jO3, jP2, jP3, jQ1, ()), ())
namespace fC6
def fn (N : Nat) : Sh.den ins → Option (Sh.den outs) := fun ((_, (a, b, _), c, _), (d, e, f, g, h, i, j, k, l, m, o, p, q, r, s, t, u, v, w, _), (_, _), _) => fC6.run N a b c d e f g h i j k l m o p q r s t u v w
def S (N : Nat) : Fs := ⟨ins, outs, fn N⟩
def lam (N : Nat) : Pcs := pcs [([true, true, true, false], (fD9.P N).pc (C N))]
theorem pok (N : Nat) : (lam N).Ok Tryz.prog (C N) code := pcsOk_cons (c1 := .loop fD9.code) (by kernel_rfl) (fD9.ok N) (pcsOk_nil)
theorem ok (N : Nat) : (S N).con.Ok Tryz.prog 103 := okF (F := S N) [] Tryz.func103 (by kernel_rfl) (by rfl) mix (cok N) (pok N) fun _ => by kernel_rfl
end fC6
namespace fC12
def ins : Sh := (.cons (.box 47 s48) (.cons (.bxo 18 31 s52) .nil))
def C (N : Nat) : Ctx := ⟨U, 9, fun _ => true, gam [(103, (fC6.S N).con)], gamY []⟩
theorem cok (N : Nat) : (C N).Ok Tryz.prog := ⟨U_ok, GamOk.cons (fC6.ok N) (GamOk.nil), GamYOk.nil⟩
def code : Code := Tryz.f74.body.getD .skip
def outs : Sh := s53
end fC12
def fC12.run (N : Nat) (b : (List UInt8)) (e : Int) (jT : Bool) (jA : Int) (jB_ : Int) (jC_ : Int) (jD : Int) (jE : Int) (jF : Int) (jG : Int) (jH : Int) (jI : Int) (jJ : Int) (jK : Int) (jL : Bool) (jM : Bool) (jN : Bool) (jO_ : Int) (jO1 : Int) (jP : (List T7)) (jP1 : (List T8)) (jQ : (List T6)) : Option T29 :=
  obind (fC6.run N b e jT jA jB_ jC_ jD jE jF jG jH jI jJ jK jL jM jN jO_ jO1 jP jP1 jQ) fun ((b1, e1, _), (_, _, jT1, _), (jA1, jB1, jC1, jD1, jE1, jF1, jG1, jH1, jI1, jJ1, jK1, jL1, jM1, jN1, jO2, jO3, jP2, jP3, jQ1, _), _) =>
    some ((b1, e1, ()), ((), (), jT1, ()), (jA1, jB1, jC1, jD1, jE1, jF1, jG1, jH1, jI1, jJ1, jK1, jL1, jM1, jN1, jO2, jO3, jP2, jP3, jQ1, ()), ())
namespace fC12
def fn (N : Nat) : Sh.den ins → Option (Sh.den outs) := fun ((_, (a, b, _), c, _), (d, e, f, g, h, i, j, k, l, m, o, p, q, r, s, t, u, v, w, _), _) => fC12.run N a b c d e f g h i j k l m o p q r s t u v w
def S (N : Nat) : Fs := ⟨ins, outs, fn N⟩
def lam (N : Nat) : Pcs := pcs []
theorem pok (N : Nat) : (lam N).Ok Tryz.prog (C N) code := pcsOk_nil
theorem ok (N : Nat) : (S N).con.Ok Tryz.prog 74 := okF (F := S N) [] Tryz.func74 (by kernel_rfl) (by rfl) mix (cok N) (pok N) fun _ => by kernel_rfl
end fC12
namespace fD21
def ins : Sh := s69
def C (N : Nat) : Ctx := ⟨U, 22, fun _ => true, gam [(67, (fC14.S N).con), (72, (fA7.S N).con), (68, (fA41.S N).con), (74, (fC12.S N).con)], gamY []⟩
theorem cok (N : Nat) : (C N).Ok Tryz.prog := ⟨U_ok, GamOk.cons (fC14.ok N) (GamOk.cons (fA7.ok N) (GamOk.cons (fA41.ok N) (GamOk.cons (fC12.ok N) (GamOk.nil)))), GamYOk.nil⟩
def code : Code := Tryz.f73.body.getD .skip
def outs : Sh := s70
end fD21
def fD21.run (N : Nat) (b : (List UInt8)) (e : Int) (jT : Bool) (jA : Int) (jB_ : Int) (jC_ : Int) (jD : Int) (jE : Int) (jF : Int) (jG : Int) (jH : Int) (jI : Int) (jJ : Int) (jK : Int) (jL : Bool) (jM : Bool) (jN : Bool) (jO_ : Int) (jO1 : Int) (jP : (List T7)) (jP1 : (List T8)) (jQ : (List T6)) : Option T29 :=
  obind (fC14.run N b e jT jA jB_ jC_ jD jE jF jG jH jI jJ jK jL jM jN jO_ jO1 jP jP1 jQ) fun ((b1, e1, _), (jA1, jB1, jC1, jD1, jE1, jF1, jG1, jH1, jI1, jJ1, jK1, jL1, jM1, jN1, jO2, jO3, jP2, jP3, jQ1, _), _) =>
    obind (fA7.run N b1 e1 jT jA1 jB1 jC1 jD1 jE1 jF1 jG1 jH1 jI1 jJ1 jK1 jL1 jM1 jN1 jO2 jO3 jP2 jP3 jQ1) fun ((b2, e2, _), (jA2, jB2, jC2, jD2, jE2, jF2, jG2, jH2, jI2, jJ2, jK2, jL2, jM2, jN2, jO4, jO5, jP4, jP5, jQ2, _), _) =>
      obind (fA41.run N b2 e2 jT jA2 jB2 jC2 jD2 jE2 jF2 jG2 jH2 jI2 jJ2 jK2 jL2 jM2 jN2 jO4 jO5 jP4 jP5 jQ2) fun ((b3, e3, _), (_, _, jT1, _), (jA3, jB3, jC3, jD3, jE3, jF3, jG3, jH3, jI3, jJ3, jK3, jL3, jM3, jN3, jO6, jO7, jP6, jP7, jQ3, _), _) =>
        obind (fC12.run N b3 e3 jT1 jA3 jB3 jC3 jD3 jE3 jF3 jG3 jH3 jI3 jJ3 jK3 jL3 jM3 jN3 jO6 jO7 jP6 jP7 jQ3) fun ((b4, e4, _), (_, _, jT2, _), (jA4, jB4, jC4, jD4, jE4, jF4, jG4, jH4, jI4, jJ4, jK4, jL4, jM4, jN4, jO8, jO9, jP8, jP9, jQ4, _), _) =>
          some ((b4, e4, ()), ((), (), jT2, ()), (jA4, jB4, jC4, jD4, jE4, jF4, jG4, jH4, jI4, jJ4, jK4, jL4, jM4, jN4, jO8, jO9, jP8, jP9, jQ4, ()), ())
namespace fD21
def fn (N : Nat) : Sh.den ins → Option (Sh.den outs) := fun (((_, (a, b, _), c, _), _), ((d, e, f, g, h, i, j, k, l, m, o, p, q, r, s, t, u, v, w, _), _), _) => fD21.run N a b c d e f g h i j k l m o p q r s t u v w
def S (N : Nat) : Fs := ⟨ins, outs, fn N⟩
def lam (N : Nat) : Pcs := pcs []
theorem pok (N : Nat) : (lam N).Ok Tryz.prog (C N) code := pcsOk_nil
theorem ok (N : Nat) : (S N).con.Ok Tryz.prog 73 := okF (F := S N) [] Tryz.func73 (by kernel_rfl) (by rfl) mix (cok N) (pok N) fun _ => by kernel_rfl
end fD21
namespace fD34
def ins : Sh := (.cons (.box 47 s48) (.cons (.bxo 13 31 s52) .nil))
def C (N : Nat) : Ctx := ⟨U, 14, fun _ => true, gam [(32, (fA9.S N).con)], gamY []⟩
theorem cok (N : Nat) : (C N).Ok Tryz.prog := ⟨U_ok, GamOk.cons (fA9.ok N) (GamOk.nil), GamYOk.nil⟩
def code : Code := Tryz.f68.body.getD .skip
def outs : Sh := s53
end fD34
def fD34.run (N : Nat) (b : (List UInt8)) (e : Int) (jT : Bool) (jA : Int) (jB_ : Int) (jC_ : Int) (jD : Int) (jE : Int) (jF : Int) (jG : Int) (jH : Int) (jI : Int) (jJ : Int) (jK : Int) (jL : Bool) (jM : Bool) (jN : Bool) (jO_ : Int) (jO1 : Int) (jP : (List T7)) (jP1 : (List T8)) (jQ : (List T6)) : Option T29 :=
  bif jN then
    obind (fA9.run N b e jT (1 : Int) (1 : Int)) fun ((b1, e1, _), (_, _, jT1, _), (v, _), _) =>
      some ((b1, e1, ()), ((), (), jT1, ()), (jA, jB_, jC_, jD, jE, jF, jG, jH, jI, jJ, jK, jL, jM, decide (v = (1 : Int)), jO_, jO1, jP, jP1, jQ, ()), ())
  else
    obind (fA9.run N b e jT (0 : Int) (1 : Int)) fun ((b2, e2, _), (_, _, jT2, _), (v1, _), _) =>
      some ((b2, e2, ()), ((), (), jT2, ()), (jA, jB_, jC_, jD, jE, jF, jG, jH, jI, jJ, jK, jL, jM, decide (v1 = (1 : Int)), jO_, jO1, jP, jP1, jQ, ()), ())
namespace fD34
def fn (N : Nat) : Sh.den ins → Option (Sh.den outs) := fun ((_, (a, b, _), c, _), (d, e, f, g, h, i, j, k, l, m, o, p, q, r, s, t, u, v, w, _), _) => fD34.run N a b c d e f g h i j k l m o p q r s t u v w
def S (N : Nat) : Fs := ⟨ins, outs, fn N⟩
def lam (N : Nat) : Pcs := pcs []
theorem pok (N : Nat) : (lam N).Ok Tryz.prog (C N) code := pcsOk_nil
theorem ok (N : Nat) : (S N).con.Ok Tryz.prog 68 := okF (F := S N) [] Tryz.func68 (by kernel_rfl) (by rfl) mix (cok N) (pok N) fun _ => by kernel_rfl
end fD34
namespace fA22
def ins : Sh := s69
def C (N : Nat) : Ctx := ⟨U, 16, fun _ => true, gam [(64, (fD19.S N).con), (68, (fD34.S N).con)], gamY []⟩
theorem cok (N : Nat) : (C N).Ok Tryz.prog := ⟨U_ok, GamOk.cons (fD19.ok N) (GamOk.cons (fD34.ok N) (GamOk.nil)), GamYOk.nil⟩
def code : Code := Tryz.f75.body.getD .skip
def outs : Sh := s70
end fA22
def fA22.run (N : Nat) (b : (List UInt8)) (e : Int) (jT : Bool) (jA : Int) (jB_ : Int) (jC_ : Int) (jD : Int) (jE : Int) (jF : Int) (jG : Int) (jH : Int) (jI : Int) (jJ : Int) (jK : Int) (jL : Bool) (jM : Bool) (jN : Bool) (jO_ : Int) (jO1 : Int) (jP : (List T7)) (jP1 : (List T8)) (jQ : (List T6)) : Option T29 :=
  obind (fD19.run N b e jT jA jB_ jC_ jD jE jF jG jH jI jJ jK jL jM jN jO_ jO1 jP jP1 jQ) fun ((b1, e1, _), (jA1, jB1, jC1, jD1, jE1, jF1, jG1, jH1, jI1, jJ1, jK1, jL1, jM1, jN1, jO2, jO3, jP2, jP3, jQ1, _), _) =>
    obind (fD34.run N b1 e1 jT jA1 jB1 jC1 jD1 jE1 jF1 jG1 jH1 jI1 jJ1 jK1 jL1 jM1 jN1 jO2 jO3 jP2 jP3 jQ1) fun ((b2, e2, _), (_, _, jT1, _), (jA2, jB2, jC2, jD2, jE2, jF2, jG2, jH2, jI2, jJ2, jK2, jL2, jM2, jN2, jO4, jO5, jP4, jP5, jQ2, _), _) =>
      some ((b2, e2, ()), ((), (), jT1, ()), (jA2, jB2, jC2, jD2, jE2, jF2, jG2, jH2, jI2, jJ2, jK2, jL2, jM2, jN2, jO4, jO5, jP4, jP5, jQ2, ()), ())
namespace fA22
def fn (N : Nat) : Sh.den ins → Option (Sh.den outs) := fun (((_, (a, b, _), c, _), _), ((d, e, f, g, h, i, j, k, l, m, o, p, q, r, s, t, u, v, w, _), _), _) => fA22.run N a b c d e f g h i j k l m o p q r s t u v w
def S (N : Nat) : Fs := ⟨ins, outs, fn N⟩
def lam (N : Nat) : Pcs := pcs []
theorem pok (N : Nat) : (lam N).Ok Tryz.prog (C N) code := pcsOk_nil
theorem ok (N : Nat) : (S N).con.Ok Tryz.prog 75 := okF (F := S N) [] Tryz.func75 (by kernel_rfl) (by rfl) mix (cok N) (pok N) fun _ => by kernel_rfl
end fA22
namespace fD50
def ins : Sh := (.cons (.box 47 s48) (.cons (.bxo 10 31 s52) (.cons (.val (.int .i64)) .nil)))
def C (N : Nat) : Ctx := ⟨U, 41, fun _ => true, gam [(62, (fB6.S N).con), (34, (fD1.S N).con)], gamY []⟩
theorem cok (N : Nat) : (C N).Ok Tryz.prog := ⟨U_ok, GamOk.cons (fB6.ok N) (GamOk.cons (fD1.ok N) (GamOk.nil)), GamYOk.nil⟩
def code : Code := Tryz.f32.body.getD .skip
def outs : Sh := s53
end fD50
def fD50.run (N : Nat) (b : (List UInt8)) (e : Int) (jT : Bool) (jA : Int) (jB_ : Int) (jC_ : Int) (jD : Int) (jE : Int) (jF : Int) (jG : Int) (jH : Int) (jI : Int) (jJ : Int) (jK : Int) (jL : Bool) (jM : Bool) (jN : Bool) (jO_ : Int) (jO1 : Int) (jP : (List T7)) (jP1 : (List T8)) (jQ : (List T6)) (most : Int) : Option T29 :=
  obind (fB6.run N b e) fun ((b1, e1, _), n_, _) =>
    bif decide ((IntKind.i64.wrap (n_.toNat : Int)) ≥ (0 : Int)) then
      obind (fD1.run N b1 e1 jT (decide ((IntKind.i64.wrap (n_.toNat : Int)) ≤ most))) fun ((b2, e2, _), (_, _, jT1, _), _) =>
        some ((b2, e2, ()), ((), (), jT1, ()), (jA, jB_, jC_, jD, jE, jF, jG, jH, jI, jJ, IntKind.i64.wrap (n_.toNat : Int), jL, jM, jN, jO_, jO1, jP, jP1, jQ, ()), ())
    else
      obind (fD1.run N b1 e1 jT false) fun ((b3, e3, _), (_, _, jT2, _), _) =>
        some ((b3, e3, ()), ((), (), jT2, ()), (jA, jB_, jC_, jD, jE, jF, jG, jH, jI, jJ, IntKind.i64.wrap (n_.toNat : Int), jL, jM, jN, jO_, jO1, jP, jP1, jQ, ()), ())
namespace fD50
def fn (N : Nat) : Sh.den ins → Option (Sh.den outs) := fun ((_, (a, b, _), c, _), (d, e, f, g, h, i, j, k, l, m, o, p, q, r, s, t, u, v, w, _), x, _) => fD50.run N a b c d e f g h i j k l m o p q r s t u v w x
def S (N : Nat) : Fs := ⟨ins, outs, fn N⟩
def lam (N : Nat) : Pcs := pcs []
theorem pok (N : Nat) : (lam N).Ok Tryz.prog (C N) code := pcsOk_nil
theorem ok (N : Nat) : (S N).con.Ok Tryz.prog 32 := okF (F := S N) [] Tryz.func32 (by kernel_rfl) (by rfl) mix (cok N) (pok N) fun _ => by kernel_rfl
end fD50
namespace fD49
def ins : Sh := (.cons (.box 47 s48) (.cons (.bxo 10 31 s52) .nil))
def C (N : Nat) : Ctx := ⟨U, 7, fun _ => true, gam [(32, (fD50.S N).con)], gamY []⟩
theorem cok (N : Nat) : (C N).Ok Tryz.prog := ⟨U_ok, GamOk.cons (fD50.ok N) (GamOk.nil), GamYOk.nil⟩
def code : Code := Tryz.f33.body.getD .skip
def outs : Sh := s53
end fD49
def fD49.run (N : Nat) (b : (List UInt8)) (e : Int) (jT : Bool) (jA : Int) (jB_ : Int) (jC_ : Int) (jD : Int) (jE : Int) (jF : Int) (jG : Int) (jH : Int) (jI : Int) (jJ : Int) (jK : Int) (jL : Bool) (jM : Bool) (jN : Bool) (jO_ : Int) (jO1 : Int) (jP : (List T7)) (jP1 : (List T8)) (jQ : (List T6)) : Option T29 :=
  obind (fD50.run N b e jT jA jB_ jC_ jD jE jF jG jH jI jJ jK jL jM jN jO_ jO1 jP jP1 jQ (8 : Int)) fun ((b1, e1, _), (_, _, jT1, _), (jA1, jB1, jC1, jD1, jE1, jF1, jG1, jH1, jI1, jJ1, jK1, jL1, jM1, jN1, jO2, jO3, jP2, jP3, jQ1, _), _) =>
    some ((b1, e1, ()), ((), (), jT1, ()), (jA1, jB1, jC1, jD1, jE1, jF1, jG1, jH1, jI1, jJ1, jK1, jL1, jM1, jN1, jO2, jO3, jP2, jP3, jQ1, ()), ())
namespace fD49
def fn (N : Nat) : Sh.den ins → Option (Sh.den outs) := fun ((_, (a, b, _), c, _), (d, e, f, g, h, i, j, k, l, m, o, p, q, r, s, t, u, v, w, _), _) => fD49.run N a b c d e f g h i j k l m o p q r s t u v w
def S (N : Nat) : Fs := ⟨ins, outs, fn N⟩
def lam (N : Nat) : Pcs := pcs []
theorem pok (N : Nat) : (lam N).Ok Tryz.prog (C N) code := pcsOk_nil
theorem ok (N : Nat) : (S N).con.Ok Tryz.prog 33 := okF (F := S N) [] Tryz.func33 (by kernel_rfl) (by rfl) mix (cok N) (pok N) fun _ => by kernel_rfl
end fD49
namespace fA14
def ins : Sh := (.cons (.rbox 47 s48) (.cons (.bxo 9 31 s52) .nil))
def C (N : Nat) : Ctx := ⟨U, 24, fun _ => true, gam [(101, (fB2.S N).con)], gamY []⟩
theorem cok (N : Nat) : (C N).Ok Tryz.prog := ⟨U_ok, GamOk.cons (fB2.ok N) (GamOk.nil), GamYOk.nil⟩
def code : Code := Tryz.f67.body.getD .skip
def outs : Sh := s54
end fA14
def fA14.run (N : Nat) (b : (List UInt8)) (e : Int) (jT : Bool) (jA : Int) (jB_ : Int) (jC_ : Int) (jD : Int) (jE : Int) (jF : Int) (jG : Int) (jH : Int) (jI : Int) (jJ : Int) (jK : Int) (jL : Bool) (jM : Bool) (jN : Bool) (jO_ : Int) (jO1 : Int) (jP : (List T7)) (jP1 : (List T8)) (jQ : (List T6)) : Option T30 :=
  obind (fB2.run N b e) fun ((b1, e1, _), n_, _) =>
    some ((b1, e1, ()), (jA, jB_, jC_, jD, jE, jF, jG, jH, jI, n_, jK, jL, jM, jN, jO_, jO1, jP, jP1, jQ, ()), ())
namespace fA14
def fn (N : Nat) : Sh.den ins → Option (Sh.den outs) := fun ((_, (a, b, _), c, _), (d, e, f, g, h, i, j, k, l, m, o, p, q, r, s, t, u, v, w, _), _) => fA14.run N a b c d e f g h i j k l m o p q r s t u v w
def S (N : Nat) : Fs := ⟨ins, outs, fn N⟩
def lam (N : Nat) : Pcs := pcs []
theorem pok (N : Nat) : (lam N).Ok Tryz.prog (C N) code := pcsOk_nil
theorem ok (N : Nat) : (S N).con.Ok Tryz.prog 67 := okF (F := S N) [] Tryz.func67 (by kernel_rfl) (by rfl) mix (cok N) (pok N) fun _ => by kernel_rfl
end fA14
namespace fA25
def ins : Sh := (.cons (.rbox 47 s48) (.cons (.bxo 6 31 s52) .nil))
def C (N : Nat) : Ctx := ⟨U, 24, fun _ => true, gam [(101, (fB2.S N).con)], gamY []⟩
theorem cok (N : Nat) : (C N).Ok Tryz.prog := ⟨U_ok, GamOk.cons (fB2.ok N) (GamOk.nil), GamYOk.nil⟩
def code : Code := Tryz.f67.body.getD .skip
def outs : Sh := s54
end fA25
def fA25.run (N : Nat) (b : (List UInt8)) (e : Int) (jT : Bool) (jA : Int) (jB_ : Int) (jC_ : Int) (jD : Int) (jE : Int) (jF : Int) (jG : Int) (jH : Int) (jI : Int) (jJ : Int) (jK : Int) (jL : Bool) (jM : Bool) (jN : Bool) (jO_ : Int) (jO1 : Int) (jP : (List T7)) (jP1 : (List T8)) (jQ : (List T6)) : Option T30 :=
  obind (fB2.run N b e) fun ((b1, e1, _), n_, _) =>
    some ((b1, e1, ()), (jA, jB_, jC_, jD, jE, jF, n_, jH, jI, jJ, jK, jL, jM, jN, jO_, jO1, jP, jP1, jQ, ()), ())
namespace fA25
def fn (N : Nat) : Sh.den ins → Option (Sh.den outs) := fun ((_, (a, b, _), c, _), (d, e, f, g, h, i, j, k, l, m, o, p, q, r, s, t, u, v, w, _), _) => fA25.run N a b c d e f g h i j k l m o p q r s t u v w
def S (N : Nat) : Fs := ⟨ins, outs, fn N⟩
def lam (N : Nat) : Pcs := pcs []
theorem pok (N : Nat) : (lam N).Ok Tryz.prog (C N) code := pcsOk_nil
theorem ok (N : Nat) : (S N).con.Ok Tryz.prog 67 := okF (F := S N) [] Tryz.func67 (by kernel_rfl) (by rfl) mix (cok N) (pok N) fun _ => by kernel_rfl
end fA25
namespace fD39
def ins : Sh := (.cons (.rbox 47 s48) (.cons (.els 1 2 (.cons (.bxo 6 31 s52) (.cons (.refo 2 5) .nil))) .nil))
def C (N : Nat) : Ctx := ⟨U, 16, fun _ => true, gam [(67, (((fC5.S N).con).or (fA25.S N).con))], gamY []⟩
theorem cok (N : Nat) : (C N).Ok Tryz.prog := ⟨U_ok, GamOk.cons (Con.or_ok (fC5.ok N) (fA25.ok N)) (GamOk.nil), GamYOk.nil⟩
def code : Code := Tryz.f64.body.getD .skip
def outs : Sh := s54
end fD39
def fD39.run (N : Nat) (b : (List UInt8)) (e : Int) (jT : Bool) (jA : Int) (jB_ : Int) (jC_ : Int) (jD : Int) (jE : Int) (jF : Int) (jG : Int) (jH : Int) (jI : Int) (jJ : Int) (jK : Int) (jL : Bool) (jM : Bool) (jN : Bool) (jO_ : Int) (jO1 : Int) (jP : (List T7)) (jP1 : (List T8)) (jQ : (List T6)) : Option T30 :=
  obind (fA25.run N b e jT jA jB_ jC_ jD jE jF jG jH jI jJ jK jL jM jN jO_ jO1 jP jP1 jQ) fun ((b1, e1, _), (jA1, jB1, jC1, jD1, jE1, jF1, jG1, jH1, jI1, jJ1, jK1, jL1, jM1, jN1, jO2, jO3, jP2, jP3, jQ1, _), _) =>
    obind (fC5.run N b1 e1 jT jA1 jB1 jC1 jD1 jE1 jF1 jG1 jH1 jI1 jJ1 jK1 jL1 jM1 jN1 jO2 jO3 jP2 jP3 jQ1) fun ((b2, e2, _), (jA2, jB2, jC2, jD2, jE2, jF2, jG2, jH2, jI2, jJ2, jK2, jL2, jM2, jN2, jO4, jO5, jP4, jP5, jQ2, _), _) =>
      some ((b2, e2, ()), (jA2, jB2, jC2, jD2, jE2, jF2, jG2, jH2, jI2, jJ2, jK2, jL2, jM2, jN2, jO4, jO5, jP4, jP5, jQ2, ()), ())
namespace fD39
def fn (N : Nat) : Sh.den ins → Option (Sh.den outs) := fun ((_, (a, b, _), c, _), ((d, e, f, g, h, i, j, k, l, m, o, p, q, r, s, t, u, v, w, _), _, _), _) => fD39.run N a b c d e f g h i j k l m o p q r s t u v w
def S (N : Nat) : Fs := ⟨ins, outs, fn N⟩
def lam (N : Nat) : Pcs := pcs [([true, false], (Pc.unroll (C N) (loopBody (sub code [true, false])) (pcs []) 3))]
theorem pok (N : Nat) : (lam N).Ok Tryz.prog (C N) code := pcsOk_cons (c1 := .loop (loopBody (sub code [true, false]))) (by kernel_rfl) (unroll_ok (cok N) mix pcsOk_nil 3) (pcsOk_nil)
theorem ok (N : Nat) : (S N).con.Ok Tryz.prog 64 := okF (F := S N) [] Tryz.func64 (by kernel_rfl) (by rfl) mix (cok N) (pok N) fun _ => by kernel_rfl
end fD39
namespace fB23
def ins : Sh := s69
def C (N : Nat) : Ctx := ⟨U, 26, fun _ => true, gam [(33, (fD49.S N).con), (67, (fA14.S N).con), (72, (fA7.S N).con), (64, (fD39.S N).con)], gamY []⟩
theorem cok (N : Nat) : (C N).Ok Tryz.prog := ⟨U_ok, GamOk.cons (fD49.ok N) (GamOk.cons (fA14.ok N) (GamOk.cons (fA7.ok N) (GamOk.cons (fD39.ok N) (GamOk.nil)))), GamYOk.nil⟩
def code : Code := Tryz.f76.body.getD .skip
def outs : Sh := s70
end fB23
def fB23.run (N : Nat) (b : (List UInt8)) (e : Int) (jT : Bool) (jA : Int) (jB_ : Int) (jC_ : Int) (jD : Int) (jE : Int) (jF : Int) (jG : Int) (jH : Int) (jI : Int) (jJ : Int) (jK : Int) (jL : Bool) (jM : Bool) (jN : Bool) (jO_ : Int) (jO1 : Int) (jP : (List T7)) (jP1 : (List T8)) (jQ : (List T6)) : Option T29 :=
  obind (fD49.run N b e jT jA jB_ jC_ jD jE jF jG jH jI jJ jK jL jM jN jO_ jO1 jP jP1 jQ) fun ((b1, e1, _), (_, _, jT1, _), (jA1, jB1, jC1, jD1, jE1, jF1, jG1, jH1, jI1, jJ1, jK1, jL1, jM1, jN1, jO2, jO3, jP2, jP3, jQ1, _), _) =>
    obind (fA14.run N b1 e1 jT1 jA1 jB1 jC1 jD1 jE1 jF1 jG1 jH1 jI1 jJ1 jK1 jL1 jM1 jN1 jO2 jO3 jP2 jP3 jQ1) fun ((b2, e2, _), (jA2, jB2, jC2, jD2, jE2, jF2, jG2, jH2, jI2, jJ2, jK2, jL2, jM2, jN2, jO4, jO5, jP4, jP5, jQ2, _), _) =>
      obind (fA7.run N b2 e2 jT1 jA2 jB2 jC2 jD2 jE2 jF2 jG2 jH2 jI2 jJ2 jK2 jL2 jM2 jN2 jO4 jO5 jP4 jP5 jQ2) fun ((b3, e3, _), (jA3, jB3, jC3, jD3, jE3, jF3, jG3, jH3, jI3, jJ3, jK3, jL3, jM3, jN3, jO6, jO7, jP6, jP7, jQ3, _), _) =>
        obind (fD39.run N b3 e3 jT1 jA3 jB3 jC3 jD3 jE3 jF3 jG3 jH3 jI3 jJ3 jK3 jL3 jM3 jN3 jO6 jO7 jP6 jP7 jQ3) fun ((b4, e4, _), (jA4, jB4, jC4, jD4, jE4, jF4, jG4, jH4, jI4, jJ4, jK4, jL4, jM4, jN4, jO8, jO9, jP8, jP9, jQ4, _), _) =>
          some ((b4, e4, ()), ((), (), jT1, ()), (jA4, jB4, jC4, jD4, jE4, jF4, jG4, jH4, jI4, jJ4, jK4, jL4, jM4, jN4, jO8, jO9, jP8, jP9, jQ4, ()), ())
namespace fB23
def fn (N : Nat) : Sh.den ins → Option (Sh.den outs) := fun (((_, (a, b, _), c, _), _), ((d, e, f, g, h, i, j, k, l, m, o, p, q, r, s, t, u, v, w, _), _), _) => fB23.run N a b c d e f g h i j k l m o p q r s t u v w
def S (N : Nat) : Fs := ⟨ins, outs, fn N⟩
def lam (N : Nat) : Pcs := pcs []
theorem pok (N : Nat) : (lam N).Ok Tryz.prog (C N) code := pcsOk_nil
theorem ok (N : Nat) : (S N).con.Ok Tryz.prog 76 := okF (F := S N) [] Tryz.func76 (by kernel_rfl) (by rfl) mix (cok N) (pok N) fun _ => by kernel_rfl
end fB23
namespace fC40
def ins : Sh := (.cons (.rbox 47 s48) (.cons (.els 1 3 (.cons (.bxo 6 31 s52) (.cons (.refo 2 5) (.cons (.refo 2 7) .nil)))) .nil))
def C (N : Nat) : Ctx := ⟨U, 16, fun _ => true, gam [(67, (((((fC5.S N).con).or (fC13.S N).con)).or (fA25.S N).con))], gamY []⟩
theorem cok (N : Nat) : (C N).Ok Tryz.prog := ⟨U_ok, GamOk.cons (Con.or_ok (Con.or_ok (fC5.ok N) (fC13.ok N)) (fA25.ok N)) (GamOk.nil), GamYOk.nil⟩
def code : Code := Tryz.f64.body.getD .skip
def outs : Sh := s54
end fC40
def fC40.run (N : Nat) (b : (List UInt8)) (e : Int) (jT : Bool) (jA : Int) (jB_ : Int) (jC_ : Int) (jD : Int) (jE : Int) (jF : Int) (jG : Int) (jH : Int) (jI : Int) (jJ : Int) (jK : Int) (jL : Bool) (jM : Bool) (jN : Bool) (jO_ : Int) (jO1 : Int) (jP : (List T7)) (jP1 : (List T8)) (jQ : (List T6)) : Option T30 :=
  obind (fA25.run N b e jT jA jB_ jC_ jD jE jF jG jH jI jJ jK jL jM jN jO_ jO1 jP jP1 jQ) fun ((b1, e1, _), (jA1, jB1, jC1, jD1, jE1, jF1, jG1, jH1, jI1, jJ1, jK1, jL1, jM1, jN1, jO2, jO3, jP2, jP3, jQ1, _), _) =>
    obind (fC5.run N b1 e1 jT jA1 jB1 jC1 jD1 jE1 jF1 jG1 jH1 jI1 jJ1 jK1 jL1 jM1 jN1 jO2 jO3 jP2 jP3 jQ1) fun ((b2, e2, _), (jA2, jB2, jC2, jD2, jE2, jF2, jG2, jH2, jI2, jJ2, jK2, jL2, jM2, jN2, jO4, jO5, jP4, jP5, jQ2, _), _) =>
      obind (fC13.run N b2 e2 jT jA2 jB2 jC2 jD2 jE2 jF2 jG2 jH2 jI2 jJ2 jK2 jL2 jM2 jN2 jO4 jO5 jP4 jP5 jQ2) fun ((b3, e3, _), (jA3, jB3, jC3, jD3, jE3, jF3, jG3, jH3, jI3, jJ3, jK3, jL3, jM3, jN3, jO6, jO7, jP6, jP7, jQ3, _), _) =>
        some ((b3, e3, ()), (jA3, jB3, jC3, jD3, jE3, jF3, jG3, jH3, jI3, jJ3, jK3, jL3, jM3, jN3, jO6, jO7, jP6, jP7, jQ3, ()), ())
namespace fC40
def fn (N : Nat) : Sh.den ins → Option (Sh.den outs) := fun ((_, (a, b, _), c, _), ((d, e, f, g, h, i, j, k, l, m, o, p, q, r, s, t, u, v, w, _), _, _, _), _) => fC40.run N a b c d e f g h i j k l m o p q r s t u v w
def S (N : Nat) : Fs := ⟨ins, outs, fn N⟩
def lam (N : Nat) : Pcs := pcs [([true, false], (Pc.unroll (C N) (loopBody (sub code [true, false])) (pcs []) 4))]
theorem pok (N : Nat) : (lam N).Ok Tryz.prog (C N) code := pcsOk_cons (c1 := .loop (loopBody (sub code [true, false]))) (by kernel_rfl) (unroll_ok (cok N) mix pcsOk_nil 4) (pcsOk_nil)
theorem ok (N : Nat) : (S N).con.Ok Tryz.prog 64 := okF (F := S N) [] Tryz.func64 (by kernel_rfl) (by rfl) mix (cok N) (pok N) fun _ => by kernel_rfl
end fC40
namespace fB22
def ins : Sh := s69
def C (N : Nat) : Ctx := ⟨U, 29, fun _ => true, gam [(67, (fA14.S N).con), (72, (fA7.S N).con), (64, (fC40.S N).con), (74, (fC12.S N).con)], gamY []⟩
theorem cok (N : Nat) : (C N).Ok Tryz.prog := ⟨U_ok, GamOk.cons (fA14.ok N) (GamOk.cons (fA7.ok N) (GamOk.cons (fC40.ok N) (GamOk.cons (fC12.ok N) (GamOk.nil)))), GamYOk.nil⟩
def code : Code := Tryz.f77.body.getD .skip
def outs : Sh := s70
end fB22
def fB22.run (N : Nat) (b : (List UInt8)) (e : Int) (jT : Bool) (jA : Int) (jB_ : Int) (jC_ : Int) (jD : Int) (jE : Int) (jF : Int) (jG : Int) (jH : Int) (jI : Int) (jJ : Int) (jK : Int) (jL : Bool) (jM : Bool) (jN : Bool) (jO_ : Int) (jO1 : Int) (jP : (List T7)) (jP1 : (List T8)) (jQ : (List T6)) : Option T29 :=
  obind (fA14.run N b e jT jA jB_ jC_ jD jE jF jG jH jI jJ jK jL jM jN jO_ jO1 jP jP1 jQ) fun ((b1, e1, _), (jA1, jB1, jC1, jD1, jE1, jF1, jG1, jH1, jI1, jJ1, jK1, jL1, jM1, jN1, jO2, jO3, jP2, jP3, jQ1, _), _) =>
    obind (fA7.run N b1 e1 jT jA1 jB1 jC1 jD1 jE1 jF1 jG1 jH1 jI1 jJ1 jK1 jL1 jM1 jN1 jO2 jO3 jP2 jP3 jQ1) fun ((b2, e2, _), (jA2, jB2, jC2, jD2, jE2, jF2, jG2, jH2, jI2, jJ2, jK2, jL2, jM2, jN2, jO4, jO5, jP4, jP5, jQ2, _), _) =>
      obind (fC40.run N b2 e2 jT jA2 jB2 jC2 jD2 jE2 jF2 jG2 jH2 jI2 jJ2 jK2 jL2 jM2 jN2 jO4 jO5 jP4 jP5 jQ2) fun ((b3, e3, _), (jA3, jB3, jC3, jD3, jE3, jF3, jG3, jH3, jI3, jJ3, jK3, jL3, jM3, jN3, jO6, jO7, jP6, jP7, jQ3, _), _) =>
        obind (fC12.run N b3 e3 jT jA3 jB3 jC3 jD3 jE3 jF3 jG3 jH3 jI3 jJ3 jK3 jL3 jM3 jN3 jO6 jO7 jP6 jP7 jQ3) fun ((b4, e4, _), (_, _, jT1, _), (jA4, jB4, jC4, jD4, jE4, jF4, jG4, jH4, jI4, jJ4, jK4, jL4, jM4, jN4, jO8, jO9, jP8, jP9, jQ4, _), _) =>
          some ((b4, e4, ()), ((), (), jT1, ()), (jA4, jB4, jC4, jD4, jE4, jF4, jG4, jH4, jI4, jJ4, jK4, jL4, jM4, jN4, jO8, jO9, jP8, jP9, jQ4, ()), ())
namespace fB22
def fn (N : Nat) : Sh.den ins → Option (Sh.den outs) := fun (((_, (a, b, _), c, _), _), ((d, e, f, g, h, i, j, k, l, m, o, p, q, r, s, t, u, v, w, _), _), _) => fB22.run N a b c d e f g h i j k l m o p q r s t u v w
def S (N : Nat) : Fs := ⟨ins, outs, fn N⟩
def lam (N : Nat) : Pcs := pcs []
theorem pok (N : Nat) : (lam N).Ok Tryz.prog (C N) code := pcsOk_nil
theorem ok (N : Nat) : (S N).con.Ok Tryz.prog 77 := okF (F := S N) [] Tryz.func77 (by kernel_rfl) (by rfl) mix (cok N) (pok N) fun _ => by kernel_rfl
end fB22
namespace fD37
def ins : Sh := (.cons (.rbox 47 s48) (.cons (.els 1 2 (.cons (.bxo 9 31 s52) (.cons (.refo 2 5) .nil))) .nil))
def C (N : Nat) : Ctx := ⟨U, 16, fun _ => true, gam [(67, (((fC5.S N).con).or (fA14.S N).con))], gamY []⟩
theorem cok (N : Nat) : (C N).Ok Tryz.prog := ⟨U_ok, GamOk.cons (Con.or_ok (fC5.ok N) (fA14.ok N)) (GamOk.nil), GamYOk.nil⟩
def code : Code := Tryz.f64.body.getD .skip
def outs : Sh := s54
end fD37
def fD37.run (N : Nat) (b : (List UInt8)) (e : Int) (jT : Bool) (jA : Int) (jB_ : Int) (jC_ : Int) (jD : Int) (jE : Int) (jF : Int) (jG : Int) (jH : Int) (jI : Int) (jJ : Int) (jK : Int) (jL : Bool) (jM : Bool) (jN : Bool) (jO_ : Int) (jO1 : Int) (jP : (List T7)) (jP1 : (List T8)) (jQ : (List T6)) : Option T30 :=
  obind (fA14.run N b e jT jA jB_ jC_ jD jE jF jG jH jI jJ jK jL jM jN jO_ jO1 jP jP1 jQ) fun ((b1, e1, _), (jA1, jB1, jC1, jD1, jE1, jF1, jG1, jH1, jI1, jJ1, jK1, jL1, jM1, jN1, jO2, jO3, jP2, jP3, jQ1, _), _) =>
    obind (fC5.run N b1 e1 jT jA1 jB1 jC1 jD1 jE1 jF1 jG1 jH1 jI1 jJ1 jK1 jL1 jM1 jN1 jO2 jO3 jP2 jP3 jQ1) fun ((b2, e2, _), (jA2, jB2, jC2, jD2, jE2, jF2, jG2, jH2, jI2, jJ2, jK2, jL2, jM2, jN2, jO4, jO5, jP4, jP5, jQ2, _), _) =>
      some ((b2, e2, ()), (jA2, jB2, jC2, jD2, jE2, jF2, jG2, jH2, jI2, jJ2, jK2, jL2, jM2, jN2, jO4, jO5, jP4, jP5, jQ2, ()), ())
namespace fD37
def fn (N : Nat) : Sh.den ins → Option (Sh.den outs) := fun ((_, (a, b, _), c, _), ((d, e, f, g, h, i, j, k, l, m, o, p, q, r, s, t, u, v, w, _), _, _), _) => fD37.run N a b c d e f g h i j k l m o p q r s t u v w
def S (N : Nat) : Fs := ⟨ins, outs, fn N⟩
def lam (N : Nat) : Pcs := pcs [([true, false], (Pc.unroll (C N) (loopBody (sub code [true, false])) (pcs []) 3))]
theorem pok (N : Nat) : (lam N).Ok Tryz.prog (C N) code := pcsOk_cons (c1 := .loop (loopBody (sub code [true, false]))) (by kernel_rfl) (unroll_ok (cok N) mix pcsOk_nil 3) (pcsOk_nil)
theorem ok (N : Nat) : (S N).con.Ok Tryz.prog 64 := okF (F := S N) [] Tryz.func64 (by kernel_rfl) (by rfl) mix (cok N) (pok N) fun _ => by kernel_rfl
end fD37
namespace fA21
def ins : Sh := s71
def C (N : Nat) : Ctx := ⟨U, 11, fun _ => true, gam [(64, (fD37.S N).con)], gamY []⟩
theorem cok (N : Nat) : (C N).Ok Tryz.prog := ⟨U_ok, GamOk.cons (fD37.ok N) (GamOk.nil), GamYOk.nil⟩
def code : Code := Tryz.f78.body.getD .skip
def outs : Sh := s72
end fA21
def fA21.run (N : Nat) (b : (List UInt8)) (e : Int) (jT : Bool) (jA : Int) (jB_ : Int) (jC_ : Int) (jD : Int) (jE : Int) (jF : Int) (jG : Int) (jH : Int) (jI : Int) (jJ : Int) (jK : Int) (jL : Bool) (jM : Bool) (jN : Bool) (jO_ : Int) (jO1 : Int) (jP : (List T7)) (jP1 : (List T8)) (jQ : (List T6)) : Option T30 :=
  obind (fD37.run N b e jT jA jB_ jC_ jD jE jF jG jH jI jJ jK jL jM jN jO_ jO1 jP jP1 jQ) fun ((b1, e1, _), (jA1, jB1, jC1, jD1, jE1, jF1, jG1, jH1, jI1, jJ1, jK1, jL1, jM1, jN1, jO2, jO3, jP2, jP3, jQ1, _), _) =>
    some ((b1, e1, ()), (jA1, jB1, jC1, jD1, jE1, jF1, jG1, jH1, jI1, jJ1, jK1, jL1, jM1, jN1, jO2, jO3, jP2, jP3, jQ1, ()), ())
namespace fA21
def fn (N : Nat) : Sh.den ins → Option (Sh.den outs) := fun (((_, (a, b, _), c, _), _), ((d, e, f, g, h, i, j, k, l, m, o, p, q, r, s, t, u, v, w, _), _), _) => fA21.run N a b c d e f g h i j k l m o p q r s t u v w
def S (N : Nat) : Fs := ⟨ins, outs, fn N⟩
def lam (N : Nat) : Pcs := pcs []
theorem pok (N : Nat) : (lam N).Ok Tryz.prog (C N) code := pcsOk_nil
theorem ok (N : Nat) : (S N).con.Ok Tryz.prog 78 := okF (F := S N) [] Tryz.func78 (by kernel_rfl) (by rfl) mix (cok N) (pok N) fun _ => by kernel_rfl
end fA21
namespace fA20
def ins : Sh := s71
def C (N : Nat) : Ctx := ⟨U, 7, fun _ => true, gam [(67, (fC13.S N).con)], gamY []⟩
theorem cok (N : Nat) : (C N).Ok Tryz.prog := ⟨U_ok, GamOk.cons (fC13.ok N) (GamOk.nil), GamYOk.nil⟩
def code : Code := Tryz.f79.body.getD .skip
def outs : Sh := s72
end fA20
def fA20.run (N : Nat) (b : (List UInt8)) (e : Int) (jT : Bool) (jA : Int) (jB_ : Int) (jC_ : Int) (jD : Int) (jE : Int) (jF : Int) (jG : Int) (jH : Int) (jI : Int) (jJ : Int) (jK : Int) (jL : Bool) (jM : Bool) (jN : Bool) (jO_ : Int) (jO1 : Int) (jP : (List T7)) (jP1 : (List T8)) (jQ : (List T6)) : Option T30 :=
  obind (fC13.run N b e jT jA jB_ jC_ jD jE jF jG jH jI jJ jK jL jM jN jO_ jO1 jP jP1 jQ) fun ((b1, e1, _), (jA1, jB1, jC1, jD1, jE1, jF1, jG1, jH1, jI1, jJ1, jK1, jL1, jM1, jN1, jO2, jO3, jP2, jP3, jQ1, _), _) =>
    some ((b1, e1, ()), (jA1, jB1, jC1, jD1, jE1, jF1, jG1, jH1, jI1, jJ1, jK1, jL1, jM1, jN1, jO2, jO3, jP2, jP3, jQ1, ()), ())
namespace fA20
def fn (N : Nat) : Sh.den ins → Option (Sh.den outs) := fun (((_, (a, b, _), c, _), _), ((d, e, f, g, h, i, j, k, l, m, o, p, q, r, s, t, u, v, w, _), _), _) => fA20.run N a b c d e f g h i j k l m o p q r s t u v w
def S (N : Nat) : Fs := ⟨ins, outs, fn N⟩
def lam (N : Nat) : Pcs := pcs []
theorem pok (N : Nat) : (lam N).Ok Tryz.prog (C N) code := pcsOk_nil
theorem ok (N : Nat) : (S N).con.Ok Tryz.prog 79 := okF (F := S N) [] Tryz.func79 (by kernel_rfl) (by rfl) mix (cok N) (pok N) fun _ => by kernel_rfl
end fA20
namespace fB20
def ins : Sh := s71
def C (N : Nat) : Ctx := ⟨U, 7, fun _ => true, gam [(67, (fC14.S N).con)], gamY []⟩
theorem cok (N : Nat) : (C N).Ok Tryz.prog := ⟨U_ok, GamOk.cons (fC14.ok N) (GamOk.nil), GamYOk.nil⟩
def code : Code := Tryz.f80.body.getD .skip
def outs : Sh := s72
end fB20
def fB20.run (N : Nat) (b : (List UInt8)) (e : Int) (jT : Bool) (jA : Int) (jB_ : Int) (jC_ : Int) (jD : Int) (jE : Int) (jF : Int) (jG : Int) (jH : Int) (jI : Int) (jJ : Int) (jK : Int) (jL : Bool) (jM : Bool) (jN : Bool) (jO_ : Int) (jO1 : Int) (jP : (List T7)) (jP1 : (List T8)) (jQ : (List T6)) : Option T30 :=
  obind (fC14.run N b e jT jA jB_ jC_ jD jE jF jG jH jI jJ jK jL jM jN jO_ jO1 jP jP1 jQ) fun ((b1, e1, _), (jA1, jB1, jC1, jD1, jE1, jF1, jG1, jH1, jI1, jJ1, jK1, jL1, jM1, jN1, jO2, jO3, jP2, jP3, jQ1, _), _) =>
    some ((b1, e1, ()), (jA1, jB1, jC1, jD1, jE1, jF1, jG1, jH1, jI1, jJ1, jK1, jL1, jM1, jN1, jO2, jO3, jP2, jP3, jQ1, ()), ())
namespace fB20
def fn (N : Nat) : Sh.den ins → Option (Sh.den outs) := fun (((_, (a, b, _), c, _), _), ((d, e, f, g, h, i, j, k, l, m, o, p, q, r, s, t, u, v, w, _), _), _) => fB20.run N a b c d e f g h i j k l m o p q r s t u v w
def S (N : Nat) : Fs := ⟨ins, outs, fn N⟩
def lam (N : Nat) : Pcs := pcs []
theorem pok (N : Nat) : (lam N).Ok Tryz.prog (C N) code := pcsOk_nil
theorem ok (N : Nat) : (S N).con.Ok Tryz.prog 80 := okF (F := S N) [] Tryz.func80 (by kernel_rfl) (by rfl) mix (cok N) (pok N) fun _ => by kernel_rfl
end fB20
namespace fD32
def ins : Sh := s77
def C (N : Nat) : Ctx := ⟨U, 50, fun _ => true, gam [(63, (fD23.S N).con), (66, (fC23.S N).con), (69, (fC22.S N).con), (70, (fA23.S N).con), (71, (fD22.S N).con), (73, (fD21.S N).con), (75, (fA22.S N).con), (76, (fB23.S N).con), (77, (fB22.S N).con), (78, (fA21.S N).con), (79, (fA20.S N).con), (80, (fB20.S N).con)], gamY []⟩
theorem cok (N : Nat) : (C N).Ok Tryz.prog := ⟨U_ok, GamOk.cons (fD23.ok N) (GamOk.cons (fC23.ok N) (GamOk.cons (fC22.ok N) (GamOk.cons (fA23.ok N) (GamOk.cons (fD22.ok N) (GamOk.cons (fD21.ok N) (GamOk.cons (fA22.ok N) (GamOk.cons (fB23.ok N) (GamOk.cons (fB22.ok N) (GamOk.cons (fA21.ok N) (GamOk.cons (fA20.ok N) (GamOk.cons (fB20.ok N) (GamOk.nil)))))))))))), GamYOk.nil⟩
def code : Code := Tryz.f35.body.getD .skip
def outs : Sh := (.cons (.upd 1 83 s44) (.cons (.upd 0 47 s49) (.cons (.upd 2 31 s52) (.cons (.val .bool) .nil))))
end fD32
def fD32.run (N : Nat) (b : (List UInt8)) (e : Int) (jT : Bool) (jA : Int) (jB_ : Int) (jC_ : Int) (jD : Int) (jE : Int) (jF : Int) (jG : Int) (jH : Int) (jI : Int) (jJ : Int) (jK : Int) (jL : Bool) (jM : Bool) (jN : Bool) (jO_ : Int) (jO1 : Int) (jP : (List T7)) (jP1 : (List T8)) (jQ : (List T6)) : Option T42 :=
  bif decide ((1 : Int) = jA) then
    obind (fD23.run N b e jT jA jB_ jC_ jD jE jF jG jH jI jJ jK jL jM jN jO_ jO1 jP jP1 jQ) fun ((b1, e1, _), (_, _, jT1, _), (jA1, jB1, jC1, jD1, jE1, jF1, jG1, jH1, jI1, jJ1, jK1, jL1, jM1, jN1, jO2, jO3, jP2, jP3, jQ1, _), _) =>
      some ((b1, e1, ()), ((), (), jT1, ()), (jA1, jB1, jC1, jD1, jE1, jF1, jG1, jH1, jI1, jJ1, jK1, jL1, jM1, jN1, jO2, jO3, jP2, jP3, jQ1, ()), true, ())
  else
    bif decide ((2 : Int) = jA) then
      obind (fC23.run N b e jT jA jB_ jC_ jD jE jF jG jH jI jJ jK jL jM jN jO_ jO1 jP jP1 jQ) fun ((b2, e2, _), (_, _, jT2, _), (jA2, jB2, jC2, jD2, jE2, jF2, jG2, jH2, jI2, jJ2, jK2, jL2, jM2, jN2, jO4, jO5, jP4, jP5, jQ2, _), _) =>
        some ((b2, e2, ()), ((), (), jT2, ()), (jA2, jB2, jC2, jD2, jE2, jF2, jG2, jH2, jI2, jJ2, jK2, jL2, jM2, jN2, jO4, jO5, jP4, jP5, jQ2, ()), true, ())
    else
      bif decide ((3 : Int) = jA) then
        obind (fC22.run N b e jT jA jB_ jC_ jD jE jF jG jH jI jJ jK jL jM jN jO_ jO1 jP jP1 jQ) fun ((b3, e3, _), (jA3, jB3, jC3, jD3, jE3, jF3, jG3, jH3, jI3, jJ3, jK3, jL3, jM3, jN3, jO6, jO7, jP6, jP7, jQ3, _), _) =>
          some ((b3, e3, ()), ((), (), jT, ()), (jA3, jB3, jC3, jD3, jE3, jF3, jG3, jH3, jI3, jJ3, jK3, jL3, jM3, jN3, jO6, jO7, jP6, jP7, jQ3, ()), true, ())
      else
        bif decide ((4 : Int) = jA) then
          obind (fA23.run N b e jT jA jB_ jC_ jD jE jF jG jH jI jJ jK jL jM jN jO_ jO1 jP jP1 jQ) fun ((b4, e4, _), (jA4, jB4, jC4, jD4, jE4, jF4, jG4, jH4, jI4, jJ4, jK4, jL4, jM4, jN4, jO8, jO9, jP8, jP9, jQ4, _), _) =>
            some ((b4, e4, ()), ((), (), jT, ()), (jA4, jB4, jC4, jD4, jE4, jF4, jG4, jH4, jI4, jJ4, jK4, jL4, jM4, jN4, jO8, jO9, jP8, jP9, jQ4, ()), true, ())
        else
          bif decide ((5 : Int) = jA) then
            obind (fD22.run N b e jT jA jB_ jC_ jD jE jF jG jH jI jJ jK jL jM jN jO_ jO1 jP jP1 jQ) fun ((b5, e5, _), (jA5, jB5, jC5, jD5, jE5, jF5, jG5, jH5, jI5, jJ5, jK5, jL5, jM5, jN5, jO10, jO11, jP10, jP11, jQ5, _), _) =>
              some ((b5, e5, ()), ((), (), jT, ()), (jA5, jB5, jC5, jD5, jE5, jF5, jG5, jH5, jI5, jJ5, jK5, jL5, jM5, jN5, jO10, jO11, jP10, jP11, jQ5, ()), true, ())
          else
            bif decide ((6 : Int) = jA) then
              obind (fD21.run N b e jT jA jB_ jC_ jD jE jF jG jH jI jJ jK jL jM jN jO_ jO1 jP jP1 jQ) fun ((b6, e6, _), (_, _, jT3, _), (jA6, jB6, jC6, jD6, jE6, jF6, jG6, jH6, jI6, jJ6, jK6, jL6, jM6, jN6, jO12, jO13, jP12, jP13, jQ6, _), _) =>
                some ((b6, e6, ()), ((), (), jT3, ()), (jA6, jB6, jC6, jD6, jE6, jF6, jG6, jH6, jI6, jJ6, jK6, jL6, jM6, jN6, jO12, jO13, jP12, jP13, jQ6, ()), true, ())
            else
              bif decide ((7 : Int) = jA) then
                obind (fA22.run N b e jT jA jB_ jC_ jD jE jF jG jH jI jJ jK jL jM jN jO_ jO1 jP jP1 jQ) fun ((b7, e7, _), (_, _, jT4, _), (jA7, jB7, jC7, jD7, jE7, jF7, jG7, jH7, jI7, jJ7, jK7, jL7, jM7, jN7, jO14, jO15, jP14, jP15, jQ7, _), _) =>
                  some ((b7, e7, ()), ((), (), jT4, ()), (jA7, jB7, jC7, jD7, jE7, jF7, jG7, jH7, jI7, jJ7, jK7, jL7, jM7, jN7, jO14, jO15, jP14, jP15, jQ7, ()), true, ())
              else
                bif decide ((8 : Int) = jA) then
                  obind (fB23.run N b e jT jA jB_ jC_ jD jE jF jG jH jI jJ jK jL jM jN jO_ jO1 jP jP1 jQ) fun ((b8, e8, _), (_, _, jT5, _), (jA8, jB8, jC8, jD8, jE8, jF8, jG8, jH8, jI8, jJ8, jK8, jL8, jM8, jN8, jO16, jO17, jP16, jP17, jQ8, _), _) =>
                    some ((b8, e8, ()), ((), (), jT5, ()), (jA8, jB8, jC8, jD8, jE8, jF8, jG8, jH8, jI8, jJ8, jK8, jL8, jM8, jN8, jO16, jO17, jP16, jP17, jQ8, ()), true, ())
                else
                  bif decide ((9 : Int) = jA) then
                    obind (fB22.run N b e jT jA jB_ jC_ jD jE jF jG jH jI jJ jK jL jM jN jO_ jO1 jP jP1 jQ) fun ((b9, e9, _), (_, _, jT6, _), (jA9, jB9, jC9, jD9, jE9, jF9, jG9, jH9, jI9, jJ9, jK9, jL9, jM9, jN9, jO18, jO19, jP18, jP19, jQ9, _), _) =>
                      some ((b9, e9, ()), ((), (), jT6, ()), (jA9, jB9, jC9, jD9, jE9, jF9, jG9, jH9, jI9, jJ9, jK9, jL9, jM9, jN9, jO18, jO19, jP18, jP19, jQ9, ()), true, ())
                  else
                    bif decide ((10 : Int) = jA) then
                      obind (fA21.run N b e jT jA jB_ jC_ jD jE jF jG jH jI jJ jK jL jM jN jO_ jO1 jP jP1 jQ) fun ((b10, e10, _), (jA10, jB10, jC10, jD10, jE10, jF10, jG10, jH10, jI10, jJ10, jK10, jL10, jM10, jN10, jO20, jO21, jP20, jP21, jQ10, _), _) =>
                        some ((b10, e10, ()), ((), (), jT, ()), (jA10, jB10, jC10, jD10, jE10, jF10, jG10, jH10, jI10, jJ10, jK10, jL10, jM10, jN10, jO20, jO21, jP20, jP21, jQ10, ()), true, ())
                    else
                      bif decide ((11 : Int) = jA) then
                        obind (fA20.run N b e jT jA jB_ jC_ jD jE jF jG jH jI jJ jK jL jM jN jO_ jO1 jP jP1 jQ) fun ((b11, e11, _), (jA11, jB11, jC11, jD11, jE11, jF11, jG11, jH11, jI11, jJ11, jK11, jL11, jM11, jN11, jO22, jO23, jP22, jP23, jQ11, _), _) =>
                          some ((b11, e11, ()), ((), (), jT, ()), (jA11, jB11, jC11, jD11, jE11, jF11, jG11, jH11, jI11, jJ11, jK11, jL11, jM11, jN11, jO22, jO23, jP22, jP23, jQ11, ()), true, ())
                      else
                        bif decide ((12 : Int) = jA) then
                          obind (fB20.run N b e jT jA jB_ jC_ jD jE jF jG jH jI jJ jK jL jM jN jO_ jO1 jP jP1 jQ) fun ((b12, e12, _), (jA12, jB12, jC12, jD12, jE12, jF12, jG12, jH12, jI12, jJ12, jK12, jL12, jM12, jN12, jO24, jO25, jP24, jP25, jQ12, _), _) =>
                            some ((b12, e12, ()), ((), (), jT, ()), (jA12, jB12, jC12, jD12, jE12, jF12, jG12, jH12, jI12, jJ12, jK12, jL12, jM12, jN12, jO24, jO25, jP24, jP25, jQ12, ()), true, ())
                        else some ((b, e, ()), ((), (), jT, ()), (jA, jB_, jC_, jD, jE, jF, jG, jH, jI, jJ, jK, jL, jM, jN, jO_, jO1, jP, jP1, jQ, ()), false, ())
namespace fD32
def fn (N : Nat) : Sh.den ins → Option (Sh.den outs) := fun ((_, (a, b, _), c, _), (d, e, f, g, h, i, j, k, l, m, o, p, q, r, s, t, u, v, w, _), _) => fD32.run N a b c d e f g h i j k l m o p q r s t u v w
def S (N : Nat) : Fs := ⟨ins, outs, fn N⟩
def lam (N : Nat) : Pcs := pcs [([true, true, false, true, false], (Pc.unroll (C N) (loopBody (sub code [true, true, false, true, false])) (pcs []) 13))]
theorem pok (N : Nat) : (lam N).Ok Tryz.prog (C N) code := pcsOk_cons (c1 := .loop (loopBody (sub code [true, true, false, true, false]))) (by kernel_rfl) (unroll_ok (cok N) mix pcsOk_nil 13) (pcsOk_nil)
theorem ok (N : Nat) : (S N).con.Ok Tryz.prog 35 := okF (F := S N) [] Tryz.func35 (by kernel_rfl) (by rfl) mix (cok N) (pok N) fun _ => by kernel_rfl
end fD32
namespace fC27
def ins : Sh := s77
def C (N : Nat) : Ctx := ⟨U, 24, fun _ => true, gam [(32, (fC44.S N).con), (33, (((fA49.S N).con).or (fB50.S N).con)), (35, (fD32.S N).con), (34, (fD1.S N).con)], gamY []⟩
theorem cok (N : Nat) : (C N).Ok Tryz.prog := ⟨U_ok, GamOk.cons (fC44.ok N) (GamOk.cons (Con.or_ok (fA49.ok N) (fB50.ok N)) (GamOk.cons (fD32.ok N) (GamOk.cons (fD1.ok N) (GamOk.nil)))), GamYOk.nil⟩
def code : Code := Tryz.f13.body.getD .skip
def outs : Sh := s53
end fC27
def fC27.run (N : Nat) (b : (List UInt8)) (e : Int) (jT : Bool) (jA : Int) (jB_ : Int) (jC_ : Int) (jD : Int) (jE : Int) (jF : Int) (jG : Int) (jH : Int) (jI : Int) (jJ : Int) (jK : Int) (jL : Bool) (jM : Bool) (jN : Bool) (jO_ : Int) (jO1 : Int) (jP : (List T7)) (jP1 : (List T8)) (jQ : (List T6)) : Option T29 :=
  obind (fC44.run N b e jT jA jB_ jC_ jD jE jF jG jH jI jJ jK jL jM jN jO_ jO1 jP jP1 jQ (255 : Int)) fun ((b1, e1, _), (_, _, jT1, _), (jA1, jB1, jC1, jD1, jE1, jF1, jG1, jH1, jI1, jJ1, jK1, jL1, jM1, jN1, jO2, jO3, jP2, jP3, jQ1, _), _) =>
    obind (fA49.run N b1 e1 jT1 jA1 jB1 jC1 jD1 jE1 jF1 jG1 jH1 jI1 jJ1 jK1 jL1 jM1 jN1 jO2 jO3 jP2 jP3 jQ1) fun ((b2, e2, _), (_, _, jT2, _), (jA2, jB2, jC2, jD2, jE2, jF2, jG2, jH2, jI2, jJ2, jK2, jL2, jM2, jN2, jO4, jO5, jP4, jP5, jQ2, _), _) =>
      obind (fB50.run N b2 e2 jT2 jA2 jB2 jC2 jD2 jE2 jF2 jG2 jH2 jI2 jJ2 jK2 jL2 jM2 jN2 jO4 jO5 jP4 jP5 jQ2) fun ((b3, e3, _), (_, _, jT3, _), (jA3, jB3, jC3, jD3, jE3, jF3, jG3, jH3, jI3, jJ3, jK3, jL3, jM3, jN3, jO6, jO7, jP6, jP7, jQ3, _), _) =>
        obind (fD32.run N b3 e3 jT3 jA3 jB3 jC3 jD3 jE3 jF3 jG3 jH3 jI3 jJ3 jK3 jL3 jM3 jN3 jO6 jO7 jP6 jP7 jQ3) fun ((b4, e4, _), (_, _, jT4, _), (jA4, jB4, jC4, jD4, jE4, jF4, jG4, jH4, jI4, jJ4, jK4, jL4, jM4, jN4, jO8, jO9, jP8, jP9, jQ4, _), b5, _) =>
          obind (fD1.run N b4 e4 jT4 b5) fun ((b6, e5, _), (_, _, jT5, _), _) =>
            some ((b6, e5, ()), ((), (), jT5, ()), (jA4, jB4, jC4, jD4, jE4, jF4, jG4, jH4, jI4, jJ4, jK4, jL4, jM4, jN4, jO8, jO9, jP8, jP9, jQ4, ()), ())
namespace fC27
def fn (N : Nat) : Sh.den ins → Option (Sh.den outs) := fun ((_, (a, b, _), c, _), (d, e, f, g, h, i, j, k, l, m, o, p, q, r, s, t, u, v, w, _), _) => fC27.run N a b c d e f g h i j k l m o p q r s t u v w
def S (N : Nat) : Fs := ⟨ins, outs, fn N⟩
def lam (N : Nat) : Pcs := pcs []
theorem pok (N : Nat) : (lam N).Ok Tryz.prog (C N) code := pcsOk_nil
theorem ok (N : Nat) : (S N).con.Ok Tryz.prog 13 := okF (F := S N) [] Tryz.func13 (by kernel_rfl) (by rfl) mix (cok N) (pok N) fun _ => by kernel_rfl
end fC27
namespace fB17
def ins : Sh := (.cons (.rown 5 .byte) .nil)
def C (N : Nat) : Ctx := ⟨U, 54, fun _ => true, gam [], gamY []⟩
theorem cok (N : Nat) : (C N).Ok Tryz.prog := ⟨U_ok, GamOk.nil, GamYOk.nil⟩
def code : Code := Tryz.f38.body.getD .skip
def outs : Sh := (.cons (.val (.int .u32)) .nil)
end fB17
namespace fA27
def ins : Sh := s78
def ts : List Tmp := [3, 9]
def asg : List Tmp := [4, 5, 9, 10, 11, 12, 13, 14, 15, 16, 17, 18, 19, 20, 21, 22, 23, 24, 25, 26]
def C (N : Nat) : Ctx := { fB17.C N with may := fun t => asg.any (Nat.beq t) }
def code : Code := loopBody (sub fB17.code [true, true, false, true, false])
theorem cok (N : Nat) : (C N).Ok Tryz.prog := okC (fB17.cok N) _
def alts : List Alt := [⟨(.exit 0), [], (.cons (.updr 0 129 (.int .u32)) .nil)⟩]
end fA27
namespace fD57
def ins : Sh := s79
def ts : List Tmp := [5, 14]
def asg : List Tmp := [5, 14, 15, 16, 17, 18, 19, 20, 21, 22]
def C (N : Nat) : Ctx := { fA27.C N with may := fun t => asg.any (Nat.beq t) }
def code : Code := loopBody (sub fA27.code [true, true, false, false, true, true, false, true, false])
theorem cok (N : Nat) : (C N).Ok Tryz.prog := okC (fA27.cok N) _
def alts : List Alt := [⟨(.exit 2), [5], (.cons (.val (.int .u32)) .nil)⟩]
end fD57
def fD57.go (N : Nat) : Nat → Int → Int → Option ((Int × Unit))
  | 0, _, _ => none
  | fuel + 1, c, t14 =>
    bif decide (t14 < (4 : Int)) then
      fD57.go N fuel (IntKind.u32.wrap ((BitVec.ofInt 32 (c.fdiv (2 : Int)) ^^^ BitVec.ofInt 32 (IntKind.u32.wrap ((3988292384 : Int) * (IntKind.u32.wrap ((BitVec.ofInt 32 c &&& BitVec.ofInt 32 (1 : Int)).toNat : Int))))).toNat : Int)) (IntKind.i64.wrap (t14 + (1 : Int)))
    else some (c, ())
namespace fD57
def g (N n : Nat) : Sh.den ins → Option (altsDen alts) := fun (a, b, _) => fD57.go N n a b
def P (N : Nat) : Ps := ⟨ts, ins, asg, alts, g N N⟩
def lam (N : Nat) : Pcs := pcs []
theorem pok (N : Nat) : (lam N).Ok Tryz.prog (C N) code := pcsOk_nil
theorem ok (N : Nat) : ((P N).pc (fA27.C N)).Ok Tryz.prog (fA27.C N) (.loop code) := okL (F := P N) (g N) (fA27.cok N) mix (pok N) (fun _ => rfl) rfl fun _ _ => by kernel_rfl
end fD57
def fA27.go (N : Nat) : Nat → (List Int) → Int → Option (T43)
  | 0, _, _ => none
  | fuel + 1, half, t9 =>
    bif decide (t9 < (16 : Int)) then
      obind (fD57.go N N (IntKind.u32.wrap t9) (0 : Int)) fun (c, _) =>
        bif inB t9 16 then
          bif decide (t9.toNat < half.length) then
            fA27.go N fuel (half.set t9.toNat c) (IntKind.i64.wrap (t9 + (1 : Int)))
          else none
        else none
    else some (half, ())
namespace fA27
def g (N n : Nat) : Sh.den ins → Option (altsDen alts) := fun (a, b, _) => fA27.go N n a b
def P (N : Nat) : Ps := ⟨ts, ins, asg, alts, g N N⟩
def lam (N : Nat) : Pcs := pcs [([true, true, false, false, true, true, false, true, false], (fD57.P N).pc (C N))]
theorem pok (N : Nat) : (lam N).Ok Tryz.prog (C N) code := pcsOk_cons (c1 := .loop fD57.code) (by kernel_rfl) (fD57.ok N) (pcsOk_nil)
theorem ok (N : Nat) : ((P N).pc (fB17.C N)).Ok Tryz.prog (fB17.C N) (.loop code) := okL (F := P N) (g N) (fB17.cok N) mix (pok N) (fun _ => rfl) rfl fun _ _ => by kernel_rfl
end fA27
namespace fD60
def ins : Sh := (.cons (.arr 129 (.int .u32) 16) (.cons (.val (.int .u32)) (.cons (.rown 5 .byte) s20)))
def ts : List Tmp := [3, 6, 27, 28, 29]
def asg : List Tmp := [6, 8, 29, 30, 31, 32, 33, 34, 35, 36, 37, 38, 39, 40, 41, 42, 43, 44, 45, 46, 47, 48, 49, 50, 51]
def C (N : Nat) : Ctx := { fB17.C N with may := fun t => asg.any (Nat.beq t) }
def code : Code := loopBody (sub fB17.code [true, true, true, true, false, true, false])
theorem cok (N : Nat) : (C N).Ok Tryz.prog := okC (fB17.cok N) _
def alts : List Alt := [⟨(.exit 4), [6], (.cons (.val (.int .u32)) .nil)⟩]
end fD60
def fD60.go (N : Nat) : Nat → (List Int) → Int → (List UInt8) → Int → Int → Option ((Int × Unit))
  | 0, _, _, _, _, _ => none
  | fuel + 1, half, c, t27, t28, t29 =>
    bif decide (t29 < t28) then
      bif inB t29 t27.length then
        bif decide (t29.toNat < t27.length) then
          bif inB (IntKind.u32.wrap ((BitVec.ofInt 32 (IntKind.u32.wrap ((BitVec.ofInt 32 c ^^^ BitVec.ofInt 32 (IntKind.u32.wrap ((t27.getD t29.toNat (0 : UInt8)).toNat : Int))).toNat : Int)) &&& BitVec.ofInt 32 (15 : Int)).toNat : Int)) 16 then
            bif decide ((IntKind.u32.wrap ((BitVec.ofInt 32 (IntKind.u32.wrap ((BitVec.ofInt 32 c ^^^ BitVec.ofInt 32 (IntKind.u32.wrap ((t27.getD t29.toNat (0 : UInt8)).toNat : Int))).toNat : Int)) &&& BitVec.ofInt 32 (15 : Int)).toNat : Int)).toNat < half.length) then
              bif inB (IntKind.u32.wrap ((BitVec.ofInt 32 (IntKind.u32.wrap ((BitVec.ofInt 32 (half.getD (IntKind.u32.wrap ((BitVec.ofInt 32 (IntKind.u32.wrap ((BitVec.ofInt 32 c ^^^ BitVec.ofInt 32 (IntKind.u32.wrap ((t27.getD t29.toNat (0 : UInt8)).toNat : Int))).toNat : Int)) &&& BitVec.ofInt 32 (15 : Int)).toNat : Int)).toNat (0 : Int)) ^^^ BitVec.ofInt 32 ((IntKind.u32.wrap ((BitVec.ofInt 32 c ^^^ BitVec.ofInt 32 (IntKind.u32.wrap ((t27.getD t29.toNat (0 : UInt8)).toNat : Int))).toNat : Int)).fdiv (16 : Int))).toNat : Int)) &&& BitVec.ofInt 32 (15 : Int)).toNat : Int)) 16 then
                bif decide ((IntKind.u32.wrap ((BitVec.ofInt 32 (IntKind.u32.wrap ((BitVec.ofInt 32 (half.getD (IntKind.u32.wrap ((BitVec.ofInt 32 (IntKind.u32.wrap ((BitVec.ofInt 32 c ^^^ BitVec.ofInt 32 (IntKind.u32.wrap ((t27.getD t29.toNat (0 : UInt8)).toNat : Int))).toNat : Int)) &&& BitVec.ofInt 32 (15 : Int)).toNat : Int)).toNat (0 : Int)) ^^^ BitVec.ofInt 32 ((IntKind.u32.wrap ((BitVec.ofInt 32 c ^^^ BitVec.ofInt 32 (IntKind.u32.wrap ((t27.getD t29.toNat (0 : UInt8)).toNat : Int))).toNat : Int)).fdiv (16 : Int))).toNat : Int)) &&& BitVec.ofInt 32 (15 : Int)).toNat : Int)).toNat < half.length) then
                  fD60.go N fuel half (IntKind.u32.wrap ((BitVec.ofInt 32 (half.getD (IntKind.u32.wrap ((BitVec.ofInt 32 (IntKind.u32.wrap ((BitVec.ofInt 32 (half.getD (IntKind.u32.wrap ((BitVec.ofInt 32 (IntKind.u32.wrap ((BitVec.ofInt 32 c ^^^ BitVec.ofInt 32 (IntKind.u32.wrap ((t27.getD t29.toNat (0 : UInt8)).toNat : Int))).toNat : Int)) &&& BitVec.ofInt 32 (15 : Int)).toNat : Int)).toNat (0 : Int)) ^^^ BitVec.ofInt 32 ((IntKind.u32.wrap ((BitVec.ofInt 32 c ^^^ BitVec.ofInt 32 (IntKind.u32.wrap ((t27.getD t29.toNat (0 : UInt8)).toNat : Int))).toNat : Int)).fdiv (16 : Int))).toNat : Int)) &&& BitVec.ofInt 32 (15 : Int)).toNat : Int)).toNat (0 : Int)) ^^^ BitVec.ofInt 32 ((IntKind.u32.wrap ((BitVec.ofInt 32 (half.getD (IntKind.u32.wrap ((BitVec.ofInt 32 (IntKind.u32.wrap ((BitVec.ofInt 32 c ^^^ BitVec.ofInt 32 (IntKind.u32.wrap ((t27.getD t29.toNat (0 : UInt8)).toNat : Int))).toNat : Int)) &&& BitVec.ofInt 32 (15 : Int)).toNat : Int)).toNat (0 : Int)) ^^^ BitVec.ofInt 32 ((IntKind.u32.wrap ((BitVec.ofInt 32 c ^^^ BitVec.ofInt 32 (IntKind.u32.wrap ((t27.getD t29.toNat (0 : UInt8)).toNat : Int))).toNat : Int)).fdiv (16 : Int))).toNat : Int)).fdiv (16 : Int))).toNat : Int)) t27 t28 (IntKind.i64.wrap (t29 + (1 : Int)))
                else none
              else none
            else none
          else none
        else none
      else none
    else some (c, ())
namespace fD60
def g (N n : Nat) : Sh.den ins → Option (altsDen alts) := fun (a, b, c, d, e, _) => fD60.go N n a b c d e
def P (N : Nat) : Ps := ⟨ts, ins, asg, alts, g N N⟩
def lam (N : Nat) : Pcs := pcs []
theorem pok (N : Nat) : (lam N).Ok Tryz.prog (C N) code := pcsOk_nil
theorem ok (N : Nat) : ((P N).pc (fB17.C N)).Ok Tryz.prog (fB17.C N) (.loop code) := okL (F := P N) (g N) (fB17.cok N) mix (pok N) (fun _ => rfl) rfl fun _ _ => by kernel_rfl
end fD60
def fB17.run (N : Nat) (b : (List UInt8)) : Option (Int × Unit) :=
  obind (fA27.go N N (List.replicate 16 (0 : Int)) (0 : Int)) fun (v, _) =>
    obind (fD60.go N N v (4294967295 : Int) b (b.length : Int) (0 : Int)) fun (c, _) =>
      some (IntKind.u32.wrap ((BitVec.ofInt 32 (4294967295 : Int) ^^^ BitVec.ofInt 32 c).toNat : Int), ())
namespace fB17
def fn (N : Nat) : Sh.den ins → Option (Sh.den outs) := fun (a, _) => fB17.run N a
def S (N : Nat) : Fs := ⟨ins, outs, fn N⟩
def lam (N : Nat) : Pcs := pcs [([true, true, false, true, false], (fA27.P N).pc (C N)), ([true, true, true, true, false, true, false], (fD60.P N).pc (C N))]
theorem pok (N : Nat) : (lam N).Ok Tryz.prog (C N) code := pcsOk_cons (c1 := .loop fA27.code) (by kernel_rfl) (fA27.ok N) (pcsOk_cons (c1 := .loop fD60.code) (by kernel_rfl) (fD60.ok N) (pcsOk_nil))
theorem ok (N : Nat) : (S N).con.Ok Tryz.prog 38 := okF (F := S N) [] Tryz.func38 (by kernel_rfl) (by rfl) mix (cok N) (pok N) fun _ => by kernel_rfl
end fB17
namespace fD67
def ins : Sh := (.cons (.rown 5 .byte) .nil)
def C (N : Nat) : Ctx := ⟨U, 30, fun _ => true, gam [(12, (fC68.S N).con), (37, (fA6.S N).con), (38, (fB17.S N).con), (39, (fD27.S N).con), (14, (fA17.S N).con)], gamY []⟩
theorem cok (N : Nat) : (C N).Ok Tryz.prog := ⟨U_ok, GamOk.cons (fC68.ok N) (GamOk.cons (fA6.ok N) (GamOk.cons (fB17.ok N) (GamOk.cons (fD27.ok N) (GamOk.cons (fA17.ok N) (GamOk.nil))))), GamYOk.nil⟩
def code : Code := Tryz.f16.body.getD .skip
def outs : Sh := s22
end fD67
def fD67.run (N : Nat) (b : (List UInt8)) : Option T17 :=
  bif decide ((b.length : Int) > (16777216 : Int)) then
    some (([] : List UInt8), (12 : Int), ())
  else
    obind (fC68.run N) fun ((b1, _), _) =>
      obind (fA6.run N b1 (IntKind.u32.wrap (b.length : Int))) fun ((b2, _), _) =>
        obind (fB17.run N b2) fun (n_, _) =>
          obind (fA6.run N b2 n_) fun ((b3, _), _) =>
            obind (fD27.run N b3 b) fun ((b4, _), _) =>
              obind (fB17.run N b) fun (n1, _) =>
                obind (fA6.run N b4 n1) fun ((b5, _), _) =>
                  obind (fA17.run N b5) fun (l, _) =>
                    some (l, (0 : Int), ())
namespace fD67
def fn (N : Nat) : Sh.den ins → Option (Sh.den outs) := fun (a, _) => fD67.run N a
def S (N : Nat) : Fs := ⟨ins, outs, fn N⟩
def lam (N : Nat) : Pcs := pcs []
theorem pok (N : Nat) : (lam N).Ok Tryz.prog (C N) code := pcsOk_nil
theorem ok (N : Nat) : (S N).con.Ok Tryz.prog 16 := okF (F := S N) [] Tryz.func16 (by kernel_rfl) (by rfl) mix (cok N) (pok N) fun _ => by kernel_rfl
end fD67
namespace fB3
def ins : Sh := (.cons (.val (.slice (.pair (.int .i64) (.pair .bool (.pair (.int .i64) .str))))) s19)
def C (N : Nat) : Ctx := ⟨U, 26, fun _ => true, gam [], gamY []⟩
theorem cok (N : Nat) : (C N).Ok Tryz.prog := ⟨U_ok, GamOk.nil, GamYOk.nil⟩
def code : Code := Tryz.f82.body.getD .skip
def outs : Sh := (.cons (.val .bool) .nil)
end fB3
namespace fC4
def ins : Sh := (.cons (.val (.slice (.pair (.int .i64) (.pair .bool (.pair (.int .i64) .str))))) s21)
def ts : List Tmp := [0, 1, 12, 13]
def asg : List Tmp := [4, 5, 13, 14, 15, 16, 17, 18, 19, 20, 21, 22, 23, 24, 25]
def C (N : Nat) : Ctx := { fB3.C N with may := fun t => asg.any (Nat.beq t) }
def code : Code := loopBody (sub fB3.code [true, true, false, true, false])
theorem cok (N : Nat) : (C N).Ok Tryz.prog := okC (fB3.cok N) _
def alts : List Alt := [⟨.ret, [4], (.cons (.val .bool) .nil)⟩, ⟨(.exit 0), [], .nil⟩]
end fC4
def fC4.go (N : Nat) : Nat → (List T4) → (List T4) → Int → Int → Option T16
  | 0, _, _, _, _ => none
  | fuel + 1, s1, s2, t12, t13 =>
    bif decide (t13 < t12) then
      bif inB t13 s1.length then
        bif inB t13 s2.length then
          bif !((decide ((s1.getD t13.toNat ((0 : Int), false, (0 : Int), ([] : List UInt8))).1 = (s2.getD t13.toNat ((0 : Int), false, (0 : Int), ([] : List UInt8))).1)) && (((s1.getD t13.toNat ((0 : Int), false, (0 : Int), ([] : List UInt8))).2.1 == (s2.getD t13.toNat ((0 : Int), false, (0 : Int), ([] : List UInt8))).2.1) && ((decide ((s1.getD t13.toNat ((0 : Int), false, (0 : Int), ([] : List UInt8))).2.2.1 = (s2.getD t13.toNat ((0 : Int), false, (0 : Int), ([] : List UInt8))).2.2.1)) && ((decide ((s1.getD t13.toNat ((0 : Int), false, (0 : Int), ([] : List UInt8))).2.2.2 = (s2.getD t13.toNat ((0 : Int), false, (0 : Int), ([] : List UInt8))).2.2.2)) && true)))) then
            some (.inl (false, ()))
          else fC4.go N fuel s1 s2 t12 (IntKind.i64.wrap (t13 + (1 : Int)))
        else none
      else none
    else some (.inr ())
namespace fC4
def g (N n : Nat) : Sh.den ins → Option (altsDen alts) := fun (a, b, c, d, _) => fC4.go N n a b c d
def P (N : Nat) : Ps := ⟨ts, ins, asg, alts, g N N⟩
def lam (N : Nat) : Pcs := pcs []
theorem pok (N : Nat) : (lam N).Ok Tryz.prog (C N) code := pcsOk_nil
theorem ok (N : Nat) : ((P N).pc (fB3.C N)).Ok Tryz.prog (fB3.C N) (.loop code) := okL (F := P N) (g N) (fB3.cok N) mix (pok N) (fun _ => rfl) rfl fun _ _ => by kernel_rfl
end fC4
def fB3.run (N : Nat) (s1 : (List T4)) (s2 : (List T4)) : Option (Bool × Unit) :=
  bif !(decide ((s1.length : Int) = (s2.length : Int))) then
    some (false, ())
  else
    obind (fC4.go N N s1 s2 (s1.length : Int) (0 : Int)) fun y => match y with
    | .inl (t4, _) =>
        some (t4, ())
    | .inr (_) =>
        some (true, ())
namespace fB3
def fn (N : Nat) : Sh.den ins → Option (Sh.den outs) := fun (a, b, _) => fB3.run N a b
def S (N : Nat) : Fs := ⟨ins, outs, fn N⟩
def lam (N : Nat) : Pcs := pcs [([true, true, false, true, false], (fC4.P N).pc (C N))]
theorem pok (N : Nat) : (lam N).Ok Tryz.prog (C N) code := pcsOk_cons (c1 := .loop fC4.code) (by kernel_rfl) (fC4.ok N) (pcsOk_nil)
theorem ok (N : Nat) : (S N).con.Ok Tryz.prog 82 := okF (F := S N) [] Tryz.func82 (by kernel_rfl) (by rfl) mix (cok N) (pok N) fun _ => by kernel_rfl
end fB3
namespace fC25
def ins : Sh := s80
def C (N : Nat) : Ctx := ⟨U, 24, fun _ => true, gam [(82, (fB3.S N).con)], gamY []⟩
theorem cok (N : Nat) : (C N).Ok Tryz.prog := ⟨U_ok, GamOk.cons (fB3.ok N) (GamOk.nil), GamYOk.nil⟩
def code : Code := Tryz.f44.body.getD .skip
def outs : Sh := (.cons (.val .bool) .nil)
end fC25
def fC25.run (N : Nat) (a : T6) (b : T6) : Option (Bool × Unit) :=
  bif (decide (a.1.1 = b.1.1)) && ((decide (a.1.2 = b.1.2)) && true) then
    bif decide (a.2.2 = b.2.2) then
      obind (fB3.run N a.2.1 b.2.1) fun (b1, _) =>
        some (b1, ())
    else some (false, ())
  else some (false, ())
namespace fC25
def fn (N : Nat) : Sh.den ins → Option (Sh.den outs) := fun (a, b, _) => fC25.run N a b
def S (N : Nat) : Fs := ⟨ins, outs, fn N⟩
def lam (N : Nat) : Pcs := pcs []
theorem pok (N : Nat) : (lam N).Ok Tryz.prog (C N) code := pcsOk_nil
theorem ok (N : Nat) : (S N).con.Ok Tryz.prog 44 := okF (F := S N) [] Tryz.func44 (by kernel_rfl) (by rfl) mix (cok N) (pok N) fun _ => by kernel_rfl
end fC25
namespace fA54
def ins : Sh := (.cons (.val (.pair (.pair (.int .i64) (.int .i64)) (.pair (.pair (.int .u64) (.int .u32)) (.pair (.slice (.pair (.int .i64) (.pair .bool (.pair (.int .i64) .str)))) (.int .u64))))) (.cons (.val (.pair (.pair (.int .i64) (.int .i64)) (.pair (.pair (.int .u64) (.int .u32)) (.pair (.slice (.pair (.int .i64) (.pair .bool (.pair (.int .i64) .str)))) (.int .u64))))) .nil))
def C (N : Nat) : Ctx := ⟨U, 17, fun _ => true, gam [(44, (fC25.S N).con)], gamY []⟩
theorem cok (N : Nat) : (C N).Ok Tryz.prog := ⟨U_ok, GamOk.cons (fC25.ok N) (GamOk.nil), GamYOk.nil⟩
def code : Code := Tryz.f41.body.getD .skip
def outs : Sh := (.cons (.val .bool) .nil)
end fA54
def fA54.run (N : Nat) (a : T7) (b : T7) : Option (Bool × Unit) :=
  bif (decide (a.1.1 = b.1.1)) && ((decide (a.1.2 = b.1.2)) && true) then
    obind (fC25.run N a.2 b.2) fun (b1, _) =>
      some (b1, ())
  else some (false, ())
namespace fA54
def fn (N : Nat) : Sh.den ins → Option (Sh.den outs) := fun (a, b, _) => fA54.run N a b
def S (N : Nat) : Fs := ⟨ins, outs, fn N⟩
def lam (N : Nat) : Pcs := pcs []
theorem pok (N : Nat) : (lam N).Ok Tryz.prog (C N) code := pcsOk_nil
theorem ok (N : Nat) : (S N).con.Ok Tryz.prog 41 := okF (F := S N) [] Tryz.func41 (by kernel_rfl) (by rfl) mix (cok N) (pok N) fun _ => by kernel_rfl
end fA54
namespace fC0
def ins : Sh := (.cons (.val (.slice (.pair (.pair (.int .i64) (.int .i64)) (.pair (.pair (.int .u64) (.int .u32)) (.pair (.slice (.pair (.int .i64) (.pair .bool (.pair (.int .i64) .str)))) (.int .u64)))))) (.cons (.val (.slice (.pair (.pair (.int .i64) (.int .i64)) (.pair (.pair (.int .u64) (.int .u32)) (.pair (.slice (.pair (.int .i64) (.pair .bool (.pair (.int .i64) .str)))) (.int .u64)))))) (.cons (.fn 41 .nil) .nil)))
def C (N : Nat) : Ctx := ⟨U, 32, fun _ => true, gam [(41, (fA54.S N).con)], gamY []⟩
theorem cok (N : Nat) : (C N).Ok Tryz.prog := ⟨U_ok, GamOk.cons (fA54.ok N) (GamOk.nil), GamYOk.nil⟩
def code : Code := Tryz.f40.body.getD .skip
def outs : Sh := (.cons (.val .bool) .nil)
end fC0
namespace fC2
def ins : Sh := (.cons (.val (.slice (.pair (.pair (.int .i64) (.int .i64)) (.pair (.pair (.int .u64) (.int .u32)) (.pair (.slice (.pair (.int .i64) (.pair .bool (.pair (.int .i64) .str)))) (.int .u64)))))) (.cons (.fn 41 .nil) s25))
def ts : List Tmp := [1, 2, 15, 16, 17]
def asg : List Tmp := [6, 7, 8, 9, 17, 18, 19, 20, 21, 22, 23, 24, 25, 26, 27, 28, 29, 30, 31]
def C (N : Nat) : Ctx := { fC0.C N with may := fun t => asg.any (Nat.beq t) }
def code : Code := loopBody (sub fC0.code [true, true, false, true, false])
theorem cok (N : Nat) : (C N).Ok Tryz.prog := okC (fC0.cok N) _
def alts : List Alt := [⟨.ret, [6], (.cons (.val .bool) .nil)⟩, ⟨(.exit 0), [], .nil⟩]
end fC2
def fC2.go (N : Nat) : Nat → (List T7) → (List T7) → Int → Int → Option T16
  | 0, _, _, _, _ => none
  | fuel + 1, s2, t15, t16, t17 =>
    bif decide (t17 < t16) then
      bif inB t17 t15.length then
        bif inB t17 s2.length then
          obind (fA54.run N (t15.getD t17.toNat (((0 : Int), (0 : Int)), ((0 : Int), (0 : Int)), ([] : List T4), (0 : Int))) (s2.getD t17.toNat (((0 : Int), (0 : Int)), ((0 : Int), (0 : Int)), ([] : List T4), (0 : Int)))) fun (b, _) =>
            bif !b then
              some (.inl (false, ()))
            else fC2.go N fuel s2 t15 t16 (IntKind.i64.wrap (t17 + (1 : Int)))
        else none
      else none
    else some (.inr ())
namespace fC2
def g (N n : Nat) : Sh.den ins → Option (altsDen alts) := fun (a, _, b, c, d, _) => fC2.go N n a b c d
def P (N : Nat) : Ps := ⟨ts, ins, asg, alts, g N N⟩
def lam (N : Nat) : Pcs := pcs []
theorem pok (N : Nat) : (lam N).Ok Tryz.prog (C N) code := pcsOk_nil
theorem ok (N : Nat) : ((P N).pc (fC0.C N)).Ok Tryz.prog (fC0.C N) (.loop code) := okL (F := P N) (g N) (fC0.cok N) mix (pok N) (fun _ => rfl) rfl fun _ _ => by kernel_rfl
end fC2
def fC0.run (N : Nat) (s1 : (List T7)) (s2 : (List T7)) : Option (Bool × Unit) :=
  bif !(decide ((s1.length : Int) = (s2.length : Int))) then
    some (false, ())
  else
    obind (fC2.go N N s2 s1 (s1.length : Int) (0 : Int)) fun y => match y with
    | .inl (t6, _) =>
        some (t6, ())
    | .inr (_) =>
        some (true, ())
namespace fC0
def fn (N : Nat) : Sh.den ins → Option (Sh.den outs) := fun (a, b, _, _) => fC0.run N a b
def S (N : Nat) : Fs := ⟨ins, outs, fn N⟩
def lam (N : Nat) : Pcs := pcs [([true, true, false, true, false], (fC2.P N).pc (C N))]
theorem pok (N : Nat) : (lam N).Ok Tryz.prog (C N) code := pcsOk_cons (c1 := .loop fC2.code) (by kernel_rfl) (fC2.ok N) (pcsOk_nil)
theorem ok (N : Nat) : (S N).con.Ok Tryz.prog 40 := okF (F := S N) [] Tryz.func40 (by kernel_rfl) (by rfl) mix (cok N) (pok N) fun _ => by kernel_rfl
end fC0
namespace fA3
def ins : Sh := (.cons (.val (.slice (.pair (.pair (.int .i64) (.int .i64)) (.pair (.int .u64) (.int .u32))))) s81)
def C (N : Nat) : Ctx := ⟨U, 26, fun _ => true, gam [], gamY []⟩
theorem cok (N : Nat) : (C N).Ok Tryz.prog := ⟨U_ok, GamOk.nil, GamYOk.nil⟩
def code : Code := Tryz.f42.body.getD .skip
def outs : Sh := (.cons (.val .bool) .nil)
end fA3
namespace fB5
def ins : Sh := (.cons (.val (.slice (.pair (.pair (.int .i64) (.int .i64)) (.pair (.int .u64) (.int .u32))))) s32)
def ts : List Tmp := [0, 1, 12, 13]
def asg : List Tmp := [4, 5, 13, 14, 15, 16, 17, 18, 19, 20, 21, 22, 23, 24, 25]
def C (N : Nat) : Ctx := { fA3.C N with may := fun t => asg.any (Nat.beq t) }
def code : Code := loopBody (sub fA3.code [true, true, false, true, false])
theorem cok (N : Nat) : (C N).Ok Tryz.prog := okC (fA3.cok N) _
def alts : List Alt := [⟨.ret, [4], (.cons (.val .bool) .nil)⟩, ⟨(.exit 0), [], .nil⟩]
end fB5
def fB5.go (N : Nat) : Nat → (List T8) → (List T8) → Int → Int → Option T16
  | 0, _, _, _, _ => none
  | fuel + 1, s1, s2, t12, t13 =>
    bif decide (t13 < t12) then
      bif inB t13 s1.length then
        bif inB t13 s2.length then
          bif !(((decide ((s1.getD t13.toNat (((0 : Int), (0 : Int)), (0 : Int), (0 : Int))).1.1 = (s2.getD t13.toNat (((0 : Int), (0 : Int)), (0 : Int), (0 : Int))).1.1)) && ((decide ((s1.getD t13.toNat (((0 : Int), (0 : Int)), (0 : Int), (0 : Int))).1.2 = (s2.getD t13.toNat (((0 : Int), (0 : Int)), (0 : Int), (0 : Int))).1.2)) && true)) && (((decide ((s1.getD t13.toNat (((0 : Int), (0 : Int)), (0 : Int), (0 : Int))).2.1 = (s2.getD t13.toNat (((0 : Int), (0 : Int)), (0 : Int), (0 : Int))).2.1)) && ((decide ((s1.getD t13.toNat (((0 : Int), (0 : Int)), (0 : Int), (0 : Int))).2.2 = (s2.getD t13.toNat (((0 : Int), (0 : Int)), (0 : Int), (0 : Int))).2.2)) && true)) && true)) then
            some (.inl (false, ()))
          else fB5.go N fuel s1 s2 t12 (IntKind.i64.wrap (t13 + (1 : Int)))
        else none
      else none
    else some (.inr ())
namespace fB5
def g (N n : Nat) : Sh.den ins → Option (altsDen alts) := fun (a, b, c, d, _) => fB5.go N n a b c d
def P (N : Nat) : Ps := ⟨ts, ins, asg, alts, g N N⟩
def lam (N : Nat) : Pcs := pcs []
theorem pok (N : Nat) : (lam N).Ok Tryz.prog (C N) code := pcsOk_nil
theorem ok (N : Nat) : ((P N).pc (fA3.C N)).Ok Tryz.prog (fA3.C N) (.loop code) := okL (F := P N) (g N) (fA3.cok N) mix (pok N) (fun _ => rfl) rfl fun _ _ => by kernel_rfl
end fB5
def fA3.run (N : Nat) (s1 : (List T8)) (s2 : (List T8)) : Option (Bool × Unit) :=
  bif !(decide ((s1.length : Int) = (s2.length : Int))) then
    some (false, ())
  else
    obind (fB5.go N N s1 s2 (s1.length : Int) (0 : Int)) fun y => match y with
    | .inl (t4, _) =>
        some (t4, ())
    | .inr (_) =>
        some (true, ())
namespace fA3
def fn (N : Nat) : Sh.den ins → Option (Sh.den outs) := fun (a, b, _) => fA3.run N a b
def S (N : Nat) : Fs := ⟨ins, outs, fn N⟩
def lam (N : Nat) : Pcs := pcs [([true, true, false, true, false], (fB5.P N).pc (C N))]
theorem pok (N : Nat) : (lam N).Ok Tryz.prog (C N) code := pcsOk_cons (c1 := .loop fB5.code) (by kernel_rfl) (fB5.ok N) (pcsOk_nil)
theorem ok (N : Nat) : (S N).con.Ok Tryz.prog 42 := okF (F := S N) [] Tryz.func42 (by kernel_rfl) (by rfl) mix (cok N) (pok N) fun _ => by kernel_rfl
end fA3
namespace fB0
def ins : Sh := (.cons (.val (.slice (.pair (.pair (.int .u64) (.int .u32)) (.pair (.slice (.pair (.int .i64) (.pair .bool (.pair (.int .i64) .str)))) (.int .u64))))) (.cons (.val (.slice (.pair (.pair (.int .u64) (.int .u32)) (.pair (.slice (.pair (.int .i64) (.pair .bool (.pair (.int .i64) .str)))) (.int .u64))))) (.cons (.fn 44 .nil) .nil)))
def C (N : Nat) : Ctx := ⟨U, 32, fun _ => true, gam [(44, (fC25.S N).con)], gamY []⟩
theorem cok (N : Nat) : (C N).Ok Tryz.prog := ⟨U_ok, GamOk.cons (fC25.ok N) (GamOk.nil), GamYOk.nil⟩
def code : Code := Tryz.f43.body.getD .skip
def outs : Sh := (.cons (.val .bool) .nil)
end fB0
namespace fC1
def ins : Sh := (.cons (.val (.slice (.pair (.pair (.int .u64) (.int .u32)) (.pair (.slice (.pair (.int .i64) (.pair .bool (.pair (.int .i64) .str)))) (.int .u64))))) (.cons (.fn 44 .nil) s42))
def ts : List Tmp := [1, 2, 15, 16, 17]
def asg : List Tmp := [6, 7, 8, 9, 17, 18, 19, 20, 21, 22, 23, 24, 25, 26, 27, 28, 29, 30, 31]
def C (N : Nat) : Ctx := { fB0.C N with may := fun t => asg.any (Nat.beq t) }
def code : Code := loopBody (sub fB0.code [true, true, false, true, false])
theorem cok (N : Nat) : (C N).Ok Tryz.prog := okC (fB0.cok N) _
def alts : List Alt := [⟨.ret, [6], (.cons (.val .bool) .nil)⟩, ⟨(.exit 0), [], .nil⟩]
end fC1
def fC1.go (N : Nat) : Nat → (List T6) → (List T6) → Int → Int → Option T16
  | 0, _, _, _, _ => none
  | fuel + 1, s2, t15, t16, t17 =>
    bif decide (t17 < t16) then
      bif inB t17 t15.length then
        bif inB t17 s2.length then
          obind (fC25.run N (t15.getD t17.toNat (((0 : Int), (0 : Int)), ([] : List T4), (0 : Int))) (s2.getD t17.toNat (((0 : Int), (0 : Int)), ([] : List T4), (0 : Int)))) fun (b, _) =>
            bif !b then
              some (.inl (false, ()))
            else fC1.go N fuel s2 t15 t16 (IntKind.i64.wrap (t17 + (1 : Int)))
        else none
      else none
    else some (.inr ())
namespace fC1
def g (N n : Nat) : Sh.den ins → Option (altsDen alts) := fun (a, _, b, c, d, _) => fC1.go N n a b c d
def P (N : Nat) : Ps := ⟨ts, ins, asg, alts, g N N⟩
def lam (N : Nat) : Pcs := pcs []
theorem pok (N : Nat) : (lam N).Ok Tryz.prog (C N) code := pcsOk_nil
theorem ok (N : Nat) : ((P N).pc (fB0.C N)).Ok Tryz.prog (fB0.C N) (.loop code) := okL (F := P N) (g N) (fB0.cok N) mix (pok N) (fun _ => rfl) rfl fun _ _ => by kernel_rfl
end fC1
def fB0.run (N : Nat) (s1 : (List T6)) (s2 : (List T6)) : Option (Bool × Unit) :=
  bif !(decide ((s1.length : Int) = (s2.length : Int))) then
    some (false, ())
  else
    obind (fC1.go N N s2 s1 (s1.length : Int) (0 : Int)) fun y => match y with
    | .inl (t6, _) =>
        some (t6, ())
    | .inr (_) =>
        some (true, ())
namespace fB0
def fn (N : Nat) : Sh.den ins → Option (Sh.den outs) := fun (a, b, _, _) => fB0.run N a b
def S (N : Nat) : Fs := ⟨ins, outs, fn N⟩
def lam (N : Nat) : Pcs := pcs [([true, true, false, true, false], (fC1.P N).pc (C N))]
theorem pok (N : Nat) : (lam N).Ok Tryz.prog (C N) code := pcsOk_cons (c1 := .loop fC1.code) (by kernel_rfl) (fC1.ok N) (pcsOk_nil)
theorem ok (N : Nat) : (S N).con.Ok Tryz.prog 43 := okF (F := S N) [] Tryz.func43 (by kernel_rfl) (by rfl) mix (cok N) (pok N) fun _ => by kernel_rfl
end fB0
namespace fC26
def ins : Sh := s83
def C (N : Nat) : Ctx := ⟨U, 137, fun _ => true, gam [(40, (fC0.S N).con), (42, (fA3.S N).con), (43, (fB0.S N).con)], gamY []⟩
theorem cok (N : Nat) : (C N).Ok Tryz.prog := ⟨U_ok, GamOk.cons (fC0.ok N) (GamOk.cons (fA3.ok N) (GamOk.cons (fB0.ok N) (GamOk.nil))), GamYOk.nil⟩
def code : Code := Tryz.f17.body.getD .skip
def outs : Sh := (.cons (.val .bool) .nil)
end fC26
namespace fA65
def ins : Sh := s84
def ts : List Tmp := [2, 3]
def asg : List Tmp := [5, 7, 8, 9, 10, 11, 12, 13, 14, 15, 16, 17, 18, 19, 20, 21, 22, 23, 24, 25, 26, 27, 28, 29]
def C (N : Nat) : Ctx := { fC26.C N with may := fun t => asg.any (Nat.beq t) }
def code : Code := (sub fC26.code [true, false]).getD .skip
theorem cok (N : Nat) : (C N).Ok Tryz.prog := okC (fC26.cok N) _
def alts : List Alt := [⟨.normal, [5], (.cons (.val .bool) .nil)⟩]
end fA65
def fA65.run (N : Nat) (jA : Int) (jB_ : Int) (jC_ : Int) (jD : Int) (jE : Int) (jF : Int) (jG : Int) (jH : Int) (jI : Int) (jJ : Int) (jK : Int) (jL : Bool) (jM : Bool) (jN : Bool) (jO_ : Int) (jO1 : Int) (jP : (List T7)) (jP1 : (List T8)) (jQ : (List T6)) (jA1 : Int) (jB1 : Int) (jC1 : Int) (jD1 : Int) (jE1 : Int) (jF1 : Int) (jG1 : Int) (jH1 : Int) (jI1 : Int) (jJ1 : Int) (jK1 : Int) (jL1 : Bool) (jM1 : Bool) (jN1 : Bool) (jO2 : Int) (jO3 : Int) (jP2 : (List T7)) (jP3 : (List T8)) (jQ1 : (List T6)) : Option ((Bool × Unit)) :=
  obind (fC0.run N jP jP2) fun (b, _) =>
    bif b then
      obind (fA3.run N jP1 jP3) fun (b1, _) =>
        bif b1 then
          obind (fB0.run N jQ jQ1) fun (b2, _) =>
            some (b2, ())
        else some (false, ())
    else some (false, ())
namespace fA65
def fn (N : Nat) : Sh.den ins → Option (altsDen alts) := fun ((a, b, c, d, e, f, g, h, i, j, k, l, m, o, p, q, r, s, t, _), (u, v, w, x, y, z, x26, x27, x28, x29, x30, x31, x32, x33, x34, x35, x36, x37, x38, _), _) => fA65.run N a b c d e f g h i j k l m o p q r s t u v w x y z x26 x27 x28 x29 x30 x31 x32 x33 x34 x35 x36 x37 x38
def P (N : Nat) : Ps := ⟨ts, ins, asg, alts, fn N⟩
def lam (N : Nat) : Pcs := pcs []
theorem pok (N : Nat) : (lam N).Ok Tryz.prog (C N) code := pcsOk_nil
theorem ok (N : Nat) : ((P N).pc (fC26.C N)).Ok Tryz.prog (fC26.C N) code := okP (F := P N) (fC26.cok N) mix (pok N) fun _ => by kernel_rfl
end fA65
namespace fB65
def ins : Sh := s84
def ts : List Tmp := [2, 3]
def asg : List Tmp := [6, 30, 31, 32, 33, 34, 35, 36, 37, 38, 39, 40, 41, 42, 43, 44, 45, 46, 47, 48, 49, 50, 51, 52, 53, 54, 55, 56, 57, 58, 59, 60, 61, 62, 63, 64, 65, 66, 67, 68, 69, 70, 71, 72, 73, 74, 75, 76]
def C (N : Nat) : Ctx := { fC26.C N with may := fun t => asg.any (Nat.beq t) }
def code : Code := (sub fC26.code [true, true, false]).getD .skip
theorem cok (N : Nat) : (C N).Ok Tryz.prog := okC (fC26.cok N) _
def alts : List Alt := [⟨.normal, [6], (.cons (.val .bool) .nil)⟩]
end fB65
def fB65.run (N : Nat) (jA : Int) (jB_ : Int) (jC_ : Int) (jD : Int) (jE : Int) (jF : Int) (jG : Int) (jH : Int) (jI : Int) (jJ : Int) (jK : Int) (jL : Bool) (jM : Bool) (jN : Bool) (jO_ : Int) (jO1 : Int) (jP : (List T7)) (jP1 : (List T8)) (jQ : (List T6)) (jA1 : Int) (jB1 : Int) (jC1 : Int) (jD1 : Int) (jE1 : Int) (jF1 : Int) (jG1 : Int) (jH1 : Int) (jI1 : Int) (jJ1 : Int) (jK1 : Int) (jL1 : Bool) (jM1 : Bool) (jN1 : Bool) (jO2 : Int) (jO3 : Int) (jP2 : (List T7)) (jP3 : (List T8)) (jQ1 : (List T6)) : Option ((Bool × Unit)) :=
  bif decide (jD = jD1) then
    bif decide (jE = jE1) then
      bif decide (jF = jF1) then
        bif decide (jG = jG1) then
          bif decide (jH = jH1) then
            bif decide (jI = jI1) then
              some (decide (jJ = jJ1), ())
            else some (false, ())
          else some (false, ())
        else some (false, ())
      else some (false, ())
    else some (false, ())
  else some (false, ())
namespace fB65
def fn (N : Nat) : Sh.den ins → Option (altsDen alts) := fun ((a, b, c, d, e, f, g, h, i, j, k, l, m, o, p, q, r, s, t, _), (u, v, w, x, y, z, x26, x27, x28, x29, x30, x31, x32, x33, x34, x35, x36, x37, x38, _), _) => fB65.run N a b c d e f g h i j k l m o p q r s t u v w x y z x26 x27 x28 x29 x30 x31 x32 x33 x34 x35 x36 x37 x38
def P (N : Nat) : Ps := ⟨ts, ins, asg, alts, fn N⟩
def lam (N : Nat) : Pcs := pcs []
theorem pok (N : Nat) : (lam N).Ok Tryz.prog (C N) code := pcsOk_nil
theorem ok (N : Nat) : ((P N).pc (fC26.C N)).Ok Tryz.prog (fC26.C N) code := okP (F := P N) (fC26.cok N) mix (pok N) fun _ => by kernel_rfl
end fB65
def fC26.run (N : Nat) (a : T53) (b : T53) : Option (Bool × Unit) :=
  obind (fA65.run N a.1 a.2.1 a.2.2.1 a.2.2.2.1 a.2.2.2.2.1 a.2.2.2.2.2.1 a.2.2.2.2.2.2.1 a.2.2.2.2.2.2.2.1 a.2.2.2.2.2.2.2.2.1 a.2.2.2.2.2.2.2.2.2.1 a.2.2.2.2.2.2.2.2.2.2.1 a.2.2.2.2.2.2.2.2.2.2.2.1 a.2.2.2.2.2.2.2.2.2.2.2.2.1 a.2.2.2.2.2.2.2.2.2.2.2.2.2.1 a.2.2.2.2.2.2.2.2.2.2.2.2.2.2.1.1 a.2.2.2.2.2.2.2.2.2.2.2.2.2.2.1.2 a.2.2.2.2.2.2.2.2.2.2.2.2.2.2.2.1.1 a.2.2.2.2.2.2.2.2.2.2.2.2.2.2.2.1.2 a.2.2.2.2.2.2.2.2.2.2.2.2.2.2.2.2 b.1 b.2.1 b.2.2.1 b.2.2.2.1 b.2.2.2.2.1 b.2.2.2.2.2.1 b.2.2.2.2.2.2.1 b.2.2.2.2.2.2.2.1 b.2.2.2.2.2.2.2.2.1 b.2.2.2.2.2.2.2.2.2.1 b.2.2.2.2.2.2.2.2.2.2.1 b.2.2.2.2.2.2.2.2.2.2.2.1 b.2.2.2.2.2.2.2.2.2.2.2.2.1 b.2.2.2.2.2.2.2.2.2.2.2.2.2.1 b.2.2.2.2.2.2.2.2.2.2.2.2.2.2.1.1 b.2.2.2.2.2.2.2.2.2.2.2.2.2.2.1.2 b.2.2.2.2.2.2.2.2.2.2.2.2.2.2.2.1.1 b.2.2.2.2.2.2.2.2.2.2.2.2.2.2.2.1.2 b.2.2.2.2.2.2.2.2.2.2.2.2.2.2.2.2) fun (lists, _) =>
    obind (fB65.run N a.1 a.2.1 a.2.2.1 a.2.2.2.1 a.2.2.2.2.1 a.2.2.2.2.2.1 a.2.2.2.2.2.2.1 a.2.2.2.2.2.2.2.1 a.2.2.2.2.2.2.2.2.1 a.2.2.2.2.2.2.2.2.2.1 a.2.2.2.2.2.2.2.2.2.2.1 a.2.2.2.2.2.2.2.2.2.2.2.1 a.2.2.2.2.2.2.2.2.2.2.2.2.1 a.2.2.2.2.2.2.2.2.2.2.2.2.2.1 a.2.2.2.2.2.2.2.2.2.2.2.2.2.2.1.1 a.2.2.2.2.2.2.2.2.2.2.2.2.2.2.1.2 a.2.2.2.2.2.2.2.2.2.2.2.2.2.2.2.1.1 a.2.2.2.2.2.2.2.2.2.2.2.2.2.2.2.1.2 a.2.2.2.2.2.2.2.2.2.2.2.2.2.2.2.2 b.1 b.2.1 b.2.2.1 b.2.2.2.1 b.2.2.2.2.1 b.2.2.2.2.2.1 b.2.2.2.2.2.2.1 b.2.2.2.2.2.2.2.1 b.2.2.2.2.2.2.2.2.1 b.2.2.2.2.2.2.2.2.2.1 b.2.2.2.2.2.2.2.2.2.2.1 b.2.2.2.2.2.2.2.2.2.2.2.1 b.2.2.2.2.2.2.2.2.2.2.2.2.1 b.2.2.2.2.2.2.2.2.2.2.2.2.2.1 b.2.2.2.2.2.2.2.2.2.2.2.2.2.2.1.1 b.2.2.2.2.2.2.2.2.2.2.2.2.2.2.1.2 b.2.2.2.2.2.2.2.2.2.2.2.2.2.2.2.1.1 b.2.2.2.2.2.2.2.2.2.2.2.2.2.2.2.1.2 b.2.2.2.2.2.2.2.2.2.2.2.2.2.2.2.2) fun (rest, _) =>
      bif lists then
        bif rest then
          bif decide (a.1 = b.1) then
            bif decide (a.2.1 = b.2.1) then
              bif decide (a.2.2.1 = b.2.2.1) then
                bif decide (a.2.2.2.2.2.2.2.2.2.2.1 = b.2.2.2.2.2.2.2.2.2.2.1) then
                  bif a.2.2.2.2.2.2.2.2.2.2.2.1 == b.2.2.2.2.2.2.2.2.2.2.2.1 then
                    bif a.2.2.2.2.2.2.2.2.2.2.2.2.1 == b.2.2.2.2.2.2.2.2.2.2.2.2.1 then
                      bif a.2.2.2.2.2.2.2.2.2.2.2.2.2.1 == b.2.2.2.2.2.2.2.2.2.2.2.2.2.1 then
                        some ((decide (a.2.2.2.2.2.2.2.2.2.2.2.2.2.2.1.1 = b.2.2.2.2.2.2.2.2.2.2.2.2.2.2.1.1)) && ((decide (a.2.2.2.2.2.2.2.2.2.2.2.2.2.2.1.2 = b.2.2.2.2.2.2.2.2.2.2.2.2.2.2.1.2)) && true), ())
                      else some (false, ())
                    else some (false, ())
                  else some (false, ())
                else some (false, ())
              else some (false, ())
            else some (false, ())
          else some (false, ())
        else some (false, ())
      else some (false, ())
namespace fC26
def fn (N : Nat) : Sh.den ins → Option (Sh.den outs) := fun (a, b, _) => fC26.run N a b
def S (N : Nat) : Fs := ⟨ins, outs, fn N⟩
def lam (N : Nat) : Pcs := pcs [([true, false], (fA65.P N).pc (C N)), ([true, true, false], (fB65.P N).pc (C N))]
theorem pok (N : Nat) : (lam N).Ok Tryz.prog (C N) code := pcsOk_cons (c1 := fA65.code) (by kernel_rfl) (fA65.ok N) (pcsOk_cons (c1 := fB65.code) (by kernel_rfl) (fB65.ok N) (pcsOk_nil))
theorem ok (N : Nat) : (S N).con.Ok Tryz.prog 17 := okF (F := S N) [] Tryz.func17 (by kernel_rfl) (by rfl) mix (cok N) (pok N) fun _ => by kernel_rfl
end fC26
namespace fA34
def ins : Sh := s82
def C (N : Nat) : Ctx := ⟨U, 46, fun _ => true, gam [(12, (fC68.S N).con), (13, (((fC27.S N).con).or (fC61.S N).con)), (14, (fA17.S N).con), (15, (fC62.S N).con), (16, (fD67.S N).con), (17, (fC26.S N).con)], gamY []⟩
theorem cok (N : Nat) : (C N).Ok Tryz.prog := ⟨U_ok, GamOk.cons (fC68.ok N) (GamOk.cons (Con.or_ok (fC27.ok N) (fC61.ok N)) (GamOk.cons (fA17.ok N) (GamOk.cons (fC62.ok N) (GamOk.cons (fD67.ok N) (GamOk.cons (fC26.ok N) (GamOk.nil)))))), GamYOk.nil⟩
def code : Code := Tryz.f5.body.getD .skip
def outs : Sh := s22
end fA34
def fA34.run (N : Nat) (m : T53) : Option T17 :=
  obind (fC68.run N) fun ((b, _), _) =>
    obind (fC61.run N b false m.1 m.2.1 m.2.2.1 m.2.2.2.1 m.2.2.2.2.1 m.2.2.2.2.2.1 m.2.2.2.2.2.2.1 m.2.2.2.2.2.2.2.1 m.2.2.2.2.2.2.2.2.1 m.2.2.2.2.2.2.2.2.2.1 m.2.2.2.2.2.2.2.2.2.2.1 m.2.2.2.2.2.2.2.2.2.2.2.1 m.2.2.2.2.2.2.2.2.2.2.2.2.1 m.2.2.2.2.2.2.2.2.2.2.2.2.2.1 m.2.2.2.2.2.2.2.2.2.2.2.2.2.2.1.1 m.2.2.2.2.2.2.2.2.2.2.2.2.2.2.1.2 m.2.2.2.2.2.2.2.2.2.2.2.2.2.2.2.1.1 m.2.2.2.2.2.2.2.2.2.2.2.2.2.2.2.1.2 m.2.2.2.2.2.2.2.2.2.2.2.2.2.2.2.2) fun ((b1, _), (_, _, jT, _), (jA, jB_, jC_, jD, jE, jF, jG, jH, jI, jJ, jK, jL, jM, jN, jO_, jO1, jP, jP1, jQ, _), _) =>
      bif jT then
        some (([] : List UInt8), (170 : Int), ())
      else
        obind (fA17.run N b1) fun (l, _) =>
          obind (fC62.run N l) fun ((b2, e, _), _) =>
            obind (fC27.run N b2 e false (0 : Int) (0 : Int) (0 : Int) (0 : Int) (0 : Int) (0 : Int) (0 : Int) (0 : Int) (0 : Int) (0 : Int) (0 : Int) false false false (0 : Int) (0 : Int) ([] : List T7) ([] : List T8) ([] : List T6)) fun ((b3, e1, _), (_, _, jT1, _), (jA1, jB1, jC1, jD1, jE1, jF1, jG1, jH1, jI1, jJ1, jK1, jL1, jM1, jN1, jO2, jO3, jP2, jP3, jQ1, _), _) =>
              obind (fD67.run N l) fun (l1, n_, _) =>
                bif !(decide (n_ = (0 : Int))) then
                  some (([] : List UInt8), (170 : Int), ())
                else
                  obind (fC26.run N m (jA1, jB1, jC1, jD1, jE1, jF1, jG1, jH1, jI1, jJ1, jK1, jL1, jM1, jN1, (jO2, jO3), (jP2, jP3), jQ1)) fun (b4, _) =>
                    bif !b4 then
                      some (([] : List UInt8), (170 : Int), ())
                    else some (l1, (0 : Int), ())
namespace fA34
def fn (N : Nat) : Sh.den ins → Option (Sh.den outs) := fun (a, _) => fA34.run N a
def S (N : Nat) : Fs := ⟨ins, outs, fn N⟩
def lam (N : Nat) : Pcs := pcs []
theorem pok (N : Nat) : (lam N).Ok Tryz.prog (C N) code := pcsOk_nil
theorem ok (N : Nat) : (S N).con.Ok Tryz.prog 5 := okF (F := S N) [] Tryz.func5 (by kernel_rfl) (by rfl) mix (cok N) (pok N) fun _ => by kernel_rfl
end fA34
namespace fD58
def ins : Sh := (.cons (.val (.int .i64)) .nil)
def C (N : Nat) : Ctx := ⟨U, 28, fun _ => true, gam [], gamY []⟩
theorem cok (N : Nat) : (C N).Ok Tryz.prog := ⟨U_ok, GamOk.nil, GamYOk.nil⟩
def code : Code := Tryz.f18.body.getD .skip
def outs : Sh := (.cons (.val .str) .nil)
end fD58
def fD58.run (N : Nat) (jA : Int) : Option T0 :=
  bif decide (jA = (1 : Int)) then
    some (([(120 : UInt8), (98 : UInt8), (112 : UInt8)] : List UInt8), ())
  else
    bif decide (jA = (2 : Int)) then
      some (([(120 : UInt8), (121 : UInt8)] : List UInt8), ())
    else
      bif decide (jA = (3 : Int)) then
        some (([(101 : UInt8), (120 : UInt8)] : List UInt8), ())
      else
        bif decide (jA = (4 : Int)) then
          some (([(101 : UInt8), (109 : UInt8)] : List UInt8), ())
        else
          bif decide (jA = (5 : Int)) then
            some (([(113 : UInt8), (101 : UInt8), (97 : UInt8)] : List UInt8), ())
          else
            bif decide (jA = (6 : Int)) then
              some (([(113 : UInt8), (97 : UInt8), (110 : UInt8), (118 : UInt8)] : List UInt8), ())
            else
              bif decide (jA = (7 : Int)) then
                some (([(113 : UInt8), (101 : UInt8), (119 : UInt8)] : List UInt8), ())
              else
                bif decide (jA = (8 : Int)) then
                  some (([(100 : UInt8), (116 : UInt8), (97 : UInt8), (115 : UInt8), (101 : UInt8)] : List UInt8), ())
                else
                  bif decide (jA = (9 : Int)) then
                    some (([(116 : UInt8), (97 : UInt8), (115 : UInt8), (101 : UInt8), (109 : UInt8), (118 : UInt8)] : List UInt8), ())
                  else
                    bif decide (jA = (10 : Int)) then
                      some (([(116 : UInt8), (101 : UInt8)] : List UInt8), ())
                    else
                      bif decide (jA = (11 : Int)) then
                        some (([(109 : UInt8)] : List UInt8), ())
                      else
                        bif decide (jA = (12 : Int)) then
                          some (([(113 : UInt8)] : List UInt8), ())
                        else some (([] : List UInt8), ())
namespace fD58
def fn (N : Nat) : Sh.den ins → Option (Sh.den outs) := fun (a, _) => fD58.run N a
def S (N : Nat) : Fs := ⟨ins, outs, fn N⟩
def lam (N : Nat) : Pcs := pcs []
theorem pok (N : Nat) : (lam N).Ok Tryz.prog (C N) code := pcsOk_nil
theorem ok (N : Nat) : (S N).con.Ok Tryz.prog 18 := okF (F := S N) [] Tryz.func18 (by kernel_rfl) (by rfl) mix (cok N) (pok N) fun _ => by kernel_rfl
end fD58
namespace fA56
def ins : Sh := s82
def C (N : Nat) : Ctx := ⟨U, 96, fun _ => true, gam [(18, (fD58.S N).con)], gamY []⟩
theorem cok (N : Nat) : (C N).Ok Tryz.prog := ⟨U_ok, GamOk.cons (fD58.ok N) (GamOk.nil), GamYOk.nil⟩
def code : Code := Tryz.f19.body.getD .skip
def outs : Sh := s82
end fA56
namespace fD26
def ins : Sh := (.cons (.rbox 31 s7) s85)
def ts : List Tmp := [1, 3, 4, 5]
def asg : List Tmp := [5, 16, 17, 18, 19, 20, 21, 22, 23, 24, 25, 26, 27, 28, 29, 30, 31, 32, 33, 34, 35, 36, 37, 38, 39, 40, 41, 42, 43, 44, 45, 46, 47, 48, 49, 50, 51, 52, 53, 54, 55, 56, 57, 58, 59, 60, 61, 62, 63, 64, 65, 66, 67, 68, 69, 70, 71, 72, 73, 74, 75, 76, 77, 78, 79, 80, 81, 82, 83, 84, 85, 86, 87, 88, 89, 90, 91, 92, 93, 94]
def C (N : Nat) : Ctx := { fA56.C N with may := fun t => asg.any (Nat.beq t) }
def code : Code := loopBody (sub fA56.code [true, true, true, false, true, false])
theorem cok (N : Nat) : (C N).Ok Tryz.prog := okC (fA56.cok N) _
def alts : List Alt := [⟨(.exit 0), [], (.cons (.upd 1 31 s7) .nil)⟩]
end fD26
namespace fB58
def ins : Sh := (.cons (.rbox 31 s7) s85)
def ts : List Tmp := [1, 3, 4, 5]
def asg : List Tmp := [22, 23, 24, 25, 26, 27, 28, 29, 30, 31, 32, 33, 34, 35, 36, 37, 38, 39, 40, 41, 42, 43, 44, 45, 46, 47, 48, 49, 50, 51, 52, 53, 54, 55, 56, 57, 58, 59, 60, 61, 62, 63, 64, 65, 66, 67, 68, 69, 70, 71, 72, 73, 74, 75, 76, 77, 78, 79, 80, 81, 82, 83, 84, 85, 86, 87, 88, 89, 90, 91, 92, 93, 94]
def C (N : Nat) : Ctx := { fD26.C N with may := fun t => asg.any (Nat.beq t) }
def code : Code := (sub fD26.code [true, false]).getD .skip
theorem cok (N : Nat) : (C N).Ok Tryz.prog := okC (fD26.cok N) _
def alts : List Alt := [⟨.normal, [], (.cons (.upd 1 31 s7) .nil)⟩]
end fB58
def fB58.run (N : Nat) (jA : Int) (jB_ : Int) (jC_ : Int) (jD : Int) (jE : Int) (jF : Int) (jG : Int) (jH : Int) (jI : Int) (jJ : Int) (jK : Int) (jL : Bool) (jM : Bool) (jN : Bool) (jO_ : Int) (jO1 : Int) (jP : (List T7)) (jP1 : (List T8)) (jQ : (List T6)) (jA1 : Int) (jB1 : Int) (jC1 : Int) (jD1 : Int) (jE1 : Int) (jF1 : Int) (jG1 : Int) (jH1 : Int) (jI1 : Int) (jJ1 : Int) (jK1 : Int) (jL1 : Bool) (jM1 : Bool) (jN1 : Bool) (jO2 : Int) (jO3 : Int) (jP2 : (List T7)) (jP3 : (List T8)) (jQ1 : (List T6)) (f : (List UInt8)) (i : Int) : Option ((T10 × Unit)) :=
  bif inB i f.length then
    bif decide (((f.getD i.toNat (0 : UInt8)).toNat : Int) = (120 : Int)) then
      some ((jA1, jB1, jC1, jD, jE1, jF1, jG1, jH1, jI1, jJ1, jK1, jL1, jM1, jN1, jO2, jO3, jP2, jP3, jQ1, ()), ())
    else
      bif decide (((f.getD i.toNat (0 : UInt8)).toNat : Int) = (98 : Int)) then
        some ((jA1, jB1, jC1, jD1, jE, jF1, jG1, jH1, jI1, jJ1, jK1, jL1, jM1, jN1, jO2, jO3, jP2, jP3, jQ1, ()), ())
      else
        bif decide (((f.getD i.toNat (0 : UInt8)).toNat : Int) = (112 : Int)) then
          some ((jA1, jB1, jC1, jD1, jE1, jF1, jG1, jH1, jI1, jJ1, jK1, jL1, jM1, jN1, jO2, jO3, jP, jP1, jQ1, ()), ())
        else
          bif decide (((f.getD i.toNat (0 : UInt8)).toNat : Int) = (121 : Int)) then
            some ((jA1, jB1, jC1, jD1, jE1, jF1, jG1, jH1, jI1, jJ1, jK1, jL, jM1, jN1, jO2, jO3, jP2, jP3, jQ1, ()), ())
          else
            bif decide (((f.getD i.toNat (0 : UInt8)).toNat : Int) = (101 : Int)) then
              some ((jA1, jB1, jC1, jD1, jE1, jF, jG1, jH1, jI1, jJ1, jK1, jL1, jM1, jN1, jO2, jO3, jP2, jP3, jQ1, ()), ())
            else
              bif decide (((f.getD i.toNat (0 : UInt8)).toNat : Int) = (109 : Int)) then
                some ((jA1, jB1, jC1, jD1, jE1, jF1, jG1, jH, jI1, jJ1, jK1, jL1, jM1, jN1, jO2, jO3, jP2, jP3, jQ1, ()), ())
              else
                bif decide (((f.getD i.toNat (0 : UInt8)).toNat : Int) = (113 : Int)) then
                  some ((jA1, jB1, jC1, jD1, jE1, jF1, jG1, jH1, jI, jJ1, jK1, jL1, jM1, jN1, jO2, jO3, jP2, jP3, jQ1, ()), ())
                else
                  bif decide (((f.getD i.toNat (0 : UInt8)).toNat : Int) = (97 : Int)) then
                    some ((jA1, jB1, jC1, jD1, jE1, jF1, jG1, jH1, jI1, jJ1, jK1, jL1, jM1, jN1, jO_, jO1, jP2, jP3, jQ1, ()), ())
                  else
                    bif decide (((f.getD i.toNat (0 : UInt8)).toNat : Int) = (110 : Int)) then
                      some ((jA1, jB1, jC1, jD1, jE1, jF1, jG1, jH1, jI1, jJ1, jK1, jL1, jM, jN1, jO2, jO3, jP2, jP3, jQ1, ()), ())
                    else
                      bif decide (((f.getD i.toNat (0 : UInt8)).toNat : Int) = (118 : Int)) then
                        some ((jA1, jB1, jC1, jD1, jE1, jF1, jG1, jH1, jI1, jJ1, jK1, jL1, jM1, jN1, jO2, jO3, jP2, jP3, jQ, ()), ())
                      else
                        bif decide (((f.getD i.toNat (0 : UInt8)).toNat : Int) = (119 : Int)) then
                          some ((jA1, jB1, jC1, jD1, jE1, jF1, jG1, jH1, jI1, jJ1, jK1, jL1, jM1, jN, jO2, jO3, jP2, jP3, jQ1, ()), ())
                        else
                          bif decide (((f.getD i.toNat (0 : UInt8)).toNat : Int) = (100 : Int)) then
                            some ((jA1, jB1, jC1, jD1, jE1, jF1, jG1, jH1, jI1, jJ1, jK, jL1, jM1, jN1, jO2, jO3, jP2, jP3, jQ1, ()), ())
                          else
                            bif decide (((f.getD i.toNat (0 : UInt8)).toNat : Int) = (116 : Int)) then
                              some ((jA1, jB1, jC1, jD1, jE1, jF1, jG1, jH1, jI1, jJ, jK1, jL1, jM1, jN1, jO2, jO3, jP2, jP3, jQ1, ()), ())
                            else
                              bif decide (((f.getD i.toNat (0 : UInt8)).toNat : Int) = (115 : Int)) then
                                some ((jA1, jB1, jC1, jD1, jE1, jF1, jG, jH1, jI1, jJ1, jK1, jL1, jM1, jN1, jO2, jO3, jP2, jP3, jQ1, ()), ())
                              else some ((jA1, jB1, jC1, jD1, jE1, jF1, jG1, jH1, jI1, jJ1, jK1, jL1, jM1, jN1, jO2, jO3, jP2, jP3, jQ1, ()), ())
  else none
namespace fB58
def fn (N : Nat) : Sh.den ins → Option (altsDen alts) := fun ((a, b, c, d, e, f, g, h, i, j, k, l, m, o, p, q, r, s, t, _), (u, v, w, x, y, z, x26, x27, x28, x29, x30, x31, x32, x33, x34, x35, x36, x37, x38, _), x39, x40, _) => fB58.run N a b c d e f g h i j k l m o p q r s t u v w x y z x26 x27 x28 x29 x30 x31 x32 x33 x34 x35 x36 x37 x38 x39 x40
def P (N : Nat) : Ps := ⟨ts, ins, asg, alts, fn N⟩
def lam (N : Nat) : Pcs := pcs []
theorem pok (N : Nat) : (lam N).Ok Tryz.prog (C N) code := pcsOk_nil
theorem ok (N : Nat) : ((P N).pc (fD26.C N)).Ok Tryz.prog (fD26.C N) code := okP (F := P N) (fD26.cok N) mix (pok N) fun _ => by kernel_rfl
end fB58
def fD26.go (N : Nat) : Nat → Int → Int → Int → Int → Int → Int → Int → Int → Int → Int → Int → Bool → Bool → Bool → Int → Int → (List T7) → (List T8) → (List T6) → Int → Int → Int → Int → Int → Int → Int → Int → Int → Int → Int → Bool → Bool → Bool → Int → Int → (List T7) → (List T8) → (List T6) → (List UInt8) → Int → Option ((T10 × Unit))
  | 0, _, _, _, _, _, _, _, _, _, _, _, _, _, _, _, _, _, _, _, _, _, _, _, _, _, _, _, _, _, _, _, _, _, _, _, _, _, _, _, _ => none
  | fuel + 1, jA, jB_, jC_, jD, jE, jF, jG, jH, jI, jJ, jK, jL, jM, jN, jO_, jO1, jP, jP1, jQ, jA1, jB1, jC1, jD1, jE1, jF1, jG1, jH1, jI1, jJ1, jK1, jL1, jM1, jN1, jO2, jO3, jP2, jP3, jQ1, f, i =>
    bif decide (i < (f.length : Int)) then
      obind (fB58.run N jA jB_ jC_ jD jE jF jG jH jI jJ jK jL jM jN jO_ jO1 jP jP1 jQ jA1 jB1 jC1 jD1 jE1 jF1 jG1 jH1 jI1 jJ1 jK1 jL1 jM1 jN1 jO2 jO3 jP2 jP3 jQ1 f i) fun ((jA2, jB2, jC2, jD2, jE2, jF2, jG2, jH2, jI2, jJ2, jK2, jL2, jM2, jN2, jO4, jO5, jP4, jP5, jQ2, _), _) =>
        fD26.go N fuel jA jB_ jC_ jD jE jF jG jH jI jJ jK jL jM jN jO_ jO1 jP jP1 jQ jA2 jB2 jC2 jD2 jE2 jF2 jG2 jH2 jI2 jJ2 jK2 jL2 jM2 jN2 jO4 jO5 jP4 jP5 jQ2 f (IntKind.i64.wrap (i + (1 : Int)))
    else some ((jA1, jB1, jC1, jD1, jE1, jF1, jG1, jH1, jI1, jJ1, jK1, jL1, jM1, jN1, jO2, jO3, jP2, jP3, jQ1, ()), ())
namespace fD26
def g (N n : Nat) : Sh.den ins → Option (altsDen alts) := fun ((a, b, c, d, e, f, g, h, i, j, k, l, m, o, p, q, r, s, t, _), (u, v, w, x, y, z, x26, x27, x28, x29, x30, x31, x32, x33, x34, x35, x36, x37, x38, _), x39, x40, _) => fD26.go N n a b c d e f g h i j k l m o p q r s t u v w x y z x26 x27 x28 x29 x30 x31 x32 x33 x34 x35 x36 x37 x38 x39 x40
def P (N : Nat) : Ps := ⟨ts, ins, asg, alts, g N N⟩
def lam (N : Nat) : Pcs := pcs [([true, false], (fB58.P N).pc (C N))]
theorem pok (N : Nat) : (lam N).Ok Tryz.prog (C N) code := pcsOk_cons (c1 := fB58.code) (by kernel_rfl) (fB58.ok N) (pcsOk_nil)
theorem ok (N : Nat) : ((P N).pc (fA56.C N)).Ok Tryz.prog (fA56.C N) (.loop code) := okL (F := P N) (g N) (fA56.cok N) mix (pok N) (fun _ => rfl) rfl fun _ _ => by kernel_rfl
end fD26
def fA56.run (N : Nat) (m : T53) : Option (T53 × Unit) :=
  obind (fD58.run N m.1) fun (s, _) =>
    obind (fD26.go N N m.1 m.2.1 m.2.2.1 m.2.2.2.1 m.2.2.2.2.1 m.2.2.2.2.2.1 m.2.2.2.2.2.2.1 m.2.2.2.2.2.2.2.1 m.2.2.2.2.2.2.2.2.1 m.2.2.2.2.2.2.2.2.2.1 m.2.2.2.2.2.2.2.2.2.2.1 m.2.2.2.2.2.2.2.2.2.2.2.1 m.2.2.2.2.2.2.2.2.2.2.2.2.1 m.2.2.2.2.2.2.2.2.2.2.2.2.2.1 m.2.2.2.2.2.2.2.2.2.2.2.2.2.2.1.1 m.2.2.2.2.2.2.2.2.2.2.2.2.2.2.1.2 m.2.2.2.2.2.2.2.2.2.2.2.2.2.2.2.1.1 m.2.2.2.2.2.2.2.2.2.2.2.2.2.2.2.1.2 m.2.2.2.2.2.2.2.2.2.2.2.2.2.2.2.2 m.1 m.2.1 m.2.2.1 (0 : Int) (0 : Int) (0 : Int) (0 : Int) (0 : Int) (0 : Int) (0 : Int) (0 : Int) false false false (0 : Int) (0 : Int) ([] : List T7) ([] : List T8) ([] : List T6) s (0 : Int)) fun ((jA, jB_, jC_, jD, jE, jF, jG, jH, jI, jJ, jK, jL, jM, jN, jO_, jO1, jP, jP1, jQ, _), _) =>
      some ((jA, jB_, jC_, jD, jE, jF, jG, jH, jI, jJ, jK, jL, jM, jN, (jO_, jO1), (jP, jP1), jQ), ())
namespace fA56
def fn (N : Nat) : Sh.den ins → Option (Sh.den outs) := fun (a, _) => fA56.run N a
def S (N : Nat) : Fs := ⟨ins, outs, fn N⟩
def lam (N : Nat) : Pcs := pcs [([true, true, true, false, true, false], (fD26.P N).pc (C N))]
theorem pok (N : Nat) : (lam N).Ok Tryz.prog (C N) code := pcsOk_cons (c1 := .loop fD26.code) (by kernel_rfl) (fD26.ok N) (pcsOk_nil)
theorem ok (N : Nat) : (S N).con.Ok Tryz.prog 19 := okF (F := S N) [] Tryz.func19 (by kernel_rfl) (by rfl) mix (cok N) (pok N) fun _ => by kernel_rfl
end fA56
namespace fC24
def ins : Sh := s80
def C (N : Nat) : Ctx := ⟨U, 45, fun _ => true, gam [], gamY []⟩
theorem cok (N : Nat) : (C N).Ok Tryz.prog := ⟨U_ok, GamOk.nil, GamYOk.nil⟩
def code : Code := Tryz.f52.body.getD .skip
def outs : Sh := (.cons (.val .bool) .nil)
end fC24
namespace fB52
def ins : Sh := (.cons (.rbox 93 s14) (.cons (.rbox 93 s14) (.cons (.val (.int .i64)) .nil)))
def ts : List Tmp := [2, 3, 5]
def asg : List Tmp := [4, 5, 27, 28, 29, 30, 31, 32, 33, 34, 35, 36, 37, 38, 39, 40, 41, 42, 43, 44]
def C (N : Nat) : Ctx := { fC24.C N with may := fun t => asg.any (Nat.beq t) }
def code : Code := loopBody (sub fC24.code [true, true, false, true, false])
theorem cok (N : Nat) : (C N).Ok Tryz.prog := okC (fC24.cok N) _
def alts : List Alt := [⟨.ret, [4], (.cons (.val .bool) .nil)⟩, ⟨(.exit 0), [], .nil⟩]
end fB52
def fB52.go (N : Nat) : Nat → Int → Int → (List T4) → Int → Int → Int → (List T4) → Int → Int → Option T16
  | 0, _, _, _, _, _, _, _, _, _ => none
  | fuel + 1, id_, id1, row, jU, id2, id3, row1, jU1, i =>
    bif decide (i < (row.length : Int)) then
      bif inB i row.length then
        bif inB i row1.length then
          bif !((decide ((row.getD i.toNat ((0 : Int), false, (0 : Int), ([] : List UInt8))).1 = (row1.getD i.toNat ((0 : Int), false, (0 : Int), ([] : List UInt8))).1)) && (((row.getD i.toNat ((0 : Int), false, (0 : Int), ([] : List UInt8))).2.1 == (row1.getD i.toNat ((0 : Int), false, (0 : Int), ([] : List UInt8))).2.1) && ((decide ((row.getD i.toNat ((0 : Int), false, (0 : Int), ([] : List UInt8))).2.2.1 = (row1.getD i.toNat ((0 : Int), false, (0 : Int), ([] : List UInt8))).2.2.1)) && ((decide ((row.getD i.toNat ((0 : Int), false, (0 : Int), ([] : List UInt8))).2.2.2 = (row1.getD i.toNat ((0 : Int), false, (0 : Int), ([] : List UInt8))).2.2.2)) && true)))) then
            some (.inl (false, ()))
          else fB52.go N fuel id_ id1 row jU id2 id3 row1 jU1 (IntKind.i64.wrap (i + (1 : Int)))
        else none
      else none
    else some (.inr ())
namespace fB52
def g (N n : Nat) : Sh.den ins → Option (altsDen alts) := fun ((a, b, c, d, _), (e, f, g, h, _), i, _) => fB52.go N n a b c d e f g h i
def P (N : Nat) : Ps := ⟨ts, ins, asg, alts, g N N⟩
def lam (N : Nat) : Pcs := pcs []
theorem pok (N : Nat) : (lam N).Ok Tryz.prog (C N) code := pcsOk_nil
theorem ok (N : Nat) : ((P N).pc (fC24.C N)).Ok Tryz.prog (fC24.C N) (.loop code) := okL (F := P N) (g N) (fC24.cok N) mix (pok N) (fun _ => rfl) rfl fun _ _ => by kernel_rfl
end fB52
def fC24.run (N : Nat) (a : T6) (b : T6) : Option (Bool × Unit) :=
  bif !((decide (a.1.1 = b.1.1)) && ((decide (a.1.2 = b.1.2)) && true)) then
    some (false, ())
  else
    bif !(decide (a.2.2 = b.2.2)) then
      some (false, ())
    else
      bif !(decide ((a.2.1.length : Int) = (b.2.1.length : Int))) then
        some (false, ())
      else
        obind (fB52.go N N a.1.1 a.1.2 a.2.1 a.2.2 b.1.1 b.1.2 b.2.1 b.2.2 (0 : Int)) fun y => match y with
        | .inl (t4, _) =>
            some (t4, ())
        | .inr (_) =>
            some (true, ())
namespace fC24
def fn (N : Nat) : Sh.den ins → Option (Sh.den outs) := fun (a, b, _) => fC24.run N a b
def S (N : Nat) : Fs := ⟨ins, outs, fn N⟩
def lam (N : Nat) : Pcs := pcs [([true, true, false, true, false], (fB52.P N).pc (C N))]
theorem pok (N : Nat) : (lam N).Ok Tryz.prog (C N) code := pcsOk_cons (c1 := .loop fB52.code) (by kernel_rfl) (fB52.ok N) (pcsOk_nil)
theorem ok (N : Nat) : (S N).con.Ok Tryz.prog 52 := okF (F := S N) [] Tryz.func52 (by kernel_rfl) (by rfl) mix (cok N) (pok N) fun _ => by kernel_rfl
end fC24
namespace fA12
def ins : Sh := (.cons (.val (.pair (.slice (.pair (.pair (.int .i64) (.int .i64)) (.pair (.pair (.int .u64) (.int .u32)) (.pair (.slice (.pair (.int .i64) (.pair .bool (.pair (.int .i64) .str)))) (.int .u64))))) (.slice (.pair (.pair (.int .i64) (.int .i64)) (.pair (.int .u64) (.int .u32)))))) s86)
def C (N : Nat) : Ctx := ⟨U, 77, fun _ => true, gam [(52, (fC24.S N).con)], gamY []⟩
theorem cok (N : Nat) : (C N).Ok Tryz.prog := ⟨U_ok, GamOk.cons (fC24.ok N) (GamOk.nil), GamYOk.nil⟩
def code : Code := Tryz.f24.body.getD .skip
def outs : Sh := (.cons (.val .bool) .nil)
end fA12
namespace fB42
def ins : Sh := (.cons (.rbox 28 s87) s88)
def ts : List Tmp := [2, 3, 5]
def asg : List Tmp := [4, 5, 23, 24, 25, 26, 27, 28, 29, 30, 31, 32, 33, 34, 35, 36, 37, 38, 39, 40, 41, 42, 43, 44, 45, 46, 47, 48, 49, 50, 51, 52, 53, 54, 55, 56, 57, 58]
def C (N : Nat) : Ctx := { fA12.C N with may := fun t => asg.any (Nat.beq t) }
def code : Code := loopBody (sub fA12.code [true, true, false, true, false])
theorem cok (N : Nat) : (C N).Ok Tryz.prog := okC (fA12.cok N) _
def alts : List Alt := [⟨.ret, [4], (.cons (.val .bool) .nil)⟩, ⟨(.exit 0), [], .nil⟩]
end fB42
def fB42.go (N : Nat) : Nat → (List T7) → (List T8) → (List T7) → (List T8) → Int → Option T16
  | 0, _, _, _, _, _ => none
  | fuel + 1, jR, jS, jR1, jS1, i =>
    bif decide (i < (jR.length : Int)) then
      bif inB i jR.length then
        bif inB i jR1.length then
          bif !((decide ((jR.getD i.toNat (((0 : Int), (0 : Int)), ((0 : Int), (0 : Int)), ([] : List T4), (0 : Int))).1.1 = (jR1.getD i.toNat (((0 : Int), (0 : Int)), ((0 : Int), (0 : Int)), ([] : List T4), (0 : Int))).1.1)) && ((decide ((jR.getD i.toNat (((0 : Int), (0 : Int)), ((0 : Int), (0 : Int)), ([] : List T4), (0 : Int))).1.2 = (jR1.getD i.toNat (((0 : Int), (0 : Int)), ((0 : Int), (0 : Int)), ([] : List T4), (0 : Int))).1.2)) && true)) then
            some (.inl (false, ()))
          else
            bif inB i jR.length then
              bif inB i jR1.length then
                obind (fC24.run N (jR.getD i.toNat (((0 : Int), (0 : Int)), ((0 : Int), (0 : Int)), ([] : List T4), (0 : Int))).2 (jR1.getD i.toNat (((0 : Int), (0 : Int)), ((0 : Int), (0 : Int)), ([] : List T4), (0 : Int))).2) fun (b, _) =>
                  bif !b then
                    some (.inl (false, ()))
                  else fB42.go N fuel jR jS jR1 jS1 (IntKind.i64.wrap (i + (1 : Int)))
              else none
            else none
        else none
      else none
    else some (.inr ())
namespace fB42
def g (N n : Nat) : Sh.den ins → Option (altsDen alts) := fun ((a, b, _), (c, d, _), e, _) => fB42.go N n a b c d e
def P (N : Nat) : Ps := ⟨ts, ins, asg, alts, g N N⟩
def lam (N : Nat) : Pcs := pcs []
theorem pok (N : Nat) : (lam N).Ok Tryz.prog (C N) code := pcsOk_nil
theorem ok (N : Nat) : ((P N).pc (fA12.C N)).Ok Tryz.prog (fA12.C N) (.loop code) := okL (F := P N) (g N) (fA12.cok N) mix (pok N) (fun _ => rfl) rfl fun _ _ => by kernel_rfl
end fB42
namespace fC41
def ins : Sh := (.cons (.rbox 28 s87) s88)
def ts : List Tmp := [2, 3, 6]
def asg : List Tmp := [4, 6, 59, 60, 61, 62, 63, 64, 65, 66, 67, 68, 69, 70, 71, 72, 73, 74, 75, 76]
def C (N : Nat) : Ctx := { fA12.C N with may := fun t => asg.any (Nat.beq t) }
def code : Code := loopBody (sub fA12.code [true, true, true, false, true, false])
theorem cok (N : Nat) : (C N).Ok Tryz.prog := okC (fA12.cok N) _
def alts : List Alt := [⟨.ret, [4], (.cons (.val .bool) .nil)⟩, ⟨(.exit 2), [], .nil⟩]
end fC41
def fC41.go (N : Nat) : Nat → (List T7) → (List T8) → (List T7) → (List T8) → Int → Option T16
  | 0, _, _, _, _, _ => none
  | fuel + 1, jR, jS, jR1, jS1, i =>
    bif decide (i < (jS.length : Int)) then
      bif inB i jS.length then
        bif inB i jS1.length then
          bif !(((decide ((jS.getD i.toNat (((0 : Int), (0 : Int)), (0 : Int), (0 : Int))).1.1 = (jS1.getD i.toNat (((0 : Int), (0 : Int)), (0 : Int), (0 : Int))).1.1)) && ((decide ((jS.getD i.toNat (((0 : Int), (0 : Int)), (0 : Int), (0 : Int))).1.2 = (jS1.getD i.toNat (((0 : Int), (0 : Int)), (0 : Int), (0 : Int))).1.2)) && true)) && (((decide ((jS.getD i.toNat (((0 : Int), (0 : Int)), (0 : Int), (0 : Int))).2.1 = (jS1.getD i.toNat (((0 : Int), (0 : Int)), (0 : Int), (0 : Int))).2.1)) && ((decide ((jS.getD i.toNat (((0 : Int), (0 : Int)), (0 : Int), (0 : Int))).2.2 = (jS1.getD i.toNat (((0 : Int), (0 : Int)), (0 : Int), (0 : Int))).2.2)) && true)) && true)) then
            some (.inl (false, ()))
          else fC41.go N fuel jR jS jR1 jS1 (IntKind.i64.wrap (i + (1 : Int)))
        else none
      else none
    else some (.inr ())
namespace fC41
def g (N n : Nat) : Sh.den ins → Option (altsDen alts) := fun ((a, b, _), (c, d, _), e, _) => fC41.go N n a b c d e
def P (N : Nat) : Ps := ⟨ts, ins, asg, alts, g N N⟩
def lam (N : Nat) : Pcs := pcs []
theorem pok (N : Nat) : (lam N).Ok Tryz.prog (C N) code := pcsOk_nil
theorem ok (N : Nat) : ((P N).pc (fA12.C N)).Ok Tryz.prog (fA12.C N) (.loop code) := okL (F := P N) (g N) (fA12.cok N) mix (pok N) (fun _ => rfl) rfl fun _ _ => by kernel_rfl
end fC41
def fA12.run (N : Nat) (a : T44) (b : T44) : Option (Bool × Unit) :=
  bif !(decide ((a.1.length : Int) = (b.1.length : Int))) then
    some (false, ())
  else
    bif !(decide ((a.2.length : Int) = (b.2.length : Int))) then
      some (false, ())
    else
      obind (fB42.go N N a.1 a.2 b.1 b.2 (0 : Int)) fun y => match y with
      | .inl (t4, _) =>
          some (t4, ())
      | .inr (_) =>
          obind (fC41.go N N a.1 a.2 b.1 b.2 (0 : Int)) fun y => match y with
          | .inl (t41, _) =>
              some (t41, ())
          | .inr (_) =>
              some (true, ())
namespace fA12
def fn (N : Nat) : Sh.den ins → Option (Sh.den outs) := fun (a, b, _) => fA12.run N a b
def S (N : Nat) : Fs := ⟨ins, outs, fn N⟩
def lam (N : Nat) : Pcs := pcs [([true, true, false, true, false], (fB42.P N).pc (C N)), ([true, true, true, false, true, false], (fC41.P N).pc (C N))]
theorem pok (N : Nat) : (lam N).Ok Tryz.prog (C N) code := pcsOk_cons (c1 := .loop fB42.code) (by kernel_rfl) (fB42.ok N) (pcsOk_cons (c1 := .loop fC41.code) (by kernel_rfl) (fC41.ok N) (pcsOk_nil))
theorem ok (N : Nat) : (S N).con.Ok Tryz.prog 24 := okF (F := S N) [] Tryz.func24 (by kernel_rfl) (by rfl) mix (cok N) (pok N) fun _ => by kernel_rfl
end fA12
namespace fD33
def ins : Sh := (.cons (.val (.slice (.pair (.pair (.int .u64) (.int .u32)) (.pair (.slice (.pair (.int .i64) (.pair .bool (.pair (.int .i64) .str)))) (.int .u64))))) s6)
def C (N : Nat) : Ctx := ⟨U, 27, fun _ => true, gam [(52, (fC24.S N).con)], gamY []⟩
theorem cok (N : Nat) : (C N).Ok Tryz.prog := ⟨U_ok, GamOk.cons (fC24.ok N) (GamOk.nil), GamYOk.nil⟩
def code : Code := Tryz.f25.body.getD .skip
def outs : Sh := (.cons (.val .bool) .nil)
end fD33
namespace fC52
def ins : Sh := (.cons (.val (.slice (.pair (.pair (.int .u64) (.int .u32)) (.pair (.slice (.pair (.int .i64) (.pair .bool (.pair (.int .i64) .str)))) (.int .u64))))) s89)
def ts : List Tmp := [0, 1, 5]
def asg : List Tmp := [4, 5, 11, 12, 13, 14, 15, 16, 17, 18, 19, 20, 21, 22, 23, 24, 25, 26]
def C (N : Nat) : Ctx := { fD33.C N with may := fun t => asg.any (Nat.beq t) }
def code : Code := loopBody (sub fD33.code [true, true, false, true, false])
theorem cok (N : Nat) : (C N).Ok Tryz.prog := okC (fD33.cok N) _
def alts : List Alt := [⟨.ret, [4], (.cons (.val .bool) .nil)⟩, ⟨(.exit 0), [], .nil⟩]
end fC52
def fC52.go (N : Nat) : Nat → (List T6) → (List T6) → Int → Option T16
  | 0, _, _, _ => none
  | fuel + 1, a, b, i =>
    bif decide (i < (a.length : Int)) then
      bif inB i a.length then
        bif inB i b.length then
          obind (fC24.run N (a.getD i.toNat (((0 : Int), (0 : Int)), ([] : List T4), (0 : Int))) (b.getD i.toNat (((0 : Int), (0 : Int)), ([] : List T4), (0 : Int)))) fun (b1, _) =>
            bif !b1 then
              some (.inl (false, ()))
            else fC52.go N fuel a b (IntKind.i64.wrap (i + (1 : Int)))
        else none
      else none
    else some (.inr ())
namespace fC52
def g (N n : Nat) : Sh.den ins → Option (altsDen alts) := fun (a, b, c, _) => fC52.go N n a b c
def P (N : Nat) : Ps := ⟨ts, ins, asg, alts, g N N⟩
def lam (N : Nat) : Pcs := pcs []
theorem pok (N : Nat) : (lam N).Ok Tryz.prog (C N) code := pcsOk_nil
theorem ok (N : Nat) : ((P N).pc (fD33.C N)).Ok Tryz.prog (fD33.C N) (.loop code) := okL (F := P N) (g N) (fD33.cok N) mix (pok N) (fun _ => rfl) rfl fun _ _ => by kernel_rfl
end fC52
def fD33.run (N : Nat) (a : (List T6)) (b : (List T6)) : Option (Bool × Unit) :=
  bif !(decide ((a.length : Int) = (b.length : Int))) then
    some (false, ())
  else
    obind (fC52.go N N a b (0 : Int)) fun y => match y with
    | .inl (t4, _) =>
        some (t4, ())
    | .inr (_) =>
        some (true, ())
namespace fD33
def fn (N : Nat) : Sh.den ins → Option (Sh.den outs) := fun (a, b, _) => fD33.run N a b
def S (N : Nat) : Fs := ⟨ins, outs, fn N⟩
def lam (N : Nat) : Pcs := pcs [([true, true, false, true, false], (fC52.P N).pc (C N))]
theorem pok (N : Nat) : (lam N).Ok Tryz.prog (C N) code := pcsOk_cons (c1 := .loop fC52.code) (by kernel_rfl) (fC52.ok N) (pcsOk_nil)
theorem ok (N : Nat) : (S N).con.Ok Tryz.prog 25 := okF (F := S N) [] Tryz.func25 (by kernel_rfl) (by rfl) mix (cok N) (pok N) fun _ => by kernel_rfl
end fD33
namespace fB67
def ins : Sh := s83
def C (N : Nat) : Ctx := ⟨U, 118, fun _ => true, gam [(24, (fA12.S N).con), (25, (fD33.S N).con)], gamY []⟩
theorem cok (N : Nat) : (C N).Ok Tryz.prog := ⟨U_ok, GamOk.cons (fA12.ok N) (GamOk.cons (fD33.ok N) (GamOk.nil)), GamYOk.nil⟩
def code : Code := Tryz.f9.body.getD .skip
def outs : Sh := (.cons (.val .bool) .nil)
end fB67
def fB67.run (N : Nat) (a : T53) (b : T53) : Option (Bool × Unit) :=
  bif !(decide (a.1 = b.1)) then
    some (false, ())
  else
    bif !(decide (a.2.1 = b.2.1)) then
      some (false, ())
    else
      bif !(decide (a.2.2.1 = b.2.2.1)) then
        some (false, ())
      else
        bif !(decide (a.2.2.2.1 = b.2.2.2.1)) then
          some (false, ())
        else
          bif !(decide (a.2.2.2.2.1 = b.2.2.2.2.1)) then
            some (false, ())
          else
            bif !(decide (a.2.2.2.2.2.1 = b.2.2.2.2.2.1)) then
              some (false, ())
            else
              bif !(decide (a.2.2.2.2.2.2.1 = b.2.2.2.2.2.2.1)) then
                some (false, ())
              else
                bif !(decide (a.2.2.2.2.2.2.2.1 = b.2.2.2.2.2.2.2.1)) then
                  some (false, ())
                else
                  bif !(decide (a.2.2.2.2.2.2.2.2.1 = b.2.2.2.2.2.2.2.2.1)) then
                    some (false, ())
                  else
                    bif !(decide (a.2.2.2.2.2.2.2.2.2.1 = b.2.2.2.2.2.2.2.2.2.1)) then
                      some (false, ())
                    else
                      bif !(decide (a.2.2.2.2.2.2.2.2.2.2.1 = b.2.2.2.2.2.2.2.2.2.2.1)) then
                        some (false, ())
                      else
                        bif !(a.2.2.2.2.2.2.2.2.2.2.2.1 == b.2.2.2.2.2.2.2.2.2.2.2.1) then
                          some (false, ())
                        else
                          bif !(a.2.2.2.2.2.2.2.2.2.2.2.2.1 == b.2.2.2.2.2.2.2.2.2.2.2.2.1) then
                            some (false, ())
                          else
                            bif !(a.2.2.2.2.2.2.2.2.2.2.2.2.2.1 == b.2.2.2.2.2.2.2.2.2.2.2.2.2.1) then
                              some (false, ())
                            else
                              bif !((decide (a.2.2.2.2.2.2.2.2.2.2.2.2.2.2.1.1 = b.2.2.2.2.2.2.2.2.2.2.2.2.2.2.1.1)) && ((decide (a.2.2.2.2.2.2.2.2.2.2.2.2.2.2.1.2 = b.2.2.2.2.2.2.2.2.2.2.2.2.2.2.1.2)) && true)) then
                                some (false, ())
                              else
                                obind (fA12.run N a.2.2.2.2.2.2.2.2.2.2.2.2.2.2.2.1 b.2.2.2.2.2.2.2.2.2.2.2.2.2.2.2.1) fun (b1, _) =>
                                  bif b1 then
                                    obind (fD33.run N a.2.2.2.2.2.2.2.2.2.2.2.2.2.2.2.2 b.2.2.2.2.2.2.2.2.2.2.2.2.2.2.2.2) fun (b2, _) =>
                                      some (b2, ())
                                  else some (false, ())
namespace fB67
def fn (N : Nat) : Sh.den ins → Option (Sh.den outs) := fun (a, b, _) => fB67.run N a b
def S (N : Nat) : Fs := ⟨ins, outs, fn N⟩
def lam (N : Nat) : Pcs := pcs []
theorem pok (N : Nat) : (lam N).Ok Tryz.prog (C N) code := pcsOk_nil
theorem ok (N : Nat) : (S N).con.Ok Tryz.prog 9 := okF (F := S N) [] Tryz.func9 (by kernel_rfl) (by rfl) mix (cok N) (pok N) fun _ => by kernel_rfl
end fB67
namespace fC15
def ins : Sh := s10
def C (N : Nat) : Ctx := ⟨U, 30, fun _ => true, gam [], gamY []⟩
theorem cok (N : Nat) : (C N).Ok Tryz.prog := ⟨U_ok, GamOk.nil, GamYOk.nil⟩
def code : Code := Tryz.f45.body.getD .skip
def outs : Sh := (.cons (.own 5 .byte) .nil)
end fC15
namespace fB18
def ins : Sh := (.cons (.val (.int .u64)) s22)
def ts : List Tmp := [0, 5, 6]
def asg : List Tmp := [5, 6, 7, 8, 11, 12, 13, 14, 15, 16, 17, 18, 19, 20, 21, 22, 23, 24, 25, 26, 27, 28]
def C (N : Nat) : Ctx := { fC15.C N with may := fun t => asg.any (Nat.beq t) }
def code : Code := loopBody (sub fC15.code [true, true, false, true, false])
theorem cok (N : Nat) : (C N).Ok Tryz.prog := okC (fC15.cok N) _
def alts : List Alt := [⟨(.exit 0), [5], (.cons (.own 5 .byte) .nil)⟩]
end fB18
namespace fD41
def ins : Sh := (.cons (.val (.int .i64)) s10)
def ts : List Tmp := [6, 7, 8]
def asg : List Tmp := [7, 8, 16, 17, 18, 19, 20, 21, 22]
def C (N : Nat) : Ctx := { fB18.C N with may := fun t => asg.any (Nat.beq t) }
def code : Code := loopBody (sub fB18.code [true, false, false, true, false, true, false])
theorem cok (N : Nat) : (C N).Ok Tryz.prog := okC (fB18.cok N) _
def alts : List Alt := [⟨(.exit 2), [7], (.cons (.val (.int .u64)) .nil)⟩]
end fD41
def fD41.go (N : Nat) : Nat → Int → Int → Int → Option ((Int × Unit))
  | 0, _, _, _ => none
  | fuel + 1, i, k, j =>
    bif decide (j < i) then
      fD41.go N fuel i (IntKind.u64.wrap (k.tdiv (256 : Int))) (IntKind.i64.wrap (j + (1 : Int)))
    else some (k, ())
namespace fD41
def g (N n : Nat) : Sh.den ins → Option (altsDen alts) := fun (a, b, c, _) => fD41.go N n a b c
def P (N : Nat) : Ps := ⟨ts, ins, asg, alts, g N N⟩
def lam (N : Nat) : Pcs := pcs []
theorem pok (N : Nat) : (lam N).Ok Tryz.prog (C N) code := pcsOk_nil
theorem ok (N : Nat) : ((P N).pc (fB18.C N)).Ok Tryz.prog (fB18.C N) (.loop code) := okL (F := P N) (g N) (fB18.cok N) mix (pok N) (fun _ => rfl) rfl fun _ _ => by kernel_rfl
end fD41
def fB18.go (N : Nat) : Nat → Int → (List UInt8) → Int → Option (T0)
  | 0, _, _, _ => none
  | fuel + 1, n_, b, i =>
    bif decide (i ≥ (0 : Int)) then
      obind (fD41.go N N i n_ (0 : Int)) fun (k, _) =>
        bif room (b.length + 1) 1 then
          fB18.go N fuel n_ (b ++ ([Hay.u8 (IntKind.u8.wrap (k.tmod (256 : Int)))] : List UInt8)) (IntKind.i64.wrap (i - (1 : Int)))
        else none
    else some (b, ())
namespace fB18
def g (N n : Nat) : Sh.den ins → Option (altsDen alts) := fun (a, b, c, _) => fB18.go N n a b c
def P (N : Nat) : Ps := ⟨ts, ins, asg, alts, g N N⟩
def lam (N : Nat) : Pcs := pcs [([true, false, false, true, false, true, false], (fD41.P N).pc (C N))]
theorem pok (N : Nat) : (lam N).Ok Tryz.prog (C N) code := pcsOk_cons (c1 := .loop fD41.code) (by kernel_rfl) (fD41.ok N) (pcsOk_nil)
theorem ok (N : Nat) : ((P N).pc (fC15.C N)).Ok Tryz.prog (fC15.C N) (.loop code) := okL (F := P N) (g N) (fC15.cok N) mix (pok N) (fun _ => rfl) rfl fun _ _ => by kernel_rfl
end fB18
def fC15.run (N : Nat) (n_ : Int) (many : Int) : Option T0 :=
  obind (fB18.go N N n_ ([] : List UInt8) (IntKind.i64.wrap (many - (1 : Int)))) fun (b, _) =>
    some (b, ())
namespace fC15
def fn (N : Nat) : Sh.den ins → Option (Sh.den outs) := fun (a, b, _) => fC15.run N a b
def S (N : Nat) : Fs := ⟨ins, outs, fn N⟩
def lam (N : Nat) : Pcs := pcs [([true, true, false, true, false], (fB18.P N).pc (C N))]
theorem pok (N : Nat) : (lam N).Ok Tryz.prog (C N) code := pcsOk_cons (c1 := .loop fB18.code) (by kernel_rfl) (fB18.ok N) (pcsOk_nil)
theorem ok (N : Nat) : (S N).con.Ok Tryz.prog 45 := okF (F := S N) [] Tryz.func45 (by kernel_rfl) (by rfl) mix (cok N) (pok N) fun _ => by kernel_rfl
end fC15
namespace fC3
def ins : Sh := (.cons (.box 57 s90) s10)
def C (N : Nat) : Ctx := ⟨U, 17, fun _ => true, gam [(45, (fC15.S N).con)], gamY []⟩
theorem cok (N : Nat) : (C N).Ok Tryz.prog := ⟨U_ok, GamOk.cons (fC15.ok N) (GamOk.nil), GamYOk.nil⟩
def code : Code := Tryz.f20.body.getD .skip
def outs : Sh := (.cons (.upd 0 57 s90) .nil)
end fC3
def fC3.run (N : Nat) (b : (List UInt8)) (bad : Bool) (n_ : Int) (many : Int) : Option (T54 × Unit) :=
  obind (fC15.run N n_ many) fun (l, _) =>
    bif room (b.length + l.length) 1 then
      some ((b ++ l, bad, ()), ())
    else none
namespace fC3
def fn (N : Nat) : Sh.den ins → Option (Sh.den outs) := fun ((a, b, _), c, d, _) => fC3.run N a b c d
def S (N : Nat) : Fs := ⟨ins, outs, fn N⟩
def lam (N : Nat) : Pcs := pcs []
theorem pok (N : Nat) : (lam N).Ok Tryz.prog (C N) code := pcsOk_nil
theorem ok (N : Nat) : (S N).con.Ok Tryz.prog 20 := okF (F := S N) [] Tryz.func20 (by kernel_rfl) (by rfl) mix (cok N) (pok N) fun _ => by kernel_rfl
end fC3
namespace fA16
def ins : Sh := s91
def C (N : Nat) : Ctx := ⟨U, 9, fun _ => true, gam [], gamY []⟩
theorem cok (N : Nat) : (C N).Ok Tryz.prog := ⟨U_ok, GamOk.nil, GamYOk.nil⟩
def code : Code := Tryz.f46.body.getD .skip
def outs : Sh := (.cons (.upd 0 57 s90) .nil)
end fA16
def fA16.run (N : Nat) (b : (List UInt8)) (bad : Bool) (ok_ : Bool) : Option (T54 × Unit) :=
  bif !ok_ then
    some ((b, true, ()), ())
  else some ((b, bad, ()), ())
namespace fA16
def fn (N : Nat) : Sh.den ins → Option (Sh.den outs) := fun ((a, b, _), c, _) => fA16.run N a b c
def S (N : Nat) : Fs := ⟨ins, outs, fn N⟩
def lam (N : Nat) : Pcs := pcs []
theorem pok (N : Nat) : (lam N).Ok Tryz.prog (C N) code := pcsOk_nil
theorem ok (N : Nat) : (S N).con.Ok Tryz.prog 46 := okF (F := S N) [] Tryz.func46 (by kernel_rfl) (by rfl) mix (cok N) (pok N) fun _ => by kernel_rfl
end fA16
namespace fC59
def ins : Sh := s92
def C (N : Nat) : Ctx := ⟨U, 17, fun _ => true, gam [(46, (fA16.S N).con), (20, (fC3.S N).con)], gamY []⟩
theorem cok (N : Nat) : (C N).Ok Tryz.prog := ⟨U_ok, GamOk.cons (fA16.ok N) (GamOk.cons (fC3.ok N) (GamOk.nil)), GamYOk.nil⟩
def code : Code := Tryz.f21.body.getD .skip
def outs : Sh := (.cons (.upd 0 57 s90) .nil)
end fC59
def fC59.run (N : Nat) (b : (List UInt8)) (bad : Bool) (n_ : Int) : Option (T54 × Unit) :=
  bif decide (n_ ≥ (0 : Int)) then
    obind (fA16.run N b bad (decide (n_ ≤ (8 : Int)))) fun ((b1, bad1, _), _) =>
      obind (fC3.run N b1 bad1 ((IntKind.u64.wrap n_).tmod (256 : Int)) (1 : Int)) fun ((b3, bad3, _), _) =>
        some ((b3, bad3, ()), ())
  else
    obind (fA16.run N b bad false) fun ((b2, bad2, _), _) =>
      obind (fC3.run N b2 bad2 ((IntKind.u64.wrap n_).tmod (256 : Int)) (1 : Int)) fun ((b4, bad4, _), _) =>
        some ((b4, bad4, ()), ())
namespace fC59
def fn (N : Nat) : Sh.den ins → Option (Sh.den outs) := fun ((a, b, _), c, _) => fC59.run N a b c
def S (N : Nat) : Fs := ⟨ins, outs, fn N⟩
def lam (N : Nat) : Pcs := pcs []
theorem pok (N : Nat) : (lam N).Ok Tryz.prog (C N) code := pcsOk_nil
theorem ok (N : Nat) : (S N).con.Ok Tryz.prog 21 := okF (F := S N) [] Tryz.func21 (by kernel_rfl) (by rfl) mix (cok N) (pok N) fun _ => by kernel_rfl
end fC59
namespace fA42
def ins : Sh := (.cons (.val (.int .u64)) .nil)
def C (N : Nat) : Ctx := ⟨U, 23, fun _ => true, gam [(45, (fC15.S N).con)], gamY []⟩
theorem cok (N : Nat) : (C N).Ok Tryz.prog := ⟨U_ok, GamOk.cons (fC15.ok N) (GamOk.nil), GamYOk.nil⟩
def code : Code := Tryz.f86.body.getD .skip
def outs : Sh := (.cons (.own 5 .byte) .nil)
end fA42
namespace fA71
def ins : Sh := (.cons (.val (.int .u64)) s93)
def ts : List Tmp := [0, 3, 4]
def asg : List Tmp := [3, 4, 11, 12]
def C (N : Nat) : Ctx := { fA42.C N with may := fun t => asg.any (Nat.beq t) }
def code : Code := (sub fA42.code [true, true, true, true, false]).getD .skip
theorem cok (N : Nat) : (C N).Ok Tryz.prog := okC (fA42.cok N) _
def alts : List Alt := [⟨.normal, [3, 4], s93⟩]
end fA71
def fA71.run (N : Nat) (n_ : Int) (first : UInt8) (many : Int) : Option (T55) :=
  bif decide (n_ ≥ (65536 : Int)) then
    some ((254 : UInt8), (4 : Int), ())
  else some (Hay.u8 (first.toNat : Int), many, ())
namespace fA71
def fn (N : Nat) : Sh.den ins → Option (altsDen alts) := fun (a, b, c, _) => fA71.run N a b c
def P (N : Nat) : Ps := ⟨ts, ins, asg, alts, fn N⟩
def lam (N : Nat) : Pcs := pcs []
theorem pok (N : Nat) : (lam N).Ok Tryz.prog (C N) code := pcsOk_nil
theorem ok (N : Nat) : ((P N).pc (fA42.C N)).Ok Tryz.prog (fA42.C N) code := okP (F := P N) (fA42.cok N) mix (pok N) fun _ => by kernel_rfl
end fA71
def fA42.run (N : Nat) (n_ : Int) : Option T0 :=
  bif decide (n_ < (253 : Int)) then
    some (([Hay.u8 (IntKind.u8.wrap n_)] : List UInt8), ())
  else
    obind (fA71.run N n_ (253 : UInt8) (2 : Int)) fun (first, many, _) =>
      bif decide (n_ ≥ (4294967296 : Int)) then
        obind (fC15.run N n_ (8 : Int)) fun (l, _) =>
          bif room (1 + l.length) 1 then
            some ((255 : UInt8) :: l, ())
          else none
      else
        obind (fC15.run N n_ many) fun (l1, _) =>
          bif room (1 + l1.length) 1 then
            some (Hay.u8 (first.toNat : Int) :: l1, ())
          else none
namespace fA42
def fn (N : Nat) : Sh.den ins → Option (Sh.den outs) := fun (a, _) => fA42.run N a
def S (N : Nat) : Fs := ⟨ins, outs, fn N⟩
def lam (N : Nat) : Pcs := pcs [([true, true, true, true, false], (fA71.P N).pc (C N))]
theorem pok (N : Nat) : (lam N).Ok Tryz.prog (C N) code := pcsOk_cons (c1 := fA71.code) (by kernel_rfl) (fA71.ok N) (pcsOk_nil)
theorem ok (N : Nat) : (S N).con.Ok Tryz.prog 86 := okF (F := S N) [] Tryz.func86 (by kernel_rfl) (by rfl) mix (cok N) (pok N) fun _ => by kernel_rfl
end fA42
namespace fB59
def ins : Sh := s92
def C (N : Nat) : Ctx := ⟨U, 15, fun _ => true, gam [(86, (fA42.S N).con)], gamY []⟩
theorem cok (N : Nat) : (C N).Ok Tryz.prog := ⟨U_ok, GamOk.cons (fA42.ok N) (GamOk.nil), GamYOk.nil⟩
def code : Code := Tryz.f83.body.getD .skip
def outs : Sh := (.cons (.upd 0 57 s90) .nil)
end fB59
def fB59.run (N : Nat) (b : (List UInt8)) (bad : Bool) (n_ : Int) : Option (T54 × Unit) :=
  obind (fA42.run N (IntKind.u64.wrap n_)) fun (l, _) =>
    bif room (b.length + l.length) 1 then
      some ((b ++ l, bad, ()), ())
    else none
namespace fB59
def fn (N : Nat) : Sh.den ins → Option (Sh.den outs) := fun ((a, b, _), c, _) => fB59.run N a b c
def S (N : Nat) : Fs := ⟨ins, outs, fn N⟩
def lam (N : Nat) : Pcs := pcs []
theorem pok (N : Nat) : (lam N).Ok Tryz.prog (C N) code := pcsOk_nil
theorem ok (N : Nat) : (S N).con.Ok Tryz.prog 83 := okF (F := S N) [] Tryz.func83 (by kernel_rfl) (by rfl) mix (cok N) (pok N) fun _ => by kernel_rfl
end fB59
namespace fD12
def ins : Sh := (.cons (.box 57 s90) s94)
def C (N : Nat) : Ctx := ⟨U, 48, fun _ => true, gam [(46, (fA16.S N).con), (86, (fA42.S N).con)], gamY []⟩
theorem cok (N : Nat) : (C N).Ok Tryz.prog := ⟨U_ok, GamOk.cons (fA16.ok N) (GamOk.cons (fA42.ok N) (GamOk.nil)), GamYOk.nil⟩
def code : Code := Tryz.f49.body.getD .skip
def outs : Sh := (.cons (.upd 0 57 s90) .nil)
end fD12
namespace fB33
def ins : Sh := (.cons (.box 57 s90) (.cons (.rbox 24 s20) .nil))
def ts : List Tmp := [0, 3]
def asg : List Tmp := [4, 5, 6, 7, 8, 9, 10, 11, 12, 13, 14, 15, 16, 17, 18, 19, 20, 21, 22, 23]
def C (N : Nat) : Ctx := { fD12.C N with may := fun t => asg.any (Nat.beq t) }
def code : Code := (sub fD12.code [true, false]).getD .skip
theorem cok (N : Nat) : (C N).Ok Tryz.prog := okC (fD12.cok N) _
def alts : List Alt := [⟨.normal, [], (.cons (.upd 0 57 s90) .nil)⟩]
end fB33
def fB33.run (N : Nat) (b : (List UInt8)) (bad : Bool) (proj : Int) (seg : Int) : Option ((T54 × Unit)) :=
  bif decide (proj ≥ (0 : Int)) then
    bif decide (proj < (2147483648 : Int)) then
      bif decide (seg ≥ (0 : Int)) then
        obind (fA16.run N b bad (decide (seg < (2147483648 : Int)))) fun ((b1, bad1, _), _) =>
          some ((b1, bad1, ()), ())
      else
        obind (fA16.run N b bad false) fun ((b2, bad2, _), _) =>
          some ((b2, bad2, ()), ())
    else
      obind (fA16.run N b bad false) fun ((b3, bad3, _), _) =>
        some ((b3, bad3, ()), ())
  else
    obind (fA16.run N b bad false) fun ((b4, bad4, _), _) =>
      some ((b4, bad4, ()), ())
namespace fB33
def fn (N : Nat) : Sh.den ins → Option (altsDen alts) := fun ((a, b, _), (c, d, _), _) => fB33.run N a b c d
def P (N : Nat) : Ps := ⟨ts, ins, asg, alts, fn N⟩
def lam (N : Nat) : Pcs := pcs []
theorem pok (N : Nat) : (lam N).Ok Tryz.prog (C N) code := pcsOk_nil
theorem ok (N : Nat) : ((P N).pc (fD12.C N)).Ok Tryz.prog (fD12.C N) code := okP (F := P N) (fD12.cok N) mix (pok N) fun _ => by kernel_rfl
end fB33
def fD12.run (N : Nat) (b : (List UInt8)) (bad : Bool) (jO_ : (Int × Int)) : Option (T54 × Unit) :=
  obind (fB33.run N b bad jO_.1 jO_.2) fun ((b5, bad5, _), _) =>
    obind (fA42.run N (IntKind.u64.wrap jO_.1)) fun (l, _) =>
      bif room (b5.length + l.length) 1 then
        obind (fA42.run N (IntKind.u64.wrap jO_.2)) fun (l1, _) =>
          bif room ((b5 ++ l).length + l1.length) 1 then
            some (((b5 ++ l) ++ l1, bad5, ()), ())
          else none
      else none
namespace fD12
def fn (N : Nat) : Sh.den ins → Option (Sh.den outs) := fun ((a, b, _), c, _) => fD12.run N a b c
def S (N : Nat) : Fs := ⟨ins, outs, fn N⟩
def lam (N : Nat) : Pcs := pcs [([true, false], (fB33.P N).pc (C N))]
theorem pok (N : Nat) : (lam N).Ok Tryz.prog (C N) code := pcsOk_cons (c1 := fB33.code) (by kernel_rfl) (fB33.ok N) (pcsOk_nil)
theorem ok (N : Nat) : (S N).con.Ok Tryz.prog 49 := okF (F := S N) [] Tryz.func49 (by kernel_rfl) (by rfl) mix (cok N) (pok N) fun _ => by kernel_rfl
end fD12
namespace fD6
def ins : Sh := s18
def C (N : Nat) : Ctx := ⟨U, 44, fun _ => true, gam [], gamY []⟩
theorem cok (N : Nat) : (C N).Ok Tryz.prog := ⟨U_ok, GamOk.nil, GamYOk.nil⟩
def code : Code := Tryz.f124.body.getD .skip
def outs : Sh := (.cons (.val .bool) .nil)
end fD6
namespace fB54
def ins : Sh := s96
def ts : List Tmp := [1, 3]
def asg : List Tmp := [7, 8, 9, 10, 11, 12]
def C (N : Nat) : Ctx := { fD6.C N with may := fun t => asg.any (Nat.beq t) }
def code : Code := (sub fD6.code [true, true, false]).getD .skip
theorem cok (N : Nat) : (C N).Ok Tryz.prog := okC (fD6.cok N) _
def alts : List Alt := [⟨.normal, [], (.cons (.upd 1 133 s95) .nil)⟩]
end fB54
def fB54.run (N : Nat) (jA : Int) (bool : Bool) (int : Int) (text : (List UInt8)) (jA1 : Int) (bool1 : Bool) (int1 : Int) (text1 : (List UInt8)) : Option ((T56 × Unit)) :=
  bif decide (jA = (1 : Int)) then
    some ((jA1, bool, int1, text1, ()), ())
  else some ((jA1, bool1, int1, text1, ()), ())
namespace fB54
def fn (N : Nat) : Sh.den ins → Option (altsDen alts) := fun ((a, b, c, d, _), (e, f, g, h, _), _) => fB54.run N a b c d e f g h
def P (N : Nat) : Ps := ⟨ts, ins, asg, alts, fn N⟩
def lam (N : Nat) : Pcs := pcs []
theorem pok (N : Nat) : (lam N).Ok Tryz.prog (C N) code := pcsOk_nil
theorem ok (N : Nat) : ((P N).pc (fD6.C N)).Ok Tryz.prog (fD6.C N) code := okP (F := P N) (fD6.cok N) mix (pok N) fun _ => by kernel_rfl
end fB54
namespace fC55
def ins : Sh := s96
def ts : List Tmp := [1, 3]
def asg : List Tmp := [13, 14, 15, 16, 17, 18]
def C (N : Nat) : Ctx := { fD6.C N with may := fun t => asg.any (Nat.beq t) }
def code : Code := (sub fD6.code [true, true, true, false]).getD .skip
theorem cok (N : Nat) : (C N).Ok Tryz.prog := okC (fD6.cok N) _
def alts : List Alt := [⟨.normal, [], (.cons (.upd 1 133 s95) .nil)⟩]
end fC55
def fC55.run (N : Nat) (jA : Int) (bool : Bool) (int : Int) (text : (List UInt8)) (jA1 : Int) (bool1 : Bool) (int1 : Int) (text1 : (List UInt8)) : Option ((T56 × Unit)) :=
  bif decide (jA = (2 : Int)) then
    some ((jA1, bool1, int, text1, ()), ())
  else some ((jA1, bool1, int1, text1, ()), ())
namespace fC55
def fn (N : Nat) : Sh.den ins → Option (altsDen alts) := fun ((a, b, c, d, _), (e, f, g, h, _), _) => fC55.run N a b c d e f g h
def P (N : Nat) : Ps := ⟨ts, ins, asg, alts, fn N⟩
def lam (N : Nat) : Pcs := pcs []
theorem pok (N : Nat) : (lam N).Ok Tryz.prog (C N) code := pcsOk_nil
theorem ok (N : Nat) : ((P N).pc (fD6.C N)).Ok Tryz.prog (fD6.C N) code := okP (F := P N) (fD6.cok N) mix (pok N) fun _ => by kernel_rfl
end fC55
namespace fC54
def ins : Sh := s96
def ts : List Tmp := [1, 3]
def asg : List Tmp := [19, 20, 21, 22, 23, 24]
def C (N : Nat) : Ctx := { fD6.C N with may := fun t => asg.any (Nat.beq t) }
def code : Code := (sub fD6.code [true, true, true, true, false]).getD .skip
theorem cok (N : Nat) : (C N).Ok Tryz.prog := okC (fD6.cok N) _
def alts : List Alt := [⟨.normal, [], (.cons (.upd 1 133 s95) .nil)⟩]
end fC54
def fC54.run (N : Nat) (jA : Int) (bool : Bool) (int : Int) (text : (List UInt8)) (jA1 : Int) (bool1 : Bool) (int1 : Int) (text1 : (List UInt8)) : Option ((T56 × Unit)) :=
  bif decide (jA = (3 : Int)) then
    some ((jA1, bool1, int1, text, ()), ())
  else some ((jA1, bool1, int1, text1, ()), ())
namespace fC54
def fn (N : Nat) : Sh.den ins → Option (altsDen alts) := fun ((a, b, c, d, _), (e, f, g, h, _), _) => fC54.run N a b c d e f g h
def P (N : Nat) : Ps := ⟨ts, ins, asg, alts, fn N⟩
def lam (N : Nat) : Pcs := pcs []
theorem pok (N : Nat) : (lam N).Ok Tryz.prog (C N) code := pcsOk_nil
theorem ok (N : Nat) : ((P N).pc (fD6.C N)).Ok Tryz.prog (fD6.C N) code := okP (F := P N) (fD6.cok N) mix (pok N) fun _ => by kernel_rfl
end fC54
def fD6.run (N : Nat) (v : T4) : Option (Bool × Unit) :=
  obind (fB54.run N v.1 v.2.1 v.2.2.1 v.2.2.2 v.1 false (0 : Int) ([] : List UInt8)) fun ((jA, bool, int, text, _), _) =>
    obind (fC55.run N v.1 v.2.1 v.2.2.1 v.2.2.2 jA bool int text) fun ((jA1, bool1, int1, text1, _), _) =>
      obind (fC54.run N v.1 v.2.1 v.2.2.1 v.2.2.2 jA1 bool1 int1 text1) fun ((jA2, bool2, int2, text2, _), _) =>
        bif decide (v.1 ≥ (0 : Int)) then
          bif decide (v.1 ≤ (3 : Int)) then
            bif (decide (v.1 = jA2)) && ((v.2.1 == bool2) && ((decide (v.2.2.1 = int2)) && ((decide (v.2.2.2 = text2)) && true))) then
              some (decide ((v.2.2.2.length : Int) ≤ (64 : Int)), ())
            else some (false, ())
          else some (false, ())
        else some (false, ())
namespace fD6
def fn (N : Nat) : Sh.den ins → Option (Sh.den outs) := fun (a, _) => fD6.run N a
def S (N : Nat) : Fs := ⟨ins, outs, fn N⟩
def lam (N : Nat) : Pcs := pcs [([true, true, false], (fB54.P N).pc (C N)), ([true, true, true, false], (fC55.P N).pc (C N)), ([true, true, true, true, false], (fC54.P N).pc (C N))]
theorem pok (N : Nat) : (lam N).Ok Tryz.prog (C N) code := pcsOk_cons (c1 := fB54.code) (by kernel_rfl) (fB54.ok N) (pcsOk_cons (c1 := fC55.code) (by kernel_rfl) (fC55.ok N) (pcsOk_cons (c1 := fC54.code) (by kernel_rfl) (fC54.ok N) (pcsOk_nil)))
theorem ok (N : Nat) : (S N).con.Ok Tryz.prog 124 := okF (F := S N) [] Tryz.func124 (by kernel_rfl) (by rfl) mix (cok N) (pok N) fun _ => by kernel_rfl
end fD6
namespace fA57
def ins : Sh := s19
def C (N : Nat) : Ctx := ⟨U, 21, fun _ => true, gam [(124, (fD6.S N).con)], gamY []⟩
theorem cok (N : Nat) : (C N).Ok Tryz.prog := ⟨U_ok, GamOk.cons (fD6.ok N) (GamOk.nil), GamYOk.nil⟩
def code : Code := Tryz.f116.body.getD .skip
def outs : Sh := (.cons (.val .bool) .nil)
end fA57
namespace fB61
def ins : Sh := (.cons (.val (.slice (.pair (.int .i64) (.pair .bool (.pair (.int .i64) .str))))) (.cons (.val (.int .i64)) .nil))
def ts : List Tmp := [0, 3]
def asg : List Tmp := [2, 3, 4, 5, 6, 7, 8, 9, 10, 11, 12, 13, 14, 15, 16, 17]
def C (N : Nat) : Ctx := { fA57.C N with may := fun t => asg.any (Nat.beq t) }
def code : Code := loopBody (sub fA57.code [true, false, true, false])
theorem cok (N : Nat) : (C N).Ok Tryz.prog := okC (fA57.cok N) _
def alts : List Alt := [⟨.ret, [2], (.cons (.val .bool) .nil)⟩, ⟨(.exit 0), [], .nil⟩]
end fB61
def fB61.go (N : Nat) : Nat → (List T4) → Int → Option T16
  | 0, _, _ => none
  | fuel + 1, row, i =>
    bif decide (i < (row.length : Int)) then
      bif inB i row.length then
        obind (fD6.run N (row.getD i.toNat ((0 : Int), false, (0 : Int), ([] : List UInt8)))) fun (b, _) =>
          bif !b then
            some (.inl (false, ()))
          else fB61.go N fuel row (IntKind.i64.wrap (i + (1 : Int)))
      else none
    else some (.inr ())
namespace fB61
def g (N n : Nat) : Sh.den ins → Option (altsDen alts) := fun (a, b, _) => fB61.go N n a b
def P (N : Nat) : Ps := ⟨ts, ins, asg, alts, g N N⟩
def lam (N : Nat) : Pcs := pcs []
theorem pok (N : Nat) : (lam N).Ok Tryz.prog (C N) code := pcsOk_nil
theorem ok (N : Nat) : ((P N).pc (fA57.C N)).Ok Tryz.prog (fA57.C N) (.loop code) := okL (F := P N) (g N) (fA57.cok N) mix (pok N) (fun _ => rfl) rfl fun _ _ => by kernel_rfl
end fB61
def fA57.run (N : Nat) (row : (List T4)) : Option (Bool × Unit) :=
  obind (fB61.go N N row (0 : Int)) fun y => match y with
  | .inl (t2, _) =>
      some (t2, ())
  | .inr (_) =>
      some (decide ((row.length : Int) ≤ (16 : Int)), ())
namespace fA57
def fn (N : Nat) : Sh.den ins → Option (Sh.den outs) := fun (a, _) => fA57.run N a
def S (N : Nat) : Fs := ⟨ins, outs, fn N⟩
def lam (N : Nat) : Pcs := pcs [([true, false, true, false], (fB61.P N).pc (C N))]
theorem pok (N : Nat) : (lam N).Ok Tryz.prog (C N) code := pcsOk_cons (c1 := .loop fB61.code) (by kernel_rfl) (fB61.ok N) (pcsOk_nil)
theorem ok (N : Nat) : (S N).con.Ok Tryz.prog 116 := okF (F := S N) [] Tryz.func116 (by kernel_rfl) (by rfl) mix (cok N) (pok N) fun _ => by kernel_rfl
end fA57
namespace fD18
def ins : Sh := (.cons (.val (.int .u64)) .nil)
def C (N : Nat) : Ctx := ⟨U, 17, fun _ => true, gam [], gamY []⟩
theorem cok (N : Nat) : (C N).Ok Tryz.prog := ⟨U_ok, GamOk.nil, GamYOk.nil⟩
def code : Code := Tryz.f125.body.getD .skip
def outs : Sh := (.cons (.own 5 .byte) .nil)
end fD18
namespace fA28
def ins : Sh := (.cons (.val (.int .u64)) s22)
def ts : List Tmp := [0, 3, 4]
def asg : List Tmp := [3, 4, 5, 6, 7, 8, 9, 10, 11, 12, 13, 14, 15]
def C (N : Nat) : Ctx := { fD18.C N with may := fun t => asg.any (Nat.beq t) }
def code : Code := loopBody (sub fD18.code [true, true, false, true, false])
theorem cok (N : Nat) : (C N).Ok Tryz.prog := okC (fD18.cok N) _
def alts : List Alt := [⟨(.exit 0), [3], (.cons (.own 5 .byte) .nil)⟩]
end fA28
def fA28.go (N : Nat) : Nat → Int → (List UInt8) → Int → Option (T0)
  | 0, _, _, _ => none
  | fuel + 1, n_, b, s =>
    bif decide (s ≥ (0 : Int)) then
      bif decide ((0 : Int) ≤ s) then
        bif room (b.length + 1) 1 then
          fA28.go N fuel n_ (b ++ ([Hay.u8 (IntKind.u8.wrap (n_.fdiv (2 ^ (min s.toNat 64))))] : List UInt8)) (IntKind.i64.wrap (s - (8 : Int)))
        else none
      else none
    else some (b, ())
namespace fA28
def g (N n : Nat) : Sh.den ins → Option (altsDen alts) := fun (a, b, c, _) => fA28.go N n a b c
def P (N : Nat) : Ps := ⟨ts, ins, asg, alts, g N N⟩
def lam (N : Nat) : Pcs := pcs []
theorem pok (N : Nat) : (lam N).Ok Tryz.prog (C N) code := pcsOk_nil
theorem ok (N : Nat) : ((P N).pc (fD18.C N)).Ok Tryz.prog (fD18.C N) (.loop code) := okL (F := P N) (g N) (fD18.cok N) mix (pok N) (fun _ => rfl) rfl fun _ _ => by kernel_rfl
end fA28
def fD18.run (N : Nat) (n_ : Int) : Option T0 :=
  obind (fA28.go N N n_ ([] : List UInt8) (56 : Int)) fun (b, _) =>
    some (b, ())
namespace fD18
def fn (N : Nat) : Sh.den ins → Option (Sh.den outs) := fun (a, _) => fD18.run N a
def S (N : Nat) : Fs := ⟨ins, outs, fn N⟩
def lam (N : Nat) : Pcs := pcs [([true, true, false, true, false], (fA28.P N).pc (C N))]
theorem pok (N : Nat) : (lam N).Ok Tryz.prog (C N) code := pcsOk_cons (c1 := .loop fA28.code) (by kernel_rfl) (fA28.ok N) (pcsOk_nil)
theorem ok (N : Nat) : (S N).con.Ok Tryz.prog 125 := okF (F := S N) [] Tryz.func125 (by kernel_rfl) (by rfl) mix (cok N) (pok N) fun _ => by kernel_rfl
end fD18
namespace fC67
def ins : Sh := s18
def C (N : Nat) : Ctx := ⟨U, 48, fun _ => true, gam [(125, (fD18.S N).con)], gamY []⟩
theorem cok (N : Nat) : (C N).Ok Tryz.prog := ⟨U_ok, GamOk.cons (fD18.ok N) (GamOk.nil), GamYOk.nil⟩
def code : Code := Tryz.f117.body.getD .skip
def outs : Sh := (.cons (.own 5 .byte) .nil)
end fC67
namespace fC70
def ins : Sh := (.cons (.rbox 133 s95) (.cons (.own 5 .byte) .nil))
def ts : List Tmp := [1, 3]
def asg : List Tmp := [2, 8, 9, 10, 11, 12, 13, 14, 15, 16, 17]
def C (N : Nat) : Ctx := { fC67.C N with may := fun t => asg.any (Nat.beq t) }
def code : Code := (sub fC67.code [true, true, false]).getD .skip
theorem cok (N : Nat) : (C N).Ok Tryz.prog := okC (fC67.cok N) _
def alts : List Alt := [⟨.normal, [], (.cons (.updr 1 5 .byte) .nil)⟩, ⟨.ret, [2], (.cons (.own 5 .byte) .nil)⟩]
end fC70
def fC70.run (N : Nat) (jA : Int) (bool : Bool) (int : Int) (text : (List UInt8)) (b : (List UInt8)) : Option (T0 ⊕ T0) :=
  bif decide (jA = (1 : Int)) then
    bif bool then
      bif room (b.length + 1) 1 then
        some (.inr (b ++ ([(1 : UInt8)] : List UInt8), ()))
      else none
    else some (.inl (b, ()))
  else some (.inl (b, ()))
namespace fC70
def fn (N : Nat) : Sh.den ins → Option (altsDen alts) := fun ((a, b, c, d, _), e, _) => fC70.run N a b c d e
def P (N : Nat) : Ps := ⟨ts, ins, asg, alts, fn N⟩
def lam (N : Nat) : Pcs := pcs []
theorem pok (N : Nat) : (lam N).Ok Tryz.prog (C N) code := pcsOk_nil
theorem ok (N : Nat) : ((P N).pc (fC67.C N)).Ok Tryz.prog (fC67.C N) code := okP (F := P N) (fC67.cok N) mix (pok N) fun _ => by kernel_rfl
end fC70
def fC67.run (N : Nat) (v : T4) : Option T0 :=
  obind (fC70.run N v.1 v.2.1 v.2.2.1 v.2.2.2 ([Hay.u8 (IntKind.u8.wrap v.1)] : List UInt8)) fun y => match y with
  | .inl (v1, _) =>
      bif decide (v.1 = (1 : Int)) then
        bif room (v1.length + 1) 1 then
          some (v1 ++ ([(0 : UInt8)] : List UInt8), ())
        else none
      else
        bif decide (v.1 = (2 : Int)) then
          obind (fD18.run N (IntKind.u64.wrap v.2.2.1)) fun (l, _) =>
            bif room (v1.length + l.length) 1 then
              some (v1 ++ l, ())
            else none
        else
          bif decide (v.1 = (3 : Int)) then
            bif room (v1.length + 1) 1 then
              bif room ((v1 ++ ([Hay.u8 (IntKind.u8.wrap (v.2.2.2.length : Int))] : List UInt8)).length + v.2.2.2.length) 1 then
                some ((v1 ++ ([Hay.u8 (IntKind.u8.wrap (v.2.2.2.length : Int))] : List UInt8)) ++ v.2.2.2, ())
              else none
            else none
          else some (v1, ())
  | .inr (t2, _) =>
      some (t2, ())
namespace fC67
def fn (N : Nat) : Sh.den ins → Option (Sh.den outs) := fun (a, _) => fC67.run N a
def S (N : Nat) : Fs := ⟨ins, outs, fn N⟩
def lam (N : Nat) : Pcs := pcs [([true, true, false], (fC70.P N).pc (C N))]
theorem pok (N : Nat) : (lam N).Ok Tryz.prog (C N) code := pcsOk_cons (c1 := fC70.code) (by kernel_rfl) (fC70.ok N) (pcsOk_nil)
theorem ok (N : Nat) : (S N).con.Ok Tryz.prog 117 := okF (F := S N) [] Tryz.func117 (by kernel_rfl) (by rfl) mix (cok N) (pok N) fun _ => by kernel_rfl
end fC67
namespace fC18
def ins : Sh := s19
def C (N : Nat) : Ctx := ⟨U, 29, fun _ => true, gam [(116, (fA57.S N).con), (117, (fC67.S N).con)], gamY []⟩
theorem cok (N : Nat) : (C N).Ok Tryz.prog := ⟨U_ok, GamOk.cons (fA57.ok N) (GamOk.cons (fC67.ok N) (GamOk.nil)), GamYOk.nil⟩
def code : Code := Tryz.f105.body.getD .skip
def outs : Sh := s22
end fC18
namespace fB28
def ins : Sh := (.cons (.val (.slice (.pair (.int .i64) (.pair .bool (.pair (.int .i64) .str))))) s22)
def ts : List Tmp := [0, 5, 6]
def asg : List Tmp := [5, 6, 15, 16, 17, 18, 19, 20, 21, 22, 23, 24, 25, 26, 27]
def C (N : Nat) : Ctx := { fC18.C N with may := fun t => asg.any (Nat.beq t) }
def code : Code := loopBody (sub fC18.code [true, true, true, true, false, true, false])
theorem cok (N : Nat) : (C N).Ok Tryz.prog := okC (fC18.cok N) _
def alts : List Alt := [⟨(.exit 0), [5], (.cons (.own 5 .byte) .nil)⟩]
end fB28
def fB28.go (N : Nat) : Nat → (List T4) → (List UInt8) → Int → Option (T0)
  | 0, _, _, _ => none
  | fuel + 1, row, b, i =>
    bif decide (i < (row.length : Int)) then
      bif inB i row.length then
        obind (fC67.run N (row.getD i.toNat ((0 : Int), false, (0 : Int), ([] : List UInt8)))) fun (l, _) =>
          bif room (b.length + l.length) 1 then
            fB28.go N fuel row (b ++ l) (IntKind.i64.wrap (i + (1 : Int)))
          else none
      else none
    else some (b, ())
namespace fB28
def g (N n : Nat) : Sh.den ins → Option (altsDen alts) := fun (a, b, c, _) => fB28.go N n a b c
def P (N : Nat) : Ps := ⟨ts, ins, asg, alts, g N N⟩
def lam (N : Nat) : Pcs := pcs []
theorem pok (N : Nat) : (lam N).Ok Tryz.prog (C N) code := pcsOk_nil
theorem ok (N : Nat) : ((P N).pc (fC18.C N)).Ok Tryz.prog (fC18.C N) (.loop code) := okL (F := P N) (g N) (fC18.cok N) mix (pok N) (fun _ => rfl) rfl fun _ _ => by kernel_rfl
end fB28
def fC18.run (N : Nat) (row : (List T4)) : Option T17 :=
  obind (fA57.run N row) fun (b, _) =>
    bif !b then
      some (([] : List UInt8), (30 : Int), ())
    else
      obind (fB28.go N N row ([Hay.u8 (IntKind.u8.wrap (row.length : Int))] : List UInt8) (0 : Int)) fun (b1, _) =>
        some (b1, (0 : Int), ())
namespace fC18
def fn (N : Nat) : Sh.den ins → Option (Sh.den outs) := fun (a, _) => fC18.run N a
def S (N : Nat) : Fs := ⟨ins, outs, fn N⟩
def lam (N : Nat) : Pcs := pcs [([true, true, true, true, false, true, false], (fB28.P N).pc (C N))]
theorem pok (N : Nat) : (lam N).Ok Tryz.prog (C N) code := pcsOk_cons (c1 := .loop fB28.code) (by kernel_rfl) (fB28.ok N) (pcsOk_nil)
theorem ok (N : Nat) : (S N).con.Ok Tryz.prog 105 := okF (F := S N) [] Tryz.func105 (by kernel_rfl) (by rfl) mix (cok N) (pok N) fun _ => by kernel_rfl
end fC18
namespace fB72
def ins : Sh := (.cons (.rown 5 .byte) .nil)
def C (N : Nat) : Ctx := ⟨U, 12, fun _ => true, gam [(86, (fA42.S N).con)], gamY []⟩
theorem cok (N : Nat) : (C N).Ok Tryz.prog := ⟨U_ok, GamOk.cons (fA42.ok N) (GamOk.nil), GamYOk.nil⟩
def code : Code := Tryz.f106.body.getD .skip
def outs : Sh := (.cons (.own 5 .byte) .nil)
end fB72
def fB72.run (N : Nat) (b : (List UInt8)) : Option T0 :=
  obind (fA42.run N (IntKind.u64.wrap (b.length : Int))) fun (l, _) =>
    bif room (l.length + b.length) 1 then
      some (l ++ b, ())
    else none
namespace fB72
def fn (N : Nat) : Sh.den ins → Option (Sh.den outs) := fun (a, _) => fB72.run N a
def S (N : Nat) : Fs := ⟨ins, outs, fn N⟩
def lam (N : Nat) : Pcs := pcs []
theorem pok (N : Nat) : (lam N).Ok Tryz.prog (C N) code := pcsOk_nil
theorem ok (N : Nat) : (S N).con.Ok Tryz.prog 106 := okF (F := S N) [] Tryz.func106 (by kernel_rfl) (by rfl) mix (cok N) (pok N) fun _ => by kernel_rfl
end fB72
namespace fA67
def ins : Sh := (.cons (.box 57 s90) s19)
def C (N : Nat) : Ctx := ⟨U, 25, fun _ => true, gam [(105, (fC18.S N).con), (46, (fA16.S N).con), (106, (fB72.S N).con)], gamY []⟩
theorem cok (N : Nat) : (C N).Ok Tryz.prog := ⟨U_ok, GamOk.cons (fC18.ok N) (GamOk.cons (fA16.ok N) (GamOk.cons (fB72.ok N) (GamOk.nil))), GamYOk.nil⟩
def code : Code := Tryz.f84.body.getD .skip
def outs : Sh := (.cons (.upd 0 57 s90) .nil)
end fA67
def fA67.run (N : Nat) (b : (List UInt8)) (bad : Bool) (l : (List T4)) : Option (T54 × Unit) :=
  obind (fC18.run N l) fun (l1, n_, _) =>
    obind (fA16.run N b bad (decide (n_ = (0 : Int)))) fun ((b1, bad1, _), _) =>
      obind (fB72.run N l1) fun (l2, _) =>
        bif room (b1.length + l2.length) 1 then
          some ((b1 ++ l2, bad1, ()), ())
        else none
namespace fA67
def fn (N : Nat) : Sh.den ins → Option (Sh.den outs) := fun ((a, b, _), c, _) => fA67.run N a b c
def S (N : Nat) : Fs := ⟨ins, outs, fn N⟩
def lam (N : Nat) : Pcs := pcs []
theorem pok (N : Nat) : (lam N).Ok Tryz.prog (C N) code := pcsOk_nil
theorem ok (N : Nat) : (S N).con.Ok Tryz.prog 84 := okF (F := S N) [] Tryz.func84 (by kernel_rfl) (by rfl) mix (cok N) (pok N) fun _ => by kernel_rfl
end fA67
namespace fD62
def ins : Sh := (.cons (.box 57 s90) s97)
def C (N : Nat) : Ctx := ⟨U, 13, fun _ => true, gam [(20, (fC3.S N).con)], gamY []⟩
theorem cok (N : Nat) : (C N).Ok Tryz.prog := ⟨U_ok, GamOk.cons (fC3.ok N) (GamOk.nil), GamYOk.nil⟩
def code : Code := Tryz.f85.body.getD .skip
def outs : Sh := (.cons (.upd 0 57 s90) .nil)
end fD62
def fD62.run (N : Nat) (b : (List UInt8)) (bad : Bool) (id_ : (Int × Int)) : Option (T54 × Unit) :=
  obind (fC3.run N b bad id_.1 (8 : Int)) fun ((b1, bad1, _), _) =>
    obind (fC3.run N b1 bad1 (IntKind.u64.wrap id_.2) (4 : Int)) fun ((b2, bad2, _), _) =>
      some ((b2, bad2, ()), ())
namespace fD62
def fn (N : Nat) : Sh.den ins → Option (Sh.den outs) := fun ((a, b, _), c, _) => fD62.run N a b c
def S (N : Nat) : Fs := ⟨ins, outs, fn N⟩
def lam (N : Nat) : Pcs := pcs []
theorem pok (N : Nat) : (lam N).Ok Tryz.prog (C N) code := pcsOk_nil
theorem ok (N : Nat) : (S N).con.Ok Tryz.prog 85 := okF (F := S N) [] Tryz.func85 (by kernel_rfl) (by rfl) mix (cok N) (pok N) fun _ => by kernel_rfl
end fD62
namespace fD20
def ins : Sh := (.cons (.box 57 s90) s86)
def C (N : Nat) : Ctx := ⟨U, 81, fun _ => true, gam [(83, (fB59.S N).con), (46, (fA16.S N).con), (49, (fD12.S N).con), (20, (fC3.S N).con), (84, (fA67.S N).con), (85, (fD62.S N).con)], gamY []⟩
theorem cok (N : Nat) : (C N).Ok Tryz.prog := ⟨U_ok, GamOk.cons (fB59.ok N) (GamOk.cons (fA16.ok N) (GamOk.cons (fD12.ok N) (GamOk.cons (fC3.ok N) (GamOk.cons (fA67.ok N) (GamOk.cons (fD62.ok N) (GamOk.nil)))))), GamYOk.nil⟩
def code : Code := Tryz.f47.body.getD .skip
def outs : Sh := (.cons (.upd 0 57 s90) .nil)
end fD20
namespace fC21
def ins : Sh := (.cons (.box 57 s90) s88)
def ts : List Tmp := [0, 3, 4]
def asg : List Tmp := [4, 5, 12, 13, 14, 15, 16, 17, 18, 19, 20, 21, 22, 23, 24, 25, 26, 27, 28, 29, 30, 31, 32, 33, 34, 35, 36, 37, 38, 39, 40, 41, 42, 43, 44, 45, 46, 47, 48, 49, 50, 51, 52]
def C (N : Nat) : Ctx := { fD20.C N with may := fun t => asg.any (Nat.beq t) }
def code : Code := loopBody (sub fD20.code [true, true, false, true, false])
theorem cok (N : Nat) : (C N).Ok Tryz.prog := okC (fD20.cok N) _
def alts : List Alt := [⟨(.exit 0), [], (.cons (.upd 0 57 s90) .nil)⟩]
end fC21
namespace fD52
def ins : Sh := (.cons (.box 57 s90) (.cons (.rbox 95 s15) .nil))
def ts : List Tmp := [0, 5]
def asg : List Tmp := [24, 25, 26, 27, 28, 29, 30, 31, 32, 33, 34, 35, 36]
def C (N : Nat) : Ctx := { fC21.C N with may := fun t => asg.any (Nat.beq t) }
def code : Code := (sub fC21.code [true, false, false, true, false]).getD .skip
theorem cok (N : Nat) : (C N).Ok Tryz.prog := okC (fC21.cok N) _
def alts : List Alt := [⟨.normal, [], (.cons (.upd 0 57 s90) .nil)⟩]
end fD52
def fD52.run (N : Nat) (b : (List UInt8)) (bad : Bool) (jO_ : Int) (jO1 : Int) (ver : Int) (ver1 : Int) (ver2 : (List T4)) (ver3 : Int) : Option ((T54 × Unit)) :=
  bif decide (ver = (0 : Int)) then
    obind (fA16.run N b bad (decide (ver3 = (0 : Int)))) fun ((b1, bad1, _), _) =>
      some ((b1, bad1, ()), ())
  else
    obind (fA16.run N b bad false) fun ((b2, bad2, _), _) =>
      some ((b2, bad2, ()), ())
namespace fD52
def fn (N : Nat) : Sh.den ins → Option (altsDen alts) := fun ((a, b, _), (c, d, e, f, g, h, _), _) => fD52.run N a b c d e f g h
def P (N : Nat) : Ps := ⟨ts, ins, asg, alts, fn N⟩
def lam (N : Nat) : Pcs := pcs []
theorem pok (N : Nat) : (lam N).Ok Tryz.prog (C N) code := pcsOk_nil
theorem ok (N : Nat) : ((P N).pc (fC21.C N)).Ok Tryz.prog (fC21.C N) code := okP (F := P N) (fC21.cok N) mix (pok N) fun _ => by kernel_rfl
end fD52
def fC21.go (N : Nat) : Nat → (List UInt8) → Bool → (List T7) → (List T8) → Int → Option ((T54 × Unit))
  | 0, _, _, _, _, _ => none
  | fuel + 1, b, bad, jR, jS, i =>
    bif decide (i < (jR.length : Int)) then
      bif inB i jR.length then
        obind (fD52.run N b bad (jR.getD i.toNat (((0 : Int), (0 : Int)), ((0 : Int), (0 : Int)), ([] : List T4), (0 : Int))).1.1 (jR.getD i.toNat (((0 : Int), (0 : Int)), ((0 : Int), (0 : Int)), ([] : List T4), (0 : Int))).1.2 (jR.getD i.toNat (((0 : Int), (0 : Int)), ((0 : Int), (0 : Int)), ([] : List T4), (0 : Int))).2.1.1 (jR.getD i.toNat (((0 : Int), (0 : Int)), ((0 : Int), (0 : Int)), ([] : List T4), (0 : Int))).2.1.2 (jR.getD i.toNat (((0 : Int), (0 : Int)), ((0 : Int), (0 : Int)), ([] : List T4), (0 : Int))).2.2.1 (jR.getD i.toNat (((0 : Int), (0 : Int)), ((0 : Int), (0 : Int)), ([] : List T4), (0 : Int))).2.2.2) fun ((b3, bad3, _), _) =>
          obind (fD12.run N b3 bad3 (jR.getD i.toNat (((0 : Int), (0 : Int)), ((0 : Int), (0 : Int)), ([] : List T4), (0 : Int))).1) fun ((b4, bad4, _), _) =>
            obind (fC3.run N b4 bad4 (IntKind.u64.wrap (jR.getD i.toNat (((0 : Int), (0 : Int)), ((0 : Int), (0 : Int)), ([] : List T4), (0 : Int))).2.1.2) (4 : Int)) fun ((b5, bad5, _), _) =>
              obind (fA67.run N b5 bad5 (jR.getD i.toNat (((0 : Int), (0 : Int)), ((0 : Int), (0 : Int)), ([] : List T4), (0 : Int))).2.2.1) fun ((b6, bad6, _), _) =>
                fC21.go N fuel b6 bad6 jR jS (IntKind.i64.wrap (i + (1 : Int)))
      else none
    else some ((b, bad, ()), ())
namespace fC21
def g (N n : Nat) : Sh.den ins → Option (altsDen alts) := fun ((a, b, _), (c, d, _), e, _) => fC21.go N n a b c d e
def P (N : Nat) : Ps := ⟨ts, ins, asg, alts, g N N⟩
def lam (N : Nat) : Pcs := pcs [([true, false, false, true, false], (fD52.P N).pc (C N))]
theorem pok (N : Nat) : (lam N).Ok Tryz.prog (C N) code := pcsOk_cons (c1 := fD52.code) (by kernel_rfl) (fD52.ok N) (pcsOk_nil)
theorem ok (N : Nat) : ((P N).pc (fD20.C N)).Ok Tryz.prog (fD20.C N) (.loop code) := okL (F := P N) (g N) (fD20.cok N) mix (pok N) (fun _ => rfl) rfl fun _ _ => by kernel_rfl
end fC21
namespace fD56
def ins : Sh := (.cons (.box 57 s90) s88)
def ts : List Tmp := [0, 3, 6]
def asg : List Tmp := [6, 58, 59, 60, 61, 62, 63, 64, 65, 66, 67, 68, 69, 70, 71, 72, 73, 74, 75, 76, 77, 78, 79, 80]
def C (N : Nat) : Ctx := { fD20.C N with may := fun t => asg.any (Nat.beq t) }
def code : Code := loopBody (sub fD20.code [true, true, true, true, true, false])
theorem cok (N : Nat) : (C N).Ok Tryz.prog := okC (fD20.cok N) _
def alts : List Alt := [⟨(.exit 2), [], (.cons (.upd 0 57 s90) .nil)⟩]
end fD56
def fD56.go (N : Nat) : Nat → (List UInt8) → Bool → (List T7) → (List T8) → Int → Option ((T54 × Unit))
  | 0, _, _, _, _, _ => none
  | fuel + 1, b, bad, jR, jS, i =>
    bif decide (i < (jS.length : Int)) then
      bif inB i jS.length then
        obind (fD12.run N b bad (jS.getD i.toNat (((0 : Int), (0 : Int)), (0 : Int), (0 : Int))).1) fun ((b1, bad1, _), _) =>
          bif inB i jS.length then
            obind (fD62.run N b1 bad1 (jS.getD i.toNat (((0 : Int), (0 : Int)), (0 : Int), (0 : Int))).2) fun ((b2, bad2, _), _) =>
              fD56.go N fuel b2 bad2 jR jS (IntKind.i64.wrap (i + (1 : Int)))
          else none
      else none
    else some ((b, bad, ()), ())
namespace fD56
def g (N n : Nat) : Sh.den ins → Option (altsDen alts) := fun ((a, b, _), (c, d, _), e, _) => fD56.go N n a b c d e
def P (N : Nat) : Ps := ⟨ts, ins, asg, alts, g N N⟩
def lam (N : Nat) : Pcs := pcs []
theorem pok (N : Nat) : (lam N).Ok Tryz.prog (C N) code := pcsOk_nil
theorem ok (N : Nat) : ((P N).pc (fD20.C N)).Ok Tryz.prog (fD20.C N) (.loop code) := okL (F := P N) (g N) (fD20.cok N) mix (pok N) (fun _ => rfl) rfl fun _ _ => by kernel_rfl
end fD56
def fD20.run (N : Nat) (b : (List UInt8)) (bad : Bool) (p : T44) : Option (T54 × Unit) :=
  obind (fB59.run N b bad (p.1.length : Int)) fun ((b1, bad1, _), _) =>
    obind (fC21.go N N b1 bad1 p.1 p.2 (0 : Int)) fun ((b2, bad2, _), _) =>
      obind (fB59.run N b2 bad2 (p.2.length : Int)) fun ((b3, bad3, _), _) =>
        obind (fD56.go N N b3 bad3 p.1 p.2 (0 : Int)) fun ((b4, bad4, _), _) =>
          some ((b4, bad4, ()), ())
end
end Go.Hay.YtpgamibdlinhjaaGreat
