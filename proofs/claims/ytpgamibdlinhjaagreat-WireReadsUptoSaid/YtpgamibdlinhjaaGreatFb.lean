/- Functions of the program as functions of Lean, and that they are what the program computes. Conditions: none. -/
import Derived.Test.YtpgamibdlinhjaaGreatFa
set_option linter.unusedVariables false
namespace Go.Hay.YtpgamibdlinhjaaGreat
open Go Go.Hay Go.Proofs
noncomputable section
set_option maxRecDepth 100000
namespace fC32
def ins : Sh := s62
def ts : List Tmp := [0, 4, 24, 25]
def asg : List Tmp := [0, 2, 3, 4, 6, 7, 8, 25, 26, 27, 28, 29, 30, 31, 32, 33, 34, 35, 36, 37, 38, 39, 40]
def C (N : Nat) : Ctx := { fA25.C N with may := fun t => asg.any (Nat.beq t) }
def code : Code := loopBody (sub fA25.code [true, true, true, true, false, true, false])
theorem cok (N : Nat) : (C N).Ok Tryz.prog := okC (fA25.cok N) _
def alts : List Alt := [⟨.ret, [2, 3], s61⟩, ⟨(.exit 0), [0, 4], (.cons (.val (.slice .byte)) s63)⟩]
end fC32
def fC32.go (N : Nat) : Nat → (List UInt8) → (List T4) → Int → Int → Option (T35 ⊕ T36)
  | 0, _, _, _, _ => none
  | fuel + 1, b, row, t24, t25 =>
    bif decide (t25 < t24) then
      obind (fA14.run N b) fun (v, l, b1, _) =>
        bif !b1 then
          some (.inl (([] : List T4), (30 : Int), ()))
        else
          bif room (row.length + 1) 40 then
            fC32.go N fuel l (row ++ ([v] : List T4)) t24 (IntKind.i64.wrap (t25 + (1 : Int)))
          else none
    else some (.inr (b, row, ()))
namespace fC32
def g (N n : Nat) : Sh.den ins → Option (altsDen alts) := fun (a, b, c, d, _) => fC32.go N n a b c d
def P (N : Nat) : Ps := ⟨ts, ins, asg, alts, g N N⟩
def lam (N : Nat) : Pcs := pcs []
theorem pok (N : Nat) : (lam N).Ok Tryz.prog (C N) code := pcsOk_nil
theorem ok (N : Nat) : ((P N).pc (fA25.C N)).Ok Tryz.prog (fA25.C N) (.loop code) := okL (F := P N) (g N) (fA25.cok N) mix (pok N) (fun _ => rfl) rfl fun _ _ => by kernel_rfl
end fC32
def fA25.run (N : Nat) (b : (List UInt8)) : Option T35 :=
  bif decide ((b.length : Int) = (0 : Int)) then
    some (([] : List T4), (30 : Int), ())
  else
    bif inB (0 : Int) b.length then
      bif decide (((b.getD 0 (0 : UInt8)).toNat : Int) > (16 : Int)) then
        some (([] : List T4), (30 : Int), ())
      else
        bif inB (0 : Int) b.length then
          bif okB (1 : Int) (b.length : Int) b.length then
            obind (fC32.go N N (b.drop 1) ([] : List T4) (IntKind.i64.wrap ((b.getD 0 (0 : UInt8)).toNat : Int)) (0 : Int)) fun y => match y with
            | .inl (t2, t3, _) =>
                some (t2, t3, ())
            | .inr (b1, row, _) =>
                bif decide ((b1.length : Int) > (0 : Int)) then
                  some (([] : List T4), (30 : Int), ())
                else some (row, (0 : Int), ())
          else none
        else none
    else none
namespace fA25
def fn (N : Nat) : Sh.den ins → Option (Sh.den outs) := fun (a, _) => fA25.run N a
def S (N : Nat) : Fs := ⟨ins, outs, fn N⟩
def lam (N : Nat) : Pcs := pcs [([true, true, true, true, false, true, false], (fC32.P N).pc (C N))]
theorem pok (N : Nat) : (lam N).Ok Tryz.prog (C N) code := pcsOk_cons (c1 := .loop fC32.code) (by kernel_rfl) (fC32.ok N) (pcsOk_nil)
theorem ok (N : Nat) : (S N).con.Ok Tryz.prog 122 := okF (F := S N) [] Tryz.func122 (by kernel_rfl) (by rfl) mix (cok N) (pok N) fun _ => by kernel_rfl
end fA25
namespace fD54
def ins : Sh := (.cons (.box 47 s48) (.cons (.bxo 4 95 s57) .nil))
def C (N : Nat) : Ctx := ⟨U, 39, fun _ => true, gam [(123, (fC16.S N).con), (122, (fA25.S N).con), (34, (fC1.S N).con)], gamY []⟩
theorem cok (N : Nat) : (C N).Ok Tryz.prog := ⟨U_ok, GamOk.cons (fC16.ok N) (GamOk.cons (fA25.ok N) (GamOk.cons (fC1.ok N) (GamOk.nil))), GamYOk.nil⟩
def code : Code := Tryz.f114.body.getD .skip
def outs : Sh := s64
end fD54
def fD54.run (N : Nat) (b : (List UInt8)) (e : Int) (jT : Bool) (jO_ : Int) (jO1 : Int) (ver : Int) (ver1 : Int) (ver2 : (List T4)) (ver3 : Int) : Option T37 :=
  obind (fC16.run N b e (16777216 : Int)) fun ((b1, e1, _), l, _) =>
    obind (fA25.run N l) fun (l1, n_, _) =>
      obind (fC1.run N b1 e1 jT (decide (n_ = (0 : Int)))) fun ((b2, e2, _), (_, _, jT1, _), _) =>
        some ((b2, e2, ()), ((), (), jT1, ()), (jO_, jO1, ver, ver1, l1, ver3, ()), ())
namespace fD54
def fn (N : Nat) : Sh.den ins → Option (Sh.den outs) := fun ((_, (a, b, _), c, _), (d, e, f, g, h, i, _), _) => fD54.run N a b c d e f g h i
def S (N : Nat) : Fs := ⟨ins, outs, fn N⟩
def lam (N : Nat) : Pcs := pcs []
theorem pok (N : Nat) : (lam N).Ok Tryz.prog (C N) code := pcsOk_nil
theorem ok (N : Nat) : (S N).con.Ok Tryz.prog 114 := okF (F := S N) [] Tryz.func114 (by kernel_rfl) (by rfl) mix (cok N) (pok N) fun _ => by kernel_rfl
end fD54
namespace fA10
def ins : Sh := (.cons (.box 47 s48) (.cons (.box 95 s57) .nil))
def C (N : Nat) : Ctx := ⟨U, 39, fun _ => true, gam [(34, (fC1.S N).con), (72, (fB31.S N).con), (113, (fD44.S N).con), (114, (fD54.S N).con)], gamY []⟩
theorem cok (N : Nat) : (C N).Ok Tryz.prog := ⟨U_ok, GamOk.cons (fC1.ok N) (GamOk.cons (fB31.ok N) (GamOk.cons (fD44.ok N) (GamOk.cons (fD54.ok N) (GamOk.nil)))), GamYOk.nil⟩
def code : Code := Tryz.f97.body.getD .skip
def outs : Sh := s64
end fA10
namespace fA21
def ins : Sh := (.cons (.box 47 s48) (.cons (.rbox 95 (.cons (.val (.int .i64)) (.cons (.val (.int .i64)) (.cons (.val (.int .u64)) (.cons (.val (.int .u32)) (.cons (.rown 133 (.pair (.int .i64) (.pair .bool (.pair (.int .i64) .str)))) (.cons (.val (.int .u64)) .nil))))))) .nil))
def ts : List Tmp := [0, 1]
def asg : List Tmp := [4, 5, 6, 7, 8, 9, 10, 11, 12, 13, 14, 15, 16, 17, 18, 19, 20]
def C (N : Nat) : Ctx := { fA10.C N with may := fun t => asg.any (Nat.beq t) }
def code : Code := (sub fA10.code [false]).getD .skip
theorem cok (N : Nat) : (C N).Ok Tryz.prog := okC (fA10.cok N) _
def alts : List Alt := [⟨.normal, [], s50⟩]
end fA21
def fA21.run (N : Nat) (b : (List UInt8)) (e : Int) (jT : Bool) (jO_ : Int) (jO1 : Int) (ver : Int) (ver1 : Int) (ver2 : (List T4)) (ver3 : Int) : Option (T28) :=
  bif decide (ver = (0 : Int)) then
    obind (fC1.run N b e jT (decide (ver3 = (0 : Int)))) fun ((b1, e1, _), (_, _, jT1, _), _) =>
      some ((b1, e1, ()), ((), (), jT1, ()), ())
  else
    obind (fC1.run N b e jT false) fun ((b2, e2, _), (_, _, jT2, _), _) =>
      some ((b2, e2, ()), ((), (), jT2, ()), ())
namespace fA21
def fn (N : Nat) : Sh.den ins → Option (altsDen alts) := fun ((_, (a, b, _), c, _), (d, e, f, g, h, i, _), _) => fA21.run N a b c d e f g h i
def P (N : Nat) : Ps := ⟨ts, ins, asg, alts, fn N⟩
def lam (N : Nat) : Pcs := pcs []
theorem pok (N : Nat) : (lam N).Ok Tryz.prog (C N) code := pcsOk_nil
theorem ok (N : Nat) : ((P N).pc (fA10.C N)).Ok Tryz.prog (fA10.C N) code := okP (F := P N) (fA10.cok N) mix (pok N) fun _ => by kernel_rfl
end fA21
def fA10.run (N : Nat) (b : (List UInt8)) (e : Int) (jT : Bool) (jO_ : Int) (jO1 : Int) (ver : Int) (ver1 : Int) (ver2 : (List T4)) (ver3 : Int) : Option T37 :=
  obind (fA21.run N b e jT jO_ jO1 ver ver1 ver2 ver3) fun ((b3, e3, _), (_, _, jT3, _), _) =>
    obind (fB31.run N b3 e3 jT3 jO_ jO1 ver ver1 ver2 ver3) fun ((b4, e4, _), (jO2, jO3, ver4, ver5, ver6, ver7, _), _) =>
      obind (fD44.run N b4 e4 jT3 jO2 jO3 ver4 ver5 ver6 ver7) fun ((b5, e5, _), (jO4, jO5, ver8, ver9, ver10, ver11, _), _) =>
        obind (fD54.run N b5 e5 jT3 jO4 jO5 ver8 ver9 ver10 ver11) fun ((b6, e6, _), (_, _, jT4, _), (jO6, jO7, ver12, ver13, ver14, ver15, _), _) =>
          some ((b6, e6, ()), ((), (), jT4, ()), (jO6, jO7, ver12, ver13, ver14, ver15, ()), ())
namespace fA10
def fn (N : Nat) : Sh.den ins → Option (Sh.den outs) := fun ((_, (a, b, _), c, _), (d, e, f, g, h, i, _), _) => fA10.run N a b c d e f g h i
def S (N : Nat) : Fs := ⟨ins, outs, fn N⟩
def lam (N : Nat) : Pcs := pcs [([false], (fA21.P N).pc (C N))]
theorem pok (N : Nat) : (lam N).Ok Tryz.prog (C N) code := pcsOk_cons (c1 := fA21.code) (by kernel_rfl) (fA21.ok N) (pcsOk_nil)
theorem ok (N : Nat) : (S N).con.Ok Tryz.prog 97 := okF (F := S N) [] Tryz.func97 (by kernel_rfl) (by rfl) mix (cok N) (pok N) fun _ => by kernel_rfl
end fA10
namespace fB7
def ins : Sh := (.cons (.box 47 s48) (.cons (.bxo 16 31 s52) s24))
def C (N : Nat) : Ctx := ⟨U, 62, fun _ => true, gam [(111, (fD0.S N).con), (112, (fA13.S N).con), (97, (fA10.S N).con)], gamY []⟩
theorem cok (N : Nat) : (C N).Ok Tryz.prog := ⟨U_ok, GamOk.cons (fD0.ok N) (GamOk.cons (fA13.ok N) (GamOk.cons (fA10.ok N) (GamOk.nil))), GamYOk.nil⟩
def code : Code := Tryz.f96.body.getD .skip
def outs : Sh := s53
end fB7
namespace fB10
def ins : Sh := (.cons (.box 47 s48) (.cons (.bxo 16 31 s52) (.cons (.fnb 1 97 (.cons (.ref 0) .nil)) (.cons (.val (.int .u64)) .nil))))
def ts : List Tmp := [0, 1, 2, 8]
def asg : List Tmp := [8, 9, 43, 44, 45, 46, 47, 48, 49, 50, 51, 52, 53, 54, 55, 56, 57, 58, 59, 60, 61]
def C (N : Nat) : Ctx := { fB7.C N with may := fun t => asg.any (Nat.beq t) }
def code : Code := loopBody (sub fB7.code [true, true, true, false])
theorem cok (N : Nat) : (C N).Ok Tryz.prog := okC (fB7.cok N) _
def alts : List Alt := [⟨(.exit 2), [], s53⟩]
end fB10
def fB10.go (N : Nat) : Nat → (List UInt8) → Int → Bool → Int → Int → Int → Int → Int → Int → Int → Int → Int → Int → Int → Bool → Bool → Bool → Int → Int → (List T7) → (List T8) → (List T6) → Int → Option (T29)
  | 0, _, _, _, _, _, _, _, _, _, _, _, _, _, _, _, _, _, _, _, _, _, _, _ => none
  | fuel + 1, b, e, jT, jA, jB_, jC_, jD, jE, jF, jG, jH, jI, jJ, jK, jL, jM, jN, jO_, jO1, jP, jP1, jQ, n_ =>
    bif decide (n_ > (0 : Int)) then
      obind (fA13.run N b e jT) fun (b1, _) =>
        bif !b1 then
          obind (fA10.run N b e jT (0 : Int) (0 : Int) (0 : Int) (0 : Int) ([] : List T4) (0 : Int)) fun ((b2, e1, _), (_, _, jT1, _), (jO2, jO3, ver, ver1, ver2, ver3, _), _) =>
            bif room (jP.length + 1) 64 then
              fB10.go N fuel b2 e1 jT1 jA jB_ jC_ jD jE jF jG jH jI jJ jK jL jM jN jO_ jO1 (jP ++ ([((jO2, jO3), (ver, ver1), ver2, ver3)] : List T7)) jP1 jQ (IntKind.u64.wrap (n_ - (1 : Int)))
            else none
        else some ((b, e, ()), ((), (), jT, ()), (jA, jB_, jC_, jD, jE, jF, jG, jH, jI, jJ, jK, jL, jM, jN, jO_, jO1, jP, jP1, jQ, ()), ())
    else some ((b, e, ()), ((), (), jT, ()), (jA, jB_, jC_, jD, jE, jF, jG, jH, jI, jJ, jK, jL, jM, jN, jO_, jO1, jP, jP1, jQ, ()), ())
namespace fB10
def g (N n : Nat) : Sh.den ins → Option (altsDen alts) := fun ((_, (a, b, _), c, _), (d, e, f, g, h, i, j, k, l, m, o, p, q, r, s, t, u, v, w, _), (_, _), x, _) => fB10.go N n a b c d e f g h i j k l m o p q r s t u v w x
def P (N : Nat) : Ps := ⟨ts, ins, asg, alts, g N N⟩
def lam (N : Nat) : Pcs := pcs []
theorem pok (N : Nat) : (lam N).Ok Tryz.prog (C N) code := pcsOk_nil
theorem ok (N : Nat) : ((P N).pc (fB7.C N)).Ok Tryz.prog (fB7.C N) (.loop code) := okL (F := P N) (g N) (fB7.cok N) mix (pok N) (fun _ => rfl) rfl fun _ _ => by kernel_rfl
end fB10
def fB7.run (N : Nat) (b : (List UInt8)) (e : Int) (jT : Bool) (jA : Int) (jB_ : Int) (jC_ : Int) (jD : Int) (jE : Int) (jF : Int) (jG : Int) (jH : Int) (jI : Int) (jJ : Int) (jK : Int) (jL : Bool) (jM : Bool) (jN : Bool) (jO_ : Int) (jO1 : Int) (jP : (List T7)) (jP1 : (List T8)) (jQ : (List T6)) : Option T29 :=
  obind (fD0.run N b e (16777216 : Int)) fun ((b1, e1, _), n_, _) =>
    obind (fB10.go N N b1 e1 jT jA jB_ jC_ jD jE jF jG jH jI jJ jK jL jM jN jO_ jO1 ([] : List T7) jP1 jQ n_) fun ((b2, e2, _), (_, _, jT1, _), (jA1, jB1, jC1, jD1, jE1, jF1, jG1, jH1, jI1, jJ1, jK1, jL1, jM1, jN1, jO2, jO3, jP2, jP3, jQ1, _), _) =>
      some ((b2, e2, ()), ((), (), jT1, ()), (jA1, jB1, jC1, jD1, jE1, jF1, jG1, jH1, jI1, jJ1, jK1, jL1, jM1, jN1, jO2, jO3, jP2, jP3, jQ1, ()), ())
namespace fB7
def fn (N : Nat) : Sh.den ins → Option (Sh.den outs) := fun ((_, (a, b, _), c, _), (d, e, f, g, h, i, j, k, l, m, o, p, q, r, s, t, u, v, w, _), (_, _), _) => fB7.run N a b c d e f g h i j k l m o p q r s t u v w
def S (N : Nat) : Fs := ⟨ins, outs, fn N⟩
def lam (N : Nat) : Pcs := pcs [([true, true, true, false], (fB10.P N).pc (C N))]
theorem pok (N : Nat) : (lam N).Ok Tryz.prog (C N) code := pcsOk_cons (c1 := .loop fB10.code) (by kernel_rfl) (fB10.ok N) (pcsOk_nil)
theorem ok (N : Nat) : (S N).con.Ok Tryz.prog 96 := okF (F := S N) [] Tryz.func96 (by kernel_rfl) (by rfl) mix (cok N) (pok N) fun _ => by kernel_rfl
end fB7
namespace fD39
def ins : Sh := s65
def C (N : Nat) : Ctx := ⟨U, 38, fun _ => true, gam [(111, (fD0.S N).con)], gamY []⟩
theorem cok (N : Nat) : (C N).Ok Tryz.prog := ⟨U_ok, GamOk.cons (fD0.ok N) (GamOk.nil), GamYOk.nil⟩
def code : Code := Tryz.f102.body.getD .skip
def outs : Sh := s66
end fD39
def fD39.run (N : Nat) (b : (List UInt8)) (e : Int) (jT : Bool) (jO_ : Int) (jO1 : Int) (id_ : Int) (id1 : Int) : Option T38 :=
  obind (fD0.run N b e (2147483647 : Int)) fun ((b1, e1, _), n_, _) =>
    some ((b1, e1, ()), (IntKind.i64.wrap n_, jO1, id_, id1, ()), ())
namespace fD39
def fn (N : Nat) : Sh.den ins → Option (Sh.den outs) := fun ((_, (a, b, _), c, _), (d, e, f, g, _), _) => fD39.run N a b c d e f g
def S (N : Nat) : Fs := ⟨ins, outs, fn N⟩
def lam (N : Nat) : Pcs := pcs []
theorem pok (N : Nat) : (lam N).Ok Tryz.prog (C N) code := pcsOk_nil
theorem ok (N : Nat) : (S N).con.Ok Tryz.prog 102 := okF (F := S N) [] Tryz.func102 (by kernel_rfl) (by rfl) mix (cok N) (pok N) fun _ => by kernel_rfl
end fD39
namespace fA40
def ins : Sh := (.cons (.rbox 47 s48) (.cons (.bxo 1 99 s26) .nil))
def C (N : Nat) : Ctx := ⟨U, 38, fun _ => true, gam [(111, (fD0.S N).con)], gamY []⟩
theorem cok (N : Nat) : (C N).Ok Tryz.prog := ⟨U_ok, GamOk.cons (fD0.ok N) (GamOk.nil), GamYOk.nil⟩
def code : Code := Tryz.f102.body.getD .skip
def outs : Sh := s66
end fA40
def fA40.run (N : Nat) (b : (List UInt8)) (e : Int) (jT : Bool) (jO_ : Int) (jO1 : Int) (id_ : Int) (id1 : Int) : Option T38 :=
  obind (fD0.run N b e (2147483647 : Int)) fun ((b1, e1, _), n_, _) =>
    some ((b1, e1, ()), (jO_, IntKind.i64.wrap n_, id_, id1, ()), ())
namespace fA40
def fn (N : Nat) : Sh.den ins → Option (Sh.den outs) := fun ((_, (a, b, _), c, _), (d, e, f, g, _), _) => fA40.run N a b c d e f g
def S (N : Nat) : Fs := ⟨ins, outs, fn N⟩
def lam (N : Nat) : Pcs := pcs []
theorem pok (N : Nat) : (lam N).Ok Tryz.prog (C N) code := pcsOk_nil
theorem ok (N : Nat) : (S N).con.Ok Tryz.prog 102 := okF (F := S N) [] Tryz.func102 (by kernel_rfl) (by rfl) mix (cok N) (pok N) fun _ => by kernel_rfl
end fA40
namespace fD30
def ins : Sh := s65
def C (N : Nat) : Ctx := ⟨U, 14, fun _ => true, gam [(102, (((fD39.S N).con).or (fA40.S N).con))], gamY []⟩
theorem cok (N : Nat) : (C N).Ok Tryz.prog := ⟨U_ok, GamOk.cons (Con.or_ok (fD39.ok N) (fA40.ok N)) (GamOk.nil), GamYOk.nil⟩
def code : Code := Tryz.f72.body.getD .skip
def outs : Sh := s66
end fD30
def fD30.run (N : Nat) (b : (List UInt8)) (e : Int) (jT : Bool) (jO_ : Int) (jO1 : Int) (id_ : Int) (id1 : Int) : Option T38 :=
  obind (fD39.run N b e jT jO_ jO1 id_ id1) fun ((b1, e1, _), (jO2, jO3, id2, id3, _), _) =>
    obind (fA40.run N b1 e1 jT jO2 jO3 id2 id3) fun ((b2, e2, _), (jO4, jO5, id4, id5, _), _) =>
      some ((b2, e2, ()), (jO4, jO5, id4, id5, ()), ())
namespace fD30
def fn (N : Nat) : Sh.den ins → Option (Sh.den outs) := fun ((_, (a, b, _), c, _), (d, e, f, g, _), _) => fD30.run N a b c d e f g
def S (N : Nat) : Fs := ⟨ins, outs, fn N⟩
def lam (N : Nat) : Pcs := pcs []
theorem pok (N : Nat) : (lam N).Ok Tryz.prog (C N) code := pcsOk_nil
theorem ok (N : Nat) : (S N).con.Ok Tryz.prog 72 := okF (F := S N) [] Tryz.func72 (by kernel_rfl) (by rfl) mix (cok N) (pok N) fun _ => by kernel_rfl
end fD30
namespace fA46
def ins : Sh := s67
def C (N : Nat) : Ctx := ⟨U, 24, fun _ => true, gam [(101, (fD1.S N).con)], gamY []⟩
theorem cok (N : Nat) : (C N).Ok Tryz.prog := ⟨U_ok, GamOk.cons (fD1.ok N) (GamOk.nil), GamYOk.nil⟩
def code : Code := Tryz.f67.body.getD .skip
def outs : Sh := s66
end fA46
def fA46.run (N : Nat) (b : (List UInt8)) (e : Int) (jT : Bool) (jO_ : Int) (jO1 : Int) (id_ : Int) (id1 : Int) : Option T38 :=
  obind (fD1.run N b e) fun ((b1, e1, _), n_, _) =>
    some ((b1, e1, ()), (jO_, jO1, n_, id1, ()), ())
namespace fA46
def fn (N : Nat) : Sh.den ins → Option (Sh.den outs) := fun ((_, (a, b, _), c, _), (d, e, f, g, _), _) => fA46.run N a b c d e f g
def S (N : Nat) : Fs := ⟨ins, outs, fn N⟩
def lam (N : Nat) : Pcs := pcs []
theorem pok (N : Nat) : (lam N).Ok Tryz.prog (C N) code := pcsOk_nil
theorem ok (N : Nat) : (S N).con.Ok Tryz.prog 67 := okF (F := S N) [] Tryz.func67 (by kernel_rfl) (by rfl) mix (cok N) (pok N) fun _ => by kernel_rfl
end fA46
namespace fA48
def ins : Sh := (.cons (.rbox 47 s48) (.cons (.bxo 3 99 s26) .nil))
def C (N : Nat) : Ctx := ⟨U, 24, fun _ => true, gam [(53, (fC4.S N).con)], gamY []⟩
theorem cok (N : Nat) : (C N).Ok Tryz.prog := ⟨U_ok, GamOk.cons (fC4.ok N) (GamOk.nil), GamYOk.nil⟩
def code : Code := Tryz.f113.body.getD .skip
def outs : Sh := s66
end fA48
def fA48.run (N : Nat) (b : (List UInt8)) (e : Int) (jT : Bool) (jO_ : Int) (jO1 : Int) (id_ : Int) (id1 : Int) : Option T38 :=
  obind (fC4.run N b e) fun ((b1, e1, _), n_, _) =>
    some ((b1, e1, ()), (jO_, jO1, id_, n_, ()), ())
namespace fA48
def fn (N : Nat) : Sh.den ins → Option (Sh.den outs) := fun ((_, (a, b, _), c, _), (d, e, f, g, _), _) => fA48.run N a b c d e f g
def S (N : Nat) : Fs := ⟨ins, outs, fn N⟩
def lam (N : Nat) : Pcs := pcs []
theorem pok (N : Nat) : (lam N).Ok Tryz.prog (C N) code := pcsOk_nil
theorem ok (N : Nat) : (S N).con.Ok Tryz.prog 113 := okF (F := S N) [] Tryz.func113 (by kernel_rfl) (by rfl) mix (cok N) (pok N) fun _ => by kernel_rfl
end fA48
namespace fA45
def ins : Sh := s67
def C (N : Nat) : Ctx := ⟨U, 14, fun _ => true, gam [(67, (fA46.S N).con), (113, (fA48.S N).con)], gamY []⟩
theorem cok (N : Nat) : (C N).Ok Tryz.prog := ⟨U_ok, GamOk.cons (fA46.ok N) (GamOk.cons (fA48.ok N) (GamOk.nil)), GamYOk.nil⟩
def code : Code := Tryz.f115.body.getD .skip
def outs : Sh := s66
end fA45
def fA45.run (N : Nat) (b : (List UInt8)) (e : Int) (jT : Bool) (jO_ : Int) (jO1 : Int) (id_ : Int) (id1 : Int) : Option T38 :=
  obind (fA46.run N b e jT jO_ jO1 id_ id1) fun ((b1, e1, _), (jO2, jO3, id2, id3, _), _) =>
    obind (fA48.run N b1 e1 jT jO2 jO3 id2 id3) fun ((b2, e2, _), (jO4, jO5, id4, id5, _), _) =>
      some ((b2, e2, ()), (jO4, jO5, id4, id5, ()), ())
namespace fA45
def fn (N : Nat) : Sh.den ins → Option (Sh.den outs) := fun ((_, (a, b, _), c, _), (d, e, f, g, _), _) => fA45.run N a b c d e f g
def S (N : Nat) : Fs := ⟨ins, outs, fn N⟩
def lam (N : Nat) : Pcs := pcs []
theorem pok (N : Nat) : (lam N).Ok Tryz.prog (C N) code := pcsOk_nil
theorem ok (N : Nat) : (S N).con.Ok Tryz.prog 115 := okF (F := S N) [] Tryz.func115 (by kernel_rfl) (by rfl) mix (cok N) (pok N) fun _ => by kernel_rfl
end fA45
namespace fD31
def ins : Sh := s65
def C (N : Nat) : Ctx := ⟨U, 14, fun _ => true, gam [(72, (fD30.S N).con), (115, (fA45.S N).con)], gamY []⟩
theorem cok (N : Nat) : (C N).Ok Tryz.prog := ⟨U_ok, GamOk.cons (fD30.ok N) (GamOk.cons (fA45.ok N) (GamOk.nil)), GamYOk.nil⟩
def code : Code := Tryz.f99.body.getD .skip
def outs : Sh := s66
end fD31
def fD31.run (N : Nat) (b : (List UInt8)) (e : Int) (jT : Bool) (jO_ : Int) (jO1 : Int) (id_ : Int) (id1 : Int) : Option T38 :=
  obind (fD30.run N b e jT jO_ jO1 id_ id1) fun ((b1, e1, _), (jO2, jO3, id2, id3, _), _) =>
    obind (fA45.run N b1 e1 jT jO2 jO3 id2 id3) fun ((b2, e2, _), (jO4, jO5, id4, id5, _), _) =>
      some ((b2, e2, ()), (jO4, jO5, id4, id5, ()), ())
namespace fD31
def fn (N : Nat) : Sh.den ins → Option (Sh.den outs) := fun ((_, (a, b, _), c, _), (d, e, f, g, _), _) => fD31.run N a b c d e f g
def S (N : Nat) : Fs := ⟨ins, outs, fn N⟩
def lam (N : Nat) : Pcs := pcs []
theorem pok (N : Nat) : (lam N).Ok Tryz.prog (C N) code := pcsOk_nil
theorem ok (N : Nat) : (S N).con.Ok Tryz.prog 99 := okF (F := S N) [] Tryz.func99 (by kernel_rfl) (by rfl) mix (cok N) (pok N) fun _ => by kernel_rfl
end fD31
namespace fA8
def ins : Sh := (.cons (.rbox 47 s48) (.cons (.bxo 17 31 s52) s31))
def C (N : Nat) : Ctx := ⟨U, 62, fun _ => true, gam [(111, (fD0.S N).con), (112, (fA13.S N).con), (99, (fD31.S N).con)], gamY []⟩
theorem cok (N : Nat) : (C N).Ok Tryz.prog := ⟨U_ok, GamOk.cons (fD0.ok N) (GamOk.cons (fA13.ok N) (GamOk.cons (fD31.ok N) (GamOk.nil))), GamYOk.nil⟩
def code : Code := Tryz.f98.body.getD .skip
def outs : Sh := s54
end fA8
namespace fB11
def ins : Sh := (.cons (.rbox 47 s48) (.cons (.bxo 17 31 s52) (.cons (.fnb 1 99 (.cons (.ref 0) .nil)) (.cons (.val (.int .u64)) .nil))))
def ts : List Tmp := [0, 1, 2, 8]
def asg : List Tmp := [8, 9, 43, 44, 45, 46, 47, 48, 49, 50, 51, 52, 53, 54, 55, 56, 57, 58, 59, 60, 61]
def C (N : Nat) : Ctx := { fA8.C N with may := fun t => asg.any (Nat.beq t) }
def code : Code := loopBody (sub fA8.code [true, true, true, false])
theorem cok (N : Nat) : (C N).Ok Tryz.prog := okC (fA8.cok N) _
def alts : List Alt := [⟨(.exit 2), [], s54⟩]
end fB11
def fB11.go (N : Nat) : Nat → (List UInt8) → Int → Bool → Int → Int → Int → Int → Int → Int → Int → Int → Int → Int → Int → Bool → Bool → Bool → Int → Int → (List T7) → (List T8) → (List T6) → Int → Option (T30)
  | 0, _, _, _, _, _, _, _, _, _, _, _, _, _, _, _, _, _, _, _, _, _, _, _ => none
  | fuel + 1, b, e, jT, jA, jB_, jC_, jD, jE, jF, jG, jH, jI, jJ, jK, jL, jM, jN, jO_, jO1, jP, jP1, jQ, n_ =>
    bif decide (n_ > (0 : Int)) then
      obind (fA13.run N b e jT) fun (b1, _) =>
        bif !b1 then
          obind (fD31.run N b e jT (0 : Int) (0 : Int) (0 : Int) (0 : Int)) fun ((b2, e1, _), (jO2, jO3, id_, id1, _), _) =>
            bif room (jP1.length + 1) 32 then
              fB11.go N fuel b2 e1 jT jA jB_ jC_ jD jE jF jG jH jI jJ jK jL jM jN jO_ jO1 jP (jP1 ++ ([((jO2, jO3), id_, id1)] : List T8)) jQ (IntKind.u64.wrap (n_ - (1 : Int)))
            else none
        else some ((b, e, ()), (jA, jB_, jC_, jD, jE, jF, jG, jH, jI, jJ, jK, jL, jM, jN, jO_, jO1, jP, jP1, jQ, ()), ())
    else some ((b, e, ()), (jA, jB_, jC_, jD, jE, jF, jG, jH, jI, jJ, jK, jL, jM, jN, jO_, jO1, jP, jP1, jQ, ()), ())
namespace fB11
def g (N n : Nat) : Sh.den ins → Option (altsDen alts) := fun ((_, (a, b, _), c, _), (d, e, f, g, h, i, j, k, l, m, o, p, q, r, s, t, u, v, w, _), (_, _), x, _) => fB11.go N n a b c d e f g h i j k l m o p q r s t u v w x
def P (N : Nat) : Ps := ⟨ts, ins, asg, alts, g N N⟩
def lam (N : Nat) : Pcs := pcs []
theorem pok (N : Nat) : (lam N).Ok Tryz.prog (C N) code := pcsOk_nil
theorem ok (N : Nat) : ((P N).pc (fA8.C N)).Ok Tryz.prog (fA8.C N) (.loop code) := okL (F := P N) (g N) (fA8.cok N) mix (pok N) (fun _ => rfl) rfl fun _ _ => by kernel_rfl
end fB11
def fA8.run (N : Nat) (b : (List UInt8)) (e : Int) (jT : Bool) (jA : Int) (jB_ : Int) (jC_ : Int) (jD : Int) (jE : Int) (jF : Int) (jG : Int) (jH : Int) (jI : Int) (jJ : Int) (jK : Int) (jL : Bool) (jM : Bool) (jN : Bool) (jO_ : Int) (jO1 : Int) (jP : (List T7)) (jP1 : (List T8)) (jQ : (List T6)) : Option T30 :=
  obind (fD0.run N b e (16777216 : Int)) fun ((b1, e1, _), n_, _) =>
    obind (fB11.go N N b1 e1 jT jA jB_ jC_ jD jE jF jG jH jI jJ jK jL jM jN jO_ jO1 jP ([] : List T8) jQ n_) fun ((b2, e2, _), (jA1, jB1, jC1, jD1, jE1, jF1, jG1, jH1, jI1, jJ1, jK1, jL1, jM1, jN1, jO2, jO3, jP2, jP3, jQ1, _), _) =>
      some ((b2, e2, ()), (jA1, jB1, jC1, jD1, jE1, jF1, jG1, jH1, jI1, jJ1, jK1, jL1, jM1, jN1, jO2, jO3, jP2, jP3, jQ1, ()), ())
namespace fA8
def fn (N : Nat) : Sh.den ins → Option (Sh.den outs) := fun ((_, (a, b, _), c, _), (d, e, f, g, h, i, j, k, l, m, o, p, q, r, s, t, u, v, w, _), (_, _), _) => fA8.run N a b c d e f g h i j k l m o p q r s t u v w
def S (N : Nat) : Fs := ⟨ins, outs, fn N⟩
def lam (N : Nat) : Pcs := pcs [([true, true, true, false], (fB11.P N).pc (C N))]
theorem pok (N : Nat) : (lam N).Ok Tryz.prog (C N) code := pcsOk_cons (c1 := .loop fB11.code) (by kernel_rfl) (fB11.ok N) (pcsOk_nil)
theorem ok (N : Nat) : (S N).con.Ok Tryz.prog 98 := okF (F := S N) [] Tryz.func98 (by kernel_rfl) (by rfl) mix (cok N) (pok N) fun _ => by kernel_rfl
end fA8
namespace fC43
def ins : Sh := (.cons (.box 47 s48) (.cons (.bxo 16 31 s52) .nil))
def C (N : Nat) : Ctx := ⟨U, 18, fun _ => true, gam [(96, (fB7.S N).con), (98, (fA8.S N).con)], gamY []⟩
theorem cok (N : Nat) : (C N).Ok Tryz.prog := ⟨U_ok, GamOk.cons (fB7.ok N) (GamOk.cons (fA8.ok N) (GamOk.nil)), GamYOk.nil⟩
def code : Code := Tryz.f65.body.getD .skip
def outs : Sh := s53
end fC43
def fC43.run (N : Nat) (b : (List UInt8)) (e : Int) (jT : Bool) (jA : Int) (jB_ : Int) (jC_ : Int) (jD : Int) (jE : Int) (jF : Int) (jG : Int) (jH : Int) (jI : Int) (jJ : Int) (jK : Int) (jL : Bool) (jM : Bool) (jN : Bool) (jO_ : Int) (jO1 : Int) (jP : (List T7)) (jP1 : (List T8)) (jQ : (List T6)) : Option T29 :=
  obind (fB7.run N b e jT jA jB_ jC_ jD jE jF jG jH jI jJ jK jL jM jN jO_ jO1 jP jP1 jQ) fun ((b1, e1, _), (_, _, jT1, _), (jA1, jB1, jC1, jD1, jE1, jF1, jG1, jH1, jI1, jJ1, jK1, jL1, jM1, jN1, jO2, jO3, jP2, jP3, jQ1, _), _) =>
    obind (fA8.run N b1 e1 jT1 jA1 jB1 jC1 jD1 jE1 jF1 jG1 jH1 jI1 jJ1 jK1 jL1 jM1 jN1 jO2 jO3 jP2 jP3 jQ1) fun ((b2, e2, _), (jA2, jB2, jC2, jD2, jE2, jF2, jG2, jH2, jI2, jJ2, jK2, jL2, jM2, jN2, jO4, jO5, jP4, jP5, jQ2, _), _) =>
      some ((b2, e2, ()), ((), (), jT1, ()), (jA2, jB2, jC2, jD2, jE2, jF2, jG2, jH2, jI2, jJ2, jK2, jL2, jM2, jN2, jO4, jO5, jP4, jP5, jQ2, ()), ())
namespace fC43
def fn (N : Nat) : Sh.den ins → Option (Sh.den outs) := fun ((_, (a, b, _), c, _), (d, e, f, g, h, i, j, k, l, m, o, p, q, r, s, t, u, v, w, _), _) => fC43.run N a b c d e f g h i j k l m o p q r s t u v w
def S (N : Nat) : Fs := ⟨ins, outs, fn N⟩
def lam (N : Nat) : Pcs := pcs []
theorem pok (N : Nat) : (lam N).Ok Tryz.prog (C N) code := pcsOk_nil
theorem ok (N : Nat) : (S N).con.Ok Tryz.prog 65 := okF (F := S N) [] Tryz.func65 (by kernel_rfl) (by rfl) mix (cok N) (pok N) fun _ => by kernel_rfl
end fC43
namespace fD23
def ins : Sh := s69
def C (N : Nat) : Ctx := ⟨U, 16, fun _ => true, gam [(64, (fB41.S N).con), (65, (fC43.S N).con)], gamY []⟩
theorem cok (N : Nat) : (C N).Ok Tryz.prog := ⟨U_ok, GamOk.cons (fB41.ok N) (GamOk.cons (fC43.ok N) (GamOk.nil)), GamYOk.nil⟩
def code : Code := Tryz.f63.body.getD .skip
def outs : Sh := s70
end fD23
def fD23.run (N : Nat) (b : (List UInt8)) (e : Int) (jT : Bool) (jA : Int) (jB_ : Int) (jC_ : Int) (jD : Int) (jE : Int) (jF : Int) (jG : Int) (jH : Int) (jI : Int) (jJ : Int) (jK : Int) (jL : Bool) (jM : Bool) (jN : Bool) (jO_ : Int) (jO1 : Int) (jP : (List T7)) (jP1 : (List T8)) (jQ : (List T6)) : Option T29 :=
  obind (fB41.run N b e jT jA jB_ jC_ jD jE jF jG jH jI jJ jK jL jM jN jO_ jO1 jP jP1 jQ) fun ((b1, e1, _), (jA1, jB1, jC1, jD1, jE1, jF1, jG1, jH1, jI1, jJ1, jK1, jL1, jM1, jN1, jO2, jO3, jP2, jP3, jQ1, _), _) =>
    obind (fC43.run N b1 e1 jT jA1 jB1 jC1 jD1 jE1 jF1 jG1 jH1 jI1 jJ1 jK1 jL1 jM1 jN1 jO2 jO3 jP2 jP3 jQ1) fun ((b2, e2, _), (_, _, jT1, _), (jA2, jB2, jC2, jD2, jE2, jF2, jG2, jH2, jI2, jJ2, jK2, jL2, jM2, jN2, jO4, jO5, jP4, jP5, jQ2, _), _) =>
      some ((b2, e2, ()), ((), (), jT1, ()), (jA2, jB2, jC2, jD2, jE2, jF2, jG2, jH2, jI2, jJ2, jK2, jL2, jM2, jN2, jO4, jO5, jP4, jP5, jQ2, ()), ())
namespace fD23
def fn (N : Nat) : Sh.den ins → Option (Sh.den outs) := fun (((_, (a, b, _), c, _), _), ((d, e, f, g, h, i, j, k, l, m, o, p, q, r, s, t, u, v, w, _), _), _) => fD23.run N a b c d e f g h i j k l m o p q r s t u v w
def S (N : Nat) : Fs := ⟨ins, outs, fn N⟩
def lam (N : Nat) : Pcs := pcs []
theorem pok (N : Nat) : (lam N).Ok Tryz.prog (C N) code := pcsOk_nil
theorem ok (N : Nat) : (S N).con.Ok Tryz.prog 63 := okF (F := S N) [] Tryz.func63 (by kernel_rfl) (by rfl) mix (cok N) (pok N) fun _ => by kernel_rfl
end fD23
namespace fB9
def ins : Sh := (.cons (.box 47 s48) (.cons (.box 3 (.cons (.val (.int .i64)) .nil)) (.cons (.val (.int .i64)) .nil)))
def C (N : Nat) : Ctx := ⟨U, 41, fun _ => true, gam [(62, (fC5.S N).con), (34, (fC1.S N).con)], gamY []⟩
theorem cok (N : Nat) : (C N).Ok Tryz.prog := ⟨U_ok, GamOk.cons (fC5.ok N) (GamOk.cons (fC1.ok N) (GamOk.nil)), GamYOk.nil⟩
def code : Code := Tryz.f32.body.getD .skip
def outs : Sh := (.cons (.upd 1 83 s44) (.cons (.upd 0 47 s49) (.cons (.upd 2 3 (.cons (.val (.int .i64)) .nil)) .nil)))
end fB9
def fB9.run (N : Nat) (b : (List UInt8)) (e : Int) (jT : Bool) (n_ : Int) (most : Int) : Option T39 :=
  obind (fC5.run N b e) fun ((b1, e1, _), n1, _) =>
    bif decide ((IntKind.i64.wrap (n1.toNat : Int)) ≥ (0 : Int)) then
      obind (fC1.run N b1 e1 jT (decide ((IntKind.i64.wrap (n1.toNat : Int)) ≤ most))) fun ((b2, e2, _), (_, _, jT1, _), _) =>
        some ((b2, e2, ()), ((), (), jT1, ()), (IntKind.i64.wrap (n1.toNat : Int), ()), ())
    else
      obind (fC1.run N b1 e1 jT false) fun ((b3, e3, _), (_, _, jT2, _), _) =>
        some ((b3, e3, ()), ((), (), jT2, ()), (IntKind.i64.wrap (n1.toNat : Int), ()), ())
namespace fB9
def fn (N : Nat) : Sh.den ins → Option (Sh.den outs) := fun ((_, (a, b, _), c, _), (d, _), e, _) => fB9.run N a b c d e
def S (N : Nat) : Fs := ⟨ins, outs, fn N⟩
def lam (N : Nat) : Pcs := pcs []
theorem pok (N : Nat) : (lam N).Ok Tryz.prog (C N) code := pcsOk_nil
theorem ok (N : Nat) : (S N).con.Ok Tryz.prog 32 := okF (F := S N) [] Tryz.func32 (by kernel_rfl) (by rfl) mix (cok N) (pok N) fun _ => by kernel_rfl
end fB9
namespace fB38
def ins : Sh := (.cons (.box 47 s48) (.cons (.bxo 11 31 s52) .nil))
def C (N : Nat) : Ctx := ⟨U, 14, fun _ => true, gam [(32, (fB9.S N).con)], gamY []⟩
theorem cok (N : Nat) : (C N).Ok Tryz.prog := ⟨U_ok, GamOk.cons (fB9.ok N) (GamOk.nil), GamYOk.nil⟩
def code : Code := Tryz.f68.body.getD .skip
def outs : Sh := s53
end fB38
def fB38.run (N : Nat) (b : (List UInt8)) (e : Int) (jT : Bool) (jA : Int) (jB_ : Int) (jC_ : Int) (jD : Int) (jE : Int) (jF : Int) (jG : Int) (jH : Int) (jI : Int) (jJ : Int) (jK : Int) (jL : Bool) (jM : Bool) (jN : Bool) (jO_ : Int) (jO1 : Int) (jP : (List T7)) (jP1 : (List T8)) (jQ : (List T6)) : Option T29 :=
  bif jL then
    obind (fB9.run N b e jT (1 : Int) (1 : Int)) fun ((b1, e1, _), (_, _, jT1, _), (v, _), _) =>
      some ((b1, e1, ()), ((), (), jT1, ()), (jA, jB_, jC_, jD, jE, jF, jG, jH, jI, jJ, jK, decide (v = (1 : Int)), jM, jN, jO_, jO1, jP, jP1, jQ, ()), ())
  else
    obind (fB9.run N b e jT (0 : Int) (1 : Int)) fun ((b2, e2, _), (_, _, jT2, _), (v1, _), _) =>
      some ((b2, e2, ()), ((), (), jT2, ()), (jA, jB_, jC_, jD, jE, jF, jG, jH, jI, jJ, jK, decide (v1 = (1 : Int)), jM, jN, jO_, jO1, jP, jP1, jQ, ()), ())
namespace fB38
def fn (N : Nat) : Sh.den ins → Option (Sh.den outs) := fun ((_, (a, b, _), c, _), (d, e, f, g, h, i, j, k, l, m, o, p, q, r, s, t, u, v, w, _), _) => fB38.run N a b c d e f g h i j k l m o p q r s t u v w
def S (N : Nat) : Fs := ⟨ins, outs, fn N⟩
def lam (N : Nat) : Pcs := pcs []
theorem pok (N : Nat) : (lam N).Ok Tryz.prog (C N) code := pcsOk_nil
theorem ok (N : Nat) : (S N).con.Ok Tryz.prog 68 := okF (F := S N) [] Tryz.func68 (by kernel_rfl) (by rfl) mix (cok N) (pok N) fun _ => by kernel_rfl
end fB38
namespace fC23
def ins : Sh := s69
def C (N : Nat) : Ctx := ⟨U, 12, fun _ => true, gam [(67, (fC13.S N).con), (68, (fB38.S N).con)], gamY []⟩
theorem cok (N : Nat) : (C N).Ok Tryz.prog := ⟨U_ok, GamOk.cons (fC13.ok N) (GamOk.cons (fB38.ok N) (GamOk.nil)), GamYOk.nil⟩
def code : Code := Tryz.f66.body.getD .skip
def outs : Sh := s70
end fC23
def fC23.run (N : Nat) (b : (List UInt8)) (e : Int) (jT : Bool) (jA : Int) (jB_ : Int) (jC_ : Int) (jD : Int) (jE : Int) (jF : Int) (jG : Int) (jH : Int) (jI : Int) (jJ : Int) (jK : Int) (jL : Bool) (jM : Bool) (jN : Bool) (jO_ : Int) (jO1 : Int) (jP : (List T7)) (jP1 : (List T8)) (jQ : (List T6)) : Option T29 :=
  obind (fC13.run N b e jT jA jB_ jC_ jD jE jF jG jH jI jJ jK jL jM jN jO_ jO1 jP jP1 jQ) fun ((b1, e1, _), (jA1, jB1, jC1, jD1, jE1, jF1, jG1, jH1, jI1, jJ1, jK1, jL1, jM1, jN1, jO2, jO3, jP2, jP3, jQ1, _), _) =>
    obind (fB38.run N b1 e1 jT jA1 jB1 jC1 jD1 jE1 jF1 jG1 jH1 jI1 jJ1 jK1 jL1 jM1 jN1 jO2 jO3 jP2 jP3 jQ1) fun ((b2, e2, _), (_, _, jT1, _), (jA2, jB2, jC2, jD2, jE2, jF2, jG2, jH2, jI2, jJ2, jK2, jL2, jM2, jN2, jO4, jO5, jP4, jP5, jQ2, _), _) =>
      some ((b2, e2, ()), ((), (), jT1, ()), (jA2, jB2, jC2, jD2, jE2, jF2, jG2, jH2, jI2, jJ2, jK2, jL2, jM2, jN2, jO4, jO5, jP4, jP5, jQ2, ()), ())
namespace fC23
def fn (N : Nat) : Sh.den ins → Option (Sh.den outs) := fun (((_, (a, b, _), c, _), _), ((d, e, f, g, h, i, j, k, l, m, o, p, q, r, s, t, u, v, w, _), _), _) => fC23.run N a b c d e f g h i j k l m o p q r s t u v w
def S (N : Nat) : Fs := ⟨ins, outs, fn N⟩
def lam (N : Nat) : Pcs := pcs []
theorem pok (N : Nat) : (lam N).Ok Tryz.prog (C N) code := pcsOk_nil
theorem ok (N : Nat) : (S N).con.Ok Tryz.prog 66 := okF (F := S N) [] Tryz.func66 (by kernel_rfl) (by rfl) mix (cok N) (pok N) fun _ => by kernel_rfl
end fC23
namespace fD4
def ins : Sh := (.cons (.rbox 47 s48) (.cons (.bxo 5 31 s52) .nil))
def C (N : Nat) : Ctx := ⟨U, 24, fun _ => true, gam [(101, (fD1.S N).con)], gamY []⟩
theorem cok (N : Nat) : (C N).Ok Tryz.prog := ⟨U_ok, GamOk.cons (fD1.ok N) (GamOk.nil), GamYOk.nil⟩
def code : Code := Tryz.f67.body.getD .skip
def outs : Sh := s54
end fD4
def fD4.run (N : Nat) (b : (List UInt8)) (e : Int) (jT : Bool) (jA : Int) (jB_ : Int) (jC_ : Int) (jD : Int) (jE : Int) (jF : Int) (jG : Int) (jH : Int) (jI : Int) (jJ : Int) (jK : Int) (jL : Bool) (jM : Bool) (jN : Bool) (jO_ : Int) (jO1 : Int) (jP : (List T7)) (jP1 : (List T8)) (jQ : (List T6)) : Option T30 :=
  obind (fD1.run N b e) fun ((b1, e1, _), n_, _) =>
    some ((b1, e1, ()), (jA, jB_, jC_, jD, jE, n_, jG, jH, jI, jJ, jK, jL, jM, jN, jO_, jO1, jP, jP1, jQ, ()), ())
namespace fD4
def fn (N : Nat) : Sh.den ins → Option (Sh.den outs) := fun ((_, (a, b, _), c, _), (d, e, f, g, h, i, j, k, l, m, o, p, q, r, s, t, u, v, w, _), _) => fD4.run N a b c d e f g h i j k l m o p q r s t u v w
def S (N : Nat) : Fs := ⟨ins, outs, fn N⟩
def lam (N : Nat) : Pcs := pcs []
theorem pok (N : Nat) : (lam N).Ok Tryz.prog (C N) code := pcsOk_nil
theorem ok (N : Nat) : (S N).con.Ok Tryz.prog 67 := okF (F := S N) [] Tryz.func67 (by kernel_rfl) (by rfl) mix (cok N) (pok N) fun _ => by kernel_rfl
end fD4
namespace fA39
def ins : Sh := (.cons (.rbox 47 s48) (.cons (.els 1 2 (.cons (.bxo 5 31 s52) (.cons (.refo 2 3) .nil))) .nil))
def C (N : Nat) : Ctx := ⟨U, 16, fun _ => true, gam [(67, (((fC13.S N).con).or (fD4.S N).con))], gamY []⟩
theorem cok (N : Nat) : (C N).Ok Tryz.prog := ⟨U_ok, GamOk.cons (Con.or_ok (fC13.ok N) (fD4.ok N)) (GamOk.nil), GamYOk.nil⟩
def code : Code := Tryz.f64.body.getD .skip
def outs : Sh := s54
end fA39
def fA39.run (N : Nat) (b : (List UInt8)) (e : Int) (jT : Bool) (jA : Int) (jB_ : Int) (jC_ : Int) (jD : Int) (jE : Int) (jF : Int) (jG : Int) (jH : Int) (jI : Int) (jJ : Int) (jK : Int) (jL : Bool) (jM : Bool) (jN : Bool) (jO_ : Int) (jO1 : Int) (jP : (List T7)) (jP1 : (List T8)) (jQ : (List T6)) : Option T30 :=
  obind (fD4.run N b e jT jA jB_ jC_ jD jE jF jG jH jI jJ jK jL jM jN jO_ jO1 jP jP1 jQ) fun ((b1, e1, _), (jA1, jB1, jC1, jD1, jE1, jF1, jG1, jH1, jI1, jJ1, jK1, jL1, jM1, jN1, jO2, jO3, jP2, jP3, jQ1, _), _) =>
    obind (fC13.run N b1 e1 jT jA1 jB1 jC1 jD1 jE1 jF1 jG1 jH1 jI1 jJ1 jK1 jL1 jM1 jN1 jO2 jO3 jP2 jP3 jQ1) fun ((b2, e2, _), (jA2, jB2, jC2, jD2, jE2, jF2, jG2, jH2, jI2, jJ2, jK2, jL2, jM2, jN2, jO4, jO5, jP4, jP5, jQ2, _), _) =>
      some ((b2, e2, ()), (jA2, jB2, jC2, jD2, jE2, jF2, jG2, jH2, jI2, jJ2, jK2, jL2, jM2, jN2, jO4, jO5, jP4, jP5, jQ2, ()), ())
namespace fA39
def fn (N : Nat) : Sh.den ins → Option (Sh.den outs) := fun ((_, (a, b, _), c, _), ((d, e, f, g, h, i, j, k, l, m, o, p, q, r, s, t, u, v, w, _), _, _), _) => fA39.run N a b c d e f g h i j k l m o p q r s t u v w
def S (N : Nat) : Fs := ⟨ins, outs, fn N⟩
def lam (N : Nat) : Pcs := pcs [([true, false], (Pc.unroll (C N) (loopBody (sub code [true, false])) (pcs []) 3))]
theorem pok (N : Nat) : (lam N).Ok Tryz.prog (C N) code := pcsOk_cons (c1 := .loop (loopBody (sub code [true, false]))) (by kernel_rfl) (unroll_ok (cok N) mix pcsOk_nil 3) (pcsOk_nil)
theorem ok (N : Nat) : (S N).con.Ok Tryz.prog 64 := okF (F := S N) [] Tryz.func64 (by kernel_rfl) (by rfl) mix (cok N) (pok N) fun _ => by kernel_rfl
end fA39
namespace fD24
def ins : Sh := s71
def C (N : Nat) : Ctx := ⟨U, 11, fun _ => true, gam [(64, (fA39.S N).con)], gamY []⟩
theorem cok (N : Nat) : (C N).Ok Tryz.prog := ⟨U_ok, GamOk.cons (fA39.ok N) (GamOk.nil), GamYOk.nil⟩
def code : Code := Tryz.f69.body.getD .skip
def outs : Sh := s72
end fD24
def fD24.run (N : Nat) (b : (List UInt8)) (e : Int) (jT : Bool) (jA : Int) (jB_ : Int) (jC_ : Int) (jD : Int) (jE : Int) (jF : Int) (jG : Int) (jH : Int) (jI : Int) (jJ : Int) (jK : Int) (jL : Bool) (jM : Bool) (jN : Bool) (jO_ : Int) (jO1 : Int) (jP : (List T7)) (jP1 : (List T8)) (jQ : (List T6)) : Option T30 :=
  obind (fA39.run N b e jT jA jB_ jC_ jD jE jF jG jH jI jJ jK jL jM jN jO_ jO1 jP jP1 jQ) fun ((b1, e1, _), (jA1, jB1, jC1, jD1, jE1, jF1, jG1, jH1, jI1, jJ1, jK1, jL1, jM1, jN1, jO2, jO3, jP2, jP3, jQ1, _), _) =>
    some ((b1, e1, ()), (jA1, jB1, jC1, jD1, jE1, jF1, jG1, jH1, jI1, jJ1, jK1, jL1, jM1, jN1, jO2, jO3, jP2, jP3, jQ1, ()), ())
namespace fD24
def fn (N : Nat) : Sh.den ins → Option (Sh.den outs) := fun (((_, (a, b, _), c, _), _), ((d, e, f, g, h, i, j, k, l, m, o, p, q, r, s, t, u, v, w, _), _), _) => fD24.run N a b c d e f g h i j k l m o p q r s t u v w
def S (N : Nat) : Fs := ⟨ins, outs, fn N⟩
def lam (N : Nat) : Pcs := pcs []
theorem pok (N : Nat) : (lam N).Ok Tryz.prog (C N) code := pcsOk_nil
theorem ok (N : Nat) : (S N).con.Ok Tryz.prog 69 := okF (F := S N) [] Tryz.func69 (by kernel_rfl) (by rfl) mix (cok N) (pok N) fun _ => by kernel_rfl
end fD24
namespace fC12
def ins : Sh := (.cons (.rbox 47 s48) (.cons (.bxo 7 31 s52) .nil))
def C (N : Nat) : Ctx := ⟨U, 24, fun _ => true, gam [(101, (fD1.S N).con)], gamY []⟩
theorem cok (N : Nat) : (C N).Ok Tryz.prog := ⟨U_ok, GamOk.cons (fD1.ok N) (GamOk.nil), GamYOk.nil⟩
def code : Code := Tryz.f67.body.getD .skip
def outs : Sh := s54
end fC12
def fC12.run (N : Nat) (b : (List UInt8)) (e : Int) (jT : Bool) (jA : Int) (jB_ : Int) (jC_ : Int) (jD : Int) (jE : Int) (jF : Int) (jG : Int) (jH : Int) (jI : Int) (jJ : Int) (jK : Int) (jL : Bool) (jM : Bool) (jN : Bool) (jO_ : Int) (jO1 : Int) (jP : (List T7)) (jP1 : (List T8)) (jQ : (List T6)) : Option T30 :=
  obind (fD1.run N b e) fun ((b1, e1, _), n_, _) =>
    some ((b1, e1, ()), (jA, jB_, jC_, jD, jE, jF, jG, n_, jI, jJ, jK, jL, jM, jN, jO_, jO1, jP, jP1, jQ, ()), ())
namespace fC12
def fn (N : Nat) : Sh.den ins → Option (Sh.den outs) := fun ((_, (a, b, _), c, _), (d, e, f, g, h, i, j, k, l, m, o, p, q, r, s, t, u, v, w, _), _) => fC12.run N a b c d e f g h i j k l m o p q r s t u v w
def S (N : Nat) : Fs := ⟨ins, outs, fn N⟩
def lam (N : Nat) : Pcs := pcs []
theorem pok (N : Nat) : (lam N).Ok Tryz.prog (C N) code := pcsOk_nil
theorem ok (N : Nat) : (S N).con.Ok Tryz.prog 67 := okF (F := S N) [] Tryz.func67 (by kernel_rfl) (by rfl) mix (cok N) (pok N) fun _ => by kernel_rfl
end fC12
namespace fB40
def ins : Sh := (.cons (.rbox 47 s48) (.cons (.els 1 2 (.cons (.bxo 5 31 s52) (.cons (.refo 2 7) .nil))) .nil))
def C (N : Nat) : Ctx := ⟨U, 16, fun _ => true, gam [(67, (((fD4.S N).con).or (fC12.S N).con))], gamY []⟩
theorem cok (N : Nat) : (C N).Ok Tryz.prog := ⟨U_ok, GamOk.cons (Con.or_ok (fD4.ok N) (fC12.ok N)) (GamOk.nil), GamYOk.nil⟩
def code : Code := Tryz.f64.body.getD .skip
def outs : Sh := s54
end fB40
def fB40.run (N : Nat) (b : (List UInt8)) (e : Int) (jT : Bool) (jA : Int) (jB_ : Int) (jC_ : Int) (jD : Int) (jE : Int) (jF : Int) (jG : Int) (jH : Int) (jI : Int) (jJ : Int) (jK : Int) (jL : Bool) (jM : Bool) (jN : Bool) (jO_ : Int) (jO1 : Int) (jP : (List T7)) (jP1 : (List T8)) (jQ : (List T6)) : Option T30 :=
  obind (fD4.run N b e jT jA jB_ jC_ jD jE jF jG jH jI jJ jK jL jM jN jO_ jO1 jP jP1 jQ) fun ((b1, e1, _), (jA1, jB1, jC1, jD1, jE1, jF1, jG1, jH1, jI1, jJ1, jK1, jL1, jM1, jN1, jO2, jO3, jP2, jP3, jQ1, _), _) =>
    obind (fC12.run N b1 e1 jT jA1 jB1 jC1 jD1 jE1 jF1 jG1 jH1 jI1 jJ1 jK1 jL1 jM1 jN1 jO2 jO3 jP2 jP3 jQ1) fun ((b2, e2, _), (jA2, jB2, jC2, jD2, jE2, jF2, jG2, jH2, jI2, jJ2, jK2, jL2, jM2, jN2, jO4, jO5, jP4, jP5, jQ2, _), _) =>
      some ((b2, e2, ()), (jA2, jB2, jC2, jD2, jE2, jF2, jG2, jH2, jI2, jJ2, jK2, jL2, jM2, jN2, jO4, jO5, jP4, jP5, jQ2, ()), ())
namespace fB40
def fn (N : Nat) : Sh.den ins → Option (Sh.den outs) := fun ((_, (a, b, _), c, _), ((d, e, f, g, h, i, j, k, l, m, o, p, q, r, s, t, u, v, w, _), _, _), _) => fB40.run N a b c d e f g h i j k l m o p q r s t u v w
def S (N : Nat) : Fs := ⟨ins, outs, fn N⟩
def lam (N : Nat) : Pcs := pcs [([true, false], (Pc.unroll (C N) (loopBody (sub code [true, false])) (pcs []) 3))]
theorem pok (N : Nat) : (lam N).Ok Tryz.prog (C N) code := pcsOk_cons (c1 := .loop (loopBody (sub code [true, false]))) (by kernel_rfl) (unroll_ok (cok N) mix pcsOk_nil 3) (pcsOk_nil)
theorem ok (N : Nat) : (S N).con.Ok Tryz.prog 64 := okF (F := S N) [] Tryz.func64 (by kernel_rfl) (by rfl) mix (cok N) (pok N) fun _ => by kernel_rfl
end fB40
namespace fA24
def ins : Sh := s71
def C (N : Nat) : Ctx := ⟨U, 11, fun _ => true, gam [(64, (fB40.S N).con)], gamY []⟩
theorem cok (N : Nat) : (C N).Ok Tryz.prog := ⟨U_ok, GamOk.cons (fB40.ok N) (GamOk.nil), GamYOk.nil⟩
def code : Code := Tryz.f70.body.getD .skip
def outs : Sh := s72
end fA24
def fA24.run (N : Nat) (b : (List UInt8)) (e : Int) (jT : Bool) (jA : Int) (jB_ : Int) (jC_ : Int) (jD : Int) (jE : Int) (jF : Int) (jG : Int) (jH : Int) (jI : Int) (jJ : Int) (jK : Int) (jL : Bool) (jM : Bool) (jN : Bool) (jO_ : Int) (jO1 : Int) (jP : (List T7)) (jP1 : (List T8)) (jQ : (List T6)) : Option T30 :=
  obind (fB40.run N b e jT jA jB_ jC_ jD jE jF jG jH jI jJ jK jL jM jN jO_ jO1 jP jP1 jQ) fun ((b1, e1, _), (jA1, jB1, jC1, jD1, jE1, jF1, jG1, jH1, jI1, jJ1, jK1, jL1, jM1, jN1, jO2, jO3, jP2, jP3, jQ1, _), _) =>
    some ((b1, e1, ()), (jA1, jB1, jC1, jD1, jE1, jF1, jG1, jH1, jI1, jJ1, jK1, jL1, jM1, jN1, jO2, jO3, jP2, jP3, jQ1, ()), ())
namespace fA24
def fn (N : Nat) : Sh.den ins → Option (Sh.den outs) := fun (((_, (a, b, _), c, _), _), ((d, e, f, g, h, i, j, k, l, m, o, p, q, r, s, t, u, v, w, _), _), _) => fA24.run N a b c d e f g h i j k l m o p q r s t u v w
def S (N : Nat) : Fs := ⟨ins, outs, fn N⟩
def lam (N : Nat) : Pcs := pcs []
theorem pok (N : Nat) : (lam N).Ok Tryz.prog (C N) code := pcsOk_nil
theorem ok (N : Nat) : (S N).con.Ok Tryz.prog 70 := okF (F := S N) [] Tryz.func70 (by kernel_rfl) (by rfl) mix (cok N) (pok N) fun _ => by kernel_rfl
end fA24
namespace fB13
def ins : Sh := (.cons (.rbox 47 s48) (.cons (.bxo 8 31 s52) .nil))
def C (N : Nat) : Ctx := ⟨U, 24, fun _ => true, gam [(101, (fD1.S N).con)], gamY []⟩
theorem cok (N : Nat) : (C N).Ok Tryz.prog := ⟨U_ok, GamOk.cons (fD1.ok N) (GamOk.nil), GamYOk.nil⟩
def code : Code := Tryz.f67.body.getD .skip
def outs : Sh := s54
end fB13
def fB13.run (N : Nat) (b : (List UInt8)) (e : Int) (jT : Bool) (jA : Int) (jB_ : Int) (jC_ : Int) (jD : Int) (jE : Int) (jF : Int) (jG : Int) (jH : Int) (jI : Int) (jJ : Int) (jK : Int) (jL : Bool) (jM : Bool) (jN : Bool) (jO_ : Int) (jO1 : Int) (jP : (List T7)) (jP1 : (List T8)) (jQ : (List T6)) : Option T30 :=
  obind (fD1.run N b e) fun ((b1, e1, _), n_, _) =>
    some ((b1, e1, ()), (jA, jB_, jC_, jD, jE, jF, jG, jH, n_, jJ, jK, jL, jM, jN, jO_, jO1, jP, jP1, jQ, ()), ())
namespace fB13
def fn (N : Nat) : Sh.den ins → Option (Sh.den outs) := fun ((_, (a, b, _), c, _), (d, e, f, g, h, i, j, k, l, m, o, p, q, r, s, t, u, v, w, _), _) => fB13.run N a b c d e f g h i j k l m o p q r s t u v w
def S (N : Nat) : Fs := ⟨ins, outs, fn N⟩
def lam (N : Nat) : Pcs := pcs []
theorem pok (N : Nat) : (lam N).Ok Tryz.prog (C N) code := pcsOk_nil
theorem ok (N : Nat) : (S N).con.Ok Tryz.prog 67 := okF (F := S N) [] Tryz.func67 (by kernel_rfl) (by rfl) mix (cok N) (pok N) fun _ => by kernel_rfl
end fB13
namespace fD19
def ins : Sh := (.cons (.rbox 47 s48) (.cons (.els 1 2 (.cons (.bxo 8 31 s52) (.cons (.refo 2 5) .nil))) .nil))
def C (N : Nat) : Ctx := ⟨U, 16, fun _ => true, gam [(67, (((fD4.S N).con).or (fB13.S N).con))], gamY []⟩
theorem cok (N : Nat) : (C N).Ok Tryz.prog := ⟨U_ok, GamOk.cons (Con.or_ok (fD4.ok N) (fB13.ok N)) (GamOk.nil), GamYOk.nil⟩
def code : Code := Tryz.f64.body.getD .skip
def outs : Sh := s54
end fD19
def fD19.run (N : Nat) (b : (List UInt8)) (e : Int) (jT : Bool) (jA : Int) (jB_ : Int) (jC_ : Int) (jD : Int) (jE : Int) (jF : Int) (jG : Int) (jH : Int) (jI : Int) (jJ : Int) (jK : Int) (jL : Bool) (jM : Bool) (jN : Bool) (jO_ : Int) (jO1 : Int) (jP : (List T7)) (jP1 : (List T8)) (jQ : (List T6)) : Option T30 :=
  obind (fB13.run N b e jT jA jB_ jC_ jD jE jF jG jH jI jJ jK jL jM jN jO_ jO1 jP jP1 jQ) fun ((b1, e1, _), (jA1, jB1, jC1, jD1, jE1, jF1, jG1, jH1, jI1, jJ1, jK1, jL1, jM1, jN1, jO2, jO3, jP2, jP3, jQ1, _), _) =>
    obind (fD4.run N b1 e1 jT jA1 jB1 jC1 jD1 jE1 jF1 jG1 jH1 jI1 jJ1 jK1 jL1 jM1 jN1 jO2 jO3 jP2 jP3 jQ1) fun ((b2, e2, _), (jA2, jB2, jC2, jD2, jE2, jF2, jG2, jH2, jI2, jJ2, jK2, jL2, jM2, jN2, jO4, jO5, jP4, jP5, jQ2, _), _) =>
      some ((b2, e2, ()), (jA2, jB2, jC2, jD2, jE2, jF2, jG2, jH2, jI2, jJ2, jK2, jL2, jM2, jN2, jO4, jO5, jP4, jP5, jQ2, ()), ())
namespace fD19
def fn (N : Nat) : Sh.den ins → Option (Sh.den outs) := fun ((_, (a, b, _), c, _), ((d, e, f, g, h, i, j, k, l, m, o, p, q, r, s, t, u, v, w, _), _, _), _) => fD19.run N a b c d e f g h i j k l m o p q r s t u v w
def S (N : Nat) : Fs := ⟨ins, outs, fn N⟩
def lam (N : Nat) : Pcs := pcs [([true, false], (Pc.unroll (C N) (loopBody (sub code [true, false])) (pcs []) 3))]
theorem pok (N : Nat) : (lam N).Ok Tryz.prog (C N) code := pcsOk_cons (c1 := .loop (loopBody (sub code [true, false]))) (by kernel_rfl) (unroll_ok (cok N) mix pcsOk_nil 3) (pcsOk_nil)
theorem ok (N : Nat) : (S N).con.Ok Tryz.prog 64 := okF (F := S N) [] Tryz.func64 (by kernel_rfl) (by rfl) mix (cok N) (pok N) fun _ => by kernel_rfl
end fD19
namespace fD38
def ins : Sh := s73
def C (N : Nat) : Ctx := ⟨U, 38, fun _ => true, gam [(111, (fD0.S N).con)], gamY []⟩
theorem cok (N : Nat) : (C N).Ok Tryz.prog := ⟨U_ok, GamOk.cons (fD0.ok N) (GamOk.nil), GamYOk.nil⟩
def code : Code := Tryz.f102.body.getD .skip
def outs : Sh := s54
end fD38
def fD38.run (N : Nat) (b : (List UInt8)) (e : Int) (jT : Bool) (jA : Int) (jB_ : Int) (jC_ : Int) (jD : Int) (jE : Int) (jF : Int) (jG : Int) (jH : Int) (jI : Int) (jJ : Int) (jK : Int) (jL : Bool) (jM : Bool) (jN : Bool) (jO_ : Int) (jO1 : Int) (jP : (List T7)) (jP1 : (List T8)) (jQ : (List T6)) : Option T30 :=
  obind (fD0.run N b e (2147483647 : Int)) fun ((b1, e1, _), n_, _) =>
    some ((b1, e1, ()), (jA, jB_, jC_, jD, jE, jF, jG, jH, jI, jJ, jK, jL, jM, jN, IntKind.i64.wrap n_, jO1, jP, jP1, jQ, ()), ())
namespace fD38
def fn (N : Nat) : Sh.den ins → Option (Sh.den outs) := fun ((_, (a, b, _), c, _), (d, e, f, g, h, i, j, k, l, m, o, p, q, r, s, t, u, v, w, _), _) => fD38.run N a b c d e f g h i j k l m o p q r s t u v w
def S (N : Nat) : Fs := ⟨ins, outs, fn N⟩
def lam (N : Nat) : Pcs := pcs []
theorem pok (N : Nat) : (lam N).Ok Tryz.prog (C N) code := pcsOk_nil
theorem ok (N : Nat) : (S N).con.Ok Tryz.prog 102 := okF (F := S N) [] Tryz.func102 (by kernel_rfl) (by rfl) mix (cok N) (pok N) fun _ => by kernel_rfl
end fD38
namespace fB39
def ins : Sh := (.cons (.rbox 47 s48) (.cons (.bxo 15 31 s52) .nil))
def C (N : Nat) : Ctx := ⟨U, 38, fun _ => true, gam [(111, (fD0.S N).con)], gamY []⟩
theorem cok (N : Nat) : (C N).Ok Tryz.prog := ⟨U_ok, GamOk.cons (fD0.ok N) (GamOk.nil), GamYOk.nil⟩
def code : Code := Tryz.f102.body.getD .skip
def outs : Sh := s54
end fB39
def fB39.run (N : Nat) (b : (List UInt8)) (e : Int) (jT : Bool) (jA : Int) (jB_ : Int) (jC_ : Int) (jD : Int) (jE : Int) (jF : Int) (jG : Int) (jH : Int) (jI : Int) (jJ : Int) (jK : Int) (jL : Bool) (jM : Bool) (jN : Bool) (jO_ : Int) (jO1 : Int) (jP : (List T7)) (jP1 : (List T8)) (jQ : (List T6)) : Option T30 :=
  obind (fD0.run N b e (2147483647 : Int)) fun ((b1, e1, _), n_, _) =>
    some ((b1, e1, ()), (jA, jB_, jC_, jD, jE, jF, jG, jH, jI, jJ, jK, jL, jM, jN, jO_, IntKind.i64.wrap n_, jP, jP1, jQ, ()), ())
namespace fB39
def fn (N : Nat) : Sh.den ins → Option (Sh.den outs) := fun ((_, (a, b, _), c, _), (d, e, f, g, h, i, j, k, l, m, o, p, q, r, s, t, u, v, w, _), _) => fB39.run N a b c d e f g h i j k l m o p q r s t u v w
def S (N : Nat) : Fs := ⟨ins, outs, fn N⟩
def lam (N : Nat) : Pcs := pcs []
theorem pok (N : Nat) : (lam N).Ok Tryz.prog (C N) code := pcsOk_nil
theorem ok (N : Nat) : (S N).con.Ok Tryz.prog 102 := okF (F := S N) [] Tryz.func102 (by kernel_rfl) (by rfl) mix (cok N) (pok N) fun _ => by kernel_rfl
end fB39
namespace fD6
def ins : Sh := s73
def C (N : Nat) : Ctx := ⟨U, 14, fun _ => true, gam [(102, (((fD38.S N).con).or (fB39.S N).con))], gamY []⟩
theorem cok (N : Nat) : (C N).Ok Tryz.prog := ⟨U_ok, GamOk.cons (Con.or_ok (fD38.ok N) (fB39.ok N)) (GamOk.nil), GamYOk.nil⟩
def code : Code := Tryz.f72.body.getD .skip
def outs : Sh := s54
end fD6
def fD6.run (N : Nat) (b : (List UInt8)) (e : Int) (jT : Bool) (jA : Int) (jB_ : Int) (jC_ : Int) (jD : Int) (jE : Int) (jF : Int) (jG : Int) (jH : Int) (jI : Int) (jJ : Int) (jK : Int) (jL : Bool) (jM : Bool) (jN : Bool) (jO_ : Int) (jO1 : Int) (jP : (List T7)) (jP1 : (List T8)) (jQ : (List T6)) : Option T30 :=
  obind (fD38.run N b e jT jA jB_ jC_ jD jE jF jG jH jI jJ jK jL jM jN jO_ jO1 jP jP1 jQ) fun ((b1, e1, _), (jA1, jB1, jC1, jD1, jE1, jF1, jG1, jH1, jI1, jJ1, jK1, jL1, jM1, jN1, jO2, jO3, jP2, jP3, jQ1, _), _) =>
    obind (fB39.run N b1 e1 jT jA1 jB1 jC1 jD1 jE1 jF1 jG1 jH1 jI1 jJ1 jK1 jL1 jM1 jN1 jO2 jO3 jP2 jP3 jQ1) fun ((b2, e2, _), (jA2, jB2, jC2, jD2, jE2, jF2, jG2, jH2, jI2, jJ2, jK2, jL2, jM2, jN2, jO4, jO5, jP4, jP5, jQ2, _), _) =>
      some ((b2, e2, ()), (jA2, jB2, jC2, jD2, jE2, jF2, jG2, jH2, jI2, jJ2, jK2, jL2, jM2, jN2, jO4, jO5, jP4, jP5, jQ2, ()), ())
namespace fD6
def fn (N : Nat) : Sh.den ins → Option (Sh.den outs) := fun ((_, (a, b, _), c, _), (d, e, f, g, h, i, j, k, l, m, o, p, q, r, s, t, u, v, w, _), _) => fD6.run N a b c d e f g h i j k l m o p q r s t u v w
def S (N : Nat) : Fs := ⟨ins, outs, fn N⟩
def lam (N : Nat) : Pcs := pcs []
theorem pok (N : Nat) : (lam N).Ok Tryz.prog (C N) code := pcsOk_nil
theorem ok (N : Nat) : (S N).con.Ok Tryz.prog 72 := okF (F := S N) [] Tryz.func72 (by kernel_rfl) (by rfl) mix (cok N) (pok N) fun _ => by kernel_rfl
end fD6
namespace fB23
def ins : Sh := s71
def C (N : Nat) : Ctx := ⟨U, 16, fun _ => true, gam [(64, (fD19.S N).con), (72, (fD6.S N).con)], gamY []⟩
theorem cok (N : Nat) : (C N).Ok Tryz.prog := ⟨U_ok, GamOk.cons (fD19.ok N) (GamOk.cons (fD6.ok N) (GamOk.nil)), GamYOk.nil⟩
def code : Code := Tryz.f71.body.getD .skip
def outs : Sh := s72
end fB23
def fB23.run (N : Nat) (b : (List UInt8)) (e : Int) (jT : Bool) (jA : Int) (jB_ : Int) (jC_ : Int) (jD : Int) (jE : Int) (jF : Int) (jG : Int) (jH : Int) (jI : Int) (jJ : Int) (jK : Int) (jL : Bool) (jM : Bool) (jN : Bool) (jO_ : Int) (jO1 : Int) (jP : (List T7)) (jP1 : (List T8)) (jQ : (List T6)) : Option T30 :=
  obind (fD19.run N b e jT jA jB_ jC_ jD jE jF jG jH jI jJ jK jL jM jN jO_ jO1 jP jP1 jQ) fun ((b1, e1, _), (jA1, jB1, jC1, jD1, jE1, jF1, jG1, jH1, jI1, jJ1, jK1, jL1, jM1, jN1, jO2, jO3, jP2, jP3, jQ1, _), _) =>
    obind (fD6.run N b1 e1 jT jA1 jB1 jC1 jD1 jE1 jF1 jG1 jH1 jI1 jJ1 jK1 jL1 jM1 jN1 jO2 jO3 jP2 jP3 jQ1) fun ((b2, e2, _), (jA2, jB2, jC2, jD2, jE2, jF2, jG2, jH2, jI2, jJ2, jK2, jL2, jM2, jN2, jO4, jO5, jP4, jP5, jQ2, _), _) =>
      some ((b2, e2, ()), (jA2, jB2, jC2, jD2, jE2, jF2, jG2, jH2, jI2, jJ2, jK2, jL2, jM2, jN2, jO4, jO5, jP4, jP5, jQ2, ()), ())
namespace fB23
def fn (N : Nat) : Sh.den ins → Option (Sh.den outs) := fun (((_, (a, b, _), c, _), _), ((d, e, f, g, h, i, j, k, l, m, o, p, q, r, s, t, u, v, w, _), _), _) => fB23.run N a b c d e f g h i j k l m o p q r s t u v w
def S (N : Nat) : Fs := ⟨ins, outs, fn N⟩
def lam (N : Nat) : Pcs := pcs []
theorem pok (N : Nat) : (lam N).Ok Tryz.prog (C N) code := pcsOk_nil
theorem ok (N : Nat) : (S N).con.Ok Tryz.prog 71 := okF (F := S N) [] Tryz.func71 (by kernel_rfl) (by rfl) mix (cok N) (pok N) fun _ => by kernel_rfl
end fB23
namespace fC40
def ins : Sh := (.cons (.box 47 s48) (.cons (.bxo 12 31 s52) .nil))
def C (N : Nat) : Ctx := ⟨U, 14, fun _ => true, gam [(32, (fB9.S N).con)], gamY []⟩
theorem cok (N : Nat) : (C N).Ok Tryz.prog := ⟨U_ok, GamOk.cons (fB9.ok N) (GamOk.nil), GamYOk.nil⟩
def code : Code := Tryz.f68.body.getD .skip
def outs : Sh := s53
end fC40
def fC40.run (N : Nat) (b : (List UInt8)) (e : Int) (jT : Bool) (jA : Int) (jB_ : Int) (jC_ : Int) (jD : Int) (jE : Int) (jF : Int) (jG : Int) (jH : Int) (jI : Int) (jJ : Int) (jK : Int) (jL : Bool) (jM : Bool) (jN : Bool) (jO_ : Int) (jO1 : Int) (jP : (List T7)) (jP1 : (List T8)) (jQ : (List T6)) : Option T29 :=
  bif jM then
    obind (fB9.run N b e jT (1 : Int) (1 : Int)) fun ((b1, e1, _), (_, _, jT1, _), (v, _), _) =>
      some ((b1, e1, ()), ((), (), jT1, ()), (jA, jB_, jC_, jD, jE, jF, jG, jH, jI, jJ, jK, jL, decide (v = (1 : Int)), jN, jO_, jO1, jP, jP1, jQ, ()), ())
  else
    obind (fB9.run N b e jT (0 : Int) (1 : Int)) fun ((b2, e2, _), (_, _, jT2, _), (v1, _), _) =>
      some ((b2, e2, ()), ((), (), jT2, ()), (jA, jB_, jC_, jD, jE, jF, jG, jH, jI, jJ, jK, jL, decide (v1 = (1 : Int)), jN, jO_, jO1, jP, jP1, jQ, ()), ())
namespace fC40
def fn (N : Nat) : Sh.den ins → Option (Sh.den outs) := fun ((_, (a, b, _), c, _), (d, e, f, g, h, i, j, k, l, m, o, p, q, r, s, t, u, v, w, _), _) => fC40.run N a b c d e f g h i j k l m o p q r s t u v w
def S (N : Nat) : Fs := ⟨ins, outs, fn N⟩
def lam (N : Nat) : Pcs := pcs []
theorem pok (N : Nat) : (lam N).Ok Tryz.prog (C N) code := pcsOk_nil
theorem ok (N : Nat) : (S N).con.Ok Tryz.prog 68 := okF (F := S N) [] Tryz.func68 (by kernel_rfl) (by rfl) mix (cok N) (pok N) fun _ => by kernel_rfl
end fC40
namespace fA47
def ins : Sh := s74
def C (N : Nat) : Ctx := ⟨U, 24, fun _ => true, gam [(101, (fD1.S N).con)], gamY []⟩
theorem cok (N : Nat) : (C N).Ok Tryz.prog := ⟨U_ok, GamOk.cons (fD1.ok N) (GamOk.nil), GamYOk.nil⟩
def code : Code := Tryz.f67.body.getD .skip
def outs : Sh := s75
end fA47
def fA47.run (N : Nat) (b : (List UInt8)) (e : Int) (jT : Bool) (id_ : Int) (id1 : Int) (row : (List T4)) (jU : Int) : Option T40 :=
  obind (fD1.run N b e) fun ((b1, e1, _), n_, _) =>
    some ((b1, e1, ()), (n_, id1, row, jU, ()), ())
namespace fA47
def fn (N : Nat) : Sh.den ins → Option (Sh.den outs) := fun ((_, (a, b, _), c, _), (d, e, f, g, _), _) => fA47.run N a b c d e f g
def S (N : Nat) : Fs := ⟨ins, outs, fn N⟩
def lam (N : Nat) : Pcs := pcs []
theorem pok (N : Nat) : (lam N).Ok Tryz.prog (C N) code := pcsOk_nil
theorem ok (N : Nat) : (S N).con.Ok Tryz.prog 67 := okF (F := S N) [] Tryz.func67 (by kernel_rfl) (by rfl) mix (cok N) (pok N) fun _ => by kernel_rfl
end fA47
namespace fC47
def ins : Sh := (.cons (.rbox 47 s48) (.cons (.bxo 1 93 s56) .nil))
def C (N : Nat) : Ctx := ⟨U, 24, fun _ => true, gam [(53, (fC4.S N).con)], gamY []⟩
theorem cok (N : Nat) : (C N).Ok Tryz.prog := ⟨U_ok, GamOk.cons (fC4.ok N) (GamOk.nil), GamYOk.nil⟩
def code : Code := Tryz.f113.body.getD .skip
def outs : Sh := s75
end fC47
def fC47.run (N : Nat) (b : (List UInt8)) (e : Int) (jT : Bool) (id_ : Int) (id1 : Int) (row : (List T4)) (jU : Int) : Option T40 :=
  obind (fC4.run N b e) fun ((b1, e1, _), n_, _) =>
    some ((b1, e1, ()), (id_, n_, row, jU, ()), ())
namespace fC47
def fn (N : Nat) : Sh.den ins → Option (Sh.den outs) := fun ((_, (a, b, _), c, _), (d, e, f, g, _), _) => fC47.run N a b c d e f g
def S (N : Nat) : Fs := ⟨ins, outs, fn N⟩
def lam (N : Nat) : Pcs := pcs []
theorem pok (N : Nat) : (lam N).Ok Tryz.prog (C N) code := pcsOk_nil
theorem ok (N : Nat) : (S N).con.Ok Tryz.prog 113 := okF (F := S N) [] Tryz.func113 (by kernel_rfl) (by rfl) mix (cok N) (pok N) fun _ => by kernel_rfl
end fC47
namespace fB47
def ins : Sh := s74
def C (N : Nat) : Ctx := ⟨U, 14, fun _ => true, gam [(67, (fA47.S N).con), (113, (fC47.S N).con)], gamY []⟩
theorem cok (N : Nat) : (C N).Ok Tryz.prog := ⟨U_ok, GamOk.cons (fA47.ok N) (GamOk.cons (fC47.ok N) (GamOk.nil)), GamYOk.nil⟩
def code : Code := Tryz.f115.body.getD .skip
def outs : Sh := s75
end fB47
def fB47.run (N : Nat) (b : (List UInt8)) (e : Int) (jT : Bool) (id_ : Int) (id1 : Int) (row : (List T4)) (jU : Int) : Option T40 :=
  obind (fA47.run N b e jT id_ id1 row jU) fun ((b1, e1, _), (id2, id3, row1, jU1, _), _) =>
    obind (fC47.run N b1 e1 jT id2 id3 row1 jU1) fun ((b2, e2, _), (id4, id5, row2, jU2, _), _) =>
      some ((b2, e2, ()), (id4, id5, row2, jU2, ()), ())
namespace fB47
def fn (N : Nat) : Sh.den ins → Option (Sh.den outs) := fun ((_, (a, b, _), c, _), (d, e, f, g, _), _) => fB47.run N a b c d e f g
def S (N : Nat) : Fs := ⟨ins, outs, fn N⟩
def lam (N : Nat) : Pcs := pcs []
theorem pok (N : Nat) : (lam N).Ok Tryz.prog (C N) code := pcsOk_nil
theorem ok (N : Nat) : (S N).con.Ok Tryz.prog 115 := okF (F := S N) [] Tryz.func115 (by kernel_rfl) (by rfl) mix (cok N) (pok N) fun _ => by kernel_rfl
end fB47
namespace fC54
def ins : Sh := (.cons (.box 47 s48) (.cons (.bxo 2 93 s56) .nil))
def C (N : Nat) : Ctx := ⟨U, 39, fun _ => true, gam [(123, (fC16.S N).con), (122, (fA25.S N).con), (34, (fC1.S N).con)], gamY []⟩
theorem cok (N : Nat) : (C N).Ok Tryz.prog := ⟨U_ok, GamOk.cons (fC16.ok N) (GamOk.cons (fA25.ok N) (GamOk.cons (fC1.ok N) (GamOk.nil))), GamYOk.nil⟩
def code : Code := Tryz.f114.body.getD .skip
def outs : Sh := s76
end fC54
def fC54.run (N : Nat) (b : (List UInt8)) (e : Int) (jT : Bool) (id_ : Int) (id1 : Int) (row : (List T4)) (jU : Int) : Option T41 :=
  obind (fC16.run N b e (16777216 : Int)) fun ((b1, e1, _), l, _) =>
    obind (fA25.run N l) fun (l1, n_, _) =>
      obind (fC1.run N b1 e1 jT (decide (n_ = (0 : Int)))) fun ((b2, e2, _), (_, _, jT1, _), _) =>
        some ((b2, e2, ()), ((), (), jT1, ()), (id_, id1, l1, jU, ()), ())
namespace fC54
def fn (N : Nat) : Sh.den ins → Option (Sh.den outs) := fun ((_, (a, b, _), c, _), (d, e, f, g, _), _) => fC54.run N a b c d e f g
def S (N : Nat) : Fs := ⟨ins, outs, fn N⟩
def lam (N : Nat) : Pcs := pcs []
theorem pok (N : Nat) : (lam N).Ok Tryz.prog (C N) code := pcsOk_nil
theorem ok (N : Nat) : (S N).con.Ok Tryz.prog 114 := okF (F := S N) [] Tryz.func114 (by kernel_rfl) (by rfl) mix (cok N) (pok N) fun _ => by kernel_rfl
end fC54
namespace fD43
def ins : Sh := (.cons (.rbox 47 s48) (.cons (.bxo 3 93 s56) .nil))
def C (N : Nat) : Ctx := ⟨U, 24, fun _ => true, gam [(101, (fD1.S N).con)], gamY []⟩
theorem cok (N : Nat) : (C N).Ok Tryz.prog := ⟨U_ok, GamOk.cons (fD1.ok N) (GamOk.nil), GamYOk.nil⟩
def code : Code := Tryz.f67.body.getD .skip
def outs : Sh := s75
end fD43
def fD43.run (N : Nat) (b : (List UInt8)) (e : Int) (jT : Bool) (id_ : Int) (id1 : Int) (row : (List T4)) (jU : Int) : Option T40 :=
  obind (fD1.run N b e) fun ((b1, e1, _), n_, _) =>
    some ((b1, e1, ()), (id_, id1, row, n_, ()), ())
namespace fD43
def fn (N : Nat) : Sh.den ins → Option (Sh.den outs) := fun ((_, (a, b, _), c, _), (d, e, f, g, _), _) => fD43.run N a b c d e f g
def S (N : Nat) : Fs := ⟨ins, outs, fn N⟩
def lam (N : Nat) : Pcs := pcs []
theorem pok (N : Nat) : (lam N).Ok Tryz.prog (C N) code := pcsOk_nil
theorem ok (N : Nat) : (S N).con.Ok Tryz.prog 67 := okF (F := S N) [] Tryz.func67 (by kernel_rfl) (by rfl) mix (cok N) (pok N) fun _ => by kernel_rfl
end fD43
namespace fD25
def ins : Sh := (.cons (.box 47 s48) (.cons (.box 93 s56) .nil))
def C (N : Nat) : Ctx := ⟨U, 19, fun _ => true, gam [(115, (fB47.S N).con), (114, (fC54.S N).con), (67, (fD43.S N).con)], gamY []⟩
theorem cok (N : Nat) : (C N).Ok Tryz.prog := ⟨U_ok, GamOk.cons (fB47.ok N) (GamOk.cons (fC54.ok N) (GamOk.cons (fD43.ok N) (GamOk.nil))), GamYOk.nil⟩
def code : Code := Tryz.f104.body.getD .skip
def outs : Sh := s76
end fD25
def fD25.run (N : Nat) (b : (List UInt8)) (e : Int) (jT : Bool) (id_ : Int) (id1 : Int) (row : (List T4)) (jU : Int) : Option T41 :=
  obind (fB47.run N b e jT id_ id1 row jU) fun ((b1, e1, _), (id2, id3, row1, jU1, _), _) =>
    obind (fC54.run N b1 e1 jT id2 id3 row1 jU1) fun ((b2, e2, _), (_, _, jT1, _), (id4, id5, row2, jU2, _), _) =>
      obind (fD43.run N b2 e2 jT1 id4 id5 row2 jU2) fun ((b3, e3, _), (id6, id7, row3, jU3, _), _) =>
        some ((b3, e3, ()), ((), (), jT1, ()), (id6, id7, row3, jU3, ()), ())
namespace fD25
def fn (N : Nat) : Sh.den ins → Option (Sh.den outs) := fun ((_, (a, b, _), c, _), (d, e, f, g, _), _) => fD25.run N a b c d e f g
def S (N : Nat) : Fs := ⟨ins, outs, fn N⟩
def lam (N : Nat) : Pcs := pcs []
theorem pok (N : Nat) : (lam N).Ok Tryz.prog (C N) code := pcsOk_nil
theorem ok (N : Nat) : (S N).con.Ok Tryz.prog 104 := okF (F := S N) [] Tryz.func104 (by kernel_rfl) (by rfl) mix (cok N) (pok N) fun _ => by kernel_rfl
end fD25
namespace fB6
def ins : Sh := (.cons (.box 47 s48) (.cons (.bxo 18 31 s52) s41))
def C (N : Nat) : Ctx := ⟨U, 62, fun _ => true, gam [(111, (fD0.S N).con), (112, (fA13.S N).con), (104, (fD25.S N).con)], gamY []⟩
theorem cok (N : Nat) : (C N).Ok Tryz.prog := ⟨U_ok, GamOk.cons (fD0.ok N) (GamOk.cons (fA13.ok N) (GamOk.cons (fD25.ok N) (GamOk.nil))), GamYOk.nil⟩
def code : Code := Tryz.f103.body.getD .skip
def outs : Sh := s53
end fB6
namespace fD9
def ins : Sh := (.cons (.box 47 s48) (.cons (.bxo 18 31 s52) (.cons (.fnb 1 104 (.cons (.ref 0) .nil)) (.cons (.val (.int .u64)) .nil))))
def ts : List Tmp := [0, 1, 2, 8]
def asg : List Tmp := [8, 9, 43, 44, 45, 46, 47, 48, 49, 50, 51, 52, 53, 54, 55, 56, 57, 58, 59, 60, 61]
def C (N : Nat) : Ctx := { fB6.C N with may := fun t => asg.any (Nat.beq t) }
def code : Code := loopBody (sub fB6.code [true, true, true, false])
theorem cok (N : Nat) : (C N).Ok Tryz.prog := okC (fB6.cok N) _
def alts : List Alt := [⟨(.exit 2), [], s53⟩]
end fD9
def fD9.go (N : Nat) : Nat → (List UInt8) → Int → Bool → Int → Int → Int → Int → Int → Int → Int → Int → Int → Int → Int → Bool → Bool → Bool → Int → Int → (List T7) → (List T8) → (List T6) → Int → Option (T29)
  | 0, _, _, _, _, _, _, _, _, _, _, _, _, _, _, _, _, _, _, _, _, _, _, _ => none
  | fuel + 1, b, e, jT, jA, jB_, jC_, jD, jE, jF, jG, jH, jI, jJ, jK, jL, jM, jN, jO_, jO1, jP, jP1, jQ, n_ =>
    bif decide (n_ > (0 : Int)) then
      obind (fA13.run N b e jT) fun (b1, _) =>
        bif !b1 then
          obind (fD25.run N b e jT (0 : Int) (0 : Int) ([] : List T4) (0 : Int)) fun ((b2, e1, _), (_, _, jT1, _), (id_, id1, row, jU, _), _) =>
            bif room (jQ.length + 1) 48 then
              fD9.go N fuel b2 e1 jT1 jA jB_ jC_ jD jE jF jG jH jI jJ jK jL jM jN jO_ jO1 jP jP1 (jQ ++ ([((id_, id1), row, jU)] : List T6)) (IntKind.u64.wrap (n_ - (1 : Int)))
            else none
        else some ((b, e, ()), ((), (), jT, ()), (jA, jB_, jC_, jD, jE, jF, jG, jH, jI, jJ, jK, jL, jM, jN, jO_, jO1, jP, jP1, jQ, ()), ())
    else some ((b, e, ()), ((), (), jT, ()), (jA, jB_, jC_, jD, jE, jF, jG, jH, jI, jJ, jK, jL, jM, jN, jO_, jO1, jP, jP1, jQ, ()), ())
namespace fD9
def g (N n : Nat) : Sh.den ins → Option (altsDen alts) := fun ((_, (a, b, _), c, _), (d, e, f, g, h, i, j, k, l, m, o, p, q, r, s, t, u, v, w, _), (_, _), x, _) => fD9.go N n a b c d e f g h i j k l m o p q r s t u v w x
def P (N : Nat) : Ps := ⟨ts, ins, asg, alts, g N N⟩
def lam (N : Nat) : Pcs := pcs []
theorem pok (N : Nat) : (lam N).Ok Tryz.prog (C N) code := pcsOk_nil
theorem ok (N : Nat) : ((P N).pc (fB6.C N)).Ok Tryz.prog (fB6.C N) (.loop code) := okL (F := P N) (g N) (fB6.cok N) mix (pok N) (fun _ => rfl) rfl fun _ _ => by kernel_rfl
end fD9
def fB6.run (N : Nat) (b : (List UInt8)) (e : Int) (jT : Bool) (jA : Int) (jB_ : Int) (jC_ : Int) (jD : Int) (jE : Int) (jF : Int) (jG : Int) (jH : Int) (jI : Int) (jJ : Int) (jK : Int) (jL : Bool) (jM : Bool) (jN : Bool) (jO_ : Int) (jO1 : Int) (jP : (List T7)) (jP1 : (List T8)) (jQ : (List T6)) : Option T29 :=
  obind (fD0.run N b e (16777216 : Int)) fun ((b1, e1, _), n_, _) =>
    obind (fD9.go N N b1 e1 jT jA jB_ jC_ jD jE jF jG jH jI jJ jK jL jM jN jO_ jO1 jP jP1 ([] : List T6) n_) fun ((b2, e2, _), (_, _, jT1, _), (jA1, jB1, jC1, jD1, jE1, jF1, jG1, jH1, jI1, jJ1, jK1, jL1, jM1, jN1, jO2, jO3, jP2, jP3, jQ1, _), _) =>
      some ((b2, e2, ()), ((), (), jT1, ()), (jA1, jB1, jC1, jD1, jE1, jF1, jG1, jH1, jI1, jJ1, jK1, jL1, jM1, jN1, jO2, jO3, jP2, jP3, jQ1, ()), ())
namespace fB6
def fn (N : Nat) : Sh.den ins → Option (Sh.den outs) := fun ((_, (a, b, _), c, _), (d, e, f, g, h, i, j, k, l, m, o, p, q, r, s, t, u, v, w, _), (_, _), _) => fB6.run N a b c d e f g h i j k l m o p q r s t u v w
def S (N : Nat) : Fs := ⟨ins, outs, fn N⟩
def lam (N : Nat) : Pcs := pcs [([true, true, true, false], (fD9.P N).pc (C N))]
theorem pok (N : Nat) : (lam N).Ok Tryz.prog (C N) code := pcsOk_cons (c1 := .loop fD9.code) (by kernel_rfl) (fD9.ok N) (pcsOk_nil)
theorem ok (N : Nat) : (S N).con.Ok Tryz.prog 103 := okF (F := S N) [] Tryz.func103 (by kernel_rfl) (by rfl) mix (cok N) (pok N) fun _ => by kernel_rfl
end fB6
namespace fB12
def ins : Sh := (.cons (.box 47 s48) (.cons (.bxo 18 31 s52) .nil))
def C (N : Nat) : Ctx := ⟨U, 9, fun _ => true, gam [(103, (fB6.S N).con)], gamY []⟩
theorem cok (N : Nat) : (C N).Ok Tryz.prog := ⟨U_ok, GamOk.cons (fB6.ok N) (GamOk.nil), GamYOk.nil⟩
def code : Code := Tryz.f74.body.getD .skip
def outs : Sh := s53
end fB12
def fB12.run (N : Nat) (b : (List UInt8)) (e : Int) (jT : Bool) (jA : Int) (jB_ : Int) (jC_ : Int) (jD : Int) (jE : Int) (jF : Int) (jG : Int) (jH : Int) (jI : Int) (jJ : Int) (jK : Int) (jL : Bool) (jM : Bool) (jN : Bool) (jO_ : Int) (jO1 : Int) (jP : (List T7)) (jP1 : (List T8)) (jQ : (List T6)) : Option T29 :=
  obind (fB6.run N b e jT jA jB_ jC_ jD jE jF jG jH jI jJ jK jL jM jN jO_ jO1 jP jP1 jQ) fun ((b1, e1, _), (_, _, jT1, _), (jA1, jB1, jC1, jD1, jE1, jF1, jG1, jH1, jI1, jJ1, jK1, jL1, jM1, jN1, jO2, jO3, jP2, jP3, jQ1, _), _) =>
    some ((b1, e1, ()), ((), (), jT1, ()), (jA1, jB1, jC1, jD1, jE1, jF1, jG1, jH1, jI1, jJ1, jK1, jL1, jM1, jN1, jO2, jO3, jP2, jP3, jQ1, ()), ())
namespace fB12
def fn (N : Nat) : Sh.den ins → Option (Sh.den outs) := fun ((_, (a, b, _), c, _), (d, e, f, g, h, i, j, k, l, m, o, p, q, r, s, t, u, v, w, _), _) => fB12.run N a b c d e f g h i j k l m o p q r s t u v w
def S (N : Nat) : Fs := ⟨ins, outs, fn N⟩
def lam (N : Nat) : Pcs := pcs []
theorem pok (N : Nat) : (lam N).Ok Tryz.prog (C N) code := pcsOk_nil
theorem ok (N : Nat) : (S N).con.Ok Tryz.prog 74 := okF (F := S N) [] Tryz.func74 (by kernel_rfl) (by rfl) mix (cok N) (pok N) fun _ => by kernel_rfl
end fB12
namespace fD22
def ins : Sh := s69
def C (N : Nat) : Ctx := ⟨U, 22, fun _ => true, gam [(67, (fB13.S N).con), (72, (fD6.S N).con), (68, (fC40.S N).con), (74, (fB12.S N).con)], gamY []⟩
theorem cok (N : Nat) : (C N).Ok Tryz.prog := ⟨U_ok, GamOk.cons (fB13.ok N) (GamOk.cons (fD6.ok N) (GamOk.cons (fC40.ok N) (GamOk.cons (fB12.ok N) (GamOk.nil)))), GamYOk.nil⟩
def code : Code := Tryz.f73.body.getD .skip
def outs : Sh := s70
end fD22
def fD22.run (N : Nat) (b : (List UInt8)) (e : Int) (jT : Bool) (jA : Int) (jB_ : Int) (jC_ : Int) (jD : Int) (jE : Int) (jF : Int) (jG : Int) (jH : Int) (jI : Int) (jJ : Int) (jK : Int) (jL : Bool) (jM : Bool) (jN : Bool) (jO_ : Int) (jO1 : Int) (jP : (List T7)) (jP1 : (List T8)) (jQ : (List T6)) : Option T29 :=
  obind (fB13.run N b e jT jA jB_ jC_ jD jE jF jG jH jI jJ jK jL jM jN jO_ jO1 jP jP1 jQ) fun ((b1, e1, _), (jA1, jB1, jC1, jD1, jE1, jF1, jG1, jH1, jI1, jJ1, jK1, jL1, jM1, jN1, jO2, jO3, jP2, jP3, jQ1, _), _) =>
    obind (fD6.run N b1 e1 jT jA1 jB1 jC1 jD1 jE1 jF1 jG1 jH1 jI1 jJ1 jK1 jL1 jM1 jN1 jO2 jO3 jP2 jP3 jQ1) fun ((b2, e2, _), (jA2, jB2, jC2, jD2, jE2, jF2, jG2, jH2, jI2, jJ2, jK2, jL2, jM2, jN2, jO4, jO5, jP4, jP5, jQ2, _), _) =>
      obind (fC40.run N b2 e2 jT jA2 jB2 jC2 jD2 jE2 jF2 jG2 jH2 jI2 jJ2 jK2 jL2 jM2 jN2 jO4 jO5 jP4 jP5 jQ2) fun ((b3, e3, _), (_, _, jT1, _), (jA3, jB3, jC3, jD3, jE3, jF3, jG3, jH3, jI3, jJ3, jK3, jL3, jM3, jN3, jO6, jO7, jP6, jP7, jQ3, _), _) =>
        obind (fB12.run N b3 e3 jT1 jA3 jB3 jC3 jD3 jE3 jF3 jG3 jH3 jI3 jJ3 jK3 jL3 jM3 jN3 jO6 jO7 jP6 jP7 jQ3) fun ((b4, e4, _), (_, _, jT2, _), (jA4, jB4, jC4, jD4, jE4, jF4, jG4, jH4, jI4, jJ4, jK4, jL4, jM4, jN4, jO8, jO9, jP8, jP9, jQ4, _), _) =>
          some ((b4, e4, ()), ((), (), jT2, ()), (jA4, jB4, jC4, jD4, jE4, jF4, jG4, jH4, jI4, jJ4, jK4, jL4, jM4, jN4, jO8, jO9, jP8, jP9, jQ4, ()), ())
namespace fD22
def fn (N : Nat) : Sh.den ins → Option (Sh.den outs) := fun (((_, (a, b, _), c, _), _), ((d, e, f, g, h, i, j, k, l, m, o, p, q, r, s, t, u, v, w, _), _), _) => fD22.run N a b c d e f g h i j k l m o p q r s t u v w
def S (N : Nat) : Fs := ⟨ins, outs, fn N⟩
def lam (N : Nat) : Pcs := pcs []
theorem pok (N : Nat) : (lam N).Ok Tryz.prog (C N) code := pcsOk_nil
theorem ok (N : Nat) : (S N).con.Ok Tryz.prog 73 := okF (F := S N) [] Tryz.func73 (by kernel_rfl) (by rfl) mix (cok N) (pok N) fun _ => by kernel_rfl
end fD22
namespace fD40
def ins : Sh := (.cons (.box 47 s48) (.cons (.bxo 13 31 s52) .nil))
def C (N : Nat) : Ctx := ⟨U, 14, fun _ => true, gam [(32, (fB9.S N).con)], gamY []⟩
theorem cok (N : Nat) : (C N).Ok Tryz.prog := ⟨U_ok, GamOk.cons (fB9.ok N) (GamOk.nil), GamYOk.nil⟩
def code : Code := Tryz.f68.body.getD .skip
def outs : Sh := s53
end fD40
def fD40.run (N : Nat) (b : (List UInt8)) (e : Int) (jT : Bool) (jA : Int) (jB_ : Int) (jC_ : Int) (jD : Int) (jE : Int) (jF : Int) (jG : Int) (jH : Int) (jI : Int) (jJ : Int) (jK : Int) (jL : Bool) (jM : Bool) (jN : Bool) (jO_ : Int) (jO1 : Int) (jP : (List T7)) (jP1 : (List T8)) (jQ : (List T6)) : Option T29 :=
  bif jN then
    obind (fB9.run N b e jT (1 : Int) (1 : Int)) fun ((b1, e1, _), (_, _, jT1, _), (v, _), _) =>
      some ((b1, e1, ()), ((), (), jT1, ()), (jA, jB_, jC_, jD, jE, jF, jG, jH, jI, jJ, jK, jL, jM, decide (v = (1 : Int)), jO_, jO1, jP, jP1, jQ, ()), ())
  else
    obind (fB9.run N b e jT (0 : Int) (1 : Int)) fun ((b2, e2, _), (_, _, jT2, _), (v1, _), _) =>
      some ((b2, e2, ()), ((), (), jT2, ()), (jA, jB_, jC_, jD, jE, jF, jG, jH, jI, jJ, jK, jL, jM, decide (v1 = (1 : Int)), jO_, jO1, jP, jP1, jQ, ()), ())
namespace fD40
def fn (N : Nat) : Sh.den ins → Option (Sh.den outs) := fun ((_, (a, b, _), c, _), (d, e, f, g, h, i, j, k, l, m, o, p, q, r, s, t, u, v, w, _), _) => fD40.run N a b c d e f g h i j k l m o p q r s t u v w
def S (N : Nat) : Fs := ⟨ins, outs, fn N⟩
def lam (N : Nat) : Pcs := pcs []
theorem pok (N : Nat) : (lam N).Ok Tryz.prog (C N) code := pcsOk_nil
theorem ok (N : Nat) : (S N).con.Ok Tryz.prog 68 := okF (F := S N) [] Tryz.func68 (by kernel_rfl) (by rfl) mix (cok N) (pok N) fun _ => by kernel_rfl
end fD40
namespace fB24
def ins : Sh := s69
def C (N : Nat) : Ctx := ⟨U, 16, fun _ => true, gam [(64, (fD19.S N).con), (68, (fD40.S N).con)], gamY []⟩
theorem cok (N : Nat) : (C N).Ok Tryz.prog := ⟨U_ok, GamOk.cons (fD19.ok N) (GamOk.cons (fD40.ok N) (GamOk.nil)), GamYOk.nil⟩
def code : Code := Tryz.f75.body.getD .skip
def outs : Sh := s70
end fB24
def fB24.run (N : Nat) (b : (List UInt8)) (e : Int) (jT : Bool) (jA : Int) (jB_ : Int) (jC_ : Int) (jD : Int) (jE : Int) (jF : Int) (jG : Int) (jH : Int) (jI : Int) (jJ : Int) (jK : Int) (jL : Bool) (jM : Bool) (jN : Bool) (jO_ : Int) (jO1 : Int) (jP : (List T7)) (jP1 : (List T8)) (jQ : (List T6)) : Option T29 :=
  obind (fD19.run N b e jT jA jB_ jC_ jD jE jF jG jH jI jJ jK jL jM jN jO_ jO1 jP jP1 jQ) fun ((b1, e1, _), (jA1, jB1, jC1, jD1, jE1, jF1, jG1, jH1, jI1, jJ1, jK1, jL1, jM1, jN1, jO2, jO3, jP2, jP3, jQ1, _), _) =>
    obind (fD40.run N b1 e1 jT jA1 jB1 jC1 jD1 jE1 jF1 jG1 jH1 jI1 jJ1 jK1 jL1 jM1 jN1 jO2 jO3 jP2 jP3 jQ1) fun ((b2, e2, _), (_, _, jT1, _), (jA2, jB2, jC2, jD2, jE2, jF2, jG2, jH2, jI2, jJ2, jK2, jL2, jM2, jN2, jO4, jO5, jP4, jP5, jQ2, _), _) =>
      some ((b2, e2, ()), ((), (), jT1, ()), (jA2, jB2, jC2, jD2, jE2, jF2, jG2, jH2, jI2, jJ2, jK2, jL2, jM2, jN2, jO4, jO5, jP4, jP5, jQ2, ()), ())
namespace fB24
def fn (N : Nat) : Sh.den ins → Option (Sh.den outs) := fun (((_, (a, b, _), c, _), _), ((d, e, f, g, h, i, j, k, l, m, o, p, q, r, s, t, u, v, w, _), _), _) => fB24.run N a b c d e f g h i j k l m o p q r s t u v w
def S (N : Nat) : Fs := ⟨ins, outs, fn N⟩
def lam (N : Nat) : Pcs := pcs []
theorem pok (N : Nat) : (lam N).Ok Tryz.prog (C N) code := pcsOk_nil
theorem ok (N : Nat) : (S N).con.Ok Tryz.prog 75 := okF (F := S N) [] Tryz.func75 (by kernel_rfl) (by rfl) mix (cok N) (pok N) fun _ => by kernel_rfl
end fB24
namespace fA44
def ins : Sh := (.cons (.box 47 s48) (.cons (.bxo 10 31 s52) (.cons (.val (.int .i64)) .nil)))
def C (N : Nat) : Ctx := ⟨U, 41, fun _ => true, gam [(62, (fC5.S N).con), (34, (fC1.S N).con)], gamY []⟩
theorem cok (N : Nat) : (C N).Ok Tryz.prog := ⟨U_ok, GamOk.cons (fC5.ok N) (GamOk.cons (fC1.ok N) (GamOk.nil)), GamYOk.nil⟩
def code : Code := Tryz.f32.body.getD .skip
def outs : Sh := s53
end fA44
def fA44.run (N : Nat) (b : (List UInt8)) (e : Int) (jT : Bool) (jA : Int) (jB_ : Int) (jC_ : Int) (jD : Int) (jE : Int) (jF : Int) (jG : Int) (jH : Int) (jI : Int) (jJ : Int) (jK : Int) (jL : Bool) (jM : Bool) (jN : Bool) (jO_ : Int) (jO1 : Int) (jP : (List T7)) (jP1 : (List T8)) (jQ : (List T6)) (most : Int) : Option T29 :=
  obind (fC5.run N b e) fun ((b1, e1, _), n_, _) =>
    bif decide ((IntKind.i64.wrap (n_.toNat : Int)) ≥ (0 : Int)) then
      obind (fC1.run N b1 e1 jT (decide ((IntKind.i64.wrap (n_.toNat : Int)) ≤ most))) fun ((b2, e2, _), (_, _, jT1, _), _) =>
        some ((b2, e2, ()), ((), (), jT1, ()), (jA, jB_, jC_, jD, jE, jF, jG, jH, jI, jJ, IntKind.i64.wrap (n_.toNat : Int), jL, jM, jN, jO_, jO1, jP, jP1, jQ, ()), ())
    else
      obind (fC1.run N b1 e1 jT false) fun ((b3, e3, _), (_, _, jT2, _), _) =>
        some ((b3, e3, ()), ((), (), jT2, ()), (jA, jB_, jC_, jD, jE, jF, jG, jH, jI, jJ, IntKind.i64.wrap (n_.toNat : Int), jL, jM, jN, jO_, jO1, jP, jP1, jQ, ()), ())
namespace fA44
def fn (N : Nat) : Sh.den ins → Option (Sh.den outs) := fun ((_, (a, b, _), c, _), (d, e, f, g, h, i, j, k, l, m, o, p, q, r, s, t, u, v, w, _), x, _) => fA44.run N a b c d e f g h i j k l m o p q r s t u v w x
def S (N : Nat) : Fs := ⟨ins, outs, fn N⟩
def lam (N : Nat) : Pcs := pcs []
theorem pok (N : Nat) : (lam N).Ok Tryz.prog (C N) code := pcsOk_nil
theorem ok (N : Nat) : (S N).con.Ok Tryz.prog 32 := okF (F := S N) [] Tryz.func32 (by kernel_rfl) (by rfl) mix (cok N) (pok N) fun _ => by kernel_rfl
end fA44
namespace fB48
def ins : Sh := (.cons (.box 47 s48) (.cons (.bxo 10 31 s52) .nil))
def C (N : Nat) : Ctx := ⟨U, 7, fun _ => true, gam [(32, (fA44.S N).con)], gamY []⟩
theorem cok (N : Nat) : (C N).Ok Tryz.prog := ⟨U_ok, GamOk.cons (fA44.ok N) (GamOk.nil), GamYOk.nil⟩
def code : Code := Tryz.f33.body.getD .skip
def outs : Sh := s53
end fB48
def fB48.run (N : Nat) (b : (List UInt8)) (e : Int) (jT : Bool) (jA : Int) (jB_ : Int) (jC_ : Int) (jD : Int) (jE : Int) (jF : Int) (jG : Int) (jH : Int) (jI : Int) (jJ : Int) (jK : Int) (jL : Bool) (jM : Bool) (jN : Bool) (jO_ : Int) (jO1 : Int) (jP : (List T7)) (jP1 : (List T8)) (jQ : (List T6)) : Option T29 :=
  obind (fA44.run N b e jT jA jB_ jC_ jD jE jF jG jH jI jJ jK jL jM jN jO_ jO1 jP jP1 jQ (8 : Int)) fun ((b1, e1, _), (_, _, jT1, _), (jA1, jB1, jC1, jD1, jE1, jF1, jG1, jH1, jI1, jJ1, jK1, jL1, jM1, jN1, jO2, jO3, jP2, jP3, jQ1, _), _) =>
    some ((b1, e1, ()), ((), (), jT1, ()), (jA1, jB1, jC1, jD1, jE1, jF1, jG1, jH1, jI1, jJ1, jK1, jL1, jM1, jN1, jO2, jO3, jP2, jP3, jQ1, ()), ())
namespace fB48
def fn (N : Nat) : Sh.den ins → Option (Sh.den outs) := fun ((_, (a, b, _), c, _), (d, e, f, g, h, i, j, k, l, m, o, p, q, r, s, t, u, v, w, _), _) => fB48.run N a b c d e f g h i j k l m o p q r s t u v w
def S (N : Nat) : Fs := ⟨ins, outs, fn N⟩
def lam (N : Nat) : Pcs := pcs []
theorem pok (N : Nat) : (lam N).Ok Tryz.prog (C N) code := pcsOk_nil
theorem ok (N : Nat) : (S N).con.Ok Tryz.prog 33 := okF (F := S N) [] Tryz.func33 (by kernel_rfl) (by rfl) mix (cok N) (pok N) fun _ => by kernel_rfl
end fB48
namespace fD12
def ins : Sh := (.cons (.rbox 47 s48) (.cons (.bxo 9 31 s52) .nil))
def C (N : Nat) : Ctx := ⟨U, 24, fun _ => true, gam [(101, (fD1.S N).con)], gamY []⟩
theorem cok (N : Nat) : (C N).Ok Tryz.prog := ⟨U_ok, GamOk.cons (fD1.ok N) (GamOk.nil), GamYOk.nil⟩
def code : Code := Tryz.f67.body.getD .skip
def outs : Sh := s54
end fD12
def fD12.run (N : Nat) (b : (List UInt8)) (e : Int) (jT : Bool) (jA : Int) (jB_ : Int) (jC_ : Int) (jD : Int) (jE : Int) (jF : Int) (jG : Int) (jH : Int) (jI : Int) (jJ : Int) (jK : Int) (jL : Bool) (jM : Bool) (jN : Bool) (jO_ : Int) (jO1 : Int) (jP : (List T7)) (jP1 : (List T8)) (jQ : (List T6)) : Option T30 :=
  obind (fD1.run N b e) fun ((b1, e1, _), n_, _) =>
    some ((b1, e1, ()), (jA, jB_, jC_, jD, jE, jF, jG, jH, jI, n_, jK, jL, jM, jN, jO_, jO1, jP, jP1, jQ, ()), ())
namespace fD12
def fn (N : Nat) : Sh.den ins → Option (Sh.den outs) := fun ((_, (a, b, _), c, _), (d, e, f, g, h, i, j, k, l, m, o, p, q, r, s, t, u, v, w, _), _) => fD12.run N a b c d e f g h i j k l m o p q r s t u v w
def S (N : Nat) : Fs := ⟨ins, outs, fn N⟩
def lam (N : Nat) : Pcs := pcs []
theorem pok (N : Nat) : (lam N).Ok Tryz.prog (C N) code := pcsOk_nil
theorem ok (N : Nat) : (S N).con.Ok Tryz.prog 67 := okF (F := S N) [] Tryz.func67 (by kernel_rfl) (by rfl) mix (cok N) (pok N) fun _ => by kernel_rfl
end fD12
namespace fA26
def ins : Sh := (.cons (.rbox 47 s48) (.cons (.bxo 6 31 s52) .nil))
def C (N : Nat) : Ctx := ⟨U, 24, fun _ => true, gam [(101, (fD1.S N).con)], gamY []⟩
theorem cok (N : Nat) : (C N).Ok Tryz.prog := ⟨U_ok, GamOk.cons (fD1.ok N) (GamOk.nil), GamYOk.nil⟩
def code : Code := Tryz.f67.body.getD .skip
def outs : Sh := s54
end fA26
def fA26.run (N : Nat) (b : (List UInt8)) (e : Int) (jT : Bool) (jA : Int) (jB_ : Int) (jC_ : Int) (jD : Int) (jE : Int) (jF : Int) (jG : Int) (jH : Int) (jI : Int) (jJ : Int) (jK : Int) (jL : Bool) (jM : Bool) (jN : Bool) (jO_ : Int) (jO1 : Int) (jP : (List T7)) (jP1 : (List T8)) (jQ : (List T6)) : Option T30 :=
  obind (fD1.run N b e) fun ((b1, e1, _), n_, _) =>
    some ((b1, e1, ()), (jA, jB_, jC_, jD, jE, jF, n_, jH, jI, jJ, jK, jL, jM, jN, jO_, jO1, jP, jP1, jQ, ()), ())
namespace fA26
def fn (N : Nat) : Sh.den ins → Option (Sh.den outs) := fun ((_, (a, b, _), c, _), (d, e, f, g, h, i, j, k, l, m, o, p, q, r, s, t, u, v, w, _), _) => fA26.run N a b c d e f g h i j k l m o p q r s t u v w
def S (N : Nat) : Fs := ⟨ins, outs, fn N⟩
def lam (N : Nat) : Pcs := pcs []
theorem pok (N : Nat) : (lam N).Ok Tryz.prog (C N) code := pcsOk_nil
theorem ok (N : Nat) : (S N).con.Ok Tryz.prog 67 := okF (F := S N) [] Tryz.func67 (by kernel_rfl) (by rfl) mix (cok N) (pok N) fun _ => by kernel_rfl
end fA26
namespace fC41
def ins : Sh := (.cons (.rbox 47 s48) (.cons (.els 1 2 (.cons (.bxo 6 31 s52) (.cons (.refo 2 5) .nil))) .nil))
def C (N : Nat) : Ctx := ⟨U, 16, fun _ => true, gam [(67, (((fD4.S N).con).or (fA26.S N).con))], gamY []⟩
theorem cok (N : Nat) : (C N).Ok Tryz.prog := ⟨U_ok, GamOk.cons (Con.or_ok (fD4.ok N) (fA26.ok N)) (GamOk.nil), GamYOk.nil⟩
def code : Code := Tryz.f64.body.getD .skip
def outs : Sh := s54
end fC41
def fC41.run (N : Nat) (b : (List UInt8)) (e : Int) (jT : Bool) (jA : Int) (jB_ : Int) (jC_ : Int) (jD : Int) (jE : Int) (jF : Int) (jG : Int) (jH : Int) (jI : Int) (jJ : Int) (jK : Int) (jL : Bool) (jM : Bool) (jN : Bool) (jO_ : Int) (jO1 : Int) (jP : (List T7)) (jP1 : (List T8)) (jQ : (List T6)) : Option T30 :=
  obind (fA26.run N b e jT jA jB_ jC_ jD jE jF jG jH jI jJ jK jL jM jN jO_ jO1 jP jP1 jQ) fun ((b1, e1, _), (jA1, jB1, jC1, jD1, jE1, jF1, jG1, jH1, jI1, jJ1, jK1, jL1, jM1, jN1, jO2, jO3, jP2, jP3, jQ1, _), _) =>
    obind (fD4.run N b1 e1 jT jA1 jB1 jC1 jD1 jE1 jF1 jG1 jH1 jI1 jJ1 jK1 jL1 jM1 jN1 jO2 jO3 jP2 jP3 jQ1) fun ((b2, e2, _), (jA2, jB2, jC2, jD2, jE2, jF2, jG2, jH2, jI2, jJ2, jK2, jL2, jM2, jN2, jO4, jO5, jP4, jP5, jQ2, _), _) =>
      some ((b2, e2, ()), (jA2, jB2, jC2, jD2, jE2, jF2, jG2, jH2, jI2, jJ2, jK2, jL2, jM2, jN2, jO4, jO5, jP4, jP5, jQ2, ()), ())
namespace fC41
def fn (N : Nat) : Sh.den ins → Option (Sh.den outs) := fun ((_, (a, b, _), c, _), ((d, e, f, g, h, i, j, k, l, m, o, p, q, r, s, t, u, v, w, _), _, _), _) => fC41.run N a b c d e f g h i j k l m o p q r s t u v w
def S (N : Nat) : Fs := ⟨ins, outs, fn N⟩
def lam (N : Nat) : Pcs := pcs [([true, false], (Pc.unroll (C N) (loopBody (sub code [true, false])) (pcs []) 3))]
theorem pok (N : Nat) : (lam N).Ok Tryz.prog (C N) code := pcsOk_cons (c1 := .loop (loopBody (sub code [true, false]))) (by kernel_rfl) (unroll_ok (cok N) mix pcsOk_nil 3) (pcsOk_nil)
theorem ok (N : Nat) : (S N).con.Ok Tryz.prog 64 := okF (F := S N) [] Tryz.func64 (by kernel_rfl) (by rfl) mix (cok N) (pok N) fun _ => by kernel_rfl
end fC41
namespace fC24
def ins : Sh := s69
def C (N : Nat) : Ctx := ⟨U, 26, fun _ => true, gam [(33, (fB48.S N).con), (67, (fD12.S N).con), (72, (fD6.S N).con), (64, (fC41.S N).con)], gamY []⟩
theorem cok (N : Nat) : (C N).Ok Tryz.prog := ⟨U_ok, GamOk.cons (fB48.ok N) (GamOk.cons (fD12.ok N) (GamOk.cons (fD6.ok N) (GamOk.cons (fC41.ok N) (GamOk.nil)))), GamYOk.nil⟩
def code : Code := Tryz.f76.body.getD .skip
def outs : Sh := s70
end fC24
def fC24.run (N : Nat) (b : (List UInt8)) (e : Int) (jT : Bool) (jA : Int) (jB_ : Int) (jC_ : Int) (jD : Int) (jE : Int) (jF : Int) (jG : Int) (jH : Int) (jI : Int) (jJ : Int) (jK : Int) (jL : Bool) (jM : Bool) (jN : Bool) (jO_ : Int) (jO1 : Int) (jP : (List T7)) (jP1 : (List T8)) (jQ : (List T6)) : Option T29 :=
  obind (fB48.run N b e jT jA jB_ jC_ jD jE jF jG jH jI jJ jK jL jM jN jO_ jO1 jP jP1 jQ) fun ((b1, e1, _), (_, _, jT1, _), (jA1, jB1, jC1, jD1, jE1, jF1, jG1, jH1, jI1, jJ1, jK1, jL1, jM1, jN1, jO2, jO3, jP2, jP3, jQ1, _), _) =>
    obind (fD12.run N b1 e1 jT1 jA1 jB1 jC1 jD1 jE1 jF1 jG1 jH1 jI1 jJ1 jK1 jL1 jM1 jN1 jO2 jO3 jP2 jP3 jQ1) fun ((b2, e2, _), (jA2, jB2, jC2, jD2, jE2, jF2, jG2, jH2, jI2, jJ2, jK2, jL2, jM2, jN2, jO4, jO5, jP4, jP5, jQ2, _), _) =>
      obind (fD6.run N b2 e2 jT1 jA2 jB2 jC2 jD2 jE2 jF2 jG2 jH2 jI2 jJ2 jK2 jL2 jM2 jN2 jO4 jO5 jP4 jP5 jQ2) fun ((b3, e3, _), (jA3, jB3, jC3, jD3, jE3, jF3, jG3, jH3, jI3, jJ3, jK3, jL3, jM3, jN3, jO6, jO7, jP6, jP7, jQ3, _), _) =>
        obind (fC41.run N b3 e3 jT1 jA3 jB3 jC3 jD3 jE3 jF3 jG3 jH3 jI3 jJ3 jK3 jL3 jM3 jN3 jO6 jO7 jP6 jP7 jQ3) fun ((b4, e4, _), (jA4, jB4, jC4, jD4, jE4, jF4, jG4, jH4, jI4, jJ4, jK4, jL4, jM4, jN4, jO8, jO9, jP8, jP9, jQ4, _), _) =>
          some ((b4, e4, ()), ((), (), jT1, ()), (jA4, jB4, jC4, jD4, jE4, jF4, jG4, jH4, jI4, jJ4, jK4, jL4, jM4, jN4, jO8, jO9, jP8, jP9, jQ4, ()), ())
namespace fC24
def fn (N : Nat) : Sh.den ins → Option (Sh.den outs) := fun (((_, (a, b, _), c, _), _), ((d, e, f, g, h, i, j, k, l, m, o, p, q, r, s, t, u, v, w, _), _), _) => fC24.run N a b c d e f g h i j k l m o p q r s t u v w
def S (N : Nat) : Fs := ⟨ins, outs, fn N⟩
def lam (N : Nat) : Pcs := pcs []
theorem pok (N : Nat) : (lam N).Ok Tryz.prog (C N) code := pcsOk_nil
theorem ok (N : Nat) : (S N).con.Ok Tryz.prog 76 := okF (F := S N) [] Tryz.func76 (by kernel_rfl) (by rfl) mix (cok N) (pok N) fun _ => by kernel_rfl
end fC24
namespace fA38
def ins : Sh := (.cons (.rbox 47 s48) (.cons (.els 1 3 (.cons (.bxo 6 31 s52) (.cons (.refo 2 5) (.cons (.refo 2 7) .nil)))) .nil))
def C (N : Nat) : Ctx := ⟨U, 16, fun _ => true, gam [(67, (((((fD4.S N).con).or (fC12.S N).con)).or (fA26.S N).con))], gamY []⟩
theorem cok (N : Nat) : (C N).Ok Tryz.prog := ⟨U_ok, GamOk.cons (Con.or_ok (Con.or_ok (fD4.ok N) (fC12.ok N)) (fA26.ok N)) (GamOk.nil), GamYOk.nil⟩
def code : Code := Tryz.f64.body.getD .skip
def outs : Sh := s54
end fA38
def fA38.run (N : Nat) (b : (List UInt8)) (e : Int) (jT : Bool) (jA : Int) (jB_ : Int) (jC_ : Int) (jD : Int) (jE : Int) (jF : Int) (jG : Int) (jH : Int) (jI : Int) (jJ : Int) (jK : Int) (jL : Bool) (jM : Bool) (jN : Bool) (jO_ : Int) (jO1 : Int) (jP : (List T7)) (jP1 : (List T8)) (jQ : (List T6)) : Option T30 :=
  obind (fA26.run N b e jT jA jB_ jC_ jD jE jF jG jH jI jJ jK jL jM jN jO_ jO1 jP jP1 jQ) fun ((b1, e1, _), (jA1, jB1, jC1, jD1, jE1, jF1, jG1, jH1, jI1, jJ1, jK1, jL1, jM1, jN1, jO2, jO3, jP2, jP3, jQ1, _), _) =>
    obind (fD4.run N b1 e1 jT jA1 jB1 jC1 jD1 jE1 jF1 jG1 jH1 jI1 jJ1 jK1 jL1 jM1 jN1 jO2 jO3 jP2 jP3 jQ1) fun ((b2, e2, _), (jA2, jB2, jC2, jD2, jE2, jF2, jG2, jH2, jI2, jJ2, jK2, jL2, jM2, jN2, jO4, jO5, jP4, jP5, jQ2, _), _) =>
      obind (fC12.run N b2 e2 jT jA2 jB2 jC2 jD2 jE2 jF2 jG2 jH2 jI2 jJ2 jK2 jL2 jM2 jN2 jO4 jO5 jP4 jP5 jQ2) fun ((b3, e3, _), (jA3, jB3, jC3, jD3, jE3, jF3, jG3, jH3, jI3, jJ3, jK3, jL3, jM3, jN3, jO6, jO7, jP6, jP7, jQ3, _), _) =>
        some ((b3, e3, ()), (jA3, jB3, jC3, jD3, jE3, jF3, jG3, jH3, jI3, jJ3, jK3, jL3, jM3, jN3, jO6, jO7, jP6, jP7, jQ3, ()), ())
namespace fA38
def fn (N : Nat) : Sh.den ins → Option (Sh.den outs) := fun ((_, (a, b, _), c, _), ((d, e, f, g, h, i, j, k, l, m, o, p, q, r, s, t, u, v, w, _), _, _, _), _) => fA38.run N a b c d e f g h i j k l m o p q r s t u v w
def S (N : Nat) : Fs := ⟨ins, outs, fn N⟩
def lam (N : Nat) : Pcs := pcs [([true, false], (Pc.unroll (C N) (loopBody (sub code [true, false])) (pcs []) 4))]
theorem pok (N : Nat) : (lam N).Ok Tryz.prog (C N) code := pcsOk_cons (c1 := .loop (loopBody (sub code [true, false]))) (by kernel_rfl) (unroll_ok (cok N) mix pcsOk_nil 4) (pcsOk_nil)
theorem ok (N : Nat) : (S N).con.Ok Tryz.prog 64 := okF (F := S N) [] Tryz.func64 (by kernel_rfl) (by rfl) mix (cok N) (pok N) fun _ => by kernel_rfl
end fA38
namespace fA23
def ins : Sh := s69
def C (N : Nat) : Ctx := ⟨U, 29, fun _ => true, gam [(67, (fD12.S N).con), (72, (fD6.S N).con), (64, (fA38.S N).con), (74, (fB12.S N).con)], gamY []⟩
theorem cok (N : Nat) : (C N).Ok Tryz.prog := ⟨U_ok, GamOk.cons (fD12.ok N) (GamOk.cons (fD6.ok N) (GamOk.cons (fA38.ok N) (GamOk.cons (fB12.ok N) (GamOk.nil)))), GamYOk.nil⟩
def code : Code := Tryz.f77.body.getD .skip
def outs : Sh := s70
end fA23
def fA23.run (N : Nat) (b : (List UInt8)) (e : Int) (jT : Bool) (jA : Int) (jB_ : Int) (jC_ : Int) (jD : Int) (jE : Int) (jF : Int) (jG : Int) (jH : Int) (jI : Int) (jJ : Int) (jK : Int) (jL : Bool) (jM : Bool) (jN : Bool) (jO_ : Int) (jO1 : Int) (jP : (List T7)) (jP1 : (List T8)) (jQ : (List T6)) : Option T29 :=
  obind (fD12.run N b e jT jA jB_ jC_ jD jE jF jG jH jI jJ jK jL jM jN jO_ jO1 jP jP1 jQ) fun ((b1, e1, _), (jA1, jB1, jC1, jD1, jE1, jF1, jG1, jH1, jI1, jJ1, jK1, jL1, jM1, jN1, jO2, jO3, jP2, jP3, jQ1, _), _) =>
    obind (fD6.run N b1 e1 jT jA1 jB1 jC1 jD1 jE1 jF1 jG1 jH1 jI1 jJ1 jK1 jL1 jM1 jN1 jO2 jO3 jP2 jP3 jQ1) fun ((b2, e2, _), (jA2, jB2, jC2, jD2, jE2, jF2, jG2, jH2, jI2, jJ2, jK2, jL2, jM2, jN2, jO4, jO5, jP4, jP5, jQ2, _), _) =>
      obind (fA38.run N b2 e2 jT jA2 jB2 jC2 jD2 jE2 jF2 jG2 jH2 jI2 jJ2 jK2 jL2 jM2 jN2 jO4 jO5 jP4 jP5 jQ2) fun ((b3, e3, _), (jA3, jB3, jC3, jD3, jE3, jF3, jG3, jH3, jI3, jJ3, jK3, jL3, jM3, jN3, jO6, jO7, jP6, jP7, jQ3, _), _) =>
        obind (fB12.run N b3 e3 jT jA3 jB3 jC3 jD3 jE3 jF3 jG3 jH3 jI3 jJ3 jK3 jL3 jM3 jN3 jO6 jO7 jP6 jP7 jQ3) fun ((b4, e4, _), (_, _, jT1, _), (jA4, jB4, jC4, jD4, jE4, jF4, jG4, jH4, jI4, jJ4, jK4, jL4, jM4, jN4, jO8, jO9, jP8, jP9, jQ4, _), _) =>
          some ((b4, e4, ()), ((), (), jT1, ()), (jA4, jB4, jC4, jD4, jE4, jF4, jG4, jH4, jI4, jJ4, jK4, jL4, jM4, jN4, jO8, jO9, jP8, jP9, jQ4, ()), ())
namespace fA23
def fn (N : Nat) : Sh.den ins → Option (Sh.den outs) := fun (((_, (a, b, _), c, _), _), ((d, e, f, g, h, i, j, k, l, m, o, p, q, r, s, t, u, v, w, _), _), _) => fA23.run N a b c d e f g h i j k l m o p q r s t u v w
def S (N : Nat) : Fs := ⟨ins, outs, fn N⟩
def lam (N : Nat) : Pcs := pcs []
theorem pok (N : Nat) : (lam N).Ok Tryz.prog (C N) code := pcsOk_nil
theorem ok (N : Nat) : (S N).con.Ok Tryz.prog 77 := okF (F := S N) [] Tryz.func77 (by kernel_rfl) (by rfl) mix (cok N) (pok N) fun _ => by kernel_rfl
end fA23
namespace fD37
def ins : Sh := (.cons (.rbox 47 s48) (.cons (.els 1 2 (.cons (.bxo 9 31 s52) (.cons (.refo 2 5) .nil))) .nil))
def C (N : Nat) : Ctx := ⟨U, 16, fun _ => true, gam [(67, (((fD4.S N).con).or (fD12.S N).con))], gamY []⟩
theorem cok (N : Nat) : (C N).Ok Tryz.prog := ⟨U_ok, GamOk.cons (Con.or_ok (fD4.ok N) (fD12.ok N)) (GamOk.nil), GamYOk.nil⟩
def code : Code := Tryz.f64.body.getD .skip
def outs : Sh := s54
end fD37
def fD37.run (N : Nat) (b : (List UInt8)) (e : Int) (jT : Bool) (jA : Int) (jB_ : Int) (jC_ : Int) (jD : Int) (jE : Int) (jF : Int) (jG : Int) (jH : Int) (jI : Int) (jJ : Int) (jK : Int) (jL : Bool) (jM : Bool) (jN : Bool) (jO_ : Int) (jO1 : Int) (jP : (List T7)) (jP1 : (List T8)) (jQ : (List T6)) : Option T30 :=
  obind (fD12.run N b e jT jA jB_ jC_ jD jE jF jG jH jI jJ jK jL jM jN jO_ jO1 jP jP1 jQ) fun ((b1, e1, _), (jA1, jB1, jC1, jD1, jE1, jF1, jG1, jH1, jI1, jJ1, jK1, jL1, jM1, jN1, jO2, jO3, jP2, jP3, jQ1, _), _) =>
    obind (fD4.run N b1 e1 jT jA1 jB1 jC1 jD1 jE1 jF1 jG1 jH1 jI1 jJ1 jK1 jL1 jM1 jN1 jO2 jO3 jP2 jP3 jQ1) fun ((b2, e2, _), (jA2, jB2, jC2, jD2, jE2, jF2, jG2, jH2, jI2, jJ2, jK2, jL2, jM2, jN2, jO4, jO5, jP4, jP5, jQ2, _), _) =>
      some ((b2, e2, ()), (jA2, jB2, jC2, jD2, jE2, jF2, jG2, jH2, jI2, jJ2, jK2, jL2, jM2, jN2, jO4, jO5, jP4, jP5, jQ2, ()), ())
namespace fD37
def fn (N : Nat) : Sh.den ins → Option (Sh.den outs) := fun ((_, (a, b, _), c, _), ((d, e, f, g, h, i, j, k, l, m, o, p, q, r, s, t, u, v, w, _), _, _), _) => fD37.run N a b c d e f g h i j k l m o p q r s t u v w
def S (N : Nat) : Fs := ⟨ins, outs, fn N⟩
def lam (N : Nat) : Pcs := pcs [([true, false], (Pc.unroll (C N) (loopBody (sub code [true, false])) (pcs []) 3))]
theorem pok (N : Nat) : (lam N).Ok Tryz.prog (C N) code := pcsOk_cons (c1 := .loop (loopBody (sub code [true, false]))) (by kernel_rfl) (unroll_ok (cok N) mix pcsOk_nil 3) (pcsOk_nil)
theorem ok (N : Nat) : (S N).con.Ok Tryz.prog 64 := okF (F := S N) [] Tryz.func64 (by kernel_rfl) (by rfl) mix (cok N) (pok N) fun _ => by kernel_rfl
end fD37
namespace fD20
def ins : Sh := s71
def C (N : Nat) : Ctx := ⟨U, 11, fun _ => true, gam [(64, (fD37.S N).con)], gamY []⟩
theorem cok (N : Nat) : (C N).Ok Tryz.prog := ⟨U_ok, GamOk.cons (fD37.ok N) (GamOk.nil), GamYOk.nil⟩
def code : Code := Tryz.f78.body.getD .skip
def outs : Sh := s72
end fD20
def fD20.run (N : Nat) (b : (List UInt8)) (e : Int) (jT : Bool) (jA : Int) (jB_ : Int) (jC_ : Int) (jD : Int) (jE : Int) (jF : Int) (jG : Int) (jH : Int) (jI : Int) (jJ : Int) (jK : Int) (jL : Bool) (jM : Bool) (jN : Bool) (jO_ : Int) (jO1 : Int) (jP : (List T7)) (jP1 : (List T8)) (jQ : (List T6)) : Option T30 :=
  obind (fD37.run N b e jT jA jB_ jC_ jD jE jF jG jH jI jJ jK jL jM jN jO_ jO1 jP jP1 jQ) fun ((b1, e1, _), (jA1, jB1, jC1, jD1, jE1, jF1, jG1, jH1, jI1, jJ1, jK1, jL1, jM1, jN1, jO2, jO3, jP2, jP3, jQ1, _), _) =>
    some ((b1, e1, ()), (jA1, jB1, jC1, jD1, jE1, jF1, jG1, jH1, jI1, jJ1, jK1, jL1, jM1, jN1, jO2, jO3, jP2, jP3, jQ1, ()), ())
namespace fD20
def fn (N : Nat) : Sh.den ins → Option (Sh.den outs) := fun (((_, (a, b, _), c, _), _), ((d, e, f, g, h, i, j, k, l, m, o, p, q, r, s, t, u, v, w, _), _), _) => fD20.run N a b c d e f g h i j k l m o p q r s t u v w
def S (N : Nat) : Fs := ⟨ins, outs, fn N⟩
def lam (N : Nat) : Pcs := pcs []
theorem pok (N : Nat) : (lam N).Ok Tryz.prog (C N) code := pcsOk_nil
theorem ok (N : Nat) : (S N).con.Ok Tryz.prog 78 := okF (F := S N) [] Tryz.func78 (by kernel_rfl) (by rfl) mix (cok N) (pok N) fun _ => by kernel_rfl
end fD20
namespace fC20
def ins : Sh := s71
def C (N : Nat) : Ctx := ⟨U, 7, fun _ => true, gam [(67, (fC12.S N).con)], gamY []⟩
theorem cok (N : Nat) : (C N).Ok Tryz.prog := ⟨U_ok, GamOk.cons (fC12.ok N) (GamOk.nil), GamYOk.nil⟩
def code : Code := Tryz.f79.body.getD .skip
def outs : Sh := s72
end fC20
def fC20.run (N : Nat) (b : (List UInt8)) (e : Int) (jT : Bool) (jA : Int) (jB_ : Int) (jC_ : Int) (jD : Int) (jE : Int) (jF : Int) (jG : Int) (jH : Int) (jI : Int) (jJ : Int) (jK : Int) (jL : Bool) (jM : Bool) (jN : Bool) (jO_ : Int) (jO1 : Int) (jP : (List T7)) (jP1 : (List T8)) (jQ : (List T6)) : Option T30 :=
  obind (fC12.run N b e jT jA jB_ jC_ jD jE jF jG jH jI jJ jK jL jM jN jO_ jO1 jP jP1 jQ) fun ((b1, e1, _), (jA1, jB1, jC1, jD1, jE1, jF1, jG1, jH1, jI1, jJ1, jK1, jL1, jM1, jN1, jO2, jO3, jP2, jP3, jQ1, _), _) =>
    some ((b1, e1, ()), (jA1, jB1, jC1, jD1, jE1, jF1, jG1, jH1, jI1, jJ1, jK1, jL1, jM1, jN1, jO2, jO3, jP2, jP3, jQ1, ()), ())
namespace fC20
def fn (N : Nat) : Sh.den ins → Option (Sh.den outs) := fun (((_, (a, b, _), c, _), _), ((d, e, f, g, h, i, j, k, l, m, o, p, q, r, s, t, u, v, w, _), _), _) => fC20.run N a b c d e f g h i j k l m o p q r s t u v w
def S (N : Nat) : Fs := ⟨ins, outs, fn N⟩
def lam (N : Nat) : Pcs := pcs []
theorem pok (N : Nat) : (lam N).Ok Tryz.prog (C N) code := pcsOk_nil
theorem ok (N : Nat) : (S N).con.Ok Tryz.prog 79 := okF (F := S N) [] Tryz.func79 (by kernel_rfl) (by rfl) mix (cok N) (pok N) fun _ => by kernel_rfl
end fC20
namespace fA20
def ins : Sh := s71
def C (N : Nat) : Ctx := ⟨U, 7, fun _ => true, gam [(67, (fB13.S N).con)], gamY []⟩
theorem cok (N : Nat) : (C N).Ok Tryz.prog := ⟨U_ok, GamOk.cons (fB13.ok N) (GamOk.nil), GamYOk.nil⟩
def code : Code := Tryz.f80.body.getD .skip
def outs : Sh := s72
end fA20
def fA20.run (N : Nat) (b : (List UInt8)) (e : Int) (jT : Bool) (jA : Int) (jB_ : Int) (jC_ : Int) (jD : Int) (jE : Int) (jF : Int) (jG : Int) (jH : Int) (jI : Int) (jJ : Int) (jK : Int) (jL : Bool) (jM : Bool) (jN : Bool) (jO_ : Int) (jO1 : Int) (jP : (List T7)) (jP1 : (List T8)) (jQ : (List T6)) : Option T30 :=
  obind (fB13.run N b e jT jA jB_ jC_ jD jE jF jG jH jI jJ jK jL jM jN jO_ jO1 jP jP1 jQ) fun ((b1, e1, _), (jA1, jB1, jC1, jD1, jE1, jF1, jG1, jH1, jI1, jJ1, jK1, jL1, jM1, jN1, jO2, jO3, jP2, jP3, jQ1, _), _) =>
    some ((b1, e1, ()), (jA1, jB1, jC1, jD1, jE1, jF1, jG1, jH1, jI1, jJ1, jK1, jL1, jM1, jN1, jO2, jO3, jP2, jP3, jQ1, ()), ())
namespace fA20
def fn (N : Nat) : Sh.den ins → Option (Sh.den outs) := fun (((_, (a, b, _), c, _), _), ((d, e, f, g, h, i, j, k, l, m, o, p, q, r, s, t, u, v, w, _), _), _) => fA20.run N a b c d e f g h i j k l m o p q r s t u v w
def S (N : Nat) : Fs := ⟨ins, outs, fn N⟩
def lam (N : Nat) : Pcs := pcs []
theorem pok (N : Nat) : (lam N).Ok Tryz.prog (C N) code := pcsOk_nil
theorem ok (N : Nat) : (S N).con.Ok Tryz.prog 80 := okF (F := S N) [] Tryz.func80 (by kernel_rfl) (by rfl) mix (cok N) (pok N) fun _ => by kernel_rfl
end fA20
namespace fD32
def ins : Sh := s77
def C (N : Nat) : Ctx := ⟨U, 50, fun _ => true, gam [(63, (fD23.S N).con), (66, (fC23.S N).con), (69, (fD24.S N).con), (70, (fA24.S N).con), (71, (fB23.S N).con), (73, (fD22.S N).con), (75, (fB24.S N).con), (76, (fC24.S N).con), (77, (fA23.S N).con), (78, (fD20.S N).con), (79, (fC20.S N).con), (80, (fA20.S N).con)], gamY []⟩
theorem cok (N : Nat) : (C N).Ok Tryz.prog := ⟨U_ok, GamOk.cons (fD23.ok N) (GamOk.cons (fC23.ok N) (GamOk.cons (fD24.ok N) (GamOk.cons (fA24.ok N) (GamOk.cons (fB23.ok N) (GamOk.cons (fD22.ok N) (GamOk.cons (fB24.ok N) (GamOk.cons (fC24.ok N) (GamOk.cons (fA23.ok N) (GamOk.cons (fD20.ok N) (GamOk.cons (fC20.ok N) (GamOk.cons (fA20.ok N) (GamOk.nil)))))))))))), GamYOk.nil⟩
def code : Code := Tryz.f35.body.getD .skip
def outs : Sh := (.cons (.upd 1 83 s44) (.cons (.upd 0 47 s49) (.cons (.upd 2 31 s52) (.cons (.val .bool) .nil))))
end fD32
def fD32.run (N : Nat) (b : (List UInt8)) (e : Int) (jT : Bool) (jA : Int) (jB_ : Int) (jC_ : Int) (jD : Int) (jE : Int) (jF : Int) (jG : Int) (jH : Int) (jI : Int) (jJ : Int) (jK : Int) (jL : Bool) (jM : Bool) (jN : Bool) (jO_ : Int) (jO1 : Int) (jP : (List T7)) (jP1 : (List T8)) (jQ : (List T6)) : Option T42 :=
  bif decide ((1 : Int) = jA) then
    obind (fD23.run N b e jT jA jB_ jC_ jD jE jF jG jH jI jJ jK jL jM jN jO_ jO1 jP jP1 jQ) fun ((b1, e1, _), (_, _, jT1, _), (jA1, jB1, jC1, jD1, jE1, jF1, jG1, jH1, jI1, jJ1, jK1, jL1, jM1, jN1, jO2, jO3, jP2, jP3, jQ1, _), _) =>
      some ((b1, e1, ()), ((), (), jT1, ()), (jA1, jB1, jC1, jD1, jE1, jF1, jG1, jH1, jI1, jJ1, jK1, jL1, jM1, jN1, jO2, jO3, jP2, jP3, jQ1, ()), true, ())
  else
    bif decide ((2 : Int) = jA) then
      obind (fC23.run N b e jT jA jB_ jC_ jD jE jF jG jH jI jJ jK jL jM jN jO_ jO1 jP jP1 jQ) fun ((b2, e2, _), (_, _, jT2, _), (jA2, jB2, jC2, jD2, jE2, jF2, jG2, jH2, jI2, jJ2, jK2, jL2, jM2, jN2, jO4, jO5, jP4, jP5, jQ2, _), _) =>
        some ((b2, e2, ()), ((), (), jT2, ()), (jA2, jB2, jC2, jD2, jE2, jF2, jG2, jH2, jI2, jJ2, jK2, jL2, jM2, jN2, jO4, jO5, jP4, jP5, jQ2, ()), true, ())
    else
      bif decide ((3 : Int) = jA) then
        obind (fD24.run N b e jT jA jB_ jC_ jD jE jF jG jH jI jJ jK jL jM jN jO_ jO1 jP jP1 jQ) fun ((b3, e3, _), (jA3, jB3, jC3, jD3, jE3, jF3, jG3, jH3, jI3, jJ3, jK3, jL3, jM3, jN3, jO6, jO7, jP6, jP7, jQ3, _), _) =>
          some ((b3, e3, ()), ((), (), jT, ()), (jA3, jB3, jC3, jD3, jE3, jF3, jG3, jH3, jI3, jJ3, jK3, jL3, jM3, jN3, jO6, jO7, jP6, jP7, jQ3, ()), true, ())
      else
        bif decide ((4 : Int) = jA) then
          obind (fA24.run N b e jT jA jB_ jC_ jD jE jF jG jH jI jJ jK jL jM jN jO_ jO1 jP jP1 jQ) fun ((b4, e4, _), (jA4, jB4, jC4, jD4, jE4, jF4, jG4, jH4, jI4, jJ4, jK4, jL4, jM4, jN4, jO8, jO9, jP8, jP9, jQ4, _), _) =>
            some ((b4, e4, ()), ((), (), jT, ()), (jA4, jB4, jC4, jD4, jE4, jF4, jG4, jH4, jI4, jJ4, jK4, jL4, jM4, jN4, jO8, jO9, jP8, jP9, jQ4, ()), true, ())
        else
          bif decide ((5 : Int) = jA) then
            obind (fB23.run N b e jT jA jB_ jC_ jD jE jF jG jH jI jJ jK jL jM jN jO_ jO1 jP jP1 jQ) fun ((b5, e5, _), (jA5, jB5, jC5, jD5, jE5, jF5, jG5, jH5, jI5, jJ5, jK5, jL5, jM5, jN5, jO10, jO11, jP10, jP11, jQ5, _), _) =>
              some ((b5, e5, ()), ((), (), jT, ()), (jA5, jB5, jC5, jD5, jE5, jF5, jG5, jH5, jI5, jJ5, jK5, jL5, jM5, jN5, jO10, jO11, jP10, jP11, jQ5, ()), true, ())
          else
            bif decide ((6 : Int) = jA) then
              obind (fD22.run N b e jT jA jB_ jC_ jD jE jF jG jH jI jJ jK jL jM jN jO_ jO1 jP jP1 jQ) fun ((b6, e6, _), (_, _, jT3, _), (jA6, jB6, jC6, jD6, jE6, jF6, jG6, jH6, jI6, jJ6, jK6, jL6, jM6, jN6, jO12, jO13, jP12, jP13, jQ6, _), _) =>
                some ((b6, e6, ()), ((), (), jT3, ()), (jA6, jB6, jC6, jD6, jE6, jF6, jG6, jH6, jI6, jJ6, jK6, jL6, jM6, jN6, jO12, jO13, jP12, jP13, jQ6, ()), true, ())
            else
              bif decide ((7 : Int) = jA) then
                obind (fB24.run N b e jT jA jB_ jC_ jD jE jF jG jH jI jJ jK jL jM jN jO_ jO1 jP jP1 jQ) fun ((b7, e7, _), (_, _, jT4, _), (jA7, jB7, jC7, jD7, jE7, jF7, jG7, jH7, jI7, jJ7, jK7, jL7, jM7, jN7, jO14, jO15, jP14, jP15, jQ7, _), _) =>
                  some ((b7, e7, ()), ((), (), jT4, ()), (jA7, jB7, jC7, jD7, jE7, jF7, jG7, jH7, jI7, jJ7, jK7, jL7, jM7, jN7, jO14, jO15, jP14, jP15, jQ7, ()), true, ())
              else
                bif decide ((8 : Int) = jA) then
                  obind (fC24.run N b e jT jA jB_ jC_ jD jE jF jG jH jI jJ jK jL jM jN jO_ jO1 jP jP1 jQ) fun ((b8, e8, _), (_, _, jT5, _), (jA8, jB8, jC8, jD8, jE8, jF8, jG8, jH8, jI8, jJ8, jK8, jL8, jM8, jN8, jO16, jO17, jP16, jP17, jQ8, _), _) =>
                    some ((b8, e8, ()), ((), (), jT5, ()), (jA8, jB8, jC8, jD8, jE8, jF8, jG8, jH8, jI8, jJ8, jK8, jL8, jM8, jN8, jO16, jO17, jP16, jP17, jQ8, ()), true, ())
                else
                  bif decide ((9 : Int) = jA) then
                    obind (fA23.run N b e jT jA jB_ jC_ jD jE jF jG jH jI jJ jK jL jM jN jO_ jO1 jP jP1 jQ) fun ((b9, e9, _), (_, _, jT6, _), (jA9, jB9, jC9, jD9, jE9, jF9, jG9, jH9, jI9, jJ9, jK9, jL9, jM9, jN9, jO18, jO19, jP18, jP19, jQ9, _), _) =>
                      some ((b9, e9, ()), ((), (), jT6, ()), (jA9, jB9, jC9, jD9, jE9, jF9, jG9, jH9, jI9, jJ9, jK9, jL9, jM9, jN9, jO18, jO19, jP18, jP19, jQ9, ()), true, ())
                  else
                    bif decide ((10 : Int) = jA) then
                      obind (fD20.run N b e jT jA jB_ jC_ jD jE jF jG jH jI jJ jK jL jM jN jO_ jO1 jP jP1 jQ) fun ((b10, e10, _), (jA10, jB10, jC10, jD10, jE10, jF10, jG10, jH10, jI10, jJ10, jK10, jL10, jM10, jN10, jO20, jO21, jP20, jP21, jQ10, _), _) =>
                        some ((b10, e10, ()), ((), (), jT, ()), (jA10, jB10, jC10, jD10, jE10, jF10, jG10, jH10, jI10, jJ10, jK10, jL10, jM10, jN10, jO20, jO21, jP20, jP21, jQ10, ()), true, ())
                    else
                      bif decide ((11 : Int) = jA) then
                        obind (fC20.run N b e jT jA jB_ jC_ jD jE jF jG jH jI jJ jK jL jM jN jO_ jO1 jP jP1 jQ) fun ((b11, e11, _), (jA11, jB11, jC11, jD11, jE11, jF11, jG11, jH11, jI11, jJ11, jK11, jL11, jM11, jN11, jO22, jO23, jP22, jP23, jQ11, _), _) =>
                          some ((b11, e11, ()), ((), (), jT, ()), (jA11, jB11, jC11, jD11, jE11, jF11, jG11, jH11, jI11, jJ11, jK11, jL11, jM11, jN11, jO22, jO23, jP22, jP23, jQ11, ()), true, ())
                      else
                        bif decide ((12 : Int) = jA) then
                          obind (fA20.run N b e jT jA jB_ jC_ jD jE jF jG jH jI jJ jK jL jM jN jO_ jO1 jP jP1 jQ) fun ((b12, e12, _), (jA12, jB12, jC12, jD12, jE12, jF12, jG12, jH12, jI12, jJ12, jK12, jL12, jM12, jN12, jO24, jO25, jP24, jP25, jQ12, _), _) =>
                            some ((b12, e12, ()), ((), (), jT, ()), (jA12, jB12, jC12, jD12, jE12, jF12, jG12, jH12, jI12, jJ12, jK12, jL12, jM12, jN12, jO24, jO25, jP24, jP25, jQ12, ()), true, ())
                        else some ((b, e, ()), ((), (), jT, ()), (jA, jB_, jC_, jD, jE, jF, jG, jH, jI, jJ, jK, jL, jM, jN, jO_, jO1, jP, jP1, jQ, ()), false, ())
namespace fD32
def fn (N : Nat) : Sh.den ins → Option (Sh.den outs) := fun ((_, (a, b, _), c, _), (d, e, f, g, h, i, j, k, l, m, o, p, q, r, s, t, u, v, w, _), _) => fD32.run N a b c d e f g h i j k l m o p q r s t u v w
def S (N : Nat) : Fs := ⟨ins, outs, fn N⟩
def lam (N : Nat) : Pcs := pcs [([true, true, false, true, false], (Pc.unroll (C N) (loopBody (sub code [true, true, false, true, false])) (pcs []) 13))]
theorem pok (N : Nat) : (lam N).Ok Tryz.prog (C N) code := pcsOk_cons (c1 := .loop (loopBody (sub code [true, true, false, true, false]))) (by kernel_rfl) (unroll_ok (cok N) mix pcsOk_nil 13) (pcsOk_nil)
theorem ok (N : Nat) : (S N).con.Ok Tryz.prog 35 := okF (F := S N) [] Tryz.func35 (by kernel_rfl) (by rfl) mix (cok N) (pok N) fun _ => by kernel_rfl
end fD32
namespace fC28
def ins : Sh := s77
def C (N : Nat) : Ctx := ⟨U, 24, fun _ => true, gam [(32, (fB44.S N).con), (33, (((fC45.S N).con).or (fD45.S N).con)), (35, (fD32.S N).con), (34, (fC1.S N).con)], gamY []⟩
theorem cok (N : Nat) : (C N).Ok Tryz.prog := ⟨U_ok, GamOk.cons (fB44.ok N) (GamOk.cons (Con.or_ok (fC45.ok N) (fD45.ok N)) (GamOk.cons (fD32.ok N) (GamOk.cons (fC1.ok N) (GamOk.nil)))), GamYOk.nil⟩
def code : Code := Tryz.f13.body.getD .skip
def outs : Sh := s53
end fC28
def fC28.run (N : Nat) (b : (List UInt8)) (e : Int) (jT : Bool) (jA : Int) (jB_ : Int) (jC_ : Int) (jD : Int) (jE : Int) (jF : Int) (jG : Int) (jH : Int) (jI : Int) (jJ : Int) (jK : Int) (jL : Bool) (jM : Bool) (jN : Bool) (jO_ : Int) (jO1 : Int) (jP : (List T7)) (jP1 : (List T8)) (jQ : (List T6)) : Option T29 :=
  obind (fB44.run N b e jT jA jB_ jC_ jD jE jF jG jH jI jJ jK jL jM jN jO_ jO1 jP jP1 jQ (255 : Int)) fun ((b1, e1, _), (_, _, jT1, _), (jA1, jB1, jC1, jD1, jE1, jF1, jG1, jH1, jI1, jJ1, jK1, jL1, jM1, jN1, jO2, jO3, jP2, jP3, jQ1, _), _) =>
    obind (fC45.run N b1 e1 jT1 jA1 jB1 jC1 jD1 jE1 jF1 jG1 jH1 jI1 jJ1 jK1 jL1 jM1 jN1 jO2 jO3 jP2 jP3 jQ1) fun ((b2, e2, _), (_, _, jT2, _), (jA2, jB2, jC2, jD2, jE2, jF2, jG2, jH2, jI2, jJ2, jK2, jL2, jM2, jN2, jO4, jO5, jP4, jP5, jQ2, _), _) =>
      obind (fD45.run N b2 e2 jT2 jA2 jB2 jC2 jD2 jE2 jF2 jG2 jH2 jI2 jJ2 jK2 jL2 jM2 jN2 jO4 jO5 jP4 jP5 jQ2) fun ((b3, e3, _), (_, _, jT3, _), (jA3, jB3, jC3, jD3, jE3, jF3, jG3, jH3, jI3, jJ3, jK3, jL3, jM3, jN3, jO6, jO7, jP6, jP7, jQ3, _), _) =>
        obind (fD32.run N b3 e3 jT3 jA3 jB3 jC3 jD3 jE3 jF3 jG3 jH3 jI3 jJ3 jK3 jL3 jM3 jN3 jO6 jO7 jP6 jP7 jQ3) fun ((b4, e4, _), (_, _, jT4, _), (jA4, jB4, jC4, jD4, jE4, jF4, jG4, jH4, jI4, jJ4, jK4, jL4, jM4, jN4, jO8, jO9, jP8, jP9, jQ4, _), b5, _) =>
          obind (fC1.run N b4 e4 jT4 b5) fun ((b6, e5, _), (_, _, jT5, _), _) =>
            some ((b6, e5, ()), ((), (), jT5, ()), (jA4, jB4, jC4, jD4, jE4, jF4, jG4, jH4, jI4, jJ4, jK4, jL4, jM4, jN4, jO8, jO9, jP8, jP9, jQ4, ()), ())
namespace fC28
def fn (N : Nat) : Sh.den ins → Option (Sh.den outs) := fun ((_, (a, b, _), c, _), (d, e, f, g, h, i, j, k, l, m, o, p, q, r, s, t, u, v, w, _), _) => fC28.run N a b c d e f g h i j k l m o p q r s t u v w
def S (N : Nat) : Fs := ⟨ins, outs, fn N⟩
def lam (N : Nat) : Pcs := pcs []
theorem pok (N : Nat) : (lam N).Ok Tryz.prog (C N) code := pcsOk_nil
theorem ok (N : Nat) : (S N).con.Ok Tryz.prog 13 := okF (F := S N) [] Tryz.func13 (by kernel_rfl) (by rfl) mix (cok N) (pok N) fun _ => by kernel_rfl
end fC28
namespace fD16
def ins : Sh := (.cons (.rown 5 .byte) .nil)
def C (N : Nat) : Ctx := ⟨U, 54, fun _ => true, gam [], gamY []⟩
theorem cok (N : Nat) : (C N).Ok Tryz.prog := ⟨U_ok, GamOk.nil, GamYOk.nil⟩
def code : Code := Tryz.f38.body.getD .skip
def outs : Sh := (.cons (.val (.int .u32)) .nil)
end fD16
namespace fB27
def ins : Sh := s78
def ts : List Tmp := [3, 9]
def asg : List Tmp := [4, 5, 9, 10, 11, 12, 13, 14, 15, 16, 17, 18, 19, 20, 21, 22, 23, 24, 25, 26]
def C (N : Nat) : Ctx := { fD16.C N with may := fun t => asg.any (Nat.beq t) }
def code : Code := loopBody (sub fD16.code [true, true, false, true, false])
theorem cok (N : Nat) : (C N).Ok Tryz.prog := okC (fD16.cok N) _
def alts : List Alt := [⟨(.exit 0), [], (.cons (.updr 0 129 (.int .u32)) .nil)⟩]
end fB27
namespace fD62
def ins : Sh := s79
def ts : List Tmp := [5, 14]
def asg : List Tmp := [5, 14, 15, 16, 17, 18, 19, 20, 21, 22]
def C (N : Nat) : Ctx := { fB27.C N with may := fun t => asg.any (Nat.beq t) }
def code : Code := loopBody (sub fB27.code [true, true, false, false, true, true, false, true, false])
theorem cok (N : Nat) : (C N).Ok Tryz.prog := okC (fB27.cok N) _
def alts : List Alt := [⟨(.exit 2), [5], (.cons (.val (.int .u32)) .nil)⟩]
end fD62
def fD62.go (N : Nat) : Nat → Int → Int → Option ((Int × Unit))
  | 0, _, _ => none
  | fuel + 1, c, t14 =>
    bif decide (t14 < (4 : Int)) then
      fD62.go N fuel (IntKind.u32.wrap ((BitVec.ofInt 32 (c.fdiv (2 : Int)) ^^^ BitVec.ofInt 32 (IntKind.u32.wrap ((3988292384 : Int) * (IntKind.u32.wrap ((BitVec.ofInt 32 c &&& BitVec.ofInt 32 (1 : Int)).toNat : Int))))).toNat : Int)) (IntKind.i64.wrap (t14 + (1 : Int)))
    else some (c, ())
namespace fD62
def g (N n : Nat) : Sh.den ins → Option (altsDen alts) := fun (a, b, _) => fD62.go N n a b
def P (N : Nat) : Ps := ⟨ts, ins, asg, alts, g N N⟩
def lam (N : Nat) : Pcs := pcs []
theorem pok (N : Nat) : (lam N).Ok Tryz.prog (C N) code := pcsOk_nil
theorem ok (N : Nat) : ((P N).pc (fB27.C N)).Ok Tryz.prog (fB27.C N) (.loop code) := okL (F := P N) (g N) (fB27.cok N) mix (pok N) (fun _ => rfl) rfl fun _ _ => by kernel_rfl
end fD62
def fB27.go (N : Nat) : Nat → (List Int) → Int → Option (T43)
  | 0, _, _ => none
  | fuel + 1, half, t9 =>
    bif decide (t9 < (16 : Int)) then
      obind (fD62.go N N (IntKind.u32.wrap t9) (0 : Int)) fun (c, _) =>
        bif inB t9 16 then
          bif decide (t9.toNat < half.length) then
            fB27.go N fuel (half.set t9.toNat c) (IntKind.i64.wrap (t9 + (1 : Int)))
          else none
        else none
    else some (half, ())
namespace fB27
def g (N n : Nat) : Sh.den ins → Option (altsDen alts) := fun (a, b, _) => fB27.go N n a b
def P (N : Nat) : Ps := ⟨ts, ins, asg, alts, g N N⟩
def lam (N : Nat) : Pcs := pcs [([true, true, false, false, true, true, false, true, false], (fD62.P N).pc (C N))]
theorem pok (N : Nat) : (lam N).Ok Tryz.prog (C N) code := pcsOk_cons (c1 := .loop fD62.code) (by kernel_rfl) (fD62.ok N) (pcsOk_nil)
theorem ok (N : Nat) : ((P N).pc (fD16.C N)).Ok Tryz.prog (fD16.C N) (.loop code) := okL (F := P N) (g N) (fD16.cok N) mix (pok N) (fun _ => rfl) rfl fun _ _ => by kernel_rfl
end fB27
namespace fB66
def ins : Sh := (.cons (.arr 129 (.int .u32) 16) (.cons (.val (.int .u32)) (.cons (.rown 5 .byte) s20)))
def ts : List Tmp := [3, 6, 27, 28, 29]
def asg : List Tmp := [6, 8, 29, 30, 31, 32, 33, 34, 35, 36, 37, 38, 39, 40, 41, 42, 43, 44, 45, 46, 47, 48, 49, 50, 51]
def C (N : Nat) : Ctx := { fD16.C N with may := fun t => asg.any (Nat.beq t) }
def code : Code := loopBody (sub fD16.code [true, true, true, true, false, true, false])
theorem cok (N : Nat) : (C N).Ok Tryz.prog := okC (fD16.cok N) _
def alts : List Alt := [⟨(.exit 4), [6], (.cons (.val (.int .u32)) .nil)⟩]
end fB66
def fB66.go (N : Nat) : Nat → (List Int) → Int → (List UInt8) → Int → Int → Option ((Int × Unit))
  | 0, _, _, _, _, _ => none
  | fuel + 1, half, c, t27, t28, t29 =>
    bif decide (t29 < t28) then
      bif inB t29 t27.length then
        bif decide (t29.toNat < t27.length) then
          bif inB (IntKind.u32.wrap ((BitVec.ofInt 32 (IntKind.u32.wrap ((BitVec.ofInt 32 c ^^^ BitVec.ofInt 32 (IntKind.u32.wrap ((t27.getD t29.toNat (0 : UInt8)).toNat : Int))).toNat : Int)) &&& BitVec.ofInt 32 (15 : Int)).toNat : Int)) 16 then
            bif decide ((IntKind.u32.wrap ((BitVec.ofInt 32 (IntKind.u32.wrap ((BitVec.ofInt 32 c ^^^ BitVec.ofInt 32 (IntKind.u32.wrap ((t27.getD t29.toNat (0 : UInt8)).toNat : Int))).toNat : Int)) &&& BitVec.ofInt 32 (15 : Int)).toNat : Int)).toNat < half.length) then
              bif inB (IntKind.u32.wrap ((BitVec.ofInt 32 (IntKind.u32.wrap ((BitVec.ofInt 32 (half.getD (IntKind.u32.wrap ((BitVec.ofInt 32 (IntKind.u32.wrap ((BitVec.ofInt 32 c ^^^ BitVec.ofInt 32 (IntKind.u32.wrap ((t27.getD t29.toNat (0 : UInt8)).toNat : Int))).toNat : Int)) &&& BitVec.ofInt 32 (15 : Int)).toNat : Int)).toNat (0 : Int)) ^^^ BitVec.ofInt 32 ((IntKind.u32.wrap ((BitVec.ofInt 32 c ^^^ BitVec.ofInt 32 (IntKind.u32.wrap ((t27.getD t29.toNat (0 : UInt8)).toNat : Int))).toNat : Int)).fdiv (16 : Int))).toNat : Int)) &&& BitVec.ofInt 32 (15 : Int)).toNat : Int)) 16 then
                bif decide ((IntKind.u32.wrap ((BitVec.ofInt 32 (IntKind.u32.wrap ((BitVec.ofInt 32 (half.getD (IntKind.u32.wrap ((BitVec.ofInt 32 (IntKind.u32.wrap ((BitVec.ofInt 32 c ^^^ BitVec.ofInt 32 (IntKind.u32.wrap ((t27.getD t29.toNat (0 : UInt8)).toNat : Int))).toNat : Int)) &&& BitVec.ofInt 32 (15 : Int)).toNat : Int)).toNat (0 : Int)) ^^^ BitVec.ofInt 32 ((IntKind.u32.wrap ((BitVec.ofInt 32 c ^^^ BitVec.ofInt 32 (IntKind.u32.wrap ((t27.getD t29.toNat (0 : UInt8)).toNat : Int))).toNat : Int)).fdiv (16 : Int))).toNat : Int)) &&& BitVec.ofInt 32 (15 : Int)).toNat : Int)).toNat < half.length) then
                  fB66.go N fuel half (IntKind.u32.wrap ((BitVec.ofInt 32 (half.getD (IntKind.u32.wrap ((BitVec.ofInt 32 (IntKind.u32.wrap ((BitVec.ofInt 32 (half.getD (IntKind.u32.wrap ((BitVec.ofInt 32 (IntKind.u32.wrap ((BitVec.ofInt 32 c ^^^ BitVec.ofInt 32 (IntKind.u32.wrap ((t27.getD t29.toNat (0 : UInt8)).toNat : Int))).toNat : Int)) &&& BitVec.ofInt 32 (15 : Int)).toNat : Int)).toNat (0 : Int)) ^^^ BitVec.ofInt 32 ((IntKind.u32.wrap ((BitVec.ofInt 32 c ^^^ BitVec.ofInt 32 (IntKind.u32.wrap ((t27.getD t29.toNat (0 : UInt8)).toNat : Int))).toNat : Int)).fdiv (16 : Int))).toNat : Int)) &&& BitVec.ofInt 32 (15 : Int)).toNat : Int)).toNat (0 : Int)) ^^^ BitVec.ofInt 32 ((IntKind.u32.wrap ((BitVec.ofInt 32 (half.getD (IntKind.u32.wrap ((BitVec.ofInt 32 (IntKind.u32.wrap ((BitVec.ofInt 32 c ^^^ BitVec.ofInt 32 (IntKind.u32.wrap ((t27.getD t29.toNat (0 : UInt8)).toNat : Int))).toNat : Int)) &&& BitVec.ofInt 32 (15 : Int)).toNat : Int)).toNat (0 : Int)) ^^^ BitVec.ofInt 32 ((IntKind.u32.wrap ((BitVec.ofInt 32 c ^^^ BitVec.ofInt 32 (IntKind.u32.wrap ((t27.getD t29.toNat (0 : UInt8)).toNat : Int))).toNat : Int)).fdiv (16 : Int))).toNat : Int)).fdiv (16 : Int))).toNat : Int)) t27 t28 (IntKind.i64.wrap (t29 + (1 : Int)))
                else none
              else none
            else none
          else none
        else none
      else none
    else some (c, ())
namespace fB66
def g (N n : Nat) : Sh.den ins → Option (altsDen alts) := fun (a, b, c, d, e, _) => fB66.go N n a b c d e
def P (N : Nat) : Ps := ⟨ts, ins, asg, alts, g N N⟩
def lam (N : Nat) : Pcs := pcs []
theorem pok (N : Nat) : (lam N).Ok Tryz.prog (C N) code := pcsOk_nil
theorem ok (N : Nat) : ((P N).pc (fD16.C N)).Ok Tryz.prog (fD16.C N) (.loop code) := okL (F := P N) (g N) (fD16.cok N) mix (pok N) (fun _ => rfl) rfl fun _ _ => by kernel_rfl
end fB66
def fD16.run (N : Nat) (b : (List UInt8)) : Option (Int × Unit) :=
  obind (fB27.go N N (List.replicate 16 (0 : Int)) (0 : Int)) fun (v, _) =>
    obind (fB66.go N N v (4294967295 : Int) b (b.length : Int) (0 : Int)) fun (c, _) =>
      some (IntKind.u32.wrap ((BitVec.ofInt 32 (4294967295 : Int) ^^^ BitVec.ofInt 32 c).toNat : Int), ())
namespace fD16
def fn (N : Nat) : Sh.den ins → Option (Sh.den outs) := fun (a, _) => fD16.run N a
def S (N : Nat) : Fs := ⟨ins, outs, fn N⟩
def lam (N : Nat) : Pcs := pcs [([true, true, false, true, false], (fB27.P N).pc (C N)), ([true, true, true, true, false, true, false], (fB66.P N).pc (C N))]
theorem pok (N : Nat) : (lam N).Ok Tryz.prog (C N) code := pcsOk_cons (c1 := .loop fB27.code) (by kernel_rfl) (fB27.ok N) (pcsOk_cons (c1 := .loop fB66.code) (by kernel_rfl) (fB66.ok N) (pcsOk_nil))
theorem ok (N : Nat) : (S N).con.Ok Tryz.prog 38 := okF (F := S N) [] Tryz.func38 (by kernel_rfl) (by rfl) mix (cok N) (pok N) fun _ => by kernel_rfl
end fD16
namespace fB78
def ins : Sh := (.cons (.rown 5 .byte) .nil)
def C (N : Nat) : Ctx := ⟨U, 30, fun _ => true, gam [(12, (fA77.S N).con), (37, (fD7.S N).con), (38, (fD16.S N).con), (39, (fD29.S N).con), (14, (fD21.S N).con)], gamY []⟩
theorem cok (N : Nat) : (C N).Ok Tryz.prog := ⟨U_ok, GamOk.cons (fA77.ok N) (GamOk.cons (fD7.ok N) (GamOk.cons (fD16.ok N) (GamOk.cons (fD29.ok N) (GamOk.cons (fD21.ok N) (GamOk.nil))))), GamYOk.nil⟩
def code : Code := Tryz.f16.body.getD .skip
def outs : Sh := s22
end fB78
def fB78.run (N : Nat) (b : (List UInt8)) : Option T17 :=
  bif decide ((b.length : Int) > (16777216 : Int)) then
    some (([] : List UInt8), (12 : Int), ())
  else
    obind (fA77.run N) fun ((b1, _), _) =>
      obind (fD7.run N b1 (IntKind.u32.wrap (b.length : Int))) fun ((b2, _), _) =>
        obind (fD16.run N b2) fun (n_, _) =>
          obind (fD7.run N b2 n_) fun ((b3, _), _) =>
            obind (fD29.run N b3 b) fun ((b4, _), _) =>
              obind (fD16.run N b) fun (n1, _) =>
                obind (fD7.run N b4 n1) fun ((b5, _), _) =>
                  obind (fD21.run N b5) fun (l, _) =>
                    some (l, (0 : Int), ())
namespace fB78
def fn (N : Nat) : Sh.den ins → Option (Sh.den outs) := fun (a, _) => fB78.run N a
def S (N : Nat) : Fs := ⟨ins, outs, fn N⟩
def lam (N : Nat) : Pcs := pcs []
theorem pok (N : Nat) : (lam N).Ok Tryz.prog (C N) code := pcsOk_nil
theorem ok (N : Nat) : (S N).con.Ok Tryz.prog 16 := okF (F := S N) [] Tryz.func16 (by kernel_rfl) (by rfl) mix (cok N) (pok N) fun _ => by kernel_rfl
end fB78
namespace fD3
def ins : Sh := (.cons (.val (.slice (.pair (.int .i64) (.pair .bool (.pair (.int .i64) .str))))) s19)
def C (N : Nat) : Ctx := ⟨U, 26, fun _ => true, gam [], gamY []⟩
theorem cok (N : Nat) : (C N).Ok Tryz.prog := ⟨U_ok, GamOk.nil, GamYOk.nil⟩
def code : Code := Tryz.f82.body.getD .skip
def outs : Sh := (.cons (.val .bool) .nil)
end fD3
namespace fA6
def ins : Sh := (.cons (.val (.slice (.pair (.int .i64) (.pair .bool (.pair (.int .i64) .str))))) s21)
def ts : List Tmp := [0, 1, 12, 13]
def asg : List Tmp := [4, 5, 13, 14, 15, 16, 17, 18, 19, 20, 21, 22, 23, 24, 25]
def C (N : Nat) : Ctx := { fD3.C N with may := fun t => asg.any (Nat.beq t) }
def code : Code := loopBody (sub fD3.code [true, true, false, true, false])
theorem cok (N : Nat) : (C N).Ok Tryz.prog := okC (fD3.cok N) _
def alts : List Alt := [⟨.ret, [4], (.cons (.val .bool) .nil)⟩, ⟨(.exit 0), [], .nil⟩]
end fA6
def fA6.go (N : Nat) : Nat → (List T4) → (List T4) → Int → Int → Option T16
  | 0, _, _, _, _ => none
  | fuel + 1, s1, s2, t12, t13 =>
    bif decide (t13 < t12) then
      bif inB t13 s1.length then
        bif inB t13 s2.length then
          bif !((decide ((s1.getD t13.toNat ((0 : Int), false, (0 : Int), ([] : List UInt8))).1 = (s2.getD t13.toNat ((0 : Int), false, (0 : Int), ([] : List UInt8))).1)) && (((s1.getD t13.toNat ((0 : Int), false, (0 : Int), ([] : List UInt8))).2.1 == (s2.getD t13.toNat ((0 : Int), false, (0 : Int), ([] : List UInt8))).2.1) && ((decide ((s1.getD t13.toNat ((0 : Int), false, (0 : Int), ([] : List UInt8))).2.2.1 = (s2.getD t13.toNat ((0 : Int), false, (0 : Int), ([] : List UInt8))).2.2.1)) && ((decide ((s1.getD t13.toNat ((0 : Int), false, (0 : Int), ([] : List UInt8))).2.2.2 = (s2.getD t13.toNat ((0 : Int), false, (0 : Int), ([] : List UInt8))).2.2.2)) && true)))) then
            some (.inl (false, ()))
          else fA6.go N fuel s1 s2 t12 (IntKind.i64.wrap (t13 + (1 : Int)))
        else none
      else none
    else some (.inr ())
namespace fA6
def g (N n : Nat) : Sh.den ins → Option (altsDen alts) := fun (a, b, c, d, _) => fA6.go N n a b c d
def P (N : Nat) : Ps := ⟨ts, ins, asg, alts, g N N⟩
def lam (N : Nat) : Pcs := pcs []
theorem pok (N : Nat) : (lam N).Ok Tryz.prog (C N) code := pcsOk_nil
theorem ok (N : Nat) : ((P N).pc (fD3.C N)).Ok Tryz.prog (fD3.C N) (.loop code) := okL (F := P N) (g N) (fD3.cok N) mix (pok N) (fun _ => rfl) rfl fun _ _ => by kernel_rfl
end fA6
def fD3.run (N : Nat) (s1 : (List T4)) (s2 : (List T4)) : Option (Bool × Unit) :=
  bif !(decide ((s1.length : Int) = (s2.length : Int))) then
    some (false, ())
  else
    obind (fA6.go N N s1 s2 (s1.length : Int) (0 : Int)) fun y => match y with
    | .inl (t4, _) =>
        some (t4, ())
    | .inr (_) =>
        some (true, ())
namespace fD3
def fn (N : Nat) : Sh.den ins → Option (Sh.den outs) := fun (a, b, _) => fD3.run N a b
def S (N : Nat) : Fs := ⟨ins, outs, fn N⟩
def lam (N : Nat) : Pcs := pcs [([true, true, false, true, false], (fA6.P N).pc (C N))]
theorem pok (N : Nat) : (lam N).Ok Tryz.prog (C N) code := pcsOk_cons (c1 := .loop fA6.code) (by kernel_rfl) (fA6.ok N) (pcsOk_nil)
theorem ok (N : Nat) : (S N).con.Ok Tryz.prog 82 := okF (F := S N) [] Tryz.func82 (by kernel_rfl) (by rfl) mix (cok N) (pok N) fun _ => by kernel_rfl
end fD3
namespace fD28
def ins : Sh := s80
def C (N : Nat) : Ctx := ⟨U, 24, fun _ => true, gam [(82, (fD3.S N).con)], gamY []⟩
theorem cok (N : Nat) : (C N).Ok Tryz.prog := ⟨U_ok, GamOk.cons (fD3.ok N) (GamOk.nil), GamYOk.nil⟩
def code : Code := Tryz.f44.body.getD .skip
def outs : Sh := (.cons (.val .bool) .nil)
end fD28
def fD28.run (N : Nat) (a : T6) (b : T6) : Option (Bool × Unit) :=
  bif (decide (a.1.1 = b.1.1)) && ((decide (a.1.2 = b.1.2)) && true) then
    bif decide (a.2.2 = b.2.2) then
      obind (fD3.run N a.2.1 b.2.1) fun (b1, _) =>
        some (b1, ())
    else some (false, ())
  else some (false, ())
namespace fD28
def fn (N : Nat) : Sh.den ins → Option (Sh.den outs) := fun (a, b, _) => fD28.run N a b
def S (N : Nat) : Fs := ⟨ins, outs, fn N⟩
def lam (N : Nat) : Pcs := pcs []
theorem pok (N : Nat) : (lam N).Ok Tryz.prog (C N) code := pcsOk_nil
theorem ok (N : Nat) : (S N).con.Ok Tryz.prog 44 := okF (F := S N) [] Tryz.func44 (by kernel_rfl) (by rfl) mix (cok N) (pok N) fun _ => by kernel_rfl
end fD28
namespace fA64
def ins : Sh := (.cons (.val (.pair (.pair (.int .i64) (.int .i64)) (.pair (.pair (.int .u64) (.int .u32)) (.pair (.slice (.pair (.int .i64) (.pair .bool (.pair (.int .i64) .str)))) (.int .u64))))) (.cons (.val (.pair (.pair (.int .i64) (.int .i64)) (.pair (.pair (.int .u64) (.int .u32)) (.pair (.slice (.pair (.int .i64) (.pair .bool (.pair (.int .i64) .str)))) (.int .u64))))) .nil))
def C (N : Nat) : Ctx := ⟨U, 17, fun _ => true, gam [(44, (fD28.S N).con)], gamY []⟩
theorem cok (N : Nat) : (C N).Ok Tryz.prog := ⟨U_ok, GamOk.cons (fD28.ok N) (GamOk.nil), GamYOk.nil⟩
def code : Code := Tryz.f41.body.getD .skip
def outs : Sh := (.cons (.val .bool) .nil)
end fA64
def fA64.run (N : Nat) (a : T7) (b : T7) : Option (Bool × Unit) :=
  bif (decide (a.1.1 = b.1.1)) && ((decide (a.1.2 = b.1.2)) && true) then
    obind (fD28.run N a.2 b.2) fun (b1, _) =>
      some (b1, ())
  else some (false, ())
namespace fA64
def fn (N : Nat) : Sh.den ins → Option (Sh.den outs) := fun (a, b, _) => fA64.run N a b
def S (N : Nat) : Fs := ⟨ins, outs, fn N⟩
def lam (N : Nat) : Pcs := pcs []
theorem pok (N : Nat) : (lam N).Ok Tryz.prog (C N) code := pcsOk_nil
theorem ok (N : Nat) : (S N).con.Ok Tryz.prog 41 := okF (F := S N) [] Tryz.func41 (by kernel_rfl) (by rfl) mix (cok N) (pok N) fun _ => by kernel_rfl
end fA64
namespace fC0
def ins : Sh := (.cons (.val (.slice (.pair (.pair (.int .i64) (.int .i64)) (.pair (.pair (.int .u64) (.int .u32)) (.pair (.slice (.pair (.int .i64) (.pair .bool (.pair (.int .i64) .str)))) (.int .u64)))))) (.cons (.val (.slice (.pair (.pair (.int .i64) (.int .i64)) (.pair (.pair (.int .u64) (.int .u32)) (.pair (.slice (.pair (.int .i64) (.pair .bool (.pair (.int .i64) .str)))) (.int .u64)))))) (.cons (.fn 41 .nil) .nil)))
def C (N : Nat) : Ctx := ⟨U, 32, fun _ => true, gam [(41, (fA64.S N).con)], gamY []⟩
theorem cok (N : Nat) : (C N).Ok Tryz.prog := ⟨U_ok, GamOk.cons (fA64.ok N) (GamOk.nil), GamYOk.nil⟩
def code : Code := Tryz.f40.body.getD .skip
def outs : Sh := (.cons (.val .bool) .nil)
end fC0
namespace fC2
def ins : Sh := (.cons (.val (.slice (.pair (.pair (.int .i64) (.int .i64)) (.pair (.pair (.int .u64) (.int .u32)) (.pair (.slice (.pair (.int .i64) (.pair .bool (.pair (.int .i64) .str)))) (.int .u64)))))) (.cons (.fn 41 .nil) s25))
def ts : List Tmp := [1, 2, 15, 16, 17]
def asg : List Tmp := [6, 7, 8, 9, 17, 18, 19, 20, 21, 22, 23, 24, 25, 26, 27, 28, 29, 30, 31]
def C (N : Nat) : Ctx := { fC0.C N with may := fun t => asg.any (Nat.beq t) }
def code : Code := loopBody (sub fC0.code [true, true, false, true, false])
theorem cok (N : Nat) : (C N).Ok Tryz.prog := okC (fC0.cok N) _
def alts : List Alt := [⟨.ret, [6], (.cons (.val .bool) .nil)⟩, ⟨(.exit 0), [], .nil⟩]
end fC2
def fC2.go (N : Nat) : Nat → (List T7) → (List T7) → Int → Int → Option T16
  | 0, _, _, _, _ => none
  | fuel + 1, s2, t15, t16, t17 =>
    bif decide (t17 < t16) then
      bif inB t17 t15.length then
        bif inB t17 s2.length then
          obind (fA64.run N (t15.getD t17.toNat (((0 : Int), (0 : Int)), ((0 : Int), (0 : Int)), ([] : List T4), (0 : Int))) (s2.getD t17.toNat (((0 : Int), (0 : Int)), ((0 : Int), (0 : Int)), ([] : List T4), (0 : Int)))) fun (b, _) =>
            bif !b then
              some (.inl (false, ()))
            else fC2.go N fuel s2 t15 t16 (IntKind.i64.wrap (t17 + (1 : Int)))
        else none
      else none
    else some (.inr ())
namespace fC2
def g (N n : Nat) : Sh.den ins → Option (altsDen alts) := fun (a, _, b, c, d, _) => fC2.go N n a b c d
def P (N : Nat) : Ps := ⟨ts, ins, asg, alts, g N N⟩
def lam (N : Nat) : Pcs := pcs []
theorem pok (N : Nat) : (lam N).Ok Tryz.prog (C N) code := pcsOk_nil
theorem ok (N : Nat) : ((P N).pc (fC0.C N)).Ok Tryz.prog (fC0.C N) (.loop code) := okL (F := P N) (g N) (fC0.cok N) mix (pok N) (fun _ => rfl) rfl fun _ _ => by kernel_rfl
end fC2
def fC0.run (N : Nat) (s1 : (List T7)) (s2 : (List T7)) : Option (Bool × Unit) :=
  bif !(decide ((s1.length : Int) = (s2.length : Int))) then
    some (false, ())
  else
    obind (fC2.go N N s2 s1 (s1.length : Int) (0 : Int)) fun y => match y with
    | .inl (t6, _) =>
        some (t6, ())
    | .inr (_) =>
        some (true, ())
namespace fC0
def fn (N : Nat) : Sh.den ins → Option (Sh.den outs) := fun (a, b, _, _) => fC0.run N a b
def S (N : Nat) : Fs := ⟨ins, outs, fn N⟩
def lam (N : Nat) : Pcs := pcs [([true, true, false, true, false], (fC2.P N).pc (C N))]
theorem pok (N : Nat) : (lam N).Ok Tryz.prog (C N) code := pcsOk_cons (c1 := .loop fC2.code) (by kernel_rfl) (fC2.ok N) (pcsOk_nil)
theorem ok (N : Nat) : (S N).con.Ok Tryz.prog 40 := okF (F := S N) [] Tryz.func40 (by kernel_rfl) (by rfl) mix (cok N) (pok N) fun _ => by kernel_rfl
end fC0
namespace fC3
def ins : Sh := (.cons (.val (.slice (.pair (.pair (.int .i64) (.int .i64)) (.pair (.int .u64) (.int .u32))))) s81)
def C (N : Nat) : Ctx := ⟨U, 26, fun _ => true, gam [], gamY []⟩
theorem cok (N : Nat) : (C N).Ok Tryz.prog := ⟨U_ok, GamOk.nil, GamYOk.nil⟩
def code : Code := Tryz.f42.body.getD .skip
def outs : Sh := (.cons (.val .bool) .nil)
end fC3
namespace fD5
def ins : Sh := (.cons (.val (.slice (.pair (.pair (.int .i64) (.int .i64)) (.pair (.int .u64) (.int .u32))))) s32)
def ts : List Tmp := [0, 1, 12, 13]
def asg : List Tmp := [4, 5, 13, 14, 15, 16, 17, 18, 19, 20, 21, 22, 23, 24, 25]
def C (N : Nat) : Ctx := { fC3.C N with may := fun t => asg.any (Nat.beq t) }
def code : Code := loopBody (sub fC3.code [true, true, false, true, false])
theorem cok (N : Nat) : (C N).Ok Tryz.prog := okC (fC3.cok N) _
def alts : List Alt := [⟨.ret, [4], (.cons (.val .bool) .nil)⟩, ⟨(.exit 0), [], .nil⟩]
end fD5
def fD5.go (N : Nat) : Nat → (List T8) → (List T8) → Int → Int → Option T16
  | 0, _, _, _, _ => none
  | fuel + 1, s1, s2, t12, t13 =>
    bif decide (t13 < t12) then
      bif inB t13 s1.length then
        bif inB t13 s2.length then
          bif !(((decide ((s1.getD t13.toNat (((0 : Int), (0 : Int)), (0 : Int), (0 : Int))).1.1 = (s2.getD t13.toNat (((0 : Int), (0 : Int)), (0 : Int), (0 : Int))).1.1)) && ((decide ((s1.getD t13.toNat (((0 : Int), (0 : Int)), (0 : Int), (0 : Int))).1.2 = (s2.getD t13.toNat (((0 : Int), (0 : Int)), (0 : Int), (0 : Int))).1.2)) && true)) && (((decide ((s1.getD t13.toNat (((0 : Int), (0 : Int)), (0 : Int), (0 : Int))).2.1 = (s2.getD t13.toNat (((0 : Int), (0 : Int)), (0 : Int), (0 : Int))).2.1)) && ((decide ((s1.getD t13.toNat (((0 : Int), (0 : Int)), (0 : Int), (0 : Int))).2.2 = (s2.getD t13.toNat (((0 : Int), (0 : Int)), (0 : Int), (0 : Int))).2.2)) && true)) && true)) then
            some (.inl (false, ()))
          else fD5.go N fuel s1 s2 t12 (IntKind.i64.wrap (t13 + (1 : Int)))
        else none
      else none
    else some (.inr ())
namespace fD5
def g (N n : Nat) : Sh.den ins → Option (altsDen alts) := fun (a, b, c, d, _) => fD5.go N n a b c d
def P (N : Nat) : Ps := ⟨ts, ins, asg, alts, g N N⟩
def lam (N : Nat) : Pcs := pcs []
theorem pok (N : Nat) : (lam N).Ok Tryz.prog (C N) code := pcsOk_nil
theorem ok (N : Nat) : ((P N).pc (fC3.C N)).Ok Tryz.prog (fC3.C N) (.loop code) := okL (F := P N) (g N) (fC3.cok N) mix (pok N) (fun _ => rfl) rfl fun _ _ => by kernel_rfl
end fD5
def fC3.run (N : Nat) (s1 : (List T8)) (s2 : (List T8)) : Option (Bool × Unit) :=
  bif !(decide ((s1.length : Int) = (s2.length : Int))) then
    some (false, ())
  else
    obind (fD5.go N N s1 s2 (s1.length : Int) (0 : Int)) fun y => match y with
    | .inl (t4, _) =>
        some (t4, ())
    | .inr (_) =>
        some (true, ())
namespace fC3
def fn (N : Nat) : Sh.den ins → Option (Sh.den outs) := fun (a, b, _) => fC3.run N a b
def S (N : Nat) : Fs := ⟨ins, outs, fn N⟩
def lam (N : Nat) : Pcs := pcs [([true, true, false, true, false], (fD5.P N).pc (C N))]
theorem pok (N : Nat) : (lam N).Ok Tryz.prog (C N) code := pcsOk_cons (c1 := .loop fD5.code) (by kernel_rfl) (fD5.ok N) (pcsOk_nil)
theorem ok (N : Nat) : (S N).con.Ok Tryz.prog 42 := okF (F := S N) [] Tryz.func42 (by kernel_rfl) (by rfl) mix (cok N) (pok N) fun _ => by kernel_rfl
end fC3
namespace fB0
def ins : Sh := (.cons (.val (.slice (.pair (.pair (.int .u64) (.int .u32)) (.pair (.slice (.pair (.int .i64) (.pair .bool (.pair (.int .i64) .str)))) (.int .u64))))) (.cons (.val (.slice (.pair (.pair (.int .u64) (.int .u32)) (.pair (.slice (.pair (.int .i64) (.pair .bool (.pair (.int .i64) .str)))) (.int .u64))))) (.cons (.fn 44 .nil) .nil)))
def C (N : Nat) : Ctx := ⟨U, 32, fun _ => true, gam [(44, (fD28.S N).con)], gamY []⟩
theorem cok (N : Nat) : (C N).Ok Tryz.prog := ⟨U_ok, GamOk.cons (fD28.ok N) (GamOk.nil), GamYOk.nil⟩
def code : Code := Tryz.f43.body.getD .skip
def outs : Sh := (.cons (.val .bool) .nil)
end fB0
namespace fB2
def ins : Sh := (.cons (.val (.slice (.pair (.pair (.int .u64) (.int .u32)) (.pair (.slice (.pair (.int .i64) (.pair .bool (.pair (.int .i64) .str)))) (.int .u64))))) (.cons (.fn 44 .nil) s42))
def ts : List Tmp := [1, 2, 15, 16, 17]
def asg : List Tmp := [6, 7, 8, 9, 17, 18, 19, 20, 21, 22, 23, 24, 25, 26, 27, 28, 29, 30, 31]
def C (N : Nat) : Ctx := { fB0.C N with may := fun t => asg.any (Nat.beq t) }
def code : Code := loopBody (sub fB0.code [true, true, false, true, false])
theorem cok (N : Nat) : (C N).Ok Tryz.prog := okC (fB0.cok N) _
def alts : List Alt := [⟨.ret, [6], (.cons (.val .bool) .nil)⟩, ⟨(.exit 0), [], .nil⟩]
end fB2
def fB2.go (N : Nat) : Nat → (List T6) → (List T6) → Int → Int → Option T16
  | 0, _, _, _, _ => none
  | fuel + 1, s2, t15, t16, t17 =>
    bif decide (t17 < t16) then
      bif inB t17 t15.length then
        bif inB t17 s2.length then
          obind (fD28.run N (t15.getD t17.toNat (((0 : Int), (0 : Int)), ([] : List T4), (0 : Int))) (s2.getD t17.toNat (((0 : Int), (0 : Int)), ([] : List T4), (0 : Int)))) fun (b, _) =>
            bif !b then
              some (.inl (false, ()))
            else fB2.go N fuel s2 t15 t16 (IntKind.i64.wrap (t17 + (1 : Int)))
        else none
      else none
    else some (.inr ())
namespace fB2
def g (N n : Nat) : Sh.den ins → Option (altsDen alts) := fun (a, _, b, c, d, _) => fB2.go N n a b c d
def P (N : Nat) : Ps := ⟨ts, ins, asg, alts, g N N⟩
def lam (N : Nat) : Pcs := pcs []
theorem pok (N : Nat) : (lam N).Ok Tryz.prog (C N) code := pcsOk_nil
theorem ok (N : Nat) : ((P N).pc (fB0.C N)).Ok Tryz.prog (fB0.C N) (.loop code) := okL (F := P N) (g N) (fB0.cok N) mix (pok N) (fun _ => rfl) rfl fun _ _ => by kernel_rfl
end fB2
def fB0.run (N : Nat) (s1 : (List T6)) (s2 : (List T6)) : Option (Bool × Unit) :=
  bif !(decide ((s1.length : Int) = (s2.length : Int))) then
    some (false, ())
  else
    obind (fB2.go N N s2 s1 (s1.length : Int) (0 : Int)) fun y => match y with
    | .inl (t6, _) =>
        some (t6, ())
    | .inr (_) =>
        some (true, ())
namespace fB0
def fn (N : Nat) : Sh.den ins → Option (Sh.den outs) := fun (a, b, _, _) => fB0.run N a b
def S (N : Nat) : Fs := ⟨ins, outs, fn N⟩
def lam (N : Nat) : Pcs := pcs [([true, true, false, true, false], (fB2.P N).pc (C N))]
theorem pok (N : Nat) : (lam N).Ok Tryz.prog (C N) code := pcsOk_cons (c1 := .loop fB2.code) (by kernel_rfl) (fB2.ok N) (pcsOk_nil)
theorem ok (N : Nat) : (S N).con.Ok Tryz.prog 43 := okF (F := S N) [] Tryz.func43 (by kernel_rfl) (by rfl) mix (cok N) (pok N) fun _ => by kernel_rfl
end fB0
namespace fC31
def ins : Sh := s83
def C (N : Nat) : Ctx := ⟨U, 137, fun _ => true, gam [(40, (fC0.S N).con), (42, (fC3.S N).con), (43, (fB0.S N).con)], gamY []⟩
theorem cok (N : Nat) : (C N).Ok Tryz.prog := ⟨U_ok, GamOk.cons (fC0.ok N) (GamOk.cons (fC3.ok N) (GamOk.cons (fB0.ok N) (GamOk.nil))), GamYOk.nil⟩
def code : Code := Tryz.f17.body.getD .skip
def outs : Sh := (.cons (.val .bool) .nil)
end fC31
namespace fB75
def ins : Sh := s84
def ts : List Tmp := [2, 3]
def asg : List Tmp := [5, 7, 8, 9, 10, 11, 12, 13, 14, 15, 16, 17, 18, 19, 20, 21, 22, 23, 24, 25, 26, 27, 28, 29]
def C (N : Nat) : Ctx := { fC31.C N with may := fun t => asg.any (Nat.beq t) }
def code : Code := (sub fC31.code [true, false]).getD .skip
theorem cok (N : Nat) : (C N).Ok Tryz.prog := okC (fC31.cok N) _
def alts : List Alt := [⟨.normal, [5], (.cons (.val .bool) .nil)⟩]
end fB75
def fB75.run (N : Nat) (jA : Int) (jB_ : Int) (jC_ : Int) (jD : Int) (jE : Int) (jF : Int) (jG : Int) (jH : Int) (jI : Int) (jJ : Int) (jK : Int) (jL : Bool) (jM : Bool) (jN : Bool) (jO_ : Int) (jO1 : Int) (jP : (List T7)) (jP1 : (List T8)) (jQ : (List T6)) (jA1 : Int) (jB1 : Int) (jC1 : Int) (jD1 : Int) (jE1 : Int) (jF1 : Int) (jG1 : Int) (jH1 : Int) (jI1 : Int) (jJ1 : Int) (jK1 : Int) (jL1 : Bool) (jM1 : Bool) (jN1 : Bool) (jO2 : Int) (jO3 : Int) (jP2 : (List T7)) (jP3 : (List T8)) (jQ1 : (List T6)) : Option ((Bool × Unit)) :=
  obind (fC0.run N jP jP2) fun (b, _) =>
    bif b then
      obind (fC3.run N jP1 jP3) fun (b1, _) =>
        bif b1 then
          obind (fB0.run N jQ jQ1) fun (b2, _) =>
            some (b2, ())
        else some (false, ())
    else some (false, ())
namespace fB75
def fn (N : Nat) : Sh.den ins → Option (altsDen alts) := fun ((a, b, c, d, e, f, g, h, i, j, k, l, m, o, p, q, r, s, t, _), (u, v, w, x, y, z, x26, x27, x28, x29, x30, x31, x32, x33, x34, x35, x36, x37, x38, _), _) => fB75.run N a b c d e f g h i j k l m o p q r s t u v w x y z x26 x27 x28 x29 x30 x31 x32 x33 x34 x35 x36 x37 x38
def P (N : Nat) : Ps := ⟨ts, ins, asg, alts, fn N⟩
def lam (N : Nat) : Pcs := pcs []
theorem pok (N : Nat) : (lam N).Ok Tryz.prog (C N) code := pcsOk_nil
theorem ok (N : Nat) : ((P N).pc (fC31.C N)).Ok Tryz.prog (fC31.C N) code := okP (F := P N) (fC31.cok N) mix (pok N) fun _ => by kernel_rfl
end fB75
namespace fC75
def ins : Sh := s84
def ts : List Tmp := [2, 3]
def asg : List Tmp := [6, 30, 31, 32, 33, 34, 35, 36, 37, 38, 39, 40, 41, 42, 43, 44, 45, 46, 47, 48, 49, 50, 51, 52, 53, 54, 55, 56, 57, 58, 59, 60, 61, 62, 63, 64, 65, 66, 67, 68, 69, 70, 71, 72, 73, 74, 75, 76]
def C (N : Nat) : Ctx := { fC31.C N with may := fun t => asg.any (Nat.beq t) }
def code : Code := (sub fC31.code [true, true, false]).getD .skip
theorem cok (N : Nat) : (C N).Ok Tryz.prog := okC (fC31.cok N) _
def alts : List Alt := [⟨.normal, [6], (.cons (.val .bool) .nil)⟩]
end fC75
def fC75.run (N : Nat) (jA : Int) (jB_ : Int) (jC_ : Int) (jD : Int) (jE : Int) (jF : Int) (jG : Int) (jH : Int) (jI : Int) (jJ : Int) (jK : Int) (jL : Bool) (jM : Bool) (jN : Bool) (jO_ : Int) (jO1 : Int) (jP : (List T7)) (jP1 : (List T8)) (jQ : (List T6)) (jA1 : Int) (jB1 : Int) (jC1 : Int) (jD1 : Int) (jE1 : Int) (jF1 : Int) (jG1 : Int) (jH1 : Int) (jI1 : Int) (jJ1 : Int) (jK1 : Int) (jL1 : Bool) (jM1 : Bool) (jN1 : Bool) (jO2 : Int) (jO3 : Int) (jP2 : (List T7)) (jP3 : (List T8)) (jQ1 : (List T6)) : Option ((Bool × Unit)) :=
  bif decide (jD = jD1) then
    bif decide (jE = jE1) then
      bif decide (jF = jF1) then
        bif decide (jG = jG1) then
          bif decide (jH = jH1) then
            bif decide (jI = jI1) then
              some (decide (jJ = jJ1), ())
            else some (false, ())
          else some (false, ())
        else some (false, ())
      else some (false, ())
    else some (false, ())
  else some (false, ())
namespace fC75
def fn (N : Nat) : Sh.den ins → Option (altsDen alts) := fun ((a, b, c, d, e, f, g, h, i, j, k, l, m, o, p, q, r, s, t, _), (u, v, w, x, y, z, x26, x27, x28, x29, x30, x31, x32, x33, x34, x35, x36, x37, x38, _), _) => fC75.run N a b c d e f g h i j k l m o p q r s t u v w x y z x26 x27 x28 x29 x30 x31 x32 x33 x34 x35 x36 x37 x38
def P (N : Nat) : Ps := ⟨ts, ins, asg, alts, fn N⟩
def lam (N : Nat) : Pcs := pcs []
theorem pok (N : Nat) : (lam N).Ok Tryz.prog (C N) code := pcsOk_nil
theorem ok (N : Nat) : ((P N).pc (fC31.C N)).Ok Tryz.prog (fC31.C N) code := okP (F := P N) (fC31.cok N) mix (pok N) fun _ => by kernel_rfl
end fC75
def fC31.run (N : Nat) (a : T53) (b : T53) : Option (Bool × Unit) :=
  obind (fB75.run N a.1 a.2.1 a.2.2.1 a.2.2.2.1 a.2.2.2.2.1 a.2.2.2.2.2.1 a.2.2.2.2.2.2.1 a.2.2.2.2.2.2.2.1 a.2.2.2.2.2.2.2.2.1 a.2.2.2.2.2.2.2.2.2.1 a.2.2.2.2.2.2.2.2.2.2.1 a.2.2.2.2.2.2.2.2.2.2.2.1 a.2.2.2.2.2.2.2.2.2.2.2.2.1 a.2.2.2.2.2.2.2.2.2.2.2.2.2.1 a.2.2.2.2.2.2.2.2.2.2.2.2.2.2.1.1 a.2.2.2.2.2.2.2.2.2.2.2.2.2.2.1.2 a.2.2.2.2.2.2.2.2.2.2.2.2.2.2.2.1.1 a.2.2.2.2.2.2.2.2.2.2.2.2.2.2.2.1.2 a.2.2.2.2.2.2.2.2.2.2.2.2.2.2.2.2 b.1 b.2.1 b.2.2.1 b.2.2.2.1 b.2.2.2.2.1 b.2.2.2.2.2.1 b.2.2.2.2.2.2.1 b.2.2.2.2.2.2.2.1 b.2.2.2.2.2.2.2.2.1 b.2.2.2.2.2.2.2.2.2.1 b.2.2.2.2.2.2.2.2.2.2.1 b.2.2.2.2.2.2.2.2.2.2.2.1 b.2.2.2.2.2.2.2.2.2.2.2.2.1 b.2.2.2.2.2.2.2.2.2.2.2.2.2.1 b.2.2.2.2.2.2.2.2.2.2.2.2.2.2.1.1 b.2.2.2.2.2.2.2.2.2.2.2.2.2.2.1.2 b.2.2.2.2.2.2.2.2.2.2.2.2.2.2.2.1.1 b.2.2.2.2.2.2.2.2.2.2.2.2.2.2.2.1.2 b.2.2.2.2.2.2.2.2.2.2.2.2.2.2.2.2) fun (lists, _) =>
    obind (fC75.run N a.1 a.2.1 a.2.2.1 a.2.2.2.1 a.2.2.2.2.1 a.2.2.2.2.2.1 a.2.2.2.2.2.2.1 a.2.2.2.2.2.2.2.1 a.2.2.2.2.2.2.2.2.1 a.2.2.2.2.2.2.2.2.2.1 a.2.2.2.2.2.2.2.2.2.2.1 a.2.2.2.2.2.2.2.2.2.2.2.1 a.2.2.2.2.2.2.2.2.2.2.2.2.1 a.2.2.2.2.2.2.2.2.2.2.2.2.2.1 a.2.2.2.2.2.2.2.2.2.2.2.2.2.2.1.1 a.2.2.2.2.2.2.2.2.2.2.2.2.2.2.1.2 a.2.2.2.2.2.2.2.2.2.2.2.2.2.2.2.1.1 a.2.2.2.2.2.2.2.2.2.2.2.2.2.2.2.1.2 a.2.2.2.2.2.2.2.2.2.2.2.2.2.2.2.2 b.1 b.2.1 b.2.2.1 b.2.2.2.1 b.2.2.2.2.1 b.2.2.2.2.2.1 b.2.2.2.2.2.2.1 b.2.2.2.2.2.2.2.1 b.2.2.2.2.2.2.2.2.1 b.2.2.2.2.2.2.2.2.2.1 b.2.2.2.2.2.2.2.2.2.2.1 b.2.2.2.2.2.2.2.2.2.2.2.1 b.2.2.2.2.2.2.2.2.2.2.2.2.1 b.2.2.2.2.2.2.2.2.2.2.2.2.2.1 b.2.2.2.2.2.2.2.2.2.2.2.2.2.2.1.1 b.2.2.2.2.2.2.2.2.2.2.2.2.2.2.1.2 b.2.2.2.2.2.2.2.2.2.2.2.2.2.2.2.1.1 b.2.2.2.2.2.2.2.2.2.2.2.2.2.2.2.1.2 b.2.2.2.2.2.2.2.2.2.2.2.2.2.2.2.2) fun (rest, _) =>
      bif lists then
        bif rest then
          bif decide (a.1 = b.1) then
            bif decide (a.2.1 = b.2.1) then
              bif decide (a.2.2.1 = b.2.2.1) then
                bif decide (a.2.2.2.2.2.2.2.2.2.2.1 = b.2.2.2.2.2.2.2.2.2.2.1) then
                  bif a.2.2.2.2.2.2.2.2.2.2.2.1 == b.2.2.2.2.2.2.2.2.2.2.2.1 then
                    bif a.2.2.2.2.2.2.2.2.2.2.2.2.1 == b.2.2.2.2.2.2.2.2.2.2.2.2.1 then
                      bif a.2.2.2.2.2.2.2.2.2.2.2.2.2.1 == b.2.2.2.2.2.2.2.2.2.2.2.2.2.1 then
                        some ((decide (a.2.2.2.2.2.2.2.2.2.2.2.2.2.2.1.1 = b.2.2.2.2.2.2.2.2.2.2.2.2.2.2.1.1)) && ((decide (a.2.2.2.2.2.2.2.2.2.2.2.2.2.2.1.2 = b.2.2.2.2.2.2.2.2.2.2.2.2.2.2.1.2)) && true), ())
                      else some (false, ())
                    else some (false, ())
                  else some (false, ())
                else some (false, ())
              else some (false, ())
            else some (false, ())
          else some (false, ())
        else some (false, ())
      else some (false, ())
namespace fC31
def fn (N : Nat) : Sh.den ins → Option (Sh.den outs) := fun (a, b, _) => fC31.run N a b
def S (N : Nat) : Fs := ⟨ins, outs, fn N⟩
def lam (N : Nat) : Pcs := pcs [([true, false], (fB75.P N).pc (C N)), ([true, true, false], (fC75.P N).pc (C N))]
theorem pok (N : Nat) : (lam N).Ok Tryz.prog (C N) code := pcsOk_cons (c1 := fB75.code) (by kernel_rfl) (fB75.ok N) (pcsOk_cons (c1 := fC75.code) (by kernel_rfl) (fC75.ok N) (pcsOk_nil))
theorem ok (N : Nat) : (S N).con.Ok Tryz.prog 17 := okF (F := S N) [] Tryz.func17 (by kernel_rfl) (by rfl) mix (cok N) (pok N) fun _ => by kernel_rfl
end fC31
namespace fB65
def ins : Sh := s82
def C (N : Nat) : Ctx := ⟨U, 46, fun _ => true, gam [(12, (fA77.S N).con), (13, (((fC28.S N).con).or (fB74.S N).con)), (14, (fD21.S N).con), (15, (fD66.S N).con), (16, (fB78.S N).con), (17, (fC31.S N).con)], gamY []⟩
theorem cok (N : Nat) : (C N).Ok Tryz.prog := ⟨U_ok, GamOk.cons (fA77.ok N) (GamOk.cons (Con.or_ok (fC28.ok N) (fB74.ok N)) (GamOk.cons (fD21.ok N) (GamOk.cons (fD66.ok N) (GamOk.cons (fB78.ok N) (GamOk.cons (fC31.ok N) (GamOk.nil)))))), GamYOk.nil⟩
def code : Code := Tryz.f5.body.getD .skip
def outs : Sh := s22
end fB65
def fB65.run (N : Nat) (m : T53) : Option T17 :=
  obind (fA77.run N) fun ((b, _), _) =>
    obind (fB74.run N b false m.1 m.2.1 m.2.2.1 m.2.2.2.1 m.2.2.2.2.1 m.2.2.2.2.2.1 m.2.2.2.2.2.2.1 m.2.2.2.2.2.2.2.1 m.2.2.2.2.2.2.2.2.1 m.2.2.2.2.2.2.2.2.2.1 m.2.2.2.2.2.2.2.2.2.2.1 m.2.2.2.2.2.2.2.2.2.2.2.1 m.2.2.2.2.2.2.2.2.2.2.2.2.1 m.2.2.2.2.2.2.2.2.2.2.2.2.2.1 m.2.2.2.2.2.2.2.2.2.2.2.2.2.2.1.1 m.2.2.2.2.2.2.2.2.2.2.2.2.2.2.1.2 m.2.2.2.2.2.2.2.2.2.2.2.2.2.2.2.1.1 m.2.2.2.2.2.2.2.2.2.2.2.2.2.2.2.1.2 m.2.2.2.2.2.2.2.2.2.2.2.2.2.2.2.2) fun ((b1, _), (_, _, jT, _), (jA, jB_, jC_, jD, jE, jF, jG, jH, jI, jJ, jK, jL, jM, jN, jO_, jO1, jP, jP1, jQ, _), _) =>
      bif jT then
        some (([] : List UInt8), (170 : Int), ())
      else
        obind (fD21.run N b1) fun (l, _) =>
          obind (fD66.run N l) fun ((b2, e, _), _) =>
            obind (fC28.run N b2 e false (0 : Int) (0 : Int) (0 : Int) (0 : Int) (0 : Int) (0 : Int) (0 : Int) (0 : Int) (0 : Int) (0 : Int) (0 : Int) false false false (0 : Int) (0 : Int) ([] : List T7) ([] : List T8) ([] : List T6)) fun ((b3, e1, _), (_, _, jT1, _), (jA1, jB1, jC1, jD1, jE1, jF1, jG1, jH1, jI1, jJ1, jK1, jL1, jM1, jN1, jO2, jO3, jP2, jP3, jQ1, _), _) =>
              obind (fB78.run N l) fun (l1, n_, _) =>
                bif !(decide (n_ = (0 : Int))) then
                  some (([] : List UInt8), (170 : Int), ())
                else
                  obind (fC31.run N m (jA1, jB1, jC1, jD1, jE1, jF1, jG1, jH1, jI1, jJ1, jK1, jL1, jM1, jN1, (jO2, jO3), (jP2, jP3), jQ1)) fun (b4, _) =>
                    bif !b4 then
                      some (([] : List UInt8), (170 : Int), ())
                    else some (l1, (0 : Int), ())
namespace fB65
def fn (N : Nat) : Sh.den ins → Option (Sh.den outs) := fun (a, _) => fB65.run N a
def S (N : Nat) : Fs := ⟨ins, outs, fn N⟩
def lam (N : Nat) : Pcs := pcs []
theorem pok (N : Nat) : (lam N).Ok Tryz.prog (C N) code := pcsOk_nil
theorem ok (N : Nat) : (S N).con.Ok Tryz.prog 5 := okF (F := S N) [] Tryz.func5 (by kernel_rfl) (by rfl) mix (cok N) (pok N) fun _ => by kernel_rfl
end fB65
namespace fC38
def ins : Sh := (.cons (.val (.int .i64)) .nil)
def C (N : Nat) : Ctx := ⟨U, 28, fun _ => true, gam [], gamY []⟩
theorem cok (N : Nat) : (C N).Ok Tryz.prog := ⟨U_ok, GamOk.nil, GamYOk.nil⟩
def code : Code := Tryz.f18.body.getD .skip
def outs : Sh := (.cons (.val .str) .nil)
end fC38
def fC38.run (N : Nat) (jA : Int) : Option T0 :=
  bif decide (jA = (1 : Int)) then
    some (([(120 : UInt8), (98 : UInt8), (112 : UInt8)] : List UInt8), ())
  else
    bif decide (jA = (2 : Int)) then
      some (([(120 : UInt8), (121 : UInt8)] : List UInt8), ())
    else
      bif decide (jA = (3 : Int)) then
        some (([(101 : UInt8), (120 : UInt8)] : List UInt8), ())
      else
        bif decide (jA = (4 : Int)) then
          some (([(101 : UInt8), (109 : UInt8)] : List UInt8), ())
        else
          bif decide (jA = (5 : Int)) then
            some (([(113 : UInt8), (101 : UInt8), (97 : UInt8)] : List UInt8), ())
          else
            bif decide (jA = (6 : Int)) then
              some (([(113 : UInt8), (97 : UInt8), (110 : UInt8), (118 : UInt8)] : List UInt8), ())
            else
              bif decide (jA = (7 : Int)) then
                some (([(113 : UInt8), (101 : UInt8), (119 : UInt8)] : List UInt8), ())
              else
                bif decide (jA = (8 : Int)) then
                  some (([(100 : UInt8), (116 : UInt8), (97 : UInt8), (115 : UInt8), (101 : UInt8)] : List UInt8), ())
                else
                  bif decide (jA = (9 : Int)) then
                    some (([(116 : UInt8), (97 : UInt8), (115 : UInt8), (101 : UInt8), (109 : UInt8), (118 : UInt8)] : List UInt8), ())
                  else
                    bif decide (jA = (10 : Int)) then
                      some (([(116 : UInt8), (101 : UInt8)] : List UInt8), ())
                    else
                      bif decide (jA = (11 : Int)) then
                        some (([(109 : UInt8)] : List UInt8), ())
                      else
                        bif decide (jA = (12 : Int)) then
                          some (([(113 : UInt8)] : List UInt8), ())
                        else some (([] : List UInt8), ())
namespace fC38
def fn (N : Nat) : Sh.den ins → Option (Sh.den outs) := fun (a, _) => fC38.run N a
def S (N : Nat) : Fs := ⟨ins, outs, fn N⟩
def lam (N : Nat) : Pcs := pcs []
theorem pok (N : Nat) : (lam N).Ok Tryz.prog (C N) code := pcsOk_nil
theorem ok (N : Nat) : (S N).con.Ok Tryz.prog 18 := okF (F := S N) [] Tryz.func18 (by kernel_rfl) (by rfl) mix (cok N) (pok N) fun _ => by kernel_rfl
end fC38
namespace fC57
def ins : Sh := s82
def C (N : Nat) : Ctx := ⟨U, 96, fun _ => true, gam [(18, (fC38.S N).con)], gamY []⟩
theorem cok (N : Nat) : (C N).Ok Tryz.prog := ⟨U_ok, GamOk.cons (fC38.ok N) (GamOk.nil), GamYOk.nil⟩
def code : Code := Tryz.f19.body.getD .skip
def outs : Sh := s82
end fC57
namespace fD27
def ins : Sh := (.cons (.rbox 31 s7) s85)
def ts : List Tmp := [1, 3, 4, 5]
def asg : List Tmp := [5, 16, 17, 18, 19, 20, 21, 22, 23, 24, 25, 26, 27, 28, 29, 30, 31, 32, 33, 34, 35, 36, 37, 38, 39, 40, 41, 42, 43, 44, 45, 46, 47, 48, 49, 50, 51, 52, 53, 54, 55, 56, 57, 58, 59, 60, 61, 62, 63, 64, 65, 66, 67, 68, 69, 70, 71, 72, 73, 74, 75, 76, 77, 78, 79, 80, 81, 82, 83, 84, 85, 86, 87, 88, 89, 90, 91, 92, 93, 94]
def C (N : Nat) : Ctx := { fC57.C N with may := fun t => asg.any (Nat.beq t) }
def code : Code := loopBody (sub fC57.code [true, true, true, false, true, false])
theorem cok (N : Nat) : (C N).Ok Tryz.prog := okC (fC57.cok N) _
def alts : List Alt := [⟨(.exit 0), [], (.cons (.upd 1 31 s7) .nil)⟩]
end fD27
namespace fB61
def ins : Sh := (.cons (.rbox 31 s7) s85)
def ts : List Tmp := [1, 3, 4, 5]
def asg : List Tmp := [22, 23, 24, 25, 26, 27, 28, 29, 30, 31, 32, 33, 34, 35, 36, 37, 38, 39, 40, 41, 42, 43, 44, 45, 46, 47, 48, 49, 50, 51, 52, 53, 54, 55, 56, 57, 58, 59, 60, 61, 62, 63, 64, 65, 66, 67, 68, 69, 70, 71, 72, 73, 74, 75, 76, 77, 78, 79, 80, 81, 82, 83, 84, 85, 86, 87, 88, 89, 90, 91, 92, 93, 94]
def C (N : Nat) : Ctx := { fD27.C N with may := fun t => asg.any (Nat.beq t) }
def code : Code := (sub fD27.code [true, false]).getD .skip
theorem cok (N : Nat) : (C N).Ok Tryz.prog := okC (fD27.cok N) _
def alts : List Alt := [⟨.normal, [], (.cons (.upd 1 31 s7) .nil)⟩]
end fB61
def fB61.run (N : Nat) (jA : Int) (jB_ : Int) (jC_ : Int) (jD : Int) (jE : Int) (jF : Int) (jG : Int) (jH : Int) (jI : Int) (jJ : Int) (jK : Int) (jL : Bool) (jM : Bool) (jN : Bool) (jO_ : Int) (jO1 : Int) (jP : (List T7)) (jP1 : (List T8)) (jQ : (List T6)) (jA1 : Int) (jB1 : Int) (jC1 : Int) (jD1 : Int) (jE1 : Int) (jF1 : Int) (jG1 : Int) (jH1 : Int) (jI1 : Int) (jJ1 : Int) (jK1 : Int) (jL1 : Bool) (jM1 : Bool) (jN1 : Bool) (jO2 : Int) (jO3 : Int) (jP2 : (List T7)) (jP3 : (List T8)) (jQ1 : (List T6)) (f : (List UInt8)) (i : Int) : Option ((T10 × Unit)) :=
  bif inB i f.length then
    bif decide (((f.getD i.toNat (0 : UInt8)).toNat : Int) = (120 : Int)) then
      some ((jA1, jB1, jC1, jD, jE1, jF1, jG1, jH1, jI1, jJ1, jK1, jL1, jM1, jN1, jO2, jO3, jP2, jP3, jQ1, ()), ())
    else
      bif decide (((f.getD i.toNat (0 : UInt8)).toNat : Int) = (98 : Int)) then
        some ((jA1, jB1, jC1, jD1, jE, jF1, jG1, jH1, jI1, jJ1, jK1, jL1, jM1, jN1, jO2, jO3, jP2, jP3, jQ1, ()), ())
      else
        bif decide (((f.getD i.toNat (0 : UInt8)).toNat : Int) = (112 : Int)) then
          some ((jA1, jB1, jC1, jD1, jE1, jF1, jG1, jH1, jI1, jJ1, jK1, jL1, jM1, jN1, jO2, jO3, jP, jP1, jQ1, ()), ())
        else
          bif decide (((f.getD i.toNat (0 : UInt8)).toNat : Int) = (121 : Int)) then
            some ((jA1, jB1, jC1, jD1, jE1, jF1, jG1, jH1, jI1, jJ1, jK1, jL, jM1, jN1, jO2, jO3, jP2, jP3, jQ1, ()), ())
          else
            bif decide (((f.getD i.toNat (0 : UInt8)).toNat : Int) = (101 : Int)) then
              some ((jA1, jB1, jC1, jD1, jE1, jF, jG1, jH1, jI1, jJ1, jK1, jL1, jM1, jN1, jO2, jO3, jP2, jP3, jQ1, ()), ())
            else
              bif decide (((f.getD i.toNat (0 : UInt8)).toNat : Int) = (109 : Int)) then
                some ((jA1, jB1, jC1, jD1, jE1, jF1, jG1, jH, jI1, jJ1, jK1, jL1, jM1, jN1, jO2, jO3, jP2, jP3, jQ1, ()), ())
              else
                bif decide (((f.getD i.toNat (0 : UInt8)).toNat : Int) = (113 : Int)) then
                  some ((jA1, jB1, jC1, jD1, jE1, jF1, jG1, jH1, jI, jJ1, jK1, jL1, jM1, jN1, jO2, jO3, jP2, jP3, jQ1, ()), ())
                else
                  bif decide (((f.getD i.toNat (0 : UInt8)).toNat : Int) = (97 : Int)) then
                    some ((jA1, jB1, jC1, jD1, jE1, jF1, jG1, jH1, jI1, jJ1, jK1, jL1, jM1, jN1, jO_, jO1, jP2, jP3, jQ1, ()), ())
                  else
                    bif decide (((f.getD i.toNat (0 : UInt8)).toNat : Int) = (110 : Int)) then
                      some ((jA1, jB1, jC1, jD1, jE1, jF1, jG1, jH1, jI1, jJ1, jK1, jL1, jM, jN1, jO2, jO3, jP2, jP3, jQ1, ()), ())
                    else
                      bif decide (((f.getD i.toNat (0 : UInt8)).toNat : Int) = (118 : Int)) then
                        some ((jA1, jB1, jC1, jD1, jE1, jF1, jG1, jH1, jI1, jJ1, jK1, jL1, jM1, jN1, jO2, jO3, jP2, jP3, jQ, ()), ())
                      else
                        bif decide (((f.getD i.toNat (0 : UInt8)).toNat : Int) = (119 : Int)) then
                          some ((jA1, jB1, jC1, jD1, jE1, jF1, jG1, jH1, jI1, jJ1, jK1, jL1, jM1, jN, jO2, jO3, jP2, jP3, jQ1, ()), ())
                        else
                          bif decide (((f.getD i.toNat (0 : UInt8)).toNat : Int) = (100 : Int)) then
                            some ((jA1, jB1, jC1, jD1, jE1, jF1, jG1, jH1, jI1, jJ1, jK, jL1, jM1, jN1, jO2, jO3, jP2, jP3, jQ1, ()), ())
                          else
                            bif decide (((f.getD i.toNat (0 : UInt8)).toNat : Int) = (116 : Int)) then
                              some ((jA1, jB1, jC1, jD1, jE1, jF1, jG1, jH1, jI1, jJ, jK1, jL1, jM1, jN1, jO2, jO3, jP2, jP3, jQ1, ()), ())
                            else
                              bif decide (((f.getD i.toNat (0 : UInt8)).toNat : Int) = (115 : Int)) then
                                some ((jA1, jB1, jC1, jD1, jE1, jF1, jG, jH1, jI1, jJ1, jK1, jL1, jM1, jN1, jO2, jO3, jP2, jP3, jQ1, ()), ())
                              else some ((jA1, jB1, jC1, jD1, jE1, jF1, jG1, jH1, jI1, jJ1, jK1, jL1, jM1, jN1, jO2, jO3, jP2, jP3, jQ1, ()), ())
  else none
namespace fB61
def fn (N : Nat) : Sh.den ins → Option (altsDen alts) := fun ((a, b, c, d, e, f, g, h, i, j, k, l, m, o, p, q, r, s, t, _), (u, v, w, x, y, z, x26, x27, x28, x29, x30, x31, x32, x33, x34, x35, x36, x37, x38, _), x39, x40, _) => fB61.run N a b c d e f g h i j k l m o p q r s t u v w x y z x26 x27 x28 x29 x30 x31 x32 x33 x34 x35 x36 x37 x38 x39 x40
def P (N : Nat) : Ps := ⟨ts, ins, asg, alts, fn N⟩
def lam (N : Nat) : Pcs := pcs []
theorem pok (N : Nat) : (lam N).Ok Tryz.prog (C N) code := pcsOk_nil
theorem ok (N : Nat) : ((P N).pc (fD27.C N)).Ok Tryz.prog (fD27.C N) code := okP (F := P N) (fD27.cok N) mix (pok N) fun _ => by kernel_rfl
end fB61
def fD27.go (N : Nat) : Nat → Int → Int → Int → Int → Int → Int → Int → Int → Int → Int → Int → Bool → Bool → Bool → Int → Int → (List T7) → (List T8) → (List T6) → Int → Int → Int → Int → Int → Int → Int → Int → Int → Int → Int → Bool → Bool → Bool → Int → Int → (List T7) → (List T8) → (List T6) → (List UInt8) → Int → Option ((T10 × Unit))
  | 0, _, _, _, _, _, _, _, _, _, _, _, _, _, _, _, _, _, _, _, _, _, _, _, _, _, _, _, _, _, _, _, _, _, _, _, _, _, _, _, _ => none
  | fuel + 1, jA, jB_, jC_, jD, jE, jF, jG, jH, jI, jJ, jK, jL, jM, jN, jO_, jO1, jP, jP1, jQ, jA1, jB1, jC1, jD1, jE1, jF1, jG1, jH1, jI1, jJ1, jK1, jL1, jM1, jN1, jO2, jO3, jP2, jP3, jQ1, f, i =>
    bif decide (i < (f.length : Int)) then
      obind (fB61.run N jA jB_ jC_ jD jE jF jG jH jI jJ jK jL jM jN jO_ jO1 jP jP1 jQ jA1 jB1 jC1 jD1 jE1 jF1 jG1 jH1 jI1 jJ1 jK1 jL1 jM1 jN1 jO2 jO3 jP2 jP3 jQ1 f i) fun ((jA2, jB2, jC2, jD2, jE2, jF2, jG2, jH2, jI2, jJ2, jK2, jL2, jM2, jN2, jO4, jO5, jP4, jP5, jQ2, _), _) =>
        fD27.go N fuel jA jB_ jC_ jD jE jF jG jH jI jJ jK jL jM jN jO_ jO1 jP jP1 jQ jA2 jB2 jC2 jD2 jE2 jF2 jG2 jH2 jI2 jJ2 jK2 jL2 jM2 jN2 jO4 jO5 jP4 jP5 jQ2 f (IntKind.i64.wrap (i + (1 : Int)))
    else some ((jA1, jB1, jC1, jD1, jE1, jF1, jG1, jH1, jI1, jJ1, jK1, jL1, jM1, jN1, jO2, jO3, jP2, jP3, jQ1, ()), ())
namespace fD27
def g (N n : Nat) : Sh.den ins → Option (altsDen alts) := fun ((a, b, c, d, e, f, g, h, i, j, k, l, m, o, p, q, r, s, t, _), (u, v, w, x, y, z, x26, x27, x28, x29, x30, x31, x32, x33, x34, x35, x36, x37, x38, _), x39, x40, _) => fD27.go N n a b c d e f g h i j k l m o p q r s t u v w x y z x26 x27 x28 x29 x30 x31 x32 x33 x34 x35 x36 x37 x38 x39 x40
def P (N : Nat) : Ps := ⟨ts, ins, asg, alts, g N N⟩
def lam (N : Nat) : Pcs := pcs [([true, false], (fB61.P N).pc (C N))]
theorem pok (N : Nat) : (lam N).Ok Tryz.prog (C N) code := pcsOk_cons (c1 := fB61.code) (by kernel_rfl) (fB61.ok N) (pcsOk_nil)
theorem ok (N : Nat) : ((P N).pc (fC57.C N)).Ok Tryz.prog (fC57.C N) (.loop code) := okL (F := P N) (g N) (fC57.cok N) mix (pok N) (fun _ => rfl) rfl fun _ _ => by kernel_rfl
end fD27
def fC57.run (N : Nat) (m : T53) : Option (T53 × Unit) :=
  obind (fC38.run N m.1) fun (s, _) =>
    obind (fD27.go N N m.1 m.2.1 m.2.2.1 m.2.2.2.1 m.2.2.2.2.1 m.2.2.2.2.2.1 m.2.2.2.2.2.2.1 m.2.2.2.2.2.2.2.1 m.2.2.2.2.2.2.2.2.1 m.2.2.2.2.2.2.2.2.2.1 m.2.2.2.2.2.2.2.2.2.2.1 m.2.2.2.2.2.2.2.2.2.2.2.1 m.2.2.2.2.2.2.2.2.2.2.2.2.1 m.2.2.2.2.2.2.2.2.2.2.2.2.2.1 m.2.2.2.2.2.2.2.2.2.2.2.2.2.2.1.1 m.2.2.2.2.2.2.2.2.2.2.2.2.2.2.1.2 m.2.2.2.2.2.2.2.2.2.2.2.2.2.2.2.1.1 m.2.2.2.2.2.2.2.2.2.2.2.2.2.2.2.1.2 m.2.2.2.2.2.2.2.2.2.2.2.2.2.2.2.2 m.1 m.2.1 m.2.2.1 (0 : Int) (0 : Int) (0 : Int) (0 : Int) (0 : Int) (0 : Int) (0 : Int) (0 : Int) false false false (0 : Int) (0 : Int) ([] : List T7) ([] : List T8) ([] : List T6) s (0 : Int)) fun ((jA, jB_, jC_, jD, jE, jF, jG, jH, jI, jJ, jK, jL, jM, jN, jO_, jO1, jP, jP1, jQ, _), _) =>
      some ((jA, jB_, jC_, jD, jE, jF, jG, jH, jI, jJ, jK, jL, jM, jN, (jO_, jO1), (jP, jP1), jQ), ())
namespace fC57
def fn (N : Nat) : Sh.den ins → Option (Sh.den outs) := fun (a, _) => fC57.run N a
def S (N : Nat) : Fs := ⟨ins, outs, fn N⟩
def lam (N : Nat) : Pcs := pcs [([true, true, true, false, true, false], (fD27.P N).pc (C N))]
theorem pok (N : Nat) : (lam N).Ok Tryz.prog (C N) code := pcsOk_cons (c1 := .loop fD27.code) (by kernel_rfl) (fD27.ok N) (pcsOk_nil)
theorem ok (N : Nat) : (S N).con.Ok Tryz.prog 19 := okF (F := S N) [] Tryz.func19 (by kernel_rfl) (by rfl) mix (cok N) (pok N) fun _ => by kernel_rfl
end fC57
namespace fB25
def ins : Sh := s80
def C (N : Nat) : Ctx := ⟨U, 45, fun _ => true, gam [], gamY []⟩
theorem cok (N : Nat) : (C N).Ok Tryz.prog := ⟨U_ok, GamOk.nil, GamYOk.nil⟩
def code : Code := Tryz.f52.body.getD .skip
def outs : Sh := (.cons (.val .bool) .nil)
end fB25
namespace fB49
def ins : Sh := (.cons (.rbox 93 s14) (.cons (.rbox 93 s14) (.cons (.val (.int .i64)) .nil)))
def ts : List Tmp := [2, 3, 5]
def asg : List Tmp := [4, 5, 27, 28, 29, 30, 31, 32, 33, 34, 35, 36, 37, 38, 39, 40, 41, 42, 43, 44]
def C (N : Nat) : Ctx := { fB25.C N with may := fun t => asg.any (Nat.beq t) }
def code : Code := loopBody (sub fB25.code [true, true, false, true, false])
theorem cok (N : Nat) : (C N).Ok Tryz.prog := okC (fB25.cok N) _
def alts : List Alt := [⟨.ret, [4], (.cons (.val .bool) .nil)⟩, ⟨(.exit 0), [], .nil⟩]
end fB49
def fB49.go (N : Nat) : Nat → Int → Int → (List T4) → Int → Int → Int → (List T4) → Int → Int → Option T16
  | 0, _, _, _, _, _, _, _, _, _ => none
  | fuel + 1, id_, id1, row, jU, id2, id3, row1, jU1, i =>
    bif decide (i < (row.length : Int)) then
      bif inB i row.length then
        bif inB i row1.length then
          bif !((decide ((row.getD i.toNat ((0 : Int), false, (0 : Int), ([] : List UInt8))).1 = (row1.getD i.toNat ((0 : Int), false, (0 : Int), ([] : List UInt8))).1)) && (((row.getD i.toNat ((0 : Int), false, (0 : Int), ([] : List UInt8))).2.1 == (row1.getD i.toNat ((0 : Int), false, (0 : Int), ([] : List UInt8))).2.1) && ((decide ((row.getD i.toNat ((0 : Int), false, (0 : Int), ([] : List UInt8))).2.2.1 = (row1.getD i.toNat ((0 : Int), false, (0 : Int), ([] : List UInt8))).2.2.1)) && ((decide ((row.getD i.toNat ((0 : Int), false, (0 : Int), ([] : List UInt8))).2.2.2 = (row1.getD i.toNat ((0 : Int), false, (0 : Int), ([] : List UInt8))).2.2.2)) && true)))) then
            some (.inl (false, ()))
          else fB49.go N fuel id_ id1 row jU id2 id3 row1 jU1 (IntKind.i64.wrap (i + (1 : Int)))
        else none
      else none
    else some (.inr ())
namespace fB49
def g (N n : Nat) : Sh.den ins → Option (altsDen alts) := fun ((a, b, c, d, _), (e, f, g, h, _), i, _) => fB49.go N n a b c d e f g h i
def P (N : Nat) : Ps := ⟨ts, ins, asg, alts, g N N⟩
def lam (N : Nat) : Pcs := pcs []
theorem pok (N : Nat) : (lam N).Ok Tryz.prog (C N) code := pcsOk_nil
theorem ok (N : Nat) : ((P N).pc (fB25.C N)).Ok Tryz.prog (fB25.C N) (.loop code) := okL (F := P N) (g N) (fB25.cok N) mix (pok N) (fun _ => rfl) rfl fun _ _ => by kernel_rfl
end fB49
def fB25.run (N : Nat) (a : T6) (b : T6) : Option (Bool × Unit) :=
  bif !((decide (a.1.1 = b.1.1)) && ((decide (a.1.2 = b.1.2)) && true)) then
    some (false, ())
  else
    bif !(decide (a.2.2 = b.2.2)) then
      some (false, ())
    else
      bif !(decide ((a.2.1.length : Int) = (b.2.1.length : Int))) then
        some (false, ())
      else
        obind (fB49.go N N a.1.1 a.1.2 a.2.1 a.2.2 b.1.1 b.1.2 b.2.1 b.2.2 (0 : Int)) fun y => match y with
        | .inl (t4, _) =>
            some (t4, ())
        | .inr (_) =>
            some (true, ())
namespace fB25
def fn (N : Nat) : Sh.den ins → Option (Sh.den outs) := fun (a, b, _) => fB25.run N a b
def S (N : Nat) : Fs := ⟨ins, outs, fn N⟩
def lam (N : Nat) : Pcs := pcs [([true, true, false, true, false], (fB49.P N).pc (C N))]
theorem pok (N : Nat) : (lam N).Ok Tryz.prog (C N) code := pcsOk_cons (c1 := .loop fB49.code) (by kernel_rfl) (fB49.ok N) (pcsOk_nil)
theorem ok (N : Nat) : (S N).con.Ok Tryz.prog 52 := okF (F := S N) [] Tryz.func52 (by kernel_rfl) (by rfl) mix (cok N) (pok N) fun _ => by kernel_rfl
end fB25
namespace fD11
def ins : Sh := (.cons (.val (.pair (.slice (.pair (.pair (.int .i64) (.int .i64)) (.pair (.pair (.int .u64) (.int .u32)) (.pair (.slice (.pair (.int .i64) (.pair .bool (.pair (.int .i64) .str)))) (.int .u64))))) (.slice (.pair (.pair (.int .i64) (.int .i64)) (.pair (.int .u64) (.int .u32)))))) s86)
def C (N : Nat) : Ctx := ⟨U, 77, fun _ => true, gam [(52, (fB25.S N).con)], gamY []⟩
theorem cok (N : Nat) : (C N).Ok Tryz.prog := ⟨U_ok, GamOk.cons (fB25.ok N) (GamOk.nil), GamYOk.nil⟩
def code : Code := Tryz.f24.body.getD .skip
def outs : Sh := (.cons (.val .bool) .nil)
end fD11
namespace fA42
def ins : Sh := (.cons (.rbox 28 s87) s88)
def ts : List Tmp := [2, 3, 5]
def asg : List Tmp := [4, 5, 23, 24, 25, 26, 27, 28, 29, 30, 31, 32, 33, 34, 35, 36, 37, 38, 39, 40, 41, 42, 43, 44, 45, 46, 47, 48, 49, 50, 51, 52, 53, 54, 55, 56, 57, 58]
def C (N : Nat) : Ctx := { fD11.C N with may := fun t => asg.any (Nat.beq t) }
def code : Code := loopBody (sub fD11.code [true, true, false, true, false])
theorem cok (N : Nat) : (C N).Ok Tryz.prog := okC (fD11.cok N) _
def alts : List Alt := [⟨.ret, [4], (.cons (.val .bool) .nil)⟩, ⟨(.exit 0), [], .nil⟩]
end fA42
def fA42.go (N : Nat) : Nat → (List T7) → (List T8) → (List T7) → (List T8) → Int → Option T16
  | 0, _, _, _, _, _ => none
  | fuel + 1, jR, jS, jR1, jS1, i =>
    bif decide (i < (jR.length : Int)) then
      bif inB i jR.length then
        bif inB i jR1.length then
          bif !((decide ((jR.getD i.toNat (((0 : Int), (0 : Int)), ((0 : Int), (0 : Int)), ([] : List T4), (0 : Int))).1.1 = (jR1.getD i.toNat (((0 : Int), (0 : Int)), ((0 : Int), (0 : Int)), ([] : List T4), (0 : Int))).1.1)) && ((decide ((jR.getD i.toNat (((0 : Int), (0 : Int)), ((0 : Int), (0 : Int)), ([] : List T4), (0 : Int))).1.2 = (jR1.getD i.toNat (((0 : Int), (0 : Int)), ((0 : Int), (0 : Int)), ([] : List T4), (0 : Int))).1.2)) && true)) then
            some (.inl (false, ()))
          else
            bif inB i jR.length then
              bif inB i jR1.length then
                obind (fB25.run N (jR.getD i.toNat (((0 : Int), (0 : Int)), ((0 : Int), (0 : Int)), ([] : List T4), (0 : Int))).2 (jR1.getD i.toNat (((0 : Int), (0 : Int)), ((0 : Int), (0 : Int)), ([] : List T4), (0 : Int))).2) fun (b, _) =>
                  bif !b then
                    some (.inl (false, ()))
                  else fA42.go N fuel jR jS jR1 jS1 (IntKind.i64.wrap (i + (1 : Int)))
              else none
            else none
        else none
      else none
    else some (.inr ())
namespace fA42
def g (N n : Nat) : Sh.den ins → Option (altsDen alts) := fun ((a, b, _), (c, d, _), e, _) => fA42.go N n a b c d e
def P (N : Nat) : Ps := ⟨ts, ins, asg, alts, g N N⟩
def lam (N : Nat) : Pcs := pcs []
theorem pok (N : Nat) : (lam N).Ok Tryz.prog (C N) code := pcsOk_nil
theorem ok (N : Nat) : ((P N).pc (fD11.C N)).Ok Tryz.prog (fD11.C N) (.loop code) := okL (F := P N) (g N) (fD11.cok N) mix (pok N) (fun _ => rfl) rfl fun _ _ => by kernel_rfl
end fA42
namespace fC42
def ins : Sh := (.cons (.rbox 28 s87) s88)
def ts : List Tmp := [2, 3, 6]
def asg : List Tmp := [4, 6, 59, 60, 61, 62, 63, 64, 65, 66, 67, 68, 69, 70, 71, 72, 73, 74, 75, 76]
def C (N : Nat) : Ctx := { fD11.C N with may := fun t => asg.any (Nat.beq t) }
def code : Code := loopBody (sub fD11.code [true, true, true, false, true, false])
theorem cok (N : Nat) : (C N).Ok Tryz.prog := okC (fD11.cok N) _
def alts : List Alt := [⟨.ret, [4], (.cons (.val .bool) .nil)⟩, ⟨(.exit 2), [], .nil⟩]
end fC42
def fC42.go (N : Nat) : Nat → (List T7) → (List T8) → (List T7) → (List T8) → Int → Option T16
  | 0, _, _, _, _, _ => none
  | fuel + 1, jR, jS, jR1, jS1, i =>
    bif decide (i < (jS.length : Int)) then
      bif inB i jS.length then
        bif inB i jS1.length then
          bif !(((decide ((jS.getD i.toNat (((0 : Int), (0 : Int)), (0 : Int), (0 : Int))).1.1 = (jS1.getD i.toNat (((0 : Int), (0 : Int)), (0 : Int), (0 : Int))).1.1)) && ((decide ((jS.getD i.toNat (((0 : Int), (0 : Int)), (0 : Int), (0 : Int))).1.2 = (jS1.getD i.toNat (((0 : Int), (0 : Int)), (0 : Int), (0 : Int))).1.2)) && true)) && (((decide ((jS.getD i.toNat (((0 : Int), (0 : Int)), (0 : Int), (0 : Int))).2.1 = (jS1.getD i.toNat (((0 : Int), (0 : Int)), (0 : Int), (0 : Int))).2.1)) && ((decide ((jS.getD i.toNat (((0 : Int), (0 : Int)), (0 : Int), (0 : Int))).2.2 = (jS1.getD i.toNat (((0 : Int), (0 : Int)), (0 : Int), (0 : Int))).2.2)) && true)) && true)) then
            some (.inl (false, ()))
          else fC42.go N fuel jR jS jR1 jS1 (IntKind.i64.wrap (i + (1 : Int)))
        else none
      else none
    else some (.inr ())
namespace fC42
def g (N n : Nat) : Sh.den ins → Option (altsDen alts) := fun ((a, b, _), (c, d, _), e, _) => fC42.go N n a b c d e
def P (N : Nat) : Ps := ⟨ts, ins, asg, alts, g N N⟩
def lam (N : Nat) : Pcs := pcs []
theorem pok (N : Nat) : (lam N).Ok Tryz.prog (C N) code := pcsOk_nil
theorem ok (N : Nat) : ((P N).pc (fD11.C N)).Ok Tryz.prog (fD11.C N) (.loop code) := okL (F := P N) (g N) (fD11.cok N) mix (pok N) (fun _ => rfl) rfl fun _ _ => by kernel_rfl
end fC42
def fD11.run (N : Nat) (a : T44) (b : T44) : Option (Bool × Unit) :=
  bif !(decide ((a.1.length : Int) = (b.1.length : Int))) then
    some (false, ())
  else
    bif !(decide ((a.2.length : Int) = (b.2.length : Int))) then
      some (false, ())
    else
      obind (fA42.go N N a.1 a.2 b.1 b.2 (0 : Int)) fun y => match y with
      | .inl (t4, _) =>
          some (t4, ())
      | .inr (_) =>
          obind (fC42.go N N a.1 a.2 b.1 b.2 (0 : Int)) fun y => match y with
          | .inl (t41, _) =>
              some (t41, ())
          | .inr (_) =>
              some (true, ())
namespace fD11
def fn (N : Nat) : Sh.den ins → Option (Sh.den outs) := fun (a, b, _) => fD11.run N a b
def S (N : Nat) : Fs := ⟨ins, outs, fn N⟩
def lam (N : Nat) : Pcs := pcs [([true, true, false, true, false], (fA42.P N).pc (C N)), ([true, true, true, false, true, false], (fC42.P N).pc (C N))]
theorem pok (N : Nat) : (lam N).Ok Tryz.prog (C N) code := pcsOk_cons (c1 := .loop fA42.code) (by kernel_rfl) (fA42.ok N) (pcsOk_cons (c1 := .loop fC42.code) (by kernel_rfl) (fC42.ok N) (pcsOk_nil))
theorem ok (N : Nat) : (S N).con.Ok Tryz.prog 24 := okF (F := S N) [] Tryz.func24 (by kernel_rfl) (by rfl) mix (cok N) (pok N) fun _ => by kernel_rfl
end fD11
namespace fC34
def ins : Sh := (.cons (.val (.slice (.pair (.pair (.int .u64) (.int .u32)) (.pair (.slice (.pair (.int .i64) (.pair .bool (.pair (.int .i64) .str)))) (.int .u64))))) s6)
def C (N : Nat) : Ctx := ⟨U, 27, fun _ => true, gam [(52, (fB25.S N).con)], gamY []⟩
theorem cok (N : Nat) : (C N).Ok Tryz.prog := ⟨U_ok, GamOk.cons (fB25.ok N) (GamOk.nil), GamYOk.nil⟩
def code : Code := Tryz.f25.body.getD .skip
def outs : Sh := (.cons (.val .bool) .nil)
end fC34
namespace fA49
def ins : Sh := (.cons (.val (.slice (.pair (.pair (.int .u64) (.int .u32)) (.pair (.slice (.pair (.int .i64) (.pair .bool (.pair (.int .i64) .str)))) (.int .u64))))) s89)
def ts : List Tmp := [0, 1, 5]
def asg : List Tmp := [4, 5, 11, 12, 13, 14, 15, 16, 17, 18, 19, 20, 21, 22, 23, 24, 25, 26]
def C (N : Nat) : Ctx := { fC34.C N with may := fun t => asg.any (Nat.beq t) }
def code : Code := loopBody (sub fC34.code [true, true, false, true, false])
theorem cok (N : Nat) : (C N).Ok Tryz.prog := okC (fC34.cok N) _
def alts : List Alt := [⟨.ret, [4], (.cons (.val .bool) .nil)⟩, ⟨(.exit 0), [], .nil⟩]
end fA49
def fA49.go (N : Nat) : Nat → (List T6) → (List T6) → Int → Option T16
  | 0, _, _, _ => none
  | fuel + 1, a, b, i =>
    bif decide (i < (a.length : Int)) then
      bif inB i a.length then
        bif inB i b.length then
          obind (fB25.run N (a.getD i.toNat (((0 : Int), (0 : Int)), ([] : List T4), (0 : Int))) (b.getD i.toNat (((0 : Int), (0 : Int)), ([] : List T4), (0 : Int)))) fun (b1, _) =>
            bif !b1 then
              some (.inl (false, ()))
            else fA49.go N fuel a b (IntKind.i64.wrap (i + (1 : Int)))
        else none
      else none
    else some (.inr ())
namespace fA49
def g (N n : Nat) : Sh.den ins → Option (altsDen alts) := fun (a, b, c, _) => fA49.go N n a b c
def P (N : Nat) : Ps := ⟨ts, ins, asg, alts, g N N⟩
def lam (N : Nat) : Pcs := pcs []
theorem pok (N : Nat) : (lam N).Ok Tryz.prog (C N) code := pcsOk_nil
theorem ok (N : Nat) : ((P N).pc (fC34.C N)).Ok Tryz.prog (fC34.C N) (.loop code) := okL (F := P N) (g N) (fC34.cok N) mix (pok N) (fun _ => rfl) rfl fun _ _ => by kernel_rfl
end fA49
def fC34.run (N : Nat) (a : (List T6)) (b : (List T6)) : Option (Bool × Unit) :=
  bif !(decide ((a.length : Int) = (b.length : Int))) then
    some (false, ())
  else
    obind (fA49.go N N a b (0 : Int)) fun y => match y with
    | .inl (t4, _) =>
        some (t4, ())
    | .inr (_) =>
        some (true, ())
namespace fC34
def fn (N : Nat) : Sh.den ins → Option (Sh.den outs) := fun (a, b, _) => fC34.run N a b
def S (N : Nat) : Fs := ⟨ins, outs, fn N⟩
def lam (N : Nat) : Pcs := pcs [([true, true, false, true, false], (fA49.P N).pc (C N))]
theorem pok (N : Nat) : (lam N).Ok Tryz.prog (C N) code := pcsOk_cons (c1 := .loop fA49.code) (by kernel_rfl) (fA49.ok N) (pcsOk_nil)
theorem ok (N : Nat) : (S N).con.Ok Tryz.prog 25 := okF (F := S N) [] Tryz.func25 (by kernel_rfl) (by rfl) mix (cok N) (pok N) fun _ => by kernel_rfl
end fC34
namespace fC74
def ins : Sh := s83
def C (N : Nat) : Ctx := ⟨U, 118, fun _ => true, gam [(24, (fD11.S N).con), (25, (fC34.S N).con)], gamY []⟩
theorem cok (N : Nat) : (C N).Ok Tryz.prog := ⟨U_ok, GamOk.cons (fD11.ok N) (GamOk.cons (fC34.ok N) (GamOk.nil)), GamYOk.nil⟩
def code : Code := Tryz.f9.body.getD .skip
def outs : Sh := (.cons (.val .bool) .nil)
end fC74
def fC74.run (N : Nat) (a : T53) (b : T53) : Option (Bool × Unit) :=
  bif !(decide (a.1 = b.1)) then
    some (false, ())
  else
    bif !(decide (a.2.1 = b.2.1)) then
      some (false, ())
    else
      bif !(decide (a.2.2.1 = b.2.2.1)) then
        some (false, ())
      else
        bif !(decide (a.2.2.2.1 = b.2.2.2.1)) then
          some (false, ())
        else
          bif !(decide (a.2.2.2.2.1 = b.2.2.2.2.1)) then
            some (false, ())
          else
            bif !(decide (a.2.2.2.2.2.1 = b.2.2.2.2.2.1)) then
              some (false, ())
            else
              bif !(decide (a.2.2.2.2.2.2.1 = b.2.2.2.2.2.2.1)) then
                some (false, ())
              else
                bif !(decide (a.2.2.2.2.2.2.2.1 = b.2.2.2.2.2.2.2.1)) then
                  some (false, ())
                else
                  bif !(decide (a.2.2.2.2.2.2.2.2.1 = b.2.2.2.2.2.2.2.2.1)) then
                    some (false, ())
                  else
                    bif !(decide (a.2.2.2.2.2.2.2.2.2.1 = b.2.2.2.2.2.2.2.2.2.1)) then
                      some (false, ())
                    else
                      bif !(decide (a.2.2.2.2.2.2.2.2.2.2.1 = b.2.2.2.2.2.2.2.2.2.2.1)) then
                        some (false, ())
                      else
                        bif !(a.2.2.2.2.2.2.2.2.2.2.2.1 == b.2.2.2.2.2.2.2.2.2.2.2.1) then
                          some (false, ())
                        else
                          bif !(a.2.2.2.2.2.2.2.2.2.2.2.2.1 == b.2.2.2.2.2.2.2.2.2.2.2.2.1) then
                            some (false, ())
                          else
                            bif !(a.2.2.2.2.2.2.2.2.2.2.2.2.2.1 == b.2.2.2.2.2.2.2.2.2.2.2.2.2.1) then
                              some (false, ())
                            else
                              bif !((decide (a.2.2.2.2.2.2.2.2.2.2.2.2.2.2.1.1 = b.2.2.2.2.2.2.2.2.2.2.2.2.2.2.1.1)) && ((decide (a.2.2.2.2.2.2.2.2.2.2.2.2.2.2.1.2 = b.2.2.2.2.2.2.2.2.2.2.2.2.2.2.1.2)) && true)) then
                                some (false, ())
                              else
                                obind (fD11.run N a.2.2.2.2.2.2.2.2.2.2.2.2.2.2.2.1 b.2.2.2.2.2.2.2.2.2.2.2.2.2.2.2.1) fun (b1, _) =>
                                  bif b1 then
                                    obind (fC34.run N a.2.2.2.2.2.2.2.2.2.2.2.2.2.2.2.2 b.2.2.2.2.2.2.2.2.2.2.2.2.2.2.2.2) fun (b2, _) =>
                                      some (b2, ())
                                  else some (false, ())
namespace fC74
def fn (N : Nat) : Sh.den ins → Option (Sh.den outs) := fun (a, b, _) => fC74.run N a b
def S (N : Nat) : Fs := ⟨ins, outs, fn N⟩
def lam (N : Nat) : Pcs := pcs []
theorem pok (N : Nat) : (lam N).Ok Tryz.prog (C N) code := pcsOk_nil
theorem ok (N : Nat) : (S N).con.Ok Tryz.prog 9 := okF (F := S N) [] Tryz.func9 (by kernel_rfl) (by rfl) mix (cok N) (pok N) fun _ => by kernel_rfl
end fC74
namespace fC14
def ins : Sh := s10
def C (N : Nat) : Ctx := ⟨U, 30, fun _ => true, gam [], gamY []⟩
theorem cok (N : Nat) : (C N).Ok Tryz.prog := ⟨U_ok, GamOk.nil, GamYOk.nil⟩
def code : Code := Tryz.f45.body.getD .skip
def outs : Sh := (.cons (.own 5 .byte) .nil)
end fC14
namespace fD17
def ins : Sh := (.cons (.val (.int .u64)) s22)
def ts : List Tmp := [0, 5, 6]
def asg : List Tmp := [5, 6, 7, 8, 11, 12, 13, 14, 15, 16, 17, 18, 19, 20, 21, 22, 23, 24, 25, 26, 27, 28]
def C (N : Nat) : Ctx := { fC14.C N with may := fun t => asg.any (Nat.beq t) }
def code : Code := loopBody (sub fC14.code [true, true, false, true, false])
theorem cok (N : Nat) : (C N).Ok Tryz.prog := okC (fC14.cok N) _
def alts : List Alt := [⟨(.exit 0), [5], (.cons (.own 5 .byte) .nil)⟩]
end fD17
namespace fB42
def ins : Sh := (.cons (.val (.int .i64)) s10)
def ts : List Tmp := [6, 7, 8]
def asg : List Tmp := [7, 8, 16, 17, 18, 19, 20, 21, 22]
def C (N : Nat) : Ctx := { fD17.C N with may := fun t => asg.any (Nat.beq t) }
def code : Code := loopBody (sub fD17.code [true, false, false, true, false, true, false])
theorem cok (N : Nat) : (C N).Ok Tryz.prog := okC (fD17.cok N) _
def alts : List Alt := [⟨(.exit 2), [7], (.cons (.val (.int .u64)) .nil)⟩]
end fB42
def fB42.go (N : Nat) : Nat → Int → Int → Int → Option ((Int × Unit))
  | 0, _, _, _ => none
  | fuel + 1, i, k, j =>
    bif decide (j < i) then
      fB42.go N fuel i (IntKind.u64.wrap (k.tdiv (256 : Int))) (IntKind.i64.wrap (j + (1 : Int)))
    else some (k, ())
namespace fB42
def g (N n : Nat) : Sh.den ins → Option (altsDen alts) := fun (a, b, c, _) => fB42.go N n a b c
def P (N : Nat) : Ps := ⟨ts, ins, asg, alts, g N N⟩
def lam (N : Nat) : Pcs := pcs []
theorem pok (N : Nat) : (lam N).Ok Tryz.prog (C N) code := pcsOk_nil
theorem ok (N : Nat) : ((P N).pc (fD17.C N)).Ok Tryz.prog (fD17.C N) (.loop code) := okL (F := P N) (g N) (fD17.cok N) mix (pok N) (fun _ => rfl) rfl fun _ _ => by kernel_rfl
end fB42
def fD17.go (N : Nat) : Nat → Int → (List UInt8) → Int → Option (T0)
  | 0, _, _, _ => none
  | fuel + 1, n_, b, i =>
    bif decide (i ≥ (0 : Int)) then
      obind (fB42.go N N i n_ (0 : Int)) fun (k, _) =>
        bif room (b.length + 1) 1 then
          fD17.go N fuel n_ (b ++ ([Hay.u8 (IntKind.u8.wrap (k.tmod (256 : Int)))] : List UInt8)) (IntKind.i64.wrap (i - (1 : Int)))
        else none
    else some (b, ())
namespace fD17
def g (N n : Nat) : Sh.den ins → Option (altsDen alts) := fun (a, b, c, _) => fD17.go N n a b c
def P (N : Nat) : Ps := ⟨ts, ins, asg, alts, g N N⟩
def lam (N : Nat) : Pcs := pcs [([true, false, false, true, false, true, false], (fB42.P N).pc (C N))]
theorem pok (N : Nat) : (lam N).Ok Tryz.prog (C N) code := pcsOk_cons (c1 := .loop fB42.code) (by kernel_rfl) (fB42.ok N) (pcsOk_nil)
theorem ok (N : Nat) : ((P N).pc (fC14.C N)).Ok Tryz.prog (fC14.C N) (.loop code) := okL (F := P N) (g N) (fC14.cok N) mix (pok N) (fun _ => rfl) rfl fun _ _ => by kernel_rfl
end fD17
def fC14.run (N : Nat) (n_ : Int) (many : Int) : Option T0 :=
  obind (fD17.go N N n_ ([] : List UInt8) (IntKind.i64.wrap (many - (1 : Int)))) fun (b, _) =>
    some (b, ())
namespace fC14
def fn (N : Nat) : Sh.den ins → Option (Sh.den outs) := fun (a, b, _) => fC14.run N a b
def S (N : Nat) : Fs := ⟨ins, outs, fn N⟩
def lam (N : Nat) : Pcs := pcs [([true, true, false, true, false], (fD17.P N).pc (C N))]
theorem pok (N : Nat) : (lam N).Ok Tryz.prog (C N) code := pcsOk_cons (c1 := .loop fD17.code) (by kernel_rfl) (fD17.ok N) (pcsOk_nil)
theorem ok (N : Nat) : (S N).con.Ok Tryz.prog 45 := okF (F := S N) [] Tryz.func45 (by kernel_rfl) (by rfl) mix (cok N) (pok N) fun _ => by kernel_rfl
end fC14
namespace fB3
def ins : Sh := (.cons (.box 57 s90) s10)
def C (N : Nat) : Ctx := ⟨U, 17, fun _ => true, gam [(45, (fC14.S N).con)], gamY []⟩
theorem cok (N : Nat) : (C N).Ok Tryz.prog := ⟨U_ok, GamOk.cons (fC14.ok N) (GamOk.nil), GamYOk.nil⟩
def code : Code := Tryz.f20.body.getD .skip
def outs : Sh := (.cons (.upd 0 57 s90) .nil)
end fB3
def fB3.run (N : Nat) (b : (List UInt8)) (bad : Bool) (n_ : Int) (many : Int) : Option (T54 × Unit) :=
  obind (fC14.run N n_ many) fun (l, _) =>
    bif room (b.length + l.length) 1 then
      some ((b ++ l, bad, ()), ())
    else none
namespace fB3
def fn (N : Nat) : Sh.den ins → Option (Sh.den outs) := fun ((a, b, _), c, d, _) => fB3.run N a b c d
def S (N : Nat) : Fs := ⟨ins, outs, fn N⟩
def lam (N : Nat) : Pcs := pcs []
theorem pok (N : Nat) : (lam N).Ok Tryz.prog (C N) code := pcsOk_nil
theorem ok (N : Nat) : (S N).con.Ok Tryz.prog 20 := okF (F := S N) [] Tryz.func20 (by kernel_rfl) (by rfl) mix (cok N) (pok N) fun _ => by kernel_rfl
end fB3
namespace fC15
def ins : Sh := s91
def C (N : Nat) : Ctx := ⟨U, 9, fun _ => true, gam [], gamY []⟩
theorem cok (N : Nat) : (C N).Ok Tryz.prog := ⟨U_ok, GamOk.nil, GamYOk.nil⟩
def code : Code := Tryz.f46.body.getD .skip
def outs : Sh := (.cons (.upd 0 57 s90) .nil)
end fC15
def fC15.run (N : Nat) (b : (List UInt8)) (bad : Bool) (ok_ : Bool) : Option (T54 × Unit) :=
  bif !ok_ then
    some ((b, true, ()), ())
  else some ((b, bad, ()), ())
namespace fC15
def fn (N : Nat) : Sh.den ins → Option (Sh.den outs) := fun ((a, b, _), c, _) => fC15.run N a b c
def S (N : Nat) : Fs := ⟨ins, outs, fn N⟩
def lam (N : Nat) : Pcs := pcs []
theorem pok (N : Nat) : (lam N).Ok Tryz.prog (C N) code := pcsOk_nil
theorem ok (N : Nat) : (S N).con.Ok Tryz.prog 46 := okF (F := S N) [] Tryz.func46 (by kernel_rfl) (by rfl) mix (cok N) (pok N) fun _ => by kernel_rfl
end fC15
namespace fA63
def ins : Sh := s92
def C (N : Nat) : Ctx := ⟨U, 17, fun _ => true, gam [(46, (fC15.S N).con), (20, (fB3.S N).con)], gamY []⟩
theorem cok (N : Nat) : (C N).Ok Tryz.prog := ⟨U_ok, GamOk.cons (fC15.ok N) (GamOk.cons (fB3.ok N) (GamOk.nil)), GamYOk.nil⟩
def code : Code := Tryz.f21.body.getD .skip
def outs : Sh := (.cons (.upd 0 57 s90) .nil)
end fA63
def fA63.run (N : Nat) (b : (List UInt8)) (bad : Bool) (n_ : Int) : Option (T54 × Unit) :=
  bif decide (n_ ≥ (0 : Int)) then
    obind (fC15.run N b bad (decide (n_ ≤ (8 : Int)))) fun ((b1, bad1, _), _) =>
      obind (fB3.run N b1 bad1 ((IntKind.u64.wrap n_).tmod (256 : Int)) (1 : Int)) fun ((b3, bad3, _), _) =>
        some ((b3, bad3, ()), ())
  else
    obind (fC15.run N b bad false) fun ((b2, bad2, _), _) =>
      obind (fB3.run N b2 bad2 ((IntKind.u64.wrap n_).tmod (256 : Int)) (1 : Int)) fun ((b4, bad4, _), _) =>
        some ((b4, bad4, ()), ())
namespace fA63
def fn (N : Nat) : Sh.den ins → Option (Sh.den outs) := fun ((a, b, _), c, _) => fA63.run N a b c
def S (N : Nat) : Fs := ⟨ins, outs, fn N⟩
def lam (N : Nat) : Pcs := pcs []
theorem pok (N : Nat) : (lam N).Ok Tryz.prog (C N) code := pcsOk_nil
theorem ok (N : Nat) : (S N).con.Ok Tryz.prog 21 := okF (F := S N) [] Tryz.func21 (by kernel_rfl) (by rfl) mix (cok N) (pok N) fun _ => by kernel_rfl
end fA63
namespace fB28
def ins : Sh := (.cons (.val (.int .u64)) .nil)
def C (N : Nat) : Ctx := ⟨U, 23, fun _ => true, gam [(45, (fC14.S N).con)], gamY []⟩
theorem cok (N : Nat) : (C N).Ok Tryz.prog := ⟨U_ok, GamOk.cons (fC14.ok N) (GamOk.nil), GamYOk.nil⟩
def code : Code := Tryz.f86.body.getD .skip
def outs : Sh := (.cons (.own 5 .byte) .nil)
end fB28
namespace fA80
def ins : Sh := (.cons (.val (.int .u64)) s93)
def ts : List Tmp := [0, 3, 4]
def asg : List Tmp := [3, 4, 11, 12]
def C (N : Nat) : Ctx := { fB28.C N with may := fun t => asg.any (Nat.beq t) }
def code : Code := (sub fB28.code [true, true, true, true, false]).getD .skip
theorem cok (N : Nat) : (C N).Ok Tryz.prog := okC (fB28.cok N) _
def alts : List Alt := [⟨.normal, [3, 4], s93⟩]
end fA80
def fA80.run (N : Nat) (n_ : Int) (first : UInt8) (many : Int) : Option (T55) :=
  bif decide (n_ ≥ (65536 : Int)) then
    some ((254 : UInt8), (4 : Int), ())
  else some (Hay.u8 (first.toNat : Int), many, ())
namespace fA80
def fn (N : Nat) : Sh.den ins → Option (altsDen alts) := fun (a, b, c, _) => fA80.run N a b c
def P (N : Nat) : Ps := ⟨ts, ins, asg, alts, fn N⟩
def lam (N : Nat) : Pcs := pcs []
theorem pok (N : Nat) : (lam N).Ok Tryz.prog (C N) code := pcsOk_nil
theorem ok (N : Nat) : ((P N).pc (fB28.C N)).Ok Tryz.prog (fB28.C N) code := okP (F := P N) (fB28.cok N) mix (pok N) fun _ => by kernel_rfl
end fA80
def fB28.run (N : Nat) (n_ : Int) : Option T0 :=
  bif decide (n_ < (253 : Int)) then
    some (([Hay.u8 (IntKind.u8.wrap n_)] : List UInt8), ())
  else
    obind (fA80.run N n_ (253 : UInt8) (2 : Int)) fun (first, many, _) =>
      bif decide (n_ ≥ (4294967296 : Int)) then
        obind (fC14.run N n_ (8 : Int)) fun (l, _) =>
          bif room (1 + l.length) 1 then
            some ((255 : UInt8) :: l, ())
          else none
      else
        obind (fC14.run N n_ many) fun (l1, _) =>
          bif room (1 + l1.length) 1 then
            some (Hay.u8 (first.toNat : Int) :: l1, ())
          else none
namespace fB28
def fn (N : Nat) : Sh.den ins → Option (Sh.den outs) := fun (a, _) => fB28.run N a
def S (N : Nat) : Fs := ⟨ins, outs, fn N⟩
def lam (N : Nat) : Pcs := pcs [([true, true, true, true, false], (fA80.P N).pc (C N))]
theorem pok (N : Nat) : (lam N).Ok Tryz.prog (C N) code := pcsOk_cons (c1 := fA80.code) (by kernel_rfl) (fA80.ok N) (pcsOk_nil)
theorem ok (N : Nat) : (S N).con.Ok Tryz.prog 86 := okF (F := S N) [] Tryz.func86 (by kernel_rfl) (by rfl) mix (cok N) (pok N) fun _ => by kernel_rfl
end fB28
namespace fB63
def ins : Sh := s92
def C (N : Nat) : Ctx := ⟨U, 15, fun _ => true, gam [(86, (fB28.S N).con)], gamY []⟩
theorem cok (N : Nat) : (C N).Ok Tryz.prog := ⟨U_ok, GamOk.cons (fB28.ok N) (GamOk.nil), GamYOk.nil⟩
def code : Code := Tryz.f83.body.getD .skip
def outs : Sh := (.cons (.upd 0 57 s90) .nil)
end fB63
def fB63.run (N : Nat) (b : (List UInt8)) (bad : Bool) (n_ : Int) : Option (T54 × Unit) :=
  obind (fB28.run N (IntKind.u64.wrap n_)) fun (l, _) =>
    bif room (b.length + l.length) 1 then
      some ((b ++ l, bad, ()), ())
    else none
namespace fB63
def fn (N : Nat) : Sh.den ins → Option (Sh.den outs) := fun ((a, b, _), c, _) => fB63.run N a b c
def S (N : Nat) : Fs := ⟨ins, outs, fn N⟩
def lam (N : Nat) : Pcs := pcs []
theorem pok (N : Nat) : (lam N).Ok Tryz.prog (C N) code := pcsOk_nil
theorem ok (N : Nat) : (S N).con.Ok Tryz.prog 83 := okF (F := S N) [] Tryz.func83 (by kernel_rfl) (by rfl) mix (cok N) (pok N) fun _ => by kernel_rfl
end fB63
namespace fA12
def ins : Sh := (.cons (.box 57 s90) s94)
def C (N : Nat) : Ctx := ⟨U, 48, fun _ => true, gam [(46, (fC15.S N).con), (86, (fB28.S N).con)], gamY []⟩
theorem cok (N : Nat) : (C N).Ok Tryz.prog := ⟨U_ok, GamOk.cons (fC15.ok N) (GamOk.cons (fB28.ok N) (GamOk.nil)), GamYOk.nil⟩
def code : Code := Tryz.f49.body.getD .skip
def outs : Sh := (.cons (.upd 0 57 s90) .nil)
end fA12
namespace fD33
def ins : Sh := (.cons (.box 57 s90) (.cons (.rbox 24 s20) .nil))
def ts : List Tmp := [0, 3]
def asg : List Tmp := [4, 5, 6, 7, 8, 9, 10, 11, 12, 13, 14, 15, 16, 17, 18, 19, 20, 21, 22, 23]
def C (N : Nat) : Ctx := { fA12.C N with may := fun t => asg.any (Nat.beq t) }
def code : Code := (sub fA12.code [true, false]).getD .skip
theorem cok (N : Nat) : (C N).Ok Tryz.prog := okC (fA12.cok N) _
def alts : List Alt := [⟨.normal, [], (.cons (.upd 0 57 s90) .nil)⟩]
end fD33
def fD33.run (N : Nat) (b : (List UInt8)) (bad : Bool) (proj : Int) (seg : Int) : Option ((T54 × Unit)) :=
  bif decide (proj ≥ (0 : Int)) then
    bif decide (proj < (2147483648 : Int)) then
      bif decide (seg ≥ (0 : Int)) then
        obind (fC15.run N b bad (decide (seg < (2147483648 : Int)))) fun ((b1, bad1, _), _) =>
          some ((b1, bad1, ()), ())
      else
        obind (fC15.run N b bad false) fun ((b2, bad2, _), _) =>
          some ((b2, bad2, ()), ())
    else
      obind (fC15.run N b bad false) fun ((b3, bad3, _), _) =>
        some ((b3, bad3, ()), ())
  else
    obind (fC15.run N b bad false) fun ((b4, bad4, _), _) =>
      some ((b4, bad4, ()), ())
namespace fD33
def fn (N : Nat) : Sh.den ins → Option (altsDen alts) := fun ((a, b, _), (c, d, _), _) => fD33.run N a b c d
def P (N : Nat) : Ps := ⟨ts, ins, asg, alts, fn N⟩
def lam (N : Nat) : Pcs := pcs []
theorem pok (N : Nat) : (lam N).Ok Tryz.prog (C N) code := pcsOk_nil
theorem ok (N : Nat) : ((P N).pc (fA12.C N)).Ok Tryz.prog (fA12.C N) code := okP (F := P N) (fA12.cok N) mix (pok N) fun _ => by kernel_rfl
end fD33
def fA12.run (N : Nat) (b : (List UInt8)) (bad : Bool) (jO_ : (Int × Int)) : Option (T54 × Unit) :=
  obind (fD33.run N b bad jO_.1 jO_.2) fun ((b5, bad5, _), _) =>
    obind (fB28.run N (IntKind.u64.wrap jO_.1)) fun (l, _) =>
      bif room (b5.length + l.length) 1 then
        obind (fB28.run N (IntKind.u64.wrap jO_.2)) fun (l1, _) =>
          bif room ((b5 ++ l).length + l1.length) 1 then
            some (((b5 ++ l) ++ l1, bad5, ()), ())
          else none
      else none
namespace fA12
def fn (N : Nat) : Sh.den ins → Option (Sh.den outs) := fun ((a, b, _), c, _) => fA12.run N a b c
def S (N : Nat) : Fs := ⟨ins, outs, fn N⟩
def lam (N : Nat) : Pcs := pcs [([true, false], (fD33.P N).pc (C N))]
theorem pok (N : Nat) : (lam N).Ok Tryz.prog (C N) code := pcsOk_cons (c1 := fD33.code) (by kernel_rfl) (fD33.ok N) (pcsOk_nil)
theorem ok (N : Nat) : (S N).con.Ok Tryz.prog 49 := okF (F := S N) [] Tryz.func49 (by kernel_rfl) (by rfl) mix (cok N) (pok N) fun _ => by kernel_rfl
end fA12
namespace fC6
def ins : Sh := s18
def C (N : Nat) : Ctx := ⟨U, 44, fun _ => true, gam [], gamY []⟩
theorem cok (N : Nat) : (C N).Ok Tryz.prog := ⟨U_ok, GamOk.nil, GamYOk.nil⟩
def code : Code := Tryz.f124.body.getD .skip
def outs : Sh := (.cons (.val .bool) .nil)
end fC6
namespace fB54
def ins : Sh := s96
def ts : List Tmp := [1, 3]
def asg : List Tmp := [7, 8, 9, 10, 11, 12]
def C (N : Nat) : Ctx := { fC6.C N with may := fun t => asg.any (Nat.beq t) }
def code : Code := (sub fC6.code [true, true, false]).getD .skip
theorem cok (N : Nat) : (C N).Ok Tryz.prog := okC (fC6.cok N) _
def alts : List Alt := [⟨.normal, [], (.cons (.upd 1 133 s95) .nil)⟩]
end fB54
def fB54.run (N : Nat) (jA : Int) (bool : Bool) (int : Int) (text : (List UInt8)) (jA1 : Int) (bool1 : Bool) (int1 : Int) (text1 : (List UInt8)) : Option ((T56 × Unit)) :=
  bif decide (jA = (1 : Int)) then
    some ((jA1, bool, int1, text1, ()), ())
  else some ((jA1, bool1, int1, text1, ()), ())
namespace fB54
def fn (N : Nat) : Sh.den ins → Option (altsDen alts) := fun ((a, b, c, d, _), (e, f, g, h, _), _) => fB54.run N a b c d e f g h
def P (N : Nat) : Ps := ⟨ts, ins, asg, alts, fn N⟩
def lam (N : Nat) : Pcs := pcs []
theorem pok (N : Nat) : (lam N).Ok Tryz.prog (C N) code := pcsOk_nil
theorem ok (N : Nat) : ((P N).pc (fC6.C N)).Ok Tryz.prog (fC6.C N) code := okP (F := P N) (fC6.cok N) mix (pok N) fun _ => by kernel_rfl
end fB54
namespace fA55
def ins : Sh := s96
def ts : List Tmp := [1, 3]
def asg : List Tmp := [13, 14, 15, 16, 17, 18]
def C (N : Nat) : Ctx := { fC6.C N with may := fun t => asg.any (Nat.beq t) }
def code : Code := (sub fC6.code [true, true, true, false]).getD .skip
theorem cok (N : Nat) : (C N).Ok Tryz.prog := okC (fC6.cok N) _
def alts : List Alt := [⟨.normal, [], (.cons (.upd 1 133 s95) .nil)⟩]
end fA55
def fA55.run (N : Nat) (jA : Int) (bool : Bool) (int : Int) (text : (List UInt8)) (jA1 : Int) (bool1 : Bool) (int1 : Int) (text1 : (List UInt8)) : Option ((T56 × Unit)) :=
  bif decide (jA = (2 : Int)) then
    some ((jA1, bool1, int, text1, ()), ())
  else some ((jA1, bool1, int1, text1, ()), ())
namespace fA55
def fn (N : Nat) : Sh.den ins → Option (altsDen alts) := fun ((a, b, c, d, _), (e, f, g, h, _), _) => fA55.run N a b c d e f g h
def P (N : Nat) : Ps := ⟨ts, ins, asg, alts, fn N⟩
def lam (N : Nat) : Pcs := pcs []
theorem pok (N : Nat) : (lam N).Ok Tryz.prog (C N) code := pcsOk_nil
theorem ok (N : Nat) : ((P N).pc (fC6.C N)).Ok Tryz.prog (fC6.C N) code := okP (F := P N) (fC6.cok N) mix (pok N) fun _ => by kernel_rfl
end fA55
namespace fA54
def ins : Sh := s96
def ts : List Tmp := [1, 3]
def asg : List Tmp := [19, 20, 21, 22, 23, 24]
def C (N : Nat) : Ctx := { fC6.C N with may := fun t => asg.any (Nat.beq t) }
def code : Code := (sub fC6.code [true, true, true, true, false]).getD .skip
theorem cok (N : Nat) : (C N).Ok Tryz.prog := okC (fC6.cok N) _
def alts : List Alt := [⟨.normal, [], (.cons (.upd 1 133 s95) .nil)⟩]
end fA54
def fA54.run (N : Nat) (jA : Int) (bool : Bool) (int : Int) (text : (List UInt8)) (jA1 : Int) (bool1 : Bool) (int1 : Int) (text1 : (List UInt8)) : Option ((T56 × Unit)) :=
  bif decide (jA = (3 : Int)) then
    some ((jA1, bool1, int1, text, ()), ())
  else some ((jA1, bool1, int1, text1, ()), ())
namespace fA54
def fn (N : Nat) : Sh.den ins → Option (altsDen alts) := fun ((a, b, c, d, _), (e, f, g, h, _), _) => fA54.run N a b c d e f g h
def P (N : Nat) : Ps := ⟨ts, ins, asg, alts, fn N⟩
def lam (N : Nat) : Pcs := pcs []
theorem pok (N : Nat) : (lam N).Ok Tryz.prog (C N) code := pcsOk_nil
theorem ok (N : Nat) : ((P N).pc (fC6.C N)).Ok Tryz.prog (fC6.C N) code := okP (F := P N) (fC6.cok N) mix (pok N) fun _ => by kernel_rfl
end fA54
def fC6.run (N : Nat) (v : T4) : Option (Bool × Unit) :=
  obind (fB54.run N v.1 v.2.1 v.2.2.1 v.2.2.2 v.1 false (0 : Int) ([] : List UInt8)) fun ((jA, bool, int, text, _), _) =>
    obind (fA55.run N v.1 v.2.1 v.2.2.1 v.2.2.2 jA bool int text) fun ((jA1, bool1, int1, text1, _), _) =>
      obind (fA54.run N v.1 v.2.1 v.2.2.1 v.2.2.2 jA1 bool1 int1 text1) fun ((jA2, bool2, int2, text2, _), _) =>
        bif decide (v.1 ≥ (0 : Int)) then
          bif decide (v.1 ≤ (3 : Int)) then
            bif (decide (v.1 = jA2)) && ((v.2.1 == bool2) && ((decide (v.2.2.1 = int2)) && ((decide (v.2.2.2 = text2)) && true))) then
              some (decide ((v.2.2.2.length : Int) ≤ (64 : Int)), ())
            else some (false, ())
          else some (false, ())
        else some (false, ())
namespace fC6
def fn (N : Nat) : Sh.den ins → Option (Sh.den outs) := fun (a, _) => fC6.run N a
def S (N : Nat) : Fs := ⟨ins, outs, fn N⟩
def lam (N : Nat) : Pcs := pcs [([true, true, false], (fB54.P N).pc (C N)), ([true, true, true, false], (fA55.P N).pc (C N)), ([true, true, true, true, false], (fA54.P N).pc (C N))]
theorem pok (N : Nat) : (lam N).Ok Tryz.prog (C N) code := pcsOk_cons (c1 := fB54.code) (by kernel_rfl) (fB54.ok N) (pcsOk_cons (c1 := fA55.code) (by kernel_rfl) (fA55.ok N) (pcsOk_cons (c1 := fA54.code) (by kernel_rfl) (fA54.ok N) (pcsOk_nil)))
theorem ok (N : Nat) : (S N).con.Ok Tryz.prog 124 := okF (F := S N) [] Tryz.func124 (by kernel_rfl) (by rfl) mix (cok N) (pok N) fun _ => by kernel_rfl
end fC6
namespace fB56
def ins : Sh := s19
def C (N : Nat) : Ctx := ⟨U, 21, fun _ => true, gam [(124, (fC6.S N).con)], gamY []⟩
theorem cok (N : Nat) : (C N).Ok Tryz.prog := ⟨U_ok, GamOk.cons (fC6.ok N) (GamOk.nil), GamYOk.nil⟩
def code : Code := Tryz.f116.body.getD .skip
def outs : Sh := (.cons (.val .bool) .nil)
end fB56
namespace fA66
def ins : Sh := (.cons (.val (.slice (.pair (.int .i64) (.pair .bool (.pair (.int .i64) .str))))) (.cons (.val (.int .i64)) .nil))
def ts : List Tmp := [0, 3]
def asg : List Tmp := [2, 3, 4, 5, 6, 7, 8, 9, 10, 11, 12, 13, 14, 15, 16, 17]
def C (N : Nat) : Ctx := { fB56.C N with may := fun t => asg.any (Nat.beq t) }
def code : Code := loopBody (sub fB56.code [true, false, true, false])
theorem cok (N : Nat) : (C N).Ok Tryz.prog := okC (fB56.cok N) _
def alts : List Alt := [⟨.ret, [2], (.cons (.val .bool) .nil)⟩, ⟨(.exit 0), [], .nil⟩]
end fA66
def fA66.go (N : Nat) : Nat → (List T4) → Int → Option T16
  | 0, _, _ => none
  | fuel + 1, row, i =>
    bif decide (i < (row.length : Int)) then
      bif inB i row.length then
        obind (fC6.run N (row.getD i.toNat ((0 : Int), false, (0 : Int), ([] : List UInt8)))) fun (b, _) =>
          bif !b then
            some (.inl (false, ()))
          else fA66.go N fuel row (IntKind.i64.wrap (i + (1 : Int)))
      else none
    else some (.inr ())
namespace fA66
def g (N n : Nat) : Sh.den ins → Option (altsDen alts) := fun (a, b, _) => fA66.go N n a b
def P (N : Nat) : Ps := ⟨ts, ins, asg, alts, g N N⟩
def lam (N : Nat) : Pcs := pcs []
theorem pok (N : Nat) : (lam N).Ok Tryz.prog (C N) code := pcsOk_nil
theorem ok (N : Nat) : ((P N).pc (fB56.C N)).Ok Tryz.prog (fB56.C N) (.loop code) := okL (F := P N) (g N) (fB56.cok N) mix (pok N) (fun _ => rfl) rfl fun _ _ => by kernel_rfl
end fA66
def fB56.run (N : Nat) (row : (List T4)) : Option (Bool × Unit) :=
  obind (fA66.go N N row (0 : Int)) fun y => match y with
  | .inl (t2, _) =>
      some (t2, ())
  | .inr (_) =>
      some (decide ((row.length : Int) ≤ (16 : Int)), ())
namespace fB56
def fn (N : Nat) : Sh.den ins → Option (Sh.den outs) := fun (a, _) => fB56.run N a
def S (N : Nat) : Fs := ⟨ins, outs, fn N⟩
def lam (N : Nat) : Pcs := pcs [([true, false, true, false], (fA66.P N).pc (C N))]
theorem pok (N : Nat) : (lam N).Ok Tryz.prog (C N) code := pcsOk_cons (c1 := .loop fA66.code) (by kernel_rfl) (fA66.ok N) (pcsOk_nil)
theorem ok (N : Nat) : (S N).con.Ok Tryz.prog 116 := okF (F := S N) [] Tryz.func116 (by kernel_rfl) (by rfl) mix (cok N) (pok N) fun _ => by kernel_rfl
end fB56
namespace fA18
def ins : Sh := (.cons (.val (.int .u64)) .nil)
def C (N : Nat) : Ctx := ⟨U, 17, fun _ => true, gam [], gamY []⟩
theorem cok (N : Nat) : (C N).Ok Tryz.prog := ⟨U_ok, GamOk.nil, GamYOk.nil⟩
def code : Code := Tryz.f125.body.getD .skip
def outs : Sh := (.cons (.own 5 .byte) .nil)
end fA18
namespace fC30
def ins : Sh := (.cons (.val (.int .u64)) s22)
def ts : List Tmp := [0, 3, 4]
def asg : List Tmp := [3, 4, 5, 6, 7, 8, 9, 10, 11, 12, 13, 14, 15]
def C (N : Nat) : Ctx := { fA18.C N with may := fun t => asg.any (Nat.beq t) }
def code : Code := loopBody (sub fA18.code [true, true, false, true, false])
theorem cok (N : Nat) : (C N).Ok Tryz.prog := okC (fA18.cok N) _
def alts : List Alt := [⟨(.exit 0), [3], (.cons (.own 5 .byte) .nil)⟩]
end fC30
def fC30.go (N : Nat) : Nat → Int → (List UInt8) → Int → Option (T0)
  | 0, _, _, _ => none
  | fuel + 1, n_, b, s =>
    bif decide (s ≥ (0 : Int)) then
      bif decide ((0 : Int) ≤ s) then
        bif room (b.length + 1) 1 then
          fC30.go N fuel n_ (b ++ ([Hay.u8 (IntKind.u8.wrap (n_.fdiv (2 ^ (min s.toNat 64))))] : List UInt8)) (IntKind.i64.wrap (s - (8 : Int)))
        else none
      else none
    else some (b, ())
namespace fC30
def g (N n : Nat) : Sh.den ins → Option (altsDen alts) := fun (a, b, c, _) => fC30.go N n a b c
def P (N : Nat) : Ps := ⟨ts, ins, asg, alts, g N N⟩
def lam (N : Nat) : Pcs := pcs []
theorem pok (N : Nat) : (lam N).Ok Tryz.prog (C N) code := pcsOk_nil
theorem ok (N : Nat) : ((P N).pc (fA18.C N)).Ok Tryz.prog (fA18.C N) (.loop code) := okL (F := P N) (g N) (fA18.cok N) mix (pok N) (fun _ => rfl) rfl fun _ _ => by kernel_rfl
end fC30
def fA18.run (N : Nat) (n_ : Int) : Option T0 :=
  obind (fC30.go N N n_ ([] : List UInt8) (56 : Int)) fun (b, _) =>
    some (b, ())
namespace fA18
def fn (N : Nat) : Sh.den ins → Option (Sh.den outs) := fun (a, _) => fA18.run N a
def S (N : Nat) : Fs := ⟨ins, outs, fn N⟩
def lam (N : Nat) : Pcs := pcs [([true, true, false, true, false], (fC30.P N).pc (C N))]
theorem pok (N : Nat) : (lam N).Ok Tryz.prog (C N) code := pcsOk_cons (c1 := .loop fC30.code) (by kernel_rfl) (fC30.ok N) (pcsOk_nil)
theorem ok (N : Nat) : (S N).con.Ok Tryz.prog 125 := okF (F := S N) [] Tryz.func125 (by kernel_rfl) (by rfl) mix (cok N) (pok N) fun _ => by kernel_rfl
end fA18
namespace fA75
def ins : Sh := s18
def C (N : Nat) : Ctx := ⟨U, 48, fun _ => true, gam [(125, (fA18.S N).con)], gamY []⟩
theorem cok (N : Nat) : (C N).Ok Tryz.prog := ⟨U_ok, GamOk.cons (fA18.ok N) (GamOk.nil), GamYOk.nil⟩
def code : Code := Tryz.f117.body.getD .skip
def outs : Sh := (.cons (.own 5 .byte) .nil)
end fA75
namespace fD80
def ins : Sh := (.cons (.rbox 133 s95) (.cons (.own 5 .byte) .nil))
def ts : List Tmp := [1, 3]
def asg : List Tmp := [2, 8, 9, 10, 11, 12, 13, 14, 15, 16, 17]
def C (N : Nat) : Ctx := { fA75.C N with may := fun t => asg.any (Nat.beq t) }
def code : Code := (sub fA75.code [true, true, false]).getD .skip
theorem cok (N : Nat) : (C N).Ok Tryz.prog := okC (fA75.cok N) _
def alts : List Alt := [⟨.normal, [], (.cons (.updr 1 5 .byte) .nil)⟩, ⟨.ret, [2], (.cons (.own 5 .byte) .nil)⟩]
end fD80
def fD80.run (N : Nat) (jA : Int) (bool : Bool) (int : Int) (text : (List UInt8)) (b : (List UInt8)) : Option (T0 ⊕ T0) :=
  bif decide (jA = (1 : Int)) then
    bif bool then
      bif room (b.length + 1) 1 then
        some (.inr (b ++ ([(1 : UInt8)] : List UInt8), ()))
      else none
    else some (.inl (b, ()))
  else some (.inl (b, ()))
namespace fD80
def fn (N : Nat) : Sh.den ins → Option (altsDen alts) := fun ((a, b, c, d, _), e, _) => fD80.run N a b c d e
def P (N : Nat) : Ps := ⟨ts, ins, asg, alts, fn N⟩
def lam (N : Nat) : Pcs := pcs []
theorem pok (N : Nat) : (lam N).Ok Tryz.prog (C N) code := pcsOk_nil
theorem ok (N : Nat) : ((P N).pc (fA75.C N)).Ok Tryz.prog (fA75.C N) code := okP (F := P N) (fA75.cok N) mix (pok N) fun _ => by kernel_rfl
end fD80
def fA75.run (N : Nat) (v : T4) : Option T0 :=
  obind (fD80.run N v.1 v.2.1 v.2.2.1 v.2.2.2 ([Hay.u8 (IntKind.u8.wrap v.1)] : List UInt8)) fun y => match y with
  | .inl (v1, _) =>
      bif decide (v.1 = (1 : Int)) then
        bif room (v1.length + 1) 1 then
          some (v1 ++ ([(0 : UInt8)] : List UInt8), ())
        else none
      else
        bif decide (v.1 = (2 : Int)) then
          obind (fA18.run N (IntKind.u64.wrap v.2.2.1)) fun (l, _) =>
            bif room (v1.length + l.length) 1 then
              some (v1 ++ l, ())
            else none
        else
          bif decide (v.1 = (3 : Int)) then
            bif room (v1.length + 1) 1 then
              bif room ((v1 ++ ([Hay.u8 (IntKind.u8.wrap (v.2.2.2.length : Int))] : List UInt8)).length + v.2.2.2.length) 1 then
                some ((v1 ++ ([Hay.u8 (IntKind.u8.wrap (v.2.2.2.length : Int))] : List UInt8)) ++ v.2.2.2, ())
              else none
            else none
          else some (v1, ())
  | .inr (t2, _) =>
      some (t2, ())
namespace fA75
def fn (N : Nat) : Sh.den ins → Option (Sh.den outs) := fun (a, _) => fA75.run N a
def S (N : Nat) : Fs := ⟨ins, outs, fn N⟩
def lam (N : Nat) : Pcs := pcs [([true, true, false], (fD80.P N).pc (C N))]
theorem pok (N : Nat) : (lam N).Ok Tryz.prog (C N) code := pcsOk_cons (c1 := fD80.code) (by kernel_rfl) (fD80.ok N) (pcsOk_nil)
theorem ok (N : Nat) : (S N).con.Ok Tryz.prog 117 := okF (F := S N) [] Tryz.func117 (by kernel_rfl) (by rfl) mix (cok N) (pok N) fun _ => by kernel_rfl
end fA75
namespace fB19
def ins : Sh := s19
def C (N : Nat) : Ctx := ⟨U, 29, fun _ => true, gam [(116, (fB56.S N).con), (117, (fA75.S N).con)], gamY []⟩
theorem cok (N : Nat) : (C N).Ok Tryz.prog := ⟨U_ok, GamOk.cons (fB56.ok N) (GamOk.cons (fA75.ok N) (GamOk.nil)), GamYOk.nil⟩
def code : Code := Tryz.f105.body.getD .skip
def outs : Sh := s22
end fB19
namespace fB29
def ins : Sh := (.cons (.val (.slice (.pair (.int .i64) (.pair .bool (.pair (.int .i64) .str))))) s22)
def ts : List Tmp := [0, 5, 6]
def asg : List Tmp := [5, 6, 15, 16, 17, 18, 19, 20, 21, 22, 23, 24, 25, 26, 27]
def C (N : Nat) : Ctx := { fB19.C N with may := fun t => asg.any (Nat.beq t) }
def code : Code := loopBody (sub fB19.code [true, true, true, true, false, true, false])
theorem cok (N : Nat) : (C N).Ok Tryz.prog := okC (fB19.cok N) _
def alts : List Alt := [⟨(.exit 0), [5], (.cons (.own 5 .byte) .nil)⟩]
end fB29
def fB29.go (N : Nat) : Nat → (List T4) → (List UInt8) → Int → Option (T0)
  | 0, _, _, _ => none
  | fuel + 1, row, b, i =>
    bif decide (i < (row.length : Int)) then
      bif inB i row.length then
        obind (fA75.run N (row.getD i.toNat ((0 : Int), false, (0 : Int), ([] : List UInt8)))) fun (l, _) =>
          bif room (b.length + l.length) 1 then
            fB29.go N fuel row (b ++ l) (IntKind.i64.wrap (i + (1 : Int)))
          else none
      else none
    else some (b, ())
namespace fB29
def g (N n : Nat) : Sh.den ins → Option (altsDen alts) := fun (a, b, c, _) => fB29.go N n a b c
def P (N : Nat) : Ps := ⟨ts, ins, asg, alts, g N N⟩
def lam (N : Nat) : Pcs := pcs []
theorem pok (N : Nat) : (lam N).Ok Tryz.prog (C N) code := pcsOk_nil
theorem ok (N : Nat) : ((P N).pc (fB19.C N)).Ok Tryz.prog (fB19.C N) (.loop code) := okL (F := P N) (g N) (fB19.cok N) mix (pok N) (fun _ => rfl) rfl fun _ _ => by kernel_rfl
end fB29
def fB19.run (N : Nat) (row : (List T4)) : Option T17 :=
  obind (fB56.run N row) fun (b, _) =>
    bif !b then
      some (([] : List UInt8), (30 : Int), ())
    else
      obind (fB29.go N N row ([Hay.u8 (IntKind.u8.wrap (row.length : Int))] : List UInt8) (0 : Int)) fun (b1, _) =>
        some (b1, (0 : Int), ())
namespace fB19
def fn (N : Nat) : Sh.den ins → Option (Sh.den outs) := fun (a, _) => fB19.run N a
def S (N : Nat) : Fs := ⟨ins, outs, fn N⟩
def lam (N : Nat) : Pcs := pcs [([true, true, true, true, false, true, false], (fB29.P N).pc (C N))]
theorem pok (N : Nat) : (lam N).Ok Tryz.prog (C N) code := pcsOk_cons (c1 := .loop fB29.code) (by kernel_rfl) (fB29.ok N) (pcsOk_nil)
theorem ok (N : Nat) : (S N).con.Ok Tryz.prog 105 := okF (F := S N) [] Tryz.func105 (by kernel_rfl) (by rfl) mix (cok N) (pok N) fun _ => by kernel_rfl
end fB19
namespace fD82
def ins : Sh := (.cons (.rown 5 .byte) .nil)
def C (N : Nat) : Ctx := ⟨U, 12, fun _ => true, gam [(86, (fB28.S N).con)], gamY []⟩
theorem cok (N : Nat) : (C N).Ok Tryz.prog := ⟨U_ok, GamOk.cons (fB28.ok N) (GamOk.nil), GamYOk.nil⟩
def code : Code := Tryz.f106.body.getD .skip
def outs : Sh := (.cons (.own 5 .byte) .nil)
end fD82
def fD82.run (N : Nat) (b : (List UInt8)) : Option T0 :=
  obind (fB28.run N (IntKind.u64.wrap (b.length : Int))) fun (l, _) =>
    bif room (l.length + b.length) 1 then
      some (l ++ b, ())
    else none
namespace fD82
def fn (N : Nat) : Sh.den ins → Option (Sh.den outs) := fun (a, _) => fD82.run N a
def S (N : Nat) : Fs := ⟨ins, outs, fn N⟩
def lam (N : Nat) : Pcs := pcs []
theorem pok (N : Nat) : (lam N).Ok Tryz.prog (C N) code := pcsOk_nil
theorem ok (N : Nat) : (S N).con.Ok Tryz.prog 106 := okF (F := S N) [] Tryz.func106 (by kernel_rfl) (by rfl) mix (cok N) (pok N) fun _ => by kernel_rfl
end fD82
namespace fA74
def ins : Sh := (.cons (.box 57 s90) s19)
def C (N : Nat) : Ctx := ⟨U, 25, fun _ => true, gam [(105, (fB19.S N).con), (46, (fC15.S N).con), (106, (fD82.S N).con)], gamY []⟩
theorem cok (N : Nat) : (C N).Ok Tryz.prog := ⟨U_ok, GamOk.cons (fB19.ok N) (GamOk.cons (fC15.ok N) (GamOk.cons (fD82.ok N) (GamOk.nil))), GamYOk.nil⟩
def code : Code := Tryz.f84.body.getD .skip
def outs : Sh := (.cons (.upd 0 57 s90) .nil)
end fA74
def fA74.run (N : Nat) (b : (List UInt8)) (bad : Bool) (l : (List T4)) : Option (T54 × Unit) :=
  obind (fB19.run N l) fun (l1, n_, _) =>
    obind (fC15.run N b bad (decide (n_ = (0 : Int)))) fun ((b1, bad1, _), _) =>
      obind (fD82.run N l1) fun (l2, _) =>
        bif room (b1.length + l2.length) 1 then
          some ((b1 ++ l2, bad1, ()), ())
        else none
namespace fA74
def fn (N : Nat) : Sh.den ins → Option (Sh.den outs) := fun ((a, b, _), c, _) => fA74.run N a b c
def S (N : Nat) : Fs := ⟨ins, outs, fn N⟩
def lam (N : Nat) : Pcs := pcs []
theorem pok (N : Nat) : (lam N).Ok Tryz.prog (C N) code := pcsOk_nil
theorem ok (N : Nat) : (S N).con.Ok Tryz.prog 84 := okF (F := S N) [] Tryz.func84 (by kernel_rfl) (by rfl) mix (cok N) (pok N) fun _ => by kernel_rfl
end fA74
namespace fC66
def ins : Sh := (.cons (.box 57 s90) s97)
def C (N : Nat) : Ctx := ⟨U, 13, fun _ => true, gam [(20, (fB3.S N).con)], gamY []⟩
theorem cok (N : Nat) : (C N).Ok Tryz.prog := ⟨U_ok, GamOk.cons (fB3.ok N) (GamOk.nil), GamYOk.nil⟩
def code : Code := Tryz.f85.body.getD .skip
def outs : Sh := (.cons (.upd 0 57 s90) .nil)
end fC66
def fC66.run (N : Nat) (b : (List UInt8)) (bad : Bool) (id_ : (Int × Int)) : Option (T54 × Unit) :=
  obind (fB3.run N b bad id_.1 (8 : Int)) fun ((b1, bad1, _), _) =>
    obind (fB3.run N b1 bad1 (IntKind.u64.wrap id_.2) (4 : Int)) fun ((b2, bad2, _), _) =>
      some ((b2, bad2, ()), ())
namespace fC66
def fn (N : Nat) : Sh.den ins → Option (Sh.den outs) := fun ((a, b, _), c, _) => fC66.run N a b c
def S (N : Nat) : Fs := ⟨ins, outs, fn N⟩
def lam (N : Nat) : Pcs := pcs []
theorem pok (N : Nat) : (lam N).Ok Tryz.prog (C N) code := pcsOk_nil
theorem ok (N : Nat) : (S N).con.Ok Tryz.prog 85 := okF (F := S N) [] Tryz.func85 (by kernel_rfl) (by rfl) mix (cok N) (pok N) fun _ => by kernel_rfl
end fC66
namespace fB21
def ins : Sh := (.cons (.box 57 s90) s86)
def C (N : Nat) : Ctx := ⟨U, 81, fun _ => true, gam [(83, (fB63.S N).con), (46, (fC15.S N).con), (49, (fA12.S N).con), (20, (fB3.S N).con), (84, (fA74.S N).con), (85, (fC66.S N).con)], gamY []⟩
theorem cok (N : Nat) : (C N).Ok Tryz.prog := ⟨U_ok, GamOk.cons (fB63.ok N) (GamOk.cons (fC15.ok N) (GamOk.cons (fA12.ok N) (GamOk.cons (fB3.ok N) (GamOk.cons (fA74.ok N) (GamOk.cons (fC66.ok N) (GamOk.nil)))))), GamYOk.nil⟩
def code : Code := Tryz.f47.body.getD .skip
def outs : Sh := (.cons (.upd 0 57 s90) .nil)
end fB21
namespace fB22
def ins : Sh := (.cons (.box 57 s90) s88)
def ts : List Tmp := [0, 3, 4]
def asg : List Tmp := [4, 5, 12, 13, 14, 15, 16, 17, 18, 19, 20, 21, 22, 23, 24, 25, 26, 27, 28, 29, 30, 31, 32, 33, 34, 35, 36, 37, 38, 39, 40, 41, 42, 43, 44, 45, 46, 47, 48, 49, 50, 51, 52]
def C (N : Nat) : Ctx := { fB21.C N with may := fun t => asg.any (Nat.beq t) }
def code : Code := loopBody (sub fB21.code [true, true, false, true, false])
theorem cok (N : Nat) : (C N).Ok Tryz.prog := okC (fB21.cok N) _
def alts : List Alt := [⟨(.exit 0), [], (.cons (.upd 0 57 s90) .nil)⟩]
end fB22
namespace fD49
def ins : Sh := (.cons (.box 57 s90) (.cons (.rbox 95 s15) .nil))
def ts : List Tmp := [0, 5]
def asg : List Tmp := [24, 25, 26, 27, 28, 29, 30, 31, 32, 33, 34, 35, 36]
def C (N : Nat) : Ctx := { fB22.C N with may := fun t => asg.any (Nat.beq t) }
def code : Code := (sub fB22.code [true, false, false, true, false]).getD .skip
theorem cok (N : Nat) : (C N).Ok Tryz.prog := okC (fB22.cok N) _
def alts : List Alt := [⟨.normal, [], (.cons (.upd 0 57 s90) .nil)⟩]
end fD49
def fD49.run (N : Nat) (b : (List UInt8)) (bad : Bool) (jO_ : Int) (jO1 : Int) (ver : Int) (ver1 : Int) (ver2 : (List T4)) (ver3 : Int) : Option ((T54 × Unit)) :=
  bif decide (ver = (0 : Int)) then
    obind (fC15.run N b bad (decide (ver3 = (0 : Int)))) fun ((b1, bad1, _), _) =>
      some ((b1, bad1, ()), ())
  else
    obind (fC15.run N b bad false) fun ((b2, bad2, _), _) =>
      some ((b2, bad2, ()), ())
namespace fD49
def fn (N : Nat) : Sh.den ins → Option (altsDen alts) := fun ((a, b, _), (c, d, e, f, g, h, _), _) => fD49.run N a b c d e f g h
def P (N : Nat) : Ps := ⟨ts, ins, asg, alts, fn N⟩
def lam (N : Nat) : Pcs := pcs []
theorem pok (N : Nat) : (lam N).Ok Tryz.prog (C N) code := pcsOk_nil
theorem ok (N : Nat) : ((P N).pc (fB22.C N)).Ok Tryz.prog (fB22.C N) code := okP (F := P N) (fB22.cok N) mix (pok N) fun _ => by kernel_rfl
end fD49
def fB22.go (N : Nat) : Nat → (List UInt8) → Bool → (List T7) → (List T8) → Int → Option ((T54 × Unit))
  | 0, _, _, _, _, _ => none
  | fuel + 1, b, bad, jR, jS, i =>
    bif decide (i < (jR.length : Int)) then
      bif inB i jR.length then
        obind (fD49.run N b bad (jR.getD i.toNat (((0 : Int), (0 : Int)), ((0 : Int), (0 : Int)), ([] : List T4), (0 : Int))).1.1 (jR.getD i.toNat (((0 : Int), (0 : Int)), ((0 : Int), (0 : Int)), ([] : List T4), (0 : Int))).1.2 (jR.getD i.toNat (((0 : Int), (0 : Int)), ((0 : Int), (0 : Int)), ([] : List T4), (0 : Int))).2.1.1 (jR.getD i.toNat (((0 : Int), (0 : Int)), ((0 : Int), (0 : Int)), ([] : List T4), (0 : Int))).2.1.2 (jR.getD i.toNat (((0 : Int), (0 : Int)), ((0 : Int), (0 : Int)), ([] : List T4), (0 : Int))).2.2.1 (jR.getD i.toNat (((0 : Int), (0 : Int)), ((0 : Int), (0 : Int)), ([] : List T4), (0 : Int))).2.2.2) fun ((b3, bad3, _), _) =>
          obind (fA12.run N b3 bad3 (jR.getD i.toNat (((0 : Int), (0 : Int)), ((0 : Int), (0 : Int)), ([] : List T4), (0 : Int))).1) fun ((b4, bad4, _), _) =>
            obind (fB3.run N b4 bad4 (IntKind.u64.wrap (jR.getD i.toNat (((0 : Int), (0 : Int)), ((0 : Int), (0 : Int)), ([] : List T4), (0 : Int))).2.1.2) (4 : Int)) fun ((b5, bad5, _), _) =>
              obind (fA74.run N b5 bad5 (jR.getD i.toNat (((0 : Int), (0 : Int)), ((0 : Int), (0 : Int)), ([] : List T4), (0 : Int))).2.2.1) fun ((b6, bad6, _), _) =>
                fB22.go N fuel b6 bad6 jR jS (IntKind.i64.wrap (i + (1 : Int)))
      else none
    else some ((b, bad, ()), ())
namespace fB22
def g (N n : Nat) : Sh.den ins → Option (altsDen alts) := fun ((a, b, _), (c, d, _), e, _) => fB22.go N n a b c d e
def P (N : Nat) : Ps := ⟨ts, ins, asg, alts, g N N⟩
def lam (N : Nat) : Pcs := pcs [([true, false, false, true, false], (fD49.P N).pc (C N))]
theorem pok (N : Nat) : (lam N).Ok Tryz.prog (C N) code := pcsOk_cons (c1 := fD49.code) (by kernel_rfl) (fD49.ok N) (pcsOk_nil)
theorem ok (N : Nat) : ((P N).pc (fB21.C N)).Ok Tryz.prog (fB21.C N) (.loop code) := okL (F := P N) (g N) (fB21.cok N) mix (pok N) (fun _ => rfl) rfl fun _ _ => by kernel_rfl
end fB22
namespace fA60
def ins : Sh := (.cons (.box 57 s90) s88)
def ts : List Tmp := [0, 3, 6]
def asg : List Tmp := [6, 58, 59, 60, 61, 62, 63, 64, 65, 66, 67, 68, 69, 70, 71, 72, 73, 74, 75, 76, 77, 78, 79, 80]
def C (N : Nat) : Ctx := { fB21.C N with may := fun t => asg.any (Nat.beq t) }
def code : Code := loopBody (sub fB21.code [true, true, true, true, true, false])
theorem cok (N : Nat) : (C N).Ok Tryz.prog := okC (fB21.cok N) _
def alts : List Alt := [⟨(.exit 2), [], (.cons (.upd 0 57 s90) .nil)⟩]
end fA60
def fA60.go (N : Nat) : Nat → (List UInt8) → Bool → (List T7) → (List T8) → Int → Option ((T54 × Unit))
  | 0, _, _, _, _, _ => none
  | fuel + 1, b, bad, jR, jS, i =>
    bif decide (i < (jS.length : Int)) then
      bif inB i jS.length then
        obind (fA12.run N b bad (jS.getD i.toNat (((0 : Int), (0 : Int)), (0 : Int), (0 : Int))).1) fun ((b1, bad1, _), _) =>
          bif inB i jS.length then
            obind (fC66.run N b1 bad1 (jS.getD i.toNat (((0 : Int), (0 : Int)), (0 : Int), (0 : Int))).2) fun ((b2, bad2, _), _) =>
              fA60.go N fuel b2 bad2 jR jS (IntKind.i64.wrap (i + (1 : Int)))
          else none
      else none
    else some ((b, bad, ()), ())
namespace fA60
def g (N n : Nat) : Sh.den ins → Option (altsDen alts) := fun ((a, b, _), (c, d, _), e, _) => fA60.go N n a b c d e
def P (N : Nat) : Ps := ⟨ts, ins, asg, alts, g N N⟩
def lam (N : Nat) : Pcs := pcs []
theorem pok (N : Nat) : (lam N).Ok Tryz.prog (C N) code := pcsOk_nil
theorem ok (N : Nat) : ((P N).pc (fB21.C N)).Ok Tryz.prog (fB21.C N) (.loop code) := okL (F := P N) (g N) (fB21.cok N) mix (pok N) (fun _ => rfl) rfl fun _ _ => by kernel_rfl
end fA60
def fB21.run (N : Nat) (b : (List UInt8)) (bad : Bool) (p : T44) : Option (T54 × Unit) :=
  obind (fB63.run N b bad (p.1.length : Int)) fun ((b1, bad1, _), _) =>
    obind (fB22.go N N b1 bad1 p.1 p.2 (0 : Int)) fun ((b2, bad2, _), _) =>
      obind (fB63.run N b2 bad2 (p.2.length : Int)) fun ((b3, bad3, _), _) =>
        obind (fA60.go N N b3 bad3 p.1 p.2 (0 : Int)) fun ((b4, bad4, _), _) =>
          some ((b4, bad4, ()), ())
end
end Go.Hay.YtpgamibdlinhjaaGreat
