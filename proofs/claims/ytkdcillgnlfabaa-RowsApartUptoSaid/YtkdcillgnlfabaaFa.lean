/- Functions of the program as functions of Lean, and that they are what the program computes. Conditions: none. -/
import Derived.Test.YtkdcillgnlfabaaU
set_option linter.unusedVariables false
namespace Go.Hay.Ytkdcillgnlfabaa
open Go Go.Hay Go.Proofs
noncomputable section
set_option maxRecDepth 100000
def sites : List Site := []
instance : Sites := ⟨fun k us => loopObj (sites.getD k ⟨#[], .skip, .skip, [], 0⟩) us, fun _ _ _ => loopObj_ne _ _ _⟩
/-- hayloft/value.Null -/
def value_Null.ins : Sh := .nil
def value_Null.C (N : Nat) : Ctx := ⟨U, 2, fun _ => true, gam [], gamY []⟩
theorem value_Null.cok (N : Nat) : (value_Null.C N).Ok Try.prog := ⟨U_ok, GamOk.nil, GamYOk.nil⟩
def value_Null.code : Code := Try.f42.body.getD .skip
def value_Null.outs : Sh := (.cons (.val (.pair (.int .i64) (.pair .bool (.pair (.int .i64) .str)))) .nil)
def value_Null.run (N : Nat)  : Option ((Int × (Bool × (Int × (List UInt8)))) × Unit) :=
  some (((0 : Int), false, (0 : Int), ([] : List UInt8)), ())
def value_Null.fn (N : Nat) (x : Sh.den value_Null.ins) : Option (Sh.den value_Null.outs) := value_Null.run N 
def value_Null.S (N : Nat) : Fs := ⟨value_Null.ins, value_Null.outs, value_Null.fn N⟩
def value_Null.lam (N : Nat) : Pcs := pcs []
theorem value_Null.pok (N : Nat) : (value_Null.lam N).Ok Try.prog (value_Null.C N) value_Null.code := pcsOk_nil
theorem value_Null.ev (N : Nat) (x : Sh.den value_Null.ins) : evC (value_Null.C N) value_Null.code (value_Null.lam N) ⟨envOf 0 (bld (fun k => k) value_Null.ins x 0).1, (bld (fun k => k) value_Null.ins x 0).2.1, 1000⟩ (endF U value_Null.outs Try.f42.results.toList []) = value_Null.fn N x := by kernel_rfl
theorem value_Null.ok (N : Nat) : (value_Null.S N).con.Ok Try.prog 42 := fn_ok (F := value_Null.S N) (n0 := 1000) Try.func42 (by kernel_rfl) (show Try.f42.body = some value_Null.code by rfl) mix (value_Null.cok N) (fun _ => rfl) (fun _ => rfl) (value_Null.pok N) (fun x y h => (value_Null.ev N x).trans h)
/-- hayloft/value.Bool -/
def value_Bool.ins : Sh := (.cons (.val .bool) .nil)
def value_Bool.C (N : Nat) : Ctx := ⟨U, 5, fun _ => true, gam [], gamY []⟩
theorem value_Bool.cok (N : Nat) : (value_Bool.C N).Ok Try.prog := ⟨U_ok, GamOk.nil, GamYOk.nil⟩
def value_Bool.code : Code := Try.f43.body.getD .skip
def value_Bool.outs : Sh := (.cons (.val (.pair (.int .i64) (.pair .bool (.pair (.int .i64) .str)))) .nil)
def value_Bool.run (N : Nat) (b : Bool) : Option ((Int × (Bool × (Int × (List UInt8)))) × Unit) :=
  some (((1 : Int), b, (0 : Int), ([] : List UInt8)), ())
def value_Bool.fn (N : Nat) (x : Sh.den value_Bool.ins) : Option (Sh.den value_Bool.outs) := value_Bool.run N x.1
def value_Bool.S (N : Nat) : Fs := ⟨value_Bool.ins, value_Bool.outs, value_Bool.fn N⟩
def value_Bool.lam (N : Nat) : Pcs := pcs []
theorem value_Bool.pok (N : Nat) : (value_Bool.lam N).Ok Try.prog (value_Bool.C N) value_Bool.code := pcsOk_nil
theorem value_Bool.ev (N : Nat) (x : Sh.den value_Bool.ins) : evC (value_Bool.C N) value_Bool.code (value_Bool.lam N) ⟨envOf 0 (bld (fun k => k) value_Bool.ins x 0).1, (bld (fun k => k) value_Bool.ins x 0).2.1, 1000⟩ (endF U value_Bool.outs Try.f43.results.toList []) = value_Bool.fn N x := by kernel_rfl
theorem value_Bool.ok (N : Nat) : (value_Bool.S N).con.Ok Try.prog 43 := fn_ok (F := value_Bool.S N) (n0 := 1000) Try.func43 (by kernel_rfl) (show Try.f43.body = some value_Bool.code by rfl) mix (value_Bool.cok N) (fun _ => rfl) (fun _ => rfl) (value_Bool.pok N) (fun x y h => (value_Bool.ev N x).trans h)
/-- hayloft/value.Int -/
def value_Int.ins : Sh := (.cons (.val (.int .i64)) .nil)
def value_Int.C (N : Nat) : Ctx := ⟨U, 5, fun _ => true, gam [], gamY []⟩
theorem value_Int.cok (N : Nat) : (value_Int.C N).Ok Try.prog := ⟨U_ok, GamOk.nil, GamYOk.nil⟩
def value_Int.code : Code := Try.f36.body.getD .skip
def value_Int.outs : Sh := (.cons (.val (.pair (.int .i64) (.pair .bool (.pair (.int .i64) .str)))) .nil)
def value_Int.run (N : Nat) (n_ : Int) : Option ((Int × (Bool × (Int × (List UInt8)))) × Unit) :=
  some (((2 : Int), false, n_, ([] : List UInt8)), ())
def value_Int.fn (N : Nat) (x : Sh.den value_Int.ins) : Option (Sh.den value_Int.outs) := value_Int.run N x.1
def value_Int.S (N : Nat) : Fs := ⟨value_Int.ins, value_Int.outs, value_Int.fn N⟩
def value_Int.lam (N : Nat) : Pcs := pcs []
theorem value_Int.pok (N : Nat) : (value_Int.lam N).Ok Try.prog (value_Int.C N) value_Int.code := pcsOk_nil
theorem value_Int.ev (N : Nat) (x : Sh.den value_Int.ins) : evC (value_Int.C N) value_Int.code (value_Int.lam N) ⟨envOf 0 (bld (fun k => k) value_Int.ins x 0).1, (bld (fun k => k) value_Int.ins x 0).2.1, 1000⟩ (endF U value_Int.outs Try.f36.results.toList []) = value_Int.fn N x := by kernel_rfl
theorem value_Int.ok (N : Nat) : (value_Int.S N).con.Ok Try.prog 36 := fn_ok (F := value_Int.S N) (n0 := 1000) Try.func36 (by kernel_rfl) (show Try.f36.body = some value_Int.code by rfl) mix (value_Int.cok N) (fun _ => rfl) (fun _ => rfl) (value_Int.pok N) (fun x y h => (value_Int.ev N x).trans h)
/-- hayloft/value.Text -/
def value_Text.ins : Sh := (.cons (.val .str) .nil)
def value_Text.C (N : Nat) : Ctx := ⟨U, 5, fun _ => true, gam [], gamY []⟩
theorem value_Text.cok (N : Nat) : (value_Text.C N).Ok Try.prog := ⟨U_ok, GamOk.nil, GamYOk.nil⟩
def value_Text.code : Code := Try.f39.body.getD .skip
def value_Text.outs : Sh := (.cons (.val (.pair (.int .i64) (.pair .bool (.pair (.int .i64) .str)))) .nil)
def value_Text.run (N : Nat) (s : (List UInt8)) : Option ((Int × (Bool × (Int × (List UInt8)))) × Unit) :=
  some (((3 : Int), false, (0 : Int), s), ())
def value_Text.fn (N : Nat) (x : Sh.den value_Text.ins) : Option (Sh.den value_Text.outs) := value_Text.run N x.1
def value_Text.S (N : Nat) : Fs := ⟨value_Text.ins, value_Text.outs, value_Text.fn N⟩
def value_Text.lam (N : Nat) : Pcs := pcs []
theorem value_Text.pok (N : Nat) : (value_Text.lam N).Ok Try.prog (value_Text.C N) value_Text.code := pcsOk_nil
theorem value_Text.ev (N : Nat) (x : Sh.den value_Text.ins) : evC (value_Text.C N) value_Text.code (value_Text.lam N) ⟨envOf 0 (bld (fun k => k) value_Text.ins x 0).1, (bld (fun k => k) value_Text.ins x 0).2.1, 1000⟩ (endF U value_Text.outs Try.f39.results.toList []) = value_Text.fn N x := by kernel_rfl
theorem value_Text.ok (N : Nat) : (value_Text.S N).con.Ok Try.prog 39 := fn_ok (F := value_Text.S N) (n0 := 1000) Try.func39 (by kernel_rfl) (show Try.f39.body = some value_Text.code by rfl) mix (value_Text.cok N) (fun _ => rfl) (fun _ => rfl) (value_Text.pok N) (fun x y h => (value_Text.ev N x).trans h)
/-- hayloft/value.Right -/
def value_Right.ins : Sh := (.cons (.val (.pair (.int .i64) (.pair .bool (.pair (.int .i64) .str)))) .nil)
def value_Right.C (N : Nat) : Ctx := ⟨U, 43, fun _ => true, gam [(42, (value_Null.S N).con), (43, (value_Bool.S N).con), (36, (value_Int.S N).con), (39, (value_Text.S N).con)], gamY []⟩
theorem value_Right.cok (N : Nat) : (value_Right.C N).Ok Try.prog := ⟨U_ok, GamOk.cons (value_Null.ok N) (GamOk.cons (value_Bool.ok N) (GamOk.cons (value_Int.ok N) (GamOk.cons (value_Text.ok N) (GamOk.nil)))), GamYOk.nil⟩
def value_Right.code : Code := Try.f31.body.getD .skip
def value_Right.outs : Sh := (.cons (.val .bool) .nil)
def value_Right.run (N : Nat) (v : (Int × (Bool × (Int × (List UInt8))))) : Option (Bool × Unit) :=
  bif decide (v.1 = (0 : Int)) then
    obind (value_Null.run N) fun (v1, _) =>
      some ((decide (v.1 = v1.1)) && ((v.2.1 == v1.2.1) && ((decide (v.2.2.1 = v1.2.2.1)) && ((decide (v.2.2.2 = v1.2.2.2)) && true))), ())
  else
    bif decide (v.1 = (1 : Int)) then
      obind (value_Bool.run N v.2.1) fun (v2, _) =>
        some ((decide (v.1 = v2.1)) && ((v.2.1 == v2.2.1) && ((decide (v.2.2.1 = v2.2.2.1)) && ((decide (v.2.2.2 = v2.2.2.2)) && true))), ())
    else
      bif decide (v.1 = (2 : Int)) then
        obind (value_Int.run N v.2.2.1) fun (v3, _) =>
          some ((decide (v.1 = v3.1)) && ((v.2.1 == v3.2.1) && ((decide (v.2.2.1 = v3.2.2.1)) && ((decide (v.2.2.2 = v3.2.2.2)) && true))), ())
      else
        bif decide (v.1 = (3 : Int)) then
          obind (value_Text.run N v.2.2.2) fun (v4, _) =>
            bif (decide (v.1 = v4.1)) && ((v.2.1 == v4.2.1) && ((decide (v.2.2.1 = v4.2.2.1)) && ((decide (v.2.2.2 = v4.2.2.2)) && true))) then
              some (decide ((v.2.2.2.length : Int) ≤ (64 : Int)), ())
            else some (false, ())
        else some (false, ())
def value_Right.fn (N : Nat) (x : Sh.den value_Right.ins) : Option (Sh.den value_Right.outs) := value_Right.run N x.1
def value_Right.S (N : Nat) : Fs := ⟨value_Right.ins, value_Right.outs, value_Right.fn N⟩
def value_Right.lam (N : Nat) : Pcs := pcs []
theorem value_Right.pok (N : Nat) : (value_Right.lam N).Ok Try.prog (value_Right.C N) value_Right.code := pcsOk_nil
theorem value_Right.ev (N : Nat) (x : Sh.den value_Right.ins) : evC (value_Right.C N) value_Right.code (value_Right.lam N) ⟨envOf 0 (bld (fun k => k) value_Right.ins x 0).1, (bld (fun k => k) value_Right.ins x 0).2.1, 1000⟩ (endF U value_Right.outs Try.f31.results.toList []) = value_Right.fn N x := by kernel_rfl
theorem value_Right.ok (N : Nat) : (value_Right.S N).con.Ok Try.prog 31 := fn_ok (F := value_Right.S N) (n0 := 1000) Try.func31 (by kernel_rfl) (show Try.f31.body = some value_Right.code by rfl) mix (value_Right.cok N) (fun _ => rfl) (fun _ => rfl) (value_Right.pok N) (fun x y h => (value_Right.ev N x).trans h)
/-- hayloft/rows.may -/
def rows_may.ins : Sh := (.cons (.val (.slice (.pair (.int .i64) (.pair .bool (.pair (.int .i64) .str))))) .nil)
def rows_may.C (N : Nat) : Ctx := ⟨U, 18, fun _ => true, gam [(31, (value_Right.S N).con)], gamY []⟩
theorem rows_may.cok (N : Nat) : (rows_may.C N).Ok Try.prog := ⟨U_ok, GamOk.cons (value_Right.ok N) (GamOk.nil), GamYOk.nil⟩
def rows_may.code : Code := Try.f25.body.getD .skip
def rows_may_0.ins : Sh := (.cons (.val (.slice (.pair (.int .i64) (.pair .bool (.pair (.int .i64) .str))))) (.cons (.val (.int .i64)) (.cons (.val (.int .i64)) .nil)))
def rows_may_0.ts : List Tmp := [5, 6, 7]
def rows_may_0.asg : List Tmp := [2, 4, 7, 8, 9, 10, 11, 12, 13, 14]
def rows_may_0.C (N : Nat) : Ctx := { rows_may.C N with may := fun t => rows_may_0.asg.any (Nat.beq t) }
def rows_may_0.code : Code := loopBody (sub rows_may.code [true, false, true, false])
theorem rows_may_0.cok (N : Nat) : (rows_may_0.C N).Ok Try.prog := ⟨(rows_may.cok N).U, (rows_may.cok N).Γ, (rows_may.cok N).Y⟩
def rows_may_0.alts : List Alt := [⟨.ret, [2], (.cons (.val .bool) .nil)⟩, ⟨(.exit 0), [], .nil⟩]
def rows_may_0.go (N : Nat) : Nat → (List (Int × (Bool × (Int × (List UInt8))))) → Int → Int → Option ((Bool × Unit) ⊕ Unit)
  | 0, _, _, _ => none
  | fuel + 1, t5, t6, t7 =>
    bif decide (t7 < t6) then
      bif inB t7 t5.length then
        obind (value_Right.run N (t5.getD t7.toNat ((0 : Int), false, (0 : Int), ([] : List UInt8)))) fun (b, _) =>
          bif !b then
            some (.inl (false, ()))
          else rows_may_0.go N fuel t5 t6 (IntKind.i64.wrap (t7 + (1 : Int)))
      else none
    else some (.inr ())
def rows_may_0.g (N n : Nat) (x : Sh.den rows_may_0.ins) : Option (altsDen rows_may_0.alts) := rows_may_0.go N n x.1 x.2.1 x.2.2.1
def rows_may_0.P (N : Nat) : Ps := ⟨rows_may_0.ts, rows_may_0.ins, rows_may_0.asg, rows_may_0.alts, rows_may_0.g N N⟩
def rows_may_0.lam (N : Nat) : Pcs := pcs []
theorem rows_may_0.pok (N : Nat) : (rows_may_0.lam N).Ok Try.prog (rows_may_0.C N) rows_may_0.code := pcsOk_nil
theorem rows_may_0.ev (N n : Nat) (x : Sh.den rows_may_0.ins) : evC (rows_may_0.C N) rows_may_0.code (rows_may_0.lam N) ((rows_may_0.P N).canon 1000 x) (loopK (rows_may_0.P N) (rows_may_0.g N n)) = rows_may_0.g N (n + 1) x := by kernel_rfl
theorem rows_may_0.ok (N : Nat) : ((rows_may_0.P N).pc (rows_may.C N)).Ok Try.prog (rows_may.C N) (.loop rows_may_0.code) := loop_ok (F := rows_may_0.P N) (n0 := 1000) (N := N) (rows_may.cok N) mix (rows_may_0.pok N) (rows_may_0.g N) (fun x => by rfl) rfl (fun n x y h => (rows_may_0.ev N n x).trans h)
def rows_may.outs : Sh := (.cons (.val .bool) .nil)
def rows_may.run (N : Nat) (row : (List (Int × (Bool × (Int × (List UInt8)))))) : Option (Bool × Unit) :=
  obind (rows_may_0.go N N row (row.length : Int) (0 : Int)) fun y => match y with
  | .inl (t2, _) =>
      some (t2, ())
  | .inr (_) =>
      some (decide ((row.length : Int) ≤ (16 : Int)), ())
def rows_may.fn (N : Nat) (x : Sh.den rows_may.ins) : Option (Sh.den rows_may.outs) := rows_may.run N x.1
def rows_may.S (N : Nat) : Fs := ⟨rows_may.ins, rows_may.outs, rows_may.fn N⟩
def rows_may.lam (N : Nat) : Pcs := pcs [([true, false, true, false], (rows_may_0.P N).pc (rows_may.C N))]
theorem rows_may.pok (N : Nat) : (rows_may.lam N).Ok Try.prog (rows_may.C N) rows_may.code := pcsOk_cons (c1 := .loop rows_may_0.code) (by kernel_rfl) (rows_may_0.ok N) (pcsOk_nil)
theorem rows_may.ev (N : Nat) (x : Sh.den rows_may.ins) : evC (rows_may.C N) rows_may.code (rows_may.lam N) ⟨envOf 0 (bld (fun k => k) rows_may.ins x 0).1, (bld (fun k => k) rows_may.ins x 0).2.1, 1000⟩ (endF U rows_may.outs Try.f25.results.toList []) = rows_may.fn N x := by kernel_rfl
theorem rows_may.ok (N : Nat) : (rows_may.S N).con.Ok Try.prog 25 := fn_ok (F := rows_may.S N) (n0 := 1000) Try.func25 (by kernel_rfl) (show Try.f25.body = some rows_may.code by rfl) mix (rows_may.cok N) (fun _ => rfl) (fun _ => rfl) (rows_may.pok N) (fun x y h => (rows_may.ev N x).trans h)
/-- hayloft/rows.eight -/
def rows_eight.ins : Sh := (.cons (.own 5 .byte) (.cons (.val (.int .u64)) .nil))
def rows_eight.C (N : Nat) : Ctx := ⟨U, 22, fun _ => true, gam [], gamY []⟩
theorem rows_eight.cok (N : Nat) : (rows_eight.C N).Ok Try.prog := ⟨U_ok, GamOk.nil, GamYOk.nil⟩
def rows_eight.code : Code := Try.f33.body.getD .skip
def rows_eight_0.ins : Sh := (.cons (.val (.int .u64)) (.cons (.arr 60 .byte 8) (.cons (.val (.int .i64)) .nil)))
def rows_eight_0.ts : List Tmp := [1, 5, 7]
def rows_eight_0.asg : List Tmp := [6, 7, 8, 9, 10, 11, 12, 13, 14, 15, 16, 17, 18]
def rows_eight_0.C (N : Nat) : Ctx := { rows_eight.C N with may := fun t => rows_eight_0.asg.any (Nat.beq t) }
def rows_eight_0.code : Code := loopBody (sub rows_eight.code [true, true, false, true, false])
theorem rows_eight_0.cok (N : Nat) : (rows_eight_0.C N).Ok Try.prog := ⟨(rows_eight.cok N).U, (rows_eight.cok N).Γ, (rows_eight.cok N).Y⟩
def rows_eight_0.alts : List Alt := [⟨(.exit 0), [], (.cons (.updr 0 60 .byte) .nil)⟩]
def rows_eight_0.go (N : Nat) : Nat → Int → (List UInt8) → Int → Option (((List UInt8) × Unit))
  | 0, _, _, _ => none
  | fuel + 1, n_, x, t7 =>
    bif decide (t7 < (8 : Int)) then
      bif decide ((0 : Int) ≤ (IntKind.i64.wrap ((56 : Int) - (IntKind.i64.wrap ((8 : Int) * t7))))) then
        bif inB t7 8 then
          bif decide (t7.toNat < x.length) then
            rows_eight_0.go N fuel n_ (x.set t7.toNat (Hay.u8 (IntKind.u8.wrap (n_.fdiv (2 ^ (min (IntKind.i64.wrap ((56 : Int) - (IntKind.i64.wrap ((8 : Int) * t7)))).toNat 64)))))) (IntKind.i64.wrap (t7 + (1 : Int)))
          else none
        else none
      else none
    else some (x, ())
def rows_eight_0.g (N n : Nat) (x : Sh.den rows_eight_0.ins) : Option (altsDen rows_eight_0.alts) := rows_eight_0.go N n x.1 x.2.1 x.2.2.1
def rows_eight_0.P (N : Nat) : Ps := ⟨rows_eight_0.ts, rows_eight_0.ins, rows_eight_0.asg, rows_eight_0.alts, rows_eight_0.g N N⟩
def rows_eight_0.lam (N : Nat) : Pcs := pcs []
theorem rows_eight_0.pok (N : Nat) : (rows_eight_0.lam N).Ok Try.prog (rows_eight_0.C N) rows_eight_0.code := pcsOk_nil
theorem rows_eight_0.ev (N n : Nat) (x : Sh.den rows_eight_0.ins) : evC (rows_eight_0.C N) rows_eight_0.code (rows_eight_0.lam N) ((rows_eight_0.P N).canon 1000 x) (loopK (rows_eight_0.P N) (rows_eight_0.g N n)) = rows_eight_0.g N (n + 1) x := by kernel_rfl
theorem rows_eight_0.ok (N : Nat) : ((rows_eight_0.P N).pc (rows_eight.C N)).Ok Try.prog (rows_eight.C N) (.loop rows_eight_0.code) := loop_ok (F := rows_eight_0.P N) (n0 := 1000) (N := N) (rows_eight.cok N) mix (rows_eight_0.pok N) (rows_eight_0.g N) (fun x => by rfl) rfl (fun n x y h => (rows_eight_0.ev N n x).trans h)
def rows_eight.outs : Sh := (.cons (.own 5 .byte) .nil)
def rows_eight.run (N : Nat) (b : (List UInt8)) (n_ : Int) : Option ((List UInt8) × Unit) :=
  obind (rows_eight_0.go N N n_ (List.replicate 8 (0 : UInt8)) (0 : Int)) fun (v, _) =>
    bif room (b.length + ((v.drop 0).take 8).length) 1 then
      some (b ++ ((v.drop 0).take 8), ())
    else none
def rows_eight.fn (N : Nat) (x : Sh.den rows_eight.ins) : Option (Sh.den rows_eight.outs) := rows_eight.run N x.1 x.2.1
def rows_eight.S (N : Nat) : Fs := ⟨rows_eight.ins, rows_eight.outs, rows_eight.fn N⟩
def rows_eight.lam (N : Nat) : Pcs := pcs [([true, true, false, true, false], (rows_eight_0.P N).pc (rows_eight.C N))]
theorem rows_eight.pok (N : Nat) : (rows_eight.lam N).Ok Try.prog (rows_eight.C N) rows_eight.code := pcsOk_cons (c1 := .loop rows_eight_0.code) (by kernel_rfl) (rows_eight_0.ok N) (pcsOk_nil)
theorem rows_eight.ev (N : Nat) (x : Sh.den rows_eight.ins) : evC (rows_eight.C N) rows_eight.code (rows_eight.lam N) ⟨envOf 0 (bld (fun k => k) rows_eight.ins x 0).1, (bld (fun k => k) rows_eight.ins x 0).2.1, 1000⟩ (endF U rows_eight.outs Try.f33.results.toList []) = rows_eight.fn N x := by kernel_rfl
theorem rows_eight.ok (N : Nat) : (rows_eight.S N).con.Ok Try.prog 33 := fn_ok (F := rows_eight.S N) (n0 := 1000) Try.func33 (by kernel_rfl) (show Try.f33.body = some rows_eight.code by rfl) mix (rows_eight.cok N) (fun _ => rfl) (fun _ => rfl) (rows_eight.pok N) (fun x y h => (rows_eight.ev N x).trans h)
/-- hayloft/rows.one -/
def rows_one.ins : Sh := (.cons (.own 5 .byte) (.cons (.val (.pair (.int .i64) (.pair .bool (.pair (.int .i64) .str)))) .nil))
def rows_one.C (N : Nat) : Ctx := ⟨U, 44, fun _ => true, gam [(33, (rows_eight.S N).con)], gamY []⟩
theorem rows_one.cok (N : Nat) : (rows_one.C N).Ok Try.prog := ⟨U_ok, GamOk.cons (rows_eight.ok N) (GamOk.nil), GamYOk.nil⟩
def rows_one.code : Code := Try.f26.body.getD .skip
def rows_one.outs : Sh := (.cons (.own 5 .byte) .nil)
def rows_one.run (N : Nat) (b : (List UInt8)) (v : (Int × (Bool × (Int × (List UInt8))))) : Option ((List UInt8) × Unit) :=
  bif room (b.length + 1) 1 then
    bif decide (v.1 = (1 : Int)) then
      bif v.2.1 then
        bif room ((b ++ ([Hay.u8 (IntKind.u8.wrap v.1)] : List UInt8)).length + 1) 1 then
          some ((b ++ ([Hay.u8 (IntKind.u8.wrap v.1)] : List UInt8)) ++ ([(1 : UInt8)] : List UInt8), ())
        else none
      else
        bif room ((b ++ ([Hay.u8 (IntKind.u8.wrap v.1)] : List UInt8)).length + 1) 1 then
          some ((b ++ ([Hay.u8 (IntKind.u8.wrap v.1)] : List UInt8)) ++ ([(0 : UInt8)] : List UInt8), ())
        else none
    else
      bif decide (v.1 = (2 : Int)) then
        obind (rows_eight.run N (b ++ ([Hay.u8 (IntKind.u8.wrap v.1)] : List UInt8)) (IntKind.u64.wrap v.2.2.1)) fun (l, _) =>
          some (l, ())
      else
        bif decide (v.1 = (3 : Int)) then
          bif room ((b ++ ([Hay.u8 (IntKind.u8.wrap v.1)] : List UInt8)).length + 1) 1 then
            bif room (((b ++ ([Hay.u8 (IntKind.u8.wrap v.1)] : List UInt8)) ++ ([Hay.u8 (IntKind.u8.wrap (v.2.2.2.length : Int))] : List UInt8)).length + v.2.2.2.length) 1 then
              some (((b ++ ([Hay.u8 (IntKind.u8.wrap v.1)] : List UInt8)) ++ ([Hay.u8 (IntKind.u8.wrap (v.2.2.2.length : Int))] : List UInt8)) ++ v.2.2.2, ())
            else none
          else none
        else some (b ++ ([Hay.u8 (IntKind.u8.wrap v.1)] : List UInt8), ())
  else none
def rows_one.fn (N : Nat) (x : Sh.den rows_one.ins) : Option (Sh.den rows_one.outs) := rows_one.run N x.1 x.2.1
def rows_one.S (N : Nat) : Fs := ⟨rows_one.ins, rows_one.outs, rows_one.fn N⟩
def rows_one.lam (N : Nat) : Pcs := pcs []
theorem rows_one.pok (N : Nat) : (rows_one.lam N).Ok Try.prog (rows_one.C N) rows_one.code := pcsOk_nil
theorem rows_one.ev (N : Nat) (x : Sh.den rows_one.ins) : evC (rows_one.C N) rows_one.code (rows_one.lam N) ⟨envOf 0 (bld (fun k => k) rows_one.ins x 0).1, (bld (fun k => k) rows_one.ins x 0).2.1, 1000⟩ (endF U rows_one.outs Try.f26.results.toList []) = rows_one.fn N x := by kernel_rfl
theorem rows_one.ok (N : Nat) : (rows_one.S N).con.Ok Try.prog 26 := fn_ok (F := rows_one.S N) (n0 := 1000) Try.func26 (by kernel_rfl) (show Try.f26.body = some rows_one.code by rfl) mix (rows_one.cok N) (fun _ => rfl) (fun _ => rfl) (rows_one.pok N) (fun x y h => (rows_one.ev N x).trans h)
/-- hayloft/rows.Encode -/
def rows_Encode.ins : Sh := (.cons (.val (.slice (.pair (.int .i64) (.pair .bool (.pair (.int .i64) .str))))) .nil)
def rows_Encode.C (N : Nat) : Ctx := ⟨U, 25, fun _ => true, gam [(25, (rows_may.S N).con), (26, (rows_one.S N).con)], gamY []⟩
theorem rows_Encode.cok (N : Nat) : (rows_Encode.C N).Ok Try.prog := ⟨U_ok, GamOk.cons (rows_may.ok N) (GamOk.cons (rows_one.ok N) (GamOk.nil)), GamYOk.nil⟩
def rows_Encode.code : Code := Try.f10.body.getD .skip
def rows_Encode_0.ins : Sh := (.cons (.own 5 .byte) (.cons (.val (.slice (.pair (.int .i64) (.pair .bool (.pair (.int .i64) .str))))) (.cons (.val (.int .i64)) (.cons (.val (.int .i64)) .nil))))
def rows_Encode_0.ts : List Tmp := [4, 14, 15, 16]
def rows_Encode_0.asg : List Tmp := [4, 6, 16, 17, 18, 19, 20, 21, 22, 23]
def rows_Encode_0.C (N : Nat) : Ctx := { rows_Encode.C N with may := fun t => rows_Encode_0.asg.any (Nat.beq t) }
def rows_Encode_0.code : Code := loopBody (sub rows_Encode.code [true, true, true, false, true, false])
theorem rows_Encode_0.cok (N : Nat) : (rows_Encode_0.C N).Ok Try.prog := ⟨(rows_Encode.cok N).U, (rows_Encode.cok N).Γ, (rows_Encode.cok N).Y⟩
def rows_Encode_0.alts : List Alt := [⟨(.exit 0), [4], (.cons (.own 5 .byte) .nil)⟩]
def rows_Encode_0.go (N : Nat) : Nat → (List UInt8) → (List (Int × (Bool × (Int × (List UInt8))))) → Int → Int → Option (((List UInt8) × Unit))
  | 0, _, _, _, _ => none
  | fuel + 1, b, t14, t15, t16 =>
    bif decide (t16 < t15) then
      bif inB t16 t14.length then
        obind (rows_one.run N b (t14.getD t16.toNat ((0 : Int), false, (0 : Int), ([] : List UInt8)))) fun (l, _) =>
          rows_Encode_0.go N fuel l t14 t15 (IntKind.i64.wrap (t16 + (1 : Int)))
      else none
    else some (b, ())
def rows_Encode_0.g (N n : Nat) (x : Sh.den rows_Encode_0.ins) : Option (altsDen rows_Encode_0.alts) := rows_Encode_0.go N n x.1 x.2.1 x.2.2.1 x.2.2.2.1
def rows_Encode_0.P (N : Nat) : Ps := ⟨rows_Encode_0.ts, rows_Encode_0.ins, rows_Encode_0.asg, rows_Encode_0.alts, rows_Encode_0.g N N⟩
def rows_Encode_0.lam (N : Nat) : Pcs := pcs []
theorem rows_Encode_0.pok (N : Nat) : (rows_Encode_0.lam N).Ok Try.prog (rows_Encode_0.C N) rows_Encode_0.code := pcsOk_nil
theorem rows_Encode_0.ev (N n : Nat) (x : Sh.den rows_Encode_0.ins) : evC (rows_Encode_0.C N) rows_Encode_0.code (rows_Encode_0.lam N) ((rows_Encode_0.P N).canon 1000 x) (loopK (rows_Encode_0.P N) (rows_Encode_0.g N n)) = rows_Encode_0.g N (n + 1) x := by kernel_rfl
theorem rows_Encode_0.ok (N : Nat) : ((rows_Encode_0.P N).pc (rows_Encode.C N)).Ok Try.prog (rows_Encode.C N) (.loop rows_Encode_0.code) := loop_ok (F := rows_Encode_0.P N) (n0 := 1000) (N := N) (rows_Encode.cok N) mix (rows_Encode_0.pok N) (rows_Encode_0.g N) (fun x => by rfl) rfl (fun n x y h => (rows_Encode_0.ev N n x).trans h)
def rows_Encode.outs : Sh := (.cons (.own 5 .byte) (.cons (.val (.int .i64)) .nil))
def rows_Encode.run (N : Nat) (row : (List (Int × (Bool × (Int × (List UInt8)))))) : Option ((List UInt8) × Int × Unit) :=
  obind (rows_may.run N row) fun (b, _) =>
    bif !b then
      some (([] : List UInt8), (30 : Int), ())
    else
      obind (rows_Encode_0.go N N ([Hay.u8 (IntKind.u8.wrap (row.length : Int))] : List UInt8) row (row.length : Int) (0 : Int)) fun (b1, _) =>
        some (b1, (0 : Int), ())
def rows_Encode.fn (N : Nat) (x : Sh.den rows_Encode.ins) : Option (Sh.den rows_Encode.outs) := rows_Encode.run N x.1
def rows_Encode.S (N : Nat) : Fs := ⟨rows_Encode.ins, rows_Encode.outs, rows_Encode.fn N⟩
def rows_Encode.lam (N : Nat) : Pcs := pcs [([true, true, true, false, true, false], (rows_Encode_0.P N).pc (rows_Encode.C N))]
theorem rows_Encode.pok (N : Nat) : (rows_Encode.lam N).Ok Try.prog (rows_Encode.C N) rows_Encode.code := pcsOk_cons (c1 := .loop rows_Encode_0.code) (by kernel_rfl) (rows_Encode_0.ok N) (pcsOk_nil)
theorem rows_Encode.ev (N : Nat) (x : Sh.den rows_Encode.ins) : evC (rows_Encode.C N) rows_Encode.code (rows_Encode.lam N) ⟨envOf 0 (bld (fun k => k) rows_Encode.ins x 0).1, (bld (fun k => k) rows_Encode.ins x 0).2.1, 1000⟩ (endF U rows_Encode.outs Try.f10.results.toList []) = rows_Encode.fn N x := by kernel_rfl
theorem rows_Encode.ok (N : Nat) : (rows_Encode.S N).con.Ok Try.prog 10 := fn_ok (F := rows_Encode.S N) (n0 := 1000) Try.func10 (by kernel_rfl) (show Try.f10.body = some rows_Encode.code by rfl) mix (rows_Encode.cok N) (fun _ => rfl) (fun _ => rfl) (rows_Encode.pok N) (fun x y h => (rows_Encode.ev N x).trans h)
/-- hayloft/hayloftref02.Right -/
def ref_Right_32.ins : Sh := (.cons (.val (.pair (.int .i64) (.pair .bool (.pair (.int .i64) .str)))) .nil)
def ref_Right_32.C (N : Nat) : Ctx := ⟨U, 44, fun _ => true, gam [], gamY []⟩
theorem ref_Right_32.cok (N : Nat) : (ref_Right_32.C N).Ok Try.prog := ⟨U_ok, GamOk.nil, GamYOk.nil⟩
def ref_Right_32.code : Code := Try.f32.body.getD .skip
def ref_Right_32_0.ins : Sh := (.cons (.rbox 34 (.cons (.val (.int .i64)) (.cons (.val .bool) (.cons (.val (.int .i64)) (.cons (.val .str) .nil))))) (.cons (.box 34 (.cons (.val (.int .i64)) (.cons (.val .bool) (.cons (.val (.int .i64)) (.cons (.val .str) .nil))))) .nil))
def ref_Right_32_0.ts : List Tmp := [1, 3]
def ref_Right_32_0.asg : List Tmp := [7, 8, 9, 10, 11, 12]
def ref_Right_32_0.C (N : Nat) : Ctx := { ref_Right_32.C N with may := fun t => ref_Right_32_0.asg.any (Nat.beq t) }
def ref_Right_32_0.code : Code := (sub ref_Right_32.code [true, true, false]).getD .skip
theorem ref_Right_32_0.cok (N : Nat) : (ref_Right_32_0.C N).Ok Try.prog := ⟨(ref_Right_32.cok N).U, (ref_Right_32.cok N).Γ, (ref_Right_32.cok N).Y⟩
def ref_Right_32_0.alts : List Alt := [⟨.normal, [], (.cons (.upd 1 34 (.cons (.val (.int .i64)) (.cons (.val .bool) (.cons (.val (.int .i64)) (.cons (.val .str) .nil))))) .nil)⟩]
def ref_Right_32_0.run (N : Nat) (kind : Int) (bool : Bool) (int : Int) (text : (List UInt8)) (kind1 : Int) (bool1 : Bool) (int1 : Int) (text1 : (List UInt8)) : Option (((Int × Bool × Int × (List UInt8) × Unit) × Unit)) :=
  bif decide (kind = (1 : Int)) then
    some ((kind1, bool, int1, text1, ()), ())
  else some ((kind1, bool1, int1, text1, ()), ())
def ref_Right_32_0.fn (N : Nat) (x : Sh.den ref_Right_32_0.ins) : Option (altsDen ref_Right_32_0.alts) := ref_Right_32_0.run N x.1.1 x.1.2.1 x.1.2.2.1 x.1.2.2.2.1 x.2.1.1 x.2.1.2.1 x.2.1.2.2.1 x.2.1.2.2.2.1
def ref_Right_32_0.P (N : Nat) : Ps := ⟨ref_Right_32_0.ts, ref_Right_32_0.ins, ref_Right_32_0.asg, ref_Right_32_0.alts, ref_Right_32_0.fn N⟩
def ref_Right_32_0.lam (N : Nat) : Pcs := pcs []
theorem ref_Right_32_0.pok (N : Nat) : (ref_Right_32_0.lam N).Ok Try.prog (ref_Right_32_0.C N) ref_Right_32_0.code := pcsOk_nil
theorem ref_Right_32_0.ev (N : Nat) (x : Sh.den ref_Right_32_0.ins) : evC (ref_Right_32_0.C N) ref_Right_32_0.code (ref_Right_32_0.lam N) ((ref_Right_32_0.P N).canon 1000 x) (altK (ref_Right_32_0.P N).alts) = ref_Right_32_0.fn N x := by kernel_rfl
theorem ref_Right_32_0.ok (N : Nat) : ((ref_Right_32_0.P N).pc (ref_Right_32.C N)).Ok Try.prog (ref_Right_32.C N) ref_Right_32_0.code := ps_ok (F := ref_Right_32_0.P N) (n0 := 1000) (ref_Right_32.cok N) mix (ref_Right_32_0.pok N) (fun x y h => (ref_Right_32_0.ev N x).trans h)
def ref_Right_32_1.ins : Sh := (.cons (.rbox 34 (.cons (.val (.int .i64)) (.cons (.val .bool) (.cons (.val (.int .i64)) (.cons (.val .str) .nil))))) (.cons (.box 34 (.cons (.val (.int .i64)) (.cons (.val .bool) (.cons (.val (.int .i64)) (.cons (.val .str) .nil))))) .nil))
def ref_Right_32_1.ts : List Tmp := [1, 3]
def ref_Right_32_1.asg : List Tmp := [13, 14, 15, 16, 17, 18]
def ref_Right_32_1.C (N : Nat) : Ctx := { ref_Right_32.C N with may := fun t => ref_Right_32_1.asg.any (Nat.beq t) }
def ref_Right_32_1.code : Code := (sub ref_Right_32.code [true, true, true, false]).getD .skip
theorem ref_Right_32_1.cok (N : Nat) : (ref_Right_32_1.C N).Ok Try.prog := ⟨(ref_Right_32.cok N).U, (ref_Right_32.cok N).Γ, (ref_Right_32.cok N).Y⟩
def ref_Right_32_1.alts : List Alt := [⟨.normal, [], (.cons (.upd 1 34 (.cons (.val (.int .i64)) (.cons (.val .bool) (.cons (.val (.int .i64)) (.cons (.val .str) .nil))))) .nil)⟩]
def ref_Right_32_1.run (N : Nat) (kind : Int) (bool : Bool) (int : Int) (text : (List UInt8)) (kind1 : Int) (bool1 : Bool) (int1 : Int) (text1 : (List UInt8)) : Option (((Int × Bool × Int × (List UInt8) × Unit) × Unit)) :=
  bif decide (kind = (2 : Int)) then
    some ((kind1, bool1, int, text1, ()), ())
  else some ((kind1, bool1, int1, text1, ()), ())
def ref_Right_32_1.fn (N : Nat) (x : Sh.den ref_Right_32_1.ins) : Option (altsDen ref_Right_32_1.alts) := ref_Right_32_1.run N x.1.1 x.1.2.1 x.1.2.2.1 x.1.2.2.2.1 x.2.1.1 x.2.1.2.1 x.2.1.2.2.1 x.2.1.2.2.2.1
def ref_Right_32_1.P (N : Nat) : Ps := ⟨ref_Right_32_1.ts, ref_Right_32_1.ins, ref_Right_32_1.asg, ref_Right_32_1.alts, ref_Right_32_1.fn N⟩
def ref_Right_32_1.lam (N : Nat) : Pcs := pcs []
theorem ref_Right_32_1.pok (N : Nat) : (ref_Right_32_1.lam N).Ok Try.prog (ref_Right_32_1.C N) ref_Right_32_1.code := pcsOk_nil
theorem ref_Right_32_1.ev (N : Nat) (x : Sh.den ref_Right_32_1.ins) : evC (ref_Right_32_1.C N) ref_Right_32_1.code (ref_Right_32_1.lam N) ((ref_Right_32_1.P N).canon 1000 x) (altK (ref_Right_32_1.P N).alts) = ref_Right_32_1.fn N x := by kernel_rfl
theorem ref_Right_32_1.ok (N : Nat) : ((ref_Right_32_1.P N).pc (ref_Right_32.C N)).Ok Try.prog (ref_Right_32.C N) ref_Right_32_1.code := ps_ok (F := ref_Right_32_1.P N) (n0 := 1000) (ref_Right_32.cok N) mix (ref_Right_32_1.pok N) (fun x y h => (ref_Right_32_1.ev N x).trans h)
def ref_Right_32_2.ins : Sh := (.cons (.rbox 34 (.cons (.val (.int .i64)) (.cons (.val .bool) (.cons (.val (.int .i64)) (.cons (.val .str) .nil))))) (.cons (.box 34 (.cons (.val (.int .i64)) (.cons (.val .bool) (.cons (.val (.int .i64)) (.cons (.val .str) .nil))))) .nil))
def ref_Right_32_2.ts : List Tmp := [1, 3]
def ref_Right_32_2.asg : List Tmp := [19, 20, 21, 22, 23, 24]
def ref_Right_32_2.C (N : Nat) : Ctx := { ref_Right_32.C N with may := fun t => ref_Right_32_2.asg.any (Nat.beq t) }
def ref_Right_32_2.code : Code := (sub ref_Right_32.code [true, true, true, true, false]).getD .skip
theorem ref_Right_32_2.cok (N : Nat) : (ref_Right_32_2.C N).Ok Try.prog := ⟨(ref_Right_32.cok N).U, (ref_Right_32.cok N).Γ, (ref_Right_32.cok N).Y⟩
def ref_Right_32_2.alts : List Alt := [⟨.normal, [], (.cons (.upd 1 34 (.cons (.val (.int .i64)) (.cons (.val .bool) (.cons (.val (.int .i64)) (.cons (.val .str) .nil))))) .nil)⟩]
def ref_Right_32_2.run (N : Nat) (kind : Int) (bool : Bool) (int : Int) (text : (List UInt8)) (kind1 : Int) (bool1 : Bool) (int1 : Int) (text1 : (List UInt8)) : Option (((Int × Bool × Int × (List UInt8) × Unit) × Unit)) :=
  bif decide (kind = (3 : Int)) then
    some ((kind1, bool1, int1, text, ()), ())
  else some ((kind1, bool1, int1, text1, ()), ())
def ref_Right_32_2.fn (N : Nat) (x : Sh.den ref_Right_32_2.ins) : Option (altsDen ref_Right_32_2.alts) := ref_Right_32_2.run N x.1.1 x.1.2.1 x.1.2.2.1 x.1.2.2.2.1 x.2.1.1 x.2.1.2.1 x.2.1.2.2.1 x.2.1.2.2.2.1
def ref_Right_32_2.P (N : Nat) : Ps := ⟨ref_Right_32_2.ts, ref_Right_32_2.ins, ref_Right_32_2.asg, ref_Right_32_2.alts, ref_Right_32_2.fn N⟩
def ref_Right_32_2.lam (N : Nat) : Pcs := pcs []
theorem ref_Right_32_2.pok (N : Nat) : (ref_Right_32_2.lam N).Ok Try.prog (ref_Right_32_2.C N) ref_Right_32_2.code := pcsOk_nil
theorem ref_Right_32_2.ev (N : Nat) (x : Sh.den ref_Right_32_2.ins) : evC (ref_Right_32_2.C N) ref_Right_32_2.code (ref_Right_32_2.lam N) ((ref_Right_32_2.P N).canon 1000 x) (altK (ref_Right_32_2.P N).alts) = ref_Right_32_2.fn N x := by kernel_rfl
theorem ref_Right_32_2.ok (N : Nat) : ((ref_Right_32_2.P N).pc (ref_Right_32.C N)).Ok Try.prog (ref_Right_32.C N) ref_Right_32_2.code := ps_ok (F := ref_Right_32_2.P N) (n0 := 1000) (ref_Right_32.cok N) mix (ref_Right_32_2.pok N) (fun x y h => (ref_Right_32_2.ev N x).trans h)
def ref_Right_32.outs : Sh := (.cons (.val .bool) .nil)
def ref_Right_32.run (N : Nat) (v : (Int × (Bool × (Int × (List UInt8))))) : Option (Bool × Unit) :=
  obind (ref_Right_32_0.run N v.1 v.2.1 v.2.2.1 v.2.2.2 v.1 false (0 : Int) ([] : List UInt8)) fun ((kind, bool, int, text, _), _) =>
    obind (ref_Right_32_1.run N v.1 v.2.1 v.2.2.1 v.2.2.2 kind bool int text) fun ((kind1, bool1, int1, text1, _), _) =>
      obind (ref_Right_32_2.run N v.1 v.2.1 v.2.2.1 v.2.2.2 kind1 bool1 int1 text1) fun ((kind2, bool2, int2, text2, _), _) =>
        bif decide (v.1 ≥ (0 : Int)) then
          bif decide (v.1 ≤ (3 : Int)) then
            bif (decide (v.1 = kind2)) && ((v.2.1 == bool2) && ((decide (v.2.2.1 = int2)) && ((decide (v.2.2.2 = text2)) && true))) then
              some (decide ((v.2.2.2.length : Int) ≤ (64 : Int)), ())
            else some (false, ())
          else some (false, ())
        else some (false, ())
def ref_Right_32.fn (N : Nat) (x : Sh.den ref_Right_32.ins) : Option (Sh.den ref_Right_32.outs) := ref_Right_32.run N x.1
def ref_Right_32.S (N : Nat) : Fs := ⟨ref_Right_32.ins, ref_Right_32.outs, ref_Right_32.fn N⟩
def ref_Right_32.lam (N : Nat) : Pcs := pcs [([true, true, false], (ref_Right_32_0.P N).pc (ref_Right_32.C N)), ([true, true, true, false], (ref_Right_32_1.P N).pc (ref_Right_32.C N)), ([true, true, true, true, false], (ref_Right_32_2.P N).pc (ref_Right_32.C N))]
theorem ref_Right_32.pok (N : Nat) : (ref_Right_32.lam N).Ok Try.prog (ref_Right_32.C N) ref_Right_32.code := pcsOk_cons (c1 := ref_Right_32_0.code) (by kernel_rfl) (ref_Right_32_0.ok N) (pcsOk_cons (c1 := ref_Right_32_1.code) (by kernel_rfl) (ref_Right_32_1.ok N) (pcsOk_cons (c1 := ref_Right_32_2.code) (by kernel_rfl) (ref_Right_32_2.ok N) (pcsOk_nil)))
theorem ref_Right_32.ev (N : Nat) (x : Sh.den ref_Right_32.ins) : evC (ref_Right_32.C N) ref_Right_32.code (ref_Right_32.lam N) ⟨envOf 0 (bld (fun k => k) ref_Right_32.ins x 0).1, (bld (fun k => k) ref_Right_32.ins x 0).2.1, 1000⟩ (endF U ref_Right_32.outs Try.f32.results.toList []) = ref_Right_32.fn N x := by kernel_rfl
theorem ref_Right_32.ok (N : Nat) : (ref_Right_32.S N).con.Ok Try.prog 32 := fn_ok (F := ref_Right_32.S N) (n0 := 1000) Try.func32 (by kernel_rfl) (show Try.f32.body = some ref_Right_32.code by rfl) mix (ref_Right_32.cok N) (fun _ => rfl) (fun _ => rfl) (ref_Right_32.pok N) (fun x y h => (ref_Right_32.ev N x).trans h)
/-- hayloft/hayloftref03.Right -/
def ref_Right.ins : Sh := (.cons (.val (.slice (.pair (.int .i64) (.pair .bool (.pair (.int .i64) .str))))) .nil)
def ref_Right.C (N : Nat) : Ctx := ⟨U, 21, fun _ => true, gam [(32, (ref_Right_32.S N).con)], gamY []⟩
theorem ref_Right.cok (N : Nat) : (ref_Right.C N).Ok Try.prog := ⟨U_ok, GamOk.cons (ref_Right_32.ok N) (GamOk.nil), GamYOk.nil⟩
def ref_Right.code : Code := Try.f27.body.getD .skip
def ref_Right_0.ins : Sh := (.cons (.val (.slice (.pair (.int .i64) (.pair .bool (.pair (.int .i64) .str))))) (.cons (.val (.int .i64)) .nil))
def ref_Right_0.ts : List Tmp := [0, 3]
def ref_Right_0.asg : List Tmp := [2, 3, 4, 5, 6, 7, 8, 9, 10, 11, 12, 13, 14, 15, 16, 17]
def ref_Right_0.C (N : Nat) : Ctx := { ref_Right.C N with may := fun t => ref_Right_0.asg.any (Nat.beq t) }
def ref_Right_0.code : Code := loopBody (sub ref_Right.code [true, false, true, false])
theorem ref_Right_0.cok (N : Nat) : (ref_Right_0.C N).Ok Try.prog := ⟨(ref_Right.cok N).U, (ref_Right.cok N).Γ, (ref_Right.cok N).Y⟩
def ref_Right_0.alts : List Alt := [⟨.ret, [2], (.cons (.val .bool) .nil)⟩, ⟨(.exit 0), [], .nil⟩]
def ref_Right_0.go (N : Nat) : Nat → (List (Int × (Bool × (Int × (List UInt8))))) → Int → Option ((Bool × Unit) ⊕ Unit)
  | 0, _, _ => none
  | fuel + 1, row, i =>
    bif decide (i < (row.length : Int)) then
      bif inB i row.length then
        obind (ref_Right_32.run N (row.getD i.toNat ((0 : Int), false, (0 : Int), ([] : List UInt8)))) fun (b, _) =>
          bif !b then
            some (.inl (false, ()))
          else ref_Right_0.go N fuel row (IntKind.i64.wrap (i + (1 : Int)))
      else none
    else some (.inr ())
def ref_Right_0.g (N n : Nat) (x : Sh.den ref_Right_0.ins) : Option (altsDen ref_Right_0.alts) := ref_Right_0.go N n x.1 x.2.1
def ref_Right_0.P (N : Nat) : Ps := ⟨ref_Right_0.ts, ref_Right_0.ins, ref_Right_0.asg, ref_Right_0.alts, ref_Right_0.g N N⟩
def ref_Right_0.lam (N : Nat) : Pcs := pcs []
theorem ref_Right_0.pok (N : Nat) : (ref_Right_0.lam N).Ok Try.prog (ref_Right_0.C N) ref_Right_0.code := pcsOk_nil
theorem ref_Right_0.ev (N n : Nat) (x : Sh.den ref_Right_0.ins) : evC (ref_Right_0.C N) ref_Right_0.code (ref_Right_0.lam N) ((ref_Right_0.P N).canon 1000 x) (loopK (ref_Right_0.P N) (ref_Right_0.g N n)) = ref_Right_0.g N (n + 1) x := by kernel_rfl
theorem ref_Right_0.ok (N : Nat) : ((ref_Right_0.P N).pc (ref_Right.C N)).Ok Try.prog (ref_Right.C N) (.loop ref_Right_0.code) := loop_ok (F := ref_Right_0.P N) (n0 := 1000) (N := N) (ref_Right.cok N) mix (ref_Right_0.pok N) (ref_Right_0.g N) (fun x => by rfl) rfl (fun n x y h => (ref_Right_0.ev N n x).trans h)
def ref_Right.outs : Sh := (.cons (.val .bool) .nil)
def ref_Right.run (N : Nat) (row : (List (Int × (Bool × (Int × (List UInt8)))))) : Option (Bool × Unit) :=
  obind (ref_Right_0.go N N row (0 : Int)) fun y => match y with
  | .inl (t2, _) =>
      some (t2, ())
  | .inr (_) =>
      some (decide ((row.length : Int) ≤ (16 : Int)), ())
def ref_Right.fn (N : Nat) (x : Sh.den ref_Right.ins) : Option (Sh.den ref_Right.outs) := ref_Right.run N x.1
def ref_Right.S (N : Nat) : Fs := ⟨ref_Right.ins, ref_Right.outs, ref_Right.fn N⟩
def ref_Right.lam (N : Nat) : Pcs := pcs [([true, false, true, false], (ref_Right_0.P N).pc (ref_Right.C N))]
theorem ref_Right.pok (N : Nat) : (ref_Right.lam N).Ok Try.prog (ref_Right.C N) ref_Right.code := pcsOk_cons (c1 := .loop ref_Right_0.code) (by kernel_rfl) (ref_Right_0.ok N) (pcsOk_nil)
theorem ref_Right.ev (N : Nat) (x : Sh.den ref_Right.ins) : evC (ref_Right.C N) ref_Right.code (ref_Right.lam N) ⟨envOf 0 (bld (fun k => k) ref_Right.ins x 0).1, (bld (fun k => k) ref_Right.ins x 0).2.1, 1000⟩ (endF U ref_Right.outs Try.f27.results.toList []) = ref_Right.fn N x := by kernel_rfl
theorem ref_Right.ok (N : Nat) : (ref_Right.S N).con.Ok Try.prog 27 := fn_ok (F := ref_Right.S N) (n0 := 1000) Try.func27 (by kernel_rfl) (show Try.f27.body = some ref_Right.code by rfl) mix (ref_Right.cok N) (fun _ => rfl) (fun _ => rfl) (ref_Right.pok N) (fun x y h => (ref_Right.ev N x).trans h)
/-- hayloft/hayloftref03.Number -/
def ref_Number.ins : Sh := (.cons (.val (.int .u64)) .nil)
def ref_Number.C (N : Nat) : Ctx := ⟨U, 17, fun _ => true, gam [], gamY []⟩
theorem ref_Number.cok (N : Nat) : (ref_Number.C N).Ok Try.prog := ⟨U_ok, GamOk.nil, GamYOk.nil⟩
def ref_Number.code : Code := Try.f35.body.getD .skip
def ref_Number_0.ins : Sh := (.cons (.val (.int .u64)) (.cons (.own 5 .byte) (.cons (.val (.int .i64)) .nil)))
def ref_Number_0.ts : List Tmp := [0, 3, 4]
def ref_Number_0.asg : List Tmp := [3, 4, 5, 6, 7, 8, 9, 10, 11, 12, 13, 14, 15]
def ref_Number_0.C (N : Nat) : Ctx := { ref_Number.C N with may := fun t => ref_Number_0.asg.any (Nat.beq t) }
def ref_Number_0.code : Code := loopBody (sub ref_Number.code [true, true, false, true, false])
theorem ref_Number_0.cok (N : Nat) : (ref_Number_0.C N).Ok Try.prog := ⟨(ref_Number.cok N).U, (ref_Number.cok N).Γ, (ref_Number.cok N).Y⟩
def ref_Number_0.alts : List Alt := [⟨(.exit 0), [3], (.cons (.own 5 .byte) .nil)⟩]
def ref_Number_0.go (N : Nat) : Nat → Int → (List UInt8) → Int → Option (((List UInt8) × Unit))
  | 0, _, _, _ => none
  | fuel + 1, n_, b, s =>
    bif decide (s ≥ (0 : Int)) then
      bif decide ((0 : Int) ≤ s) then
        bif room (b.length + 1) 1 then
          ref_Number_0.go N fuel n_ (b ++ ([Hay.u8 (IntKind.u8.wrap (n_.fdiv (2 ^ (min s.toNat 64))))] : List UInt8)) (IntKind.i64.wrap (s - (8 : Int)))
        else none
      else none
    else some (b, ())
def ref_Number_0.g (N n : Nat) (x : Sh.den ref_Number_0.ins) : Option (altsDen ref_Number_0.alts) := ref_Number_0.go N n x.1 x.2.1 x.2.2.1
def ref_Number_0.P (N : Nat) : Ps := ⟨ref_Number_0.ts, ref_Number_0.ins, ref_Number_0.asg, ref_Number_0.alts, ref_Number_0.g N N⟩
def ref_Number_0.lam (N : Nat) : Pcs := pcs []
theorem ref_Number_0.pok (N : Nat) : (ref_Number_0.lam N).Ok Try.prog (ref_Number_0.C N) ref_Number_0.code := pcsOk_nil
theorem ref_Number_0.ev (N n : Nat) (x : Sh.den ref_Number_0.ins) : evC (ref_Number_0.C N) ref_Number_0.code (ref_Number_0.lam N) ((ref_Number_0.P N).canon 1000 x) (loopK (ref_Number_0.P N) (ref_Number_0.g N n)) = ref_Number_0.g N (n + 1) x := by kernel_rfl
theorem ref_Number_0.ok (N : Nat) : ((ref_Number_0.P N).pc (ref_Number.C N)).Ok Try.prog (ref_Number.C N) (.loop ref_Number_0.code) := loop_ok (F := ref_Number_0.P N) (n0 := 1000) (N := N) (ref_Number.cok N) mix (ref_Number_0.pok N) (ref_Number_0.g N) (fun x => by rfl) rfl (fun n x y h => (ref_Number_0.ev N n x).trans h)
def ref_Number.outs : Sh := (.cons (.own 5 .byte) .nil)
def ref_Number.run (N : Nat) (n_ : Int) : Option ((List UInt8) × Unit) :=
  obind (ref_Number_0.go N N n_ ([] : List UInt8) (56 : Int)) fun (b, _) =>
    some (b, ())
def ref_Number.fn (N : Nat) (x : Sh.den ref_Number.ins) : Option (Sh.den ref_Number.outs) := ref_Number.run N x.1
def ref_Number.S (N : Nat) : Fs := ⟨ref_Number.ins, ref_Number.outs, ref_Number.fn N⟩
def ref_Number.lam (N : Nat) : Pcs := pcs [([true, true, false, true, false], (ref_Number_0.P N).pc (ref_Number.C N))]
theorem ref_Number.pok (N : Nat) : (ref_Number.lam N).Ok Try.prog (ref_Number.C N) ref_Number.code := pcsOk_cons (c1 := .loop ref_Number_0.code) (by kernel_rfl) (ref_Number_0.ok N) (pcsOk_nil)
theorem ref_Number.ev (N : Nat) (x : Sh.den ref_Number.ins) : evC (ref_Number.C N) ref_Number.code (ref_Number.lam N) ⟨envOf 0 (bld (fun k => k) ref_Number.ins x 0).1, (bld (fun k => k) ref_Number.ins x 0).2.1, 1000⟩ (endF U ref_Number.outs Try.f35.results.toList []) = ref_Number.fn N x := by kernel_rfl
theorem ref_Number.ok (N : Nat) : (ref_Number.S N).con.Ok Try.prog 35 := fn_ok (F := ref_Number.S N) (n0 := 1000) Try.func35 (by kernel_rfl) (show Try.f35.body = some ref_Number.code by rfl) mix (ref_Number.cok N) (fun _ => rfl) (fun _ => rfl) (ref_Number.pok N) (fun x y h => (ref_Number.ev N x).trans h)
/-- hayloft/hayloftref03.One -/
def ref_One.ins : Sh := (.cons (.val (.pair (.int .i64) (.pair .bool (.pair (.int .i64) .str)))) .nil)
def ref_One.C (N : Nat) : Ctx := ⟨U, 48, fun _ => true, gam [(35, (ref_Number.S N).con)], gamY []⟩
theorem ref_One.cok (N : Nat) : (ref_One.C N).Ok Try.prog := ⟨U_ok, GamOk.cons (ref_Number.ok N) (GamOk.nil), GamYOk.nil⟩
def ref_One.code : Code := Try.f28.body.getD .skip
def ref_One_0.ins : Sh := (.cons (.rbox 34 (.cons (.val (.int .i64)) (.cons (.val .bool) (.cons (.val (.int .i64)) (.cons (.val .str) .nil))))) (.cons (.own 5 .byte) .nil))
def ref_One_0.ts : List Tmp := [1, 3]
def ref_One_0.asg : List Tmp := [2, 8, 9, 10, 11, 12, 13, 14, 15, 16, 17]
def ref_One_0.C (N : Nat) : Ctx := { ref_One.C N with may := fun t => ref_One_0.asg.any (Nat.beq t) }
def ref_One_0.code : Code := (sub ref_One.code [true, true, false]).getD .skip
theorem ref_One_0.cok (N : Nat) : (ref_One_0.C N).Ok Try.prog := ⟨(ref_One.cok N).U, (ref_One.cok N).Γ, (ref_One.cok N).Y⟩
def ref_One_0.alts : List Alt := [⟨.normal, [], (.cons (.updr 1 5 .byte) .nil)⟩, ⟨.ret, [2], (.cons (.own 5 .byte) .nil)⟩]
def ref_One_0.run (N : Nat) (kind : Int) (bool : Bool) (int : Int) (text : (List UInt8)) (b : (List UInt8)) : Option (((List UInt8) × Unit) ⊕ ((List UInt8) × Unit)) :=
  bif decide (kind = (1 : Int)) then
    bif bool then
      bif room (b.length + 1) 1 then
        some (.inr (b ++ ([(1 : UInt8)] : List UInt8), ()))
      else none
    else some (.inl (b, ()))
  else some (.inl (b, ()))
def ref_One_0.fn (N : Nat) (x : Sh.den ref_One_0.ins) : Option (altsDen ref_One_0.alts) := ref_One_0.run N x.1.1 x.1.2.1 x.1.2.2.1 x.1.2.2.2.1 x.2.1
def ref_One_0.P (N : Nat) : Ps := ⟨ref_One_0.ts, ref_One_0.ins, ref_One_0.asg, ref_One_0.alts, ref_One_0.fn N⟩
def ref_One_0.lam (N : Nat) : Pcs := pcs []
theorem ref_One_0.pok (N : Nat) : (ref_One_0.lam N).Ok Try.prog (ref_One_0.C N) ref_One_0.code := pcsOk_nil
theorem ref_One_0.ev (N : Nat) (x : Sh.den ref_One_0.ins) : evC (ref_One_0.C N) ref_One_0.code (ref_One_0.lam N) ((ref_One_0.P N).canon 1000 x) (altK (ref_One_0.P N).alts) = ref_One_0.fn N x := by kernel_rfl
theorem ref_One_0.ok (N : Nat) : ((ref_One_0.P N).pc (ref_One.C N)).Ok Try.prog (ref_One.C N) ref_One_0.code := ps_ok (F := ref_One_0.P N) (n0 := 1000) (ref_One.cok N) mix (ref_One_0.pok N) (fun x y h => (ref_One_0.ev N x).trans h)
def ref_One.outs : Sh := (.cons (.own 5 .byte) .nil)
def ref_One.run (N : Nat) (v : (Int × (Bool × (Int × (List UInt8))))) : Option ((List UInt8) × Unit) :=
  obind (ref_One_0.run N v.1 v.2.1 v.2.2.1 v.2.2.2 ([Hay.u8 (IntKind.u8.wrap v.1)] : List UInt8)) fun y => match y with
  | .inl (v1, _) =>
      bif decide (v.1 = (1 : Int)) then
        bif room (v1.length + 1) 1 then
          some (v1 ++ ([(0 : UInt8)] : List UInt8), ())
        else none
      else
        bif decide (v.1 = (2 : Int)) then
          obind (ref_Number.run N (IntKind.u64.wrap v.2.2.1)) fun (l, _) =>
            bif room (v1.length + l.length) 1 then
              some (v1 ++ l, ())
            else none
        else
          bif decide (v.1 = (3 : Int)) then
            bif room (v1.length + 1) 1 then
              bif room ((v1 ++ ([Hay.u8 (IntKind.u8.wrap (v.2.2.2.length : Int))] : List UInt8)).length + v.2.2.2.length) 1 then
                some ((v1 ++ ([Hay.u8 (IntKind.u8.wrap (v.2.2.2.length : Int))] : List UInt8)) ++ v.2.2.2, ())
              else none
            else none
          else some (v1, ())
  | .inr (t2, _) =>
      some (t2, ())
def ref_One.fn (N : Nat) (x : Sh.den ref_One.ins) : Option (Sh.den ref_One.outs) := ref_One.run N x.1
def ref_One.S (N : Nat) : Fs := ⟨ref_One.ins, ref_One.outs, ref_One.fn N⟩
def ref_One.lam (N : Nat) : Pcs := pcs [([true, true, false], (ref_One_0.P N).pc (ref_One.C N))]
theorem ref_One.pok (N : Nat) : (ref_One.lam N).Ok Try.prog (ref_One.C N) ref_One.code := pcsOk_cons (c1 := ref_One_0.code) (by kernel_rfl) (ref_One_0.ok N) (pcsOk_nil)
theorem ref_One.ev (N : Nat) (x : Sh.den ref_One.ins) : evC (ref_One.C N) ref_One.code (ref_One.lam N) ⟨envOf 0 (bld (fun k => k) ref_One.ins x 0).1, (bld (fun k => k) ref_One.ins x 0).2.1, 1000⟩ (endF U ref_One.outs Try.f28.results.toList []) = ref_One.fn N x := by kernel_rfl
theorem ref_One.ok (N : Nat) : (ref_One.S N).con.Ok Try.prog 28 := fn_ok (F := ref_One.S N) (n0 := 1000) Try.func28 (by kernel_rfl) (show Try.f28.body = some ref_One.code by rfl) mix (ref_One.cok N) (fun _ => rfl) (fun _ => rfl) (ref_One.pok N) (fun x y h => (ref_One.ev N x).trans h)
/-- hayloft/hayloftref03.Encode -/
def ref_Encode.ins : Sh := (.cons (.val (.slice (.pair (.int .i64) (.pair .bool (.pair (.int .i64) .str))))) .nil)
def ref_Encode.C (N : Nat) : Ctx := ⟨U, 29, fun _ => true, gam [(27, (ref_Right.S N).con), (28, (ref_One.S N).con)], gamY []⟩
theorem ref_Encode.cok (N : Nat) : (ref_Encode.C N).Ok Try.prog := ⟨U_ok, GamOk.cons (ref_Right.ok N) (GamOk.cons (ref_One.ok N) (GamOk.nil)), GamYOk.nil⟩
def ref_Encode.code : Code := Try.f11.body.getD .skip
def ref_Encode_0.ins : Sh := (.cons (.val (.slice (.pair (.int .i64) (.pair .bool (.pair (.int .i64) .str))))) (.cons (.own 5 .byte) (.cons (.val (.int .i64)) .nil)))
def ref_Encode_0.ts : List Tmp := [0, 5, 6]
def ref_Encode_0.asg : List Tmp := [5, 6, 15, 16, 17, 18, 19, 20, 21, 22, 23, 24, 25, 26, 27]
def ref_Encode_0.C (N : Nat) : Ctx := { ref_Encode.C N with may := fun t => ref_Encode_0.asg.any (Nat.beq t) }
def ref_Encode_0.code : Code := loopBody (sub ref_Encode.code [true, true, true, true, false, true, false])
theorem ref_Encode_0.cok (N : Nat) : (ref_Encode_0.C N).Ok Try.prog := ⟨(ref_Encode.cok N).U, (ref_Encode.cok N).Γ, (ref_Encode.cok N).Y⟩
def ref_Encode_0.alts : List Alt := [⟨(.exit 0), [5], (.cons (.own 5 .byte) .nil)⟩]
def ref_Encode_0.go (N : Nat) : Nat → (List (Int × (Bool × (Int × (List UInt8))))) → (List UInt8) → Int → Option (((List UInt8) × Unit))
  | 0, _, _, _ => none
  | fuel + 1, row, b, i =>
    bif decide (i < (row.length : Int)) then
      bif inB i row.length then
        obind (ref_One.run N (row.getD i.toNat ((0 : Int), false, (0 : Int), ([] : List UInt8)))) fun (l, _) =>
          bif room (b.length + l.length) 1 then
            ref_Encode_0.go N fuel row (b ++ l) (IntKind.i64.wrap (i + (1 : Int)))
          else none
      else none
    else some (b, ())
def ref_Encode_0.g (N n : Nat) (x : Sh.den ref_Encode_0.ins) : Option (altsDen ref_Encode_0.alts) := ref_Encode_0.go N n x.1 x.2.1 x.2.2.1
def ref_Encode_0.P (N : Nat) : Ps := ⟨ref_Encode_0.ts, ref_Encode_0.ins, ref_Encode_0.asg, ref_Encode_0.alts, ref_Encode_0.g N N⟩
def ref_Encode_0.lam (N : Nat) : Pcs := pcs []
theorem ref_Encode_0.pok (N : Nat) : (ref_Encode_0.lam N).Ok Try.prog (ref_Encode_0.C N) ref_Encode_0.code := pcsOk_nil
theorem ref_Encode_0.ev (N n : Nat) (x : Sh.den ref_Encode_0.ins) : evC (ref_Encode_0.C N) ref_Encode_0.code (ref_Encode_0.lam N) ((ref_Encode_0.P N).canon 1000 x) (loopK (ref_Encode_0.P N) (ref_Encode_0.g N n)) = ref_Encode_0.g N (n + 1) x := by kernel_rfl
theorem ref_Encode_0.ok (N : Nat) : ((ref_Encode_0.P N).pc (ref_Encode.C N)).Ok Try.prog (ref_Encode.C N) (.loop ref_Encode_0.code) := loop_ok (F := ref_Encode_0.P N) (n0 := 1000) (N := N) (ref_Encode.cok N) mix (ref_Encode_0.pok N) (ref_Encode_0.g N) (fun x => by rfl) rfl (fun n x y h => (ref_Encode_0.ev N n x).trans h)
def ref_Encode.outs : Sh := (.cons (.own 5 .byte) (.cons (.val (.int .i64)) .nil))
def ref_Encode.run (N : Nat) (row : (List (Int × (Bool × (Int × (List UInt8)))))) : Option ((List UInt8) × Int × Unit) :=
  obind (ref_Right.run N row) fun (b, _) =>
    bif !b then
      some (([] : List UInt8), (30 : Int), ())
    else
      obind (ref_Encode_0.go N N row ([Hay.u8 (IntKind.u8.wrap (row.length : Int))] : List UInt8) (0 : Int)) fun (b1, _) =>
        some (b1, (0 : Int), ())
def ref_Encode.fn (N : Nat) (x : Sh.den ref_Encode.ins) : Option (Sh.den ref_Encode.outs) := ref_Encode.run N x.1
def ref_Encode.S (N : Nat) : Fs := ⟨ref_Encode.ins, ref_Encode.outs, ref_Encode.fn N⟩
def ref_Encode.lam (N : Nat) : Pcs := pcs [([true, true, true, true, false, true, false], (ref_Encode_0.P N).pc (ref_Encode.C N))]
theorem ref_Encode.pok (N : Nat) : (ref_Encode.lam N).Ok Try.prog (ref_Encode.C N) ref_Encode.code := pcsOk_cons (c1 := .loop ref_Encode_0.code) (by kernel_rfl) (ref_Encode_0.ok N) (pcsOk_nil)
theorem ref_Encode.ev (N : Nat) (x : Sh.den ref_Encode.ins) : evC (ref_Encode.C N) ref_Encode.code (ref_Encode.lam N) ⟨envOf 0 (bld (fun k => k) ref_Encode.ins x 0).1, (bld (fun k => k) ref_Encode.ins x 0).2.1, 1000⟩ (endF U ref_Encode.outs Try.f11.results.toList []) = ref_Encode.fn N x := by kernel_rfl
theorem ref_Encode.ok (N : Nat) : (ref_Encode.S N).con.Ok Try.prog 11 := fn_ok (F := ref_Encode.S N) (n0 := 1000) Try.func11 (by kernel_rfl) (show Try.f11.body = some ref_Encode.code by rfl) mix (ref_Encode.cok N) (fun _ => rfl) (fun _ => rfl) (ref_Encode.pok N) (fun x y h => (ref_Encode.ev N x).trans h)
/-- hayloft/rows.number -/
def rows_number.ins : Sh := (.cons (.val (.slice .byte)) .nil)
def rows_number.C (N : Nat) : Ctx := ⟨U, 18, fun _ => true, gam [], gamY []⟩
theorem rows_number.cok (N : Nat) : (rows_number.C N).Ok Try.prog := ⟨U_ok, GamOk.nil, GamYOk.nil⟩
def rows_number.code : Code := Try.f37.body.getD .skip
def rows_number_0.ins : Sh := (.cons (.val (.slice .byte)) (.cons (.val (.int .u64)) (.cons (.val (.int .i64)) .nil)))
def rows_number_0.ts : List Tmp := [0, 3, 5]
def rows_number_0.asg : List Tmp := [3, 4, 5, 6, 7, 8, 9, 10, 11, 12, 13, 14, 15, 16]
def rows_number_0.C (N : Nat) : Ctx := { rows_number.C N with may := fun t => rows_number_0.asg.any (Nat.beq t) }
def rows_number_0.code : Code := loopBody (sub rows_number.code [true, true, false, true, false])
theorem rows_number_0.cok (N : Nat) : (rows_number_0.C N).Ok Try.prog := ⟨(rows_number.cok N).U, (rows_number.cok N).Γ, (rows_number.cok N).Y⟩
def rows_number_0.alts : List Alt := [⟨(.exit 0), [3], (.cons (.val (.int .u64)) .nil)⟩]
def rows_number_0.go (N : Nat) : Nat → (List UInt8) → Int → Int → Option ((Int × Unit))
  | 0, _, _, _ => none
  | fuel + 1, b, n_, t5 =>
    bif decide (t5 < (8 : Int)) then
      bif inB t5 b.length then
        rows_number_0.go N fuel b (IntKind.u64.wrap ((BitVec.ofInt 64 (IntKind.u64.wrap (n_ * (256 : Int))) ||| BitVec.ofInt 64 (IntKind.u64.wrap ((b.getD t5.toNat (0 : UInt8)).toNat : Int))).toNat : Int)) (IntKind.i64.wrap (t5 + (1 : Int)))
      else none
    else some (n_, ())
def rows_number_0.g (N n : Nat) (x : Sh.den rows_number_0.ins) : Option (altsDen rows_number_0.alts) := rows_number_0.go N n x.1 x.2.1 x.2.2.1
def rows_number_0.P (N : Nat) : Ps := ⟨rows_number_0.ts, rows_number_0.ins, rows_number_0.asg, rows_number_0.alts, rows_number_0.g N N⟩
def rows_number_0.lam (N : Nat) : Pcs := pcs []
theorem rows_number_0.pok (N : Nat) : (rows_number_0.lam N).Ok Try.prog (rows_number_0.C N) rows_number_0.code := pcsOk_nil
theorem rows_number_0.ev (N n : Nat) (x : Sh.den rows_number_0.ins) : evC (rows_number_0.C N) rows_number_0.code (rows_number_0.lam N) ((rows_number_0.P N).canon 1000 x) (loopK (rows_number_0.P N) (rows_number_0.g N n)) = rows_number_0.g N (n + 1) x := by kernel_rfl
theorem rows_number_0.ok (N : Nat) : ((rows_number_0.P N).pc (rows_number.C N)).Ok Try.prog (rows_number.C N) (.loop rows_number_0.code) := loop_ok (F := rows_number_0.P N) (n0 := 1000) (N := N) (rows_number.cok N) mix (rows_number_0.pok N) (rows_number_0.g N) (fun x => by rfl) rfl (fun n x y h => (rows_number_0.ev N n x).trans h)
def rows_number.outs : Sh := (.cons (.val (.int .u64)) .nil)
def rows_number.run (N : Nat) (b : (List UInt8)) : Option (Int × Unit) :=
  obind (rows_number_0.go N N b (0 : Int) (0 : Int)) fun (n_, _) =>
    some (n_, ())
def rows_number.fn (N : Nat) (x : Sh.den rows_number.ins) : Option (Sh.den rows_number.outs) := rows_number.run N x.1
def rows_number.S (N : Nat) : Fs := ⟨rows_number.ins, rows_number.outs, rows_number.fn N⟩
def rows_number.lam (N : Nat) : Pcs := pcs [([true, true, false, true, false], (rows_number_0.P N).pc (rows_number.C N))]
theorem rows_number.pok (N : Nat) : (rows_number.lam N).Ok Try.prog (rows_number.C N) rows_number.code := pcsOk_cons (c1 := .loop rows_number_0.code) (by kernel_rfl) (rows_number_0.ok N) (pcsOk_nil)
theorem rows_number.ev (N : Nat) (x : Sh.den rows_number.ins) : evC (rows_number.C N) rows_number.code (rows_number.lam N) ⟨envOf 0 (bld (fun k => k) rows_number.ins x 0).1, (bld (fun k => k) rows_number.ins x 0).2.1, 1000⟩ (endF U rows_number.outs Try.f37.results.toList []) = rows_number.fn N x := by kernel_rfl
theorem rows_number.ok (N : Nat) : (rows_number.S N).con.Ok Try.prog 37 := fn_ok (F := rows_number.S N) (n0 := 1000) Try.func37 (by kernel_rfl) (show Try.f37.body = some rows_number.code by rfl) mix (rows_number.cok N) (fun _ => rfl) (fun _ => rfl) (rows_number.pok N) (fun x y h => (rows_number.ev N x).trans h)
/-- hayloft/rows.read -/
def rows_read.ins : Sh := (.cons (.val (.slice .byte)) .nil)
def rows_read.C (N : Nat) : Ctx := ⟨U, 94, fun _ => true, gam [(42, (value_Null.S N).con), (43, (value_Bool.S N).con), (37, (rows_number.S N).con), (36, (value_Int.S N).con), (39, (value_Text.S N).con)], gamY []⟩
theorem rows_read.cok (N : Nat) : (rows_read.C N).Ok Try.prog := ⟨U_ok, GamOk.cons (value_Null.ok N) (GamOk.cons (value_Bool.ok N) (GamOk.cons (rows_number.ok N) (GamOk.cons (value_Int.ok N) (GamOk.cons (value_Text.ok N) (GamOk.nil))))), GamYOk.nil⟩
def rows_read.code : Code := Try.f29.body.getD .skip
def rows_read_0.ins : Sh := (.cons (.val (.slice .byte)) (.cons (.val (.int .i64)) .nil))
def rows_read_0.ts : List Tmp := [0, 5]
def rows_read_0.asg : List Tmp := [21, 22, 23, 24, 25, 26, 27, 28, 29, 30, 31, 32, 33, 34]
def rows_read_0.C (N : Nat) : Ctx := { rows_read.C N with may := fun t => rows_read_0.asg.any (Nat.beq t) }
def rows_read_0.code : Code := (sub rows_read.code [true, true, true, false, false, true, true, false]).getD .skip
theorem rows_read_0.cok (N : Nat) : (rows_read_0.C N).Ok Try.prog := ⟨(rows_read.cok N).U, (rows_read.cok N).Γ, (rows_read.cok N).Y⟩
def rows_read_0.alts : List Alt := [⟨.normal, [21], (.cons (.val .bool) .nil)⟩]
def rows_read_0.run (N : Nat) (b : (List UInt8)) (kind : Int) : Option ((Bool × Unit)) :=
  bif decide (kind = (1 : Int)) then
    bif decide ((b.length : Int) ≥ (1 : Int)) then
      bif inB (0 : Int) b.length then
        some (decide (((b.getD 0 (0 : UInt8)).toNat : Int) ≤ (1 : Int)), ())
      else none
    else some (false, ())
  else some (false, ())
def rows_read_0.fn (N : Nat) (x : Sh.den rows_read_0.ins) : Option (altsDen rows_read_0.alts) := rows_read_0.run N x.1 x.2.1
def rows_read_0.P (N : Nat) : Ps := ⟨rows_read_0.ts, rows_read_0.ins, rows_read_0.asg, rows_read_0.alts, rows_read_0.fn N⟩
def rows_read_0.lam (N : Nat) : Pcs := pcs []
theorem rows_read_0.pok (N : Nat) : (rows_read_0.lam N).Ok Try.prog (rows_read_0.C N) rows_read_0.code := pcsOk_nil
theorem rows_read_0.ev (N : Nat) (x : Sh.den rows_read_0.ins) : evC (rows_read_0.C N) rows_read_0.code (rows_read_0.lam N) ((rows_read_0.P N).canon 1000 x) (altK (rows_read_0.P N).alts) = rows_read_0.fn N x := by kernel_rfl
theorem rows_read_0.ok (N : Nat) : ((rows_read_0.P N).pc (rows_read.C N)).Ok Try.prog (rows_read.C N) rows_read_0.code := ps_ok (F := rows_read_0.P N) (n0 := 1000) (rows_read.cok N) mix (rows_read_0.pok N) (fun x y h => (rows_read_0.ev N x).trans h)
def rows_read_1.ins : Sh := (.cons (.val (.slice .byte)) (.cons (.val (.int .i64)) .nil))
def rows_read_1.ts : List Tmp := [0, 5]
def rows_read_1.asg : List Tmp := [42, 43, 44, 45, 46, 47, 48, 49]
def rows_read_1.C (N : Nat) : Ctx := { rows_read.C N with may := fun t => rows_read_1.asg.any (Nat.beq t) }
def rows_read_1.code : Code := (sub rows_read.code [true, true, true, false, false, true, true, true, true, false]).getD .skip
theorem rows_read_1.cok (N : Nat) : (rows_read_1.C N).Ok Try.prog := ⟨(rows_read.cok N).U, (rows_read.cok N).Γ, (rows_read.cok N).Y⟩
def rows_read_1.alts : List Alt := [⟨.normal, [42], (.cons (.val .bool) .nil)⟩]
def rows_read_1.run (N : Nat) (b : (List UInt8)) (kind : Int) : Option ((Bool × Unit)) :=
  bif decide (kind = (2 : Int)) then
    some (decide ((b.length : Int) ≥ (8 : Int)), ())
  else some (false, ())
def rows_read_1.fn (N : Nat) (x : Sh.den rows_read_1.ins) : Option (altsDen rows_read_1.alts) := rows_read_1.run N x.1 x.2.1
def rows_read_1.P (N : Nat) : Ps := ⟨rows_read_1.ts, rows_read_1.ins, rows_read_1.asg, rows_read_1.alts, rows_read_1.fn N⟩
def rows_read_1.lam (N : Nat) : Pcs := pcs []
theorem rows_read_1.pok (N : Nat) : (rows_read_1.lam N).Ok Try.prog (rows_read_1.C N) rows_read_1.code := pcsOk_nil
theorem rows_read_1.ev (N : Nat) (x : Sh.den rows_read_1.ins) : evC (rows_read_1.C N) rows_read_1.code (rows_read_1.lam N) ((rows_read_1.P N).canon 1000 x) (altK (rows_read_1.P N).alts) = rows_read_1.fn N x := by kernel_rfl
theorem rows_read_1.ok (N : Nat) : ((rows_read_1.P N).pc (rows_read.C N)).Ok Try.prog (rows_read.C N) rows_read_1.code := ps_ok (F := rows_read_1.P N) (n0 := 1000) (rows_read.cok N) mix (rows_read_1.pok N) (fun x y h => (rows_read_1.ev N x).trans h)
def rows_read_2.ins : Sh := (.cons (.val (.slice .byte)) (.cons (.val (.int .i64)) .nil))
def rows_read_2.ts : List Tmp := [0, 5]
def rows_read_2.asg : List Tmp := [56, 57, 58, 59, 60, 61, 62, 63, 64, 65, 66, 67, 68, 69, 70, 71, 72, 73, 74, 75, 76, 77, 78]
def rows_read_2.C (N : Nat) : Ctx := { rows_read.C N with may := fun t => rows_read_2.asg.any (Nat.beq t) }
def rows_read_2.code : Code := (sub rows_read.code [true, true, true, false, false, true, true, true, true, true, true, false]).getD .skip
theorem rows_read_2.cok (N : Nat) : (rows_read_2.C N).Ok Try.prog := ⟨(rows_read.cok N).U, (rows_read.cok N).Γ, (rows_read.cok N).Y⟩
def rows_read_2.alts : List Alt := [⟨.normal, [56], (.cons (.val .bool) .nil)⟩]
def rows_read_2.run (N : Nat) (b : (List UInt8)) (kind : Int) : Option ((Bool × Unit)) :=
  bif decide (kind = (3 : Int)) then
    bif decide ((b.length : Int) ≥ (1 : Int)) then
      bif inB (0 : Int) b.length then
        bif decide (((b.getD 0 (0 : UInt8)).toNat : Int) ≤ (64 : Int)) then
          bif inB (0 : Int) b.length then
            some (decide ((b.length : Int) > (IntKind.i64.wrap ((b.getD 0 (0 : UInt8)).toNat : Int))), ())
          else none
        else some (false, ())
      else none
    else some (false, ())
  else some (false, ())
def rows_read_2.fn (N : Nat) (x : Sh.den rows_read_2.ins) : Option (altsDen rows_read_2.alts) := rows_read_2.run N x.1 x.2.1
def rows_read_2.P (N : Nat) : Ps := ⟨rows_read_2.ts, rows_read_2.ins, rows_read_2.asg, rows_read_2.alts, rows_read_2.fn N⟩
def rows_read_2.lam (N : Nat) : Pcs := pcs []
theorem rows_read_2.pok (N : Nat) : (rows_read_2.lam N).Ok Try.prog (rows_read_2.C N) rows_read_2.code := pcsOk_nil
theorem rows_read_2.ev (N : Nat) (x : Sh.den rows_read_2.ins) : evC (rows_read_2.C N) rows_read_2.code (rows_read_2.lam N) ((rows_read_2.P N).canon 1000 x) (altK (rows_read_2.P N).alts) = rows_read_2.fn N x := by kernel_rfl
theorem rows_read_2.ok (N : Nat) : ((rows_read_2.P N).pc (rows_read.C N)).Ok Try.prog (rows_read.C N) rows_read_2.code := ps_ok (F := rows_read_2.P N) (n0 := 1000) (rows_read.cok N) mix (rows_read_2.pok N) (fun x y h => (rows_read_2.ev N x).trans h)
def rows_read.outs : Sh := (.cons (.val (.pair (.int .i64) (.pair .bool (.pair (.int .i64) .str)))) (.cons (.val (.slice .byte)) (.cons (.val .bool) .nil)))
def rows_read.run (N : Nat) (b : (List UInt8)) : Option ((Int × (Bool × (Int × (List UInt8)))) × (List UInt8) × Bool × Unit) :=
  bif decide ((b.length : Int) = (0 : Int)) then
    some (((0 : Int), false, (0 : Int), ([] : List UInt8)), ([] : List UInt8), false, ())
  else
    bif inB (0 : Int) b.length then
      bif okB (1 : Int) (b.length : Int) b.length then
        bif decide ((IntKind.i64.wrap ((b.getD 0 (0 : UInt8)).toNat : Int)) = (0 : Int)) then
          obind (value_Null.run N) fun (v, _) =>
            some (v, b.drop 1, true, ())
        else
          obind (rows_read_0.run N (b.drop 1) (IntKind.i64.wrap ((b.getD 0 (0 : UInt8)).toNat : Int))) fun (t21, _) =>
            bif t21 then
              bif inB (0 : Int) (b.drop 1).length then
                obind (value_Bool.run N (decide ((((b.drop 1).getD 0 (0 : UInt8)).toNat : Int) = (1 : Int)))) fun (v1, _) =>
                  bif okB (1 : Int) ((b.drop 1).length : Int) (b.drop 1).length then
                    some (v1, (b.drop 1).drop 1, true, ())
                  else none
              else none
            else
              obind (rows_read_1.run N (b.drop 1) (IntKind.i64.wrap ((b.getD 0 (0 : UInt8)).toNat : Int))) fun (t42, _) =>
                bif t42 then
                  obind (rows_number.run N (b.drop 1)) fun (n_, _) =>
                    obind (value_Int.run N (IntKind.i64.wrap n_)) fun (v2, _) =>
                      bif okB (8 : Int) ((b.drop 1).length : Int) (b.drop 1).length then
                        some (v2, (b.drop 1).drop 8, true, ())
                      else none
                else
                  obind (rows_read_2.run N (b.drop 1) (IntKind.i64.wrap ((b.getD 0 (0 : UInt8)).toNat : Int))) fun (t56, _) =>
                    bif t56 then
                      bif inB (0 : Int) (b.drop 1).length then
                        bif okB (1 : Int) (IntKind.u8.wrap ((1 : Int) + (((b.drop 1).getD 0 (0 : UInt8)).toNat : Int))) (b.drop 1).length then
                          obind (value_Text.run N (((b.drop 1).take (IntKind.u8.wrap ((1 : Int) + (((b.drop 1).getD 0 (0 : UInt8)).toNat : Int))).toNat).drop 1)) fun (v3, _) =>
                            bif inB (0 : Int) (b.drop 1).length then
                              bif okB (IntKind.u8.wrap ((1 : Int) + (((b.drop 1).getD 0 (0 : UInt8)).toNat : Int))) ((b.drop 1).length : Int) (b.drop 1).length then
                                some (v3, (b.drop 1).drop (IntKind.u8.wrap ((1 : Int) + (((b.drop 1).getD 0 (0 : UInt8)).toNat : Int))).toNat, true, ())
                              else none
                            else none
                        else none
                      else none
                    else some (((0 : Int), false, (0 : Int), ([] : List UInt8)), ([] : List UInt8), false, ())
      else none
    else none
def rows_read.fn (N : Nat) (x : Sh.den rows_read.ins) : Option (Sh.den rows_read.outs) := rows_read.run N x.1
def rows_read.S (N : Nat) : Fs := ⟨rows_read.ins, rows_read.outs, rows_read.fn N⟩
def rows_read.lam (N : Nat) : Pcs := pcs [([true, true, true, false, false, true, true, false], (rows_read_0.P N).pc (rows_read.C N)), ([true, true, true, false, false, true, true, true, true, false], (rows_read_1.P N).pc (rows_read.C N)), ([true, true, true, false, false, true, true, true, true, true, true, false], (rows_read_2.P N).pc (rows_read.C N))]
theorem rows_read.pok (N : Nat) : (rows_read.lam N).Ok Try.prog (rows_read.C N) rows_read.code := pcsOk_cons (c1 := rows_read_0.code) (by kernel_rfl) (rows_read_0.ok N) (pcsOk_cons (c1 := rows_read_1.code) (by kernel_rfl) (rows_read_1.ok N) (pcsOk_cons (c1 := rows_read_2.code) (by kernel_rfl) (rows_read_2.ok N) (pcsOk_nil)))
theorem rows_read.ev (N : Nat) (x : Sh.den rows_read.ins) : evC (rows_read.C N) rows_read.code (rows_read.lam N) ⟨envOf 0 (bld (fun k => k) rows_read.ins x 0).1, (bld (fun k => k) rows_read.ins x 0).2.1, 1000⟩ (endF U rows_read.outs Try.f29.results.toList []) = rows_read.fn N x := by kernel_rfl
theorem rows_read.ok (N : Nat) : (rows_read.S N).con.Ok Try.prog 29 := fn_ok (F := rows_read.S N) (n0 := 1000) Try.func29 (by kernel_rfl) (show Try.f29.body = some rows_read.code by rfl) mix (rows_read.cok N) (fun _ => rfl) (fun _ => rfl) (rows_read.pok N) (fun x y h => (rows_read.ev N x).trans h)
/-- hayloft/rows.Decode -/
def rows_Decode.ins : Sh := (.cons (.val (.slice .byte)) .nil)
def rows_Decode.C (N : Nat) : Ctx := ⟨U, 45, fun _ => true, gam [(29, (rows_read.S N).con)], gamY []⟩
theorem rows_Decode.cok (N : Nat) : (rows_Decode.C N).Ok Try.prog := ⟨U_ok, GamOk.cons (rows_read.ok N) (GamOk.nil), GamYOk.nil⟩
def rows_Decode.code : Code := Try.f12.body.getD .skip
def rows_Decode_0.ins : Sh := (.cons (.val (.slice .byte)) (.cons (.own 34 (.pair (.int .i64) (.pair .bool (.pair (.int .i64) .str)))) (.cons (.val (.int .i64)) (.cons (.val (.int .i64)) .nil))))
def rows_Decode_0.ts : List Tmp := [0, 4, 24, 25]
def rows_Decode_0.asg : List Tmp := [0, 2, 3, 4, 6, 7, 8, 25, 26, 27, 28, 29, 30, 31, 32, 33, 34, 35, 36, 37, 38, 39, 40]
def rows_Decode_0.C (N : Nat) : Ctx := { rows_Decode.C N with may := fun t => rows_Decode_0.asg.any (Nat.beq t) }
def rows_Decode_0.code : Code := loopBody (sub rows_Decode.code [true, true, true, true, false, true, false])
theorem rows_Decode_0.cok (N : Nat) : (rows_Decode_0.C N).Ok Try.prog := ⟨(rows_Decode.cok N).U, (rows_Decode.cok N).Γ, (rows_Decode.cok N).Y⟩
def rows_Decode_0.alts : List Alt := [⟨.ret, [2, 3], (.cons (.own 34 (.pair (.int .i64) (.pair .bool (.pair (.int .i64) .str)))) (.cons (.val (.int .i64)) .nil))⟩, ⟨(.exit 0), [0, 4], (.cons (.val (.slice .byte)) (.cons (.own 34 (.pair (.int .i64) (.pair .bool (.pair (.int .i64) .str)))) .nil))⟩]
def rows_Decode_0.go (N : Nat) : Nat → (List UInt8) → (List (Int × (Bool × (Int × (List UInt8))))) → Int → Int → Option (((List (Int × (Bool × (Int × (List UInt8))))) × Int × Unit) ⊕ ((List UInt8) × (List (Int × (Bool × (Int × (List UInt8))))) × Unit))
  | 0, _, _, _, _ => none
  | fuel + 1, b, row, t24, t25 =>
    bif decide (t25 < t24) then
      obind (rows_read.run N b) fun (v, l, b1, _) =>
        bif !b1 then
          some (.inl (([] : List (Int × (Bool × (Int × (List UInt8))))), (30 : Int), ()))
        else
          bif room (row.length + 1) 40 then
            rows_Decode_0.go N fuel l (row ++ ([v] : List (Int × (Bool × (Int × (List UInt8)))))) t24 (IntKind.i64.wrap (t25 + (1 : Int)))
          else none
    else some (.inr (b, row, ()))
def rows_Decode_0.g (N n : Nat) (x : Sh.den rows_Decode_0.ins) : Option (altsDen rows_Decode_0.alts) := rows_Decode_0.go N n x.1 x.2.1 x.2.2.1 x.2.2.2.1
def rows_Decode_0.P (N : Nat) : Ps := ⟨rows_Decode_0.ts, rows_Decode_0.ins, rows_Decode_0.asg, rows_Decode_0.alts, rows_Decode_0.g N N⟩
def rows_Decode_0.lam (N : Nat) : Pcs := pcs []
theorem rows_Decode_0.pok (N : Nat) : (rows_Decode_0.lam N).Ok Try.prog (rows_Decode_0.C N) rows_Decode_0.code := pcsOk_nil
theorem rows_Decode_0.ev (N n : Nat) (x : Sh.den rows_Decode_0.ins) : evC (rows_Decode_0.C N) rows_Decode_0.code (rows_Decode_0.lam N) ((rows_Decode_0.P N).canon 1000 x) (loopK (rows_Decode_0.P N) (rows_Decode_0.g N n)) = rows_Decode_0.g N (n + 1) x := by kernel_rfl
theorem rows_Decode_0.ok (N : Nat) : ((rows_Decode_0.P N).pc (rows_Decode.C N)).Ok Try.prog (rows_Decode.C N) (.loop rows_Decode_0.code) := loop_ok (F := rows_Decode_0.P N) (n0 := 1000) (N := N) (rows_Decode.cok N) mix (rows_Decode_0.pok N) (rows_Decode_0.g N) (fun x => by rfl) rfl (fun n x y h => (rows_Decode_0.ev N n x).trans h)
def rows_Decode.outs : Sh := (.cons (.own 34 (.pair (.int .i64) (.pair .bool (.pair (.int .i64) .str)))) (.cons (.val (.int .i64)) .nil))
def rows_Decode.run (N : Nat) (b : (List UInt8)) : Option ((List (Int × (Bool × (Int × (List UInt8))))) × Int × Unit) :=
  bif decide ((b.length : Int) = (0 : Int)) then
    some (([] : List (Int × (Bool × (Int × (List UInt8))))), (30 : Int), ())
  else
    bif inB (0 : Int) b.length then
      bif decide (((b.getD 0 (0 : UInt8)).toNat : Int) > (16 : Int)) then
        some (([] : List (Int × (Bool × (Int × (List UInt8))))), (30 : Int), ())
      else
        bif inB (0 : Int) b.length then
          bif okB (1 : Int) (b.length : Int) b.length then
            obind (rows_Decode_0.go N N (b.drop 1) ([] : List (Int × (Bool × (Int × (List UInt8))))) (IntKind.i64.wrap ((b.getD 0 (0 : UInt8)).toNat : Int)) (0 : Int)) fun y => match y with
            | .inl (t2, t3, _) =>
                some (t2, t3, ())
            | .inr (b1, row, _) =>
                bif decide ((b1.length : Int) > (0 : Int)) then
                  some (([] : List (Int × (Bool × (Int × (List UInt8))))), (30 : Int), ())
                else some (row, (0 : Int), ())
          else none
        else none
    else none
def rows_Decode.fn (N : Nat) (x : Sh.den rows_Decode.ins) : Option (Sh.den rows_Decode.outs) := rows_Decode.run N x.1
def rows_Decode.S (N : Nat) : Fs := ⟨rows_Decode.ins, rows_Decode.outs, rows_Decode.fn N⟩
def rows_Decode.lam (N : Nat) : Pcs := pcs [([true, true, true, true, false, true, false], (rows_Decode_0.P N).pc (rows_Decode.C N))]
theorem rows_Decode.pok (N : Nat) : (rows_Decode.lam N).Ok Try.prog (rows_Decode.C N) rows_Decode.code := pcsOk_cons (c1 := .loop rows_Decode_0.code) (by kernel_rfl) (rows_Decode_0.ok N) (pcsOk_nil)
theorem rows_Decode.ev (N : Nat) (x : Sh.den rows_Decode.ins) : evC (rows_Decode.C N) rows_Decode.code (rows_Decode.lam N) ⟨envOf 0 (bld (fun k => k) rows_Decode.ins x 0).1, (bld (fun k => k) rows_Decode.ins x 0).2.1, 1000⟩ (endF U rows_Decode.outs Try.f12.results.toList []) = rows_Decode.fn N x := by kernel_rfl
theorem rows_Decode.ok (N : Nat) : (rows_Decode.S N).con.Ok Try.prog 12 := fn_ok (F := rows_Decode.S N) (n0 := 1000) Try.func12 (by kernel_rfl) (show Try.f12.body = some rows_Decode.code by rfl) mix (rows_Decode.cok N) (fun _ => rfl) (fun _ => rfl) (rows_Decode.pok N) (fun x y h => (rows_Decode.ev N x).trans h)
/-- hayloft/hayloftref03.Said -/
def ref_Said.ins : Sh := (.cons (.val (.slice .byte)) .nil)
def ref_Said.C (N : Nat) : Ctx := ⟨U, 20, fun _ => true, gam [], gamY []⟩
theorem ref_Said.cok (N : Nat) : (ref_Said.C N).Ok Try.prog := ⟨U_ok, GamOk.nil, GamYOk.nil⟩
def ref_Said.code : Code := Try.f44.body.getD .skip
def ref_Said_0.ins : Sh := (.cons (.val (.slice .byte)) (.cons (.val (.int .u64)) (.cons (.val (.int .i64)) .nil)))
def ref_Said_0.ts : List Tmp := [0, 3, 4]
def ref_Said_0.asg : List Tmp := [3, 4, 5, 6, 7, 8, 9, 10, 11, 12, 13, 14, 15, 16, 17, 18]
def ref_Said_0.C (N : Nat) : Ctx := { ref_Said.C N with may := fun t => ref_Said_0.asg.any (Nat.beq t) }
def ref_Said_0.code : Code := loopBody (sub ref_Said.code [true, true, false, true, false])
theorem ref_Said_0.cok (N : Nat) : (ref_Said_0.C N).Ok Try.prog := ⟨(ref_Said.cok N).U, (ref_Said.cok N).Γ, (ref_Said.cok N).Y⟩
def ref_Said_0.alts : List Alt := [⟨(.exit 0), [3], (.cons (.val (.int .u64)) .nil)⟩]
def ref_Said_0.go (N : Nat) : Nat → (List UInt8) → Int → Int → Option ((Int × Unit))
  | 0, _, _, _ => none
  | fuel + 1, b, n_, i =>
    bif decide (i < (b.length : Int)) then
      bif inB i b.length then
        ref_Said_0.go N fuel b (IntKind.u64.wrap ((IntKind.u64.wrap (n_ * (256 : Int))) + (IntKind.u64.wrap ((b.getD i.toNat (0 : UInt8)).toNat : Int)))) (IntKind.i64.wrap (i + (1 : Int)))
      else none
    else some (n_, ())
def ref_Said_0.g (N n : Nat) (x : Sh.den ref_Said_0.ins) : Option (altsDen ref_Said_0.alts) := ref_Said_0.go N n x.1 x.2.1 x.2.2.1
def ref_Said_0.P (N : Nat) : Ps := ⟨ref_Said_0.ts, ref_Said_0.ins, ref_Said_0.asg, ref_Said_0.alts, ref_Said_0.g N N⟩
def ref_Said_0.lam (N : Nat) : Pcs := pcs []
theorem ref_Said_0.pok (N : Nat) : (ref_Said_0.lam N).Ok Try.prog (ref_Said_0.C N) ref_Said_0.code := pcsOk_nil
theorem ref_Said_0.ev (N n : Nat) (x : Sh.den ref_Said_0.ins) : evC (ref_Said_0.C N) ref_Said_0.code (ref_Said_0.lam N) ((ref_Said_0.P N).canon 1000 x) (loopK (ref_Said_0.P N) (ref_Said_0.g N n)) = ref_Said_0.g N (n + 1) x := by kernel_rfl
theorem ref_Said_0.ok (N : Nat) : ((ref_Said_0.P N).pc (ref_Said.C N)).Ok Try.prog (ref_Said.C N) (.loop ref_Said_0.code) := loop_ok (F := ref_Said_0.P N) (n0 := 1000) (N := N) (ref_Said.cok N) mix (ref_Said_0.pok N) (ref_Said_0.g N) (fun x => by rfl) rfl (fun n x y h => (ref_Said_0.ev N n x).trans h)
def ref_Said.outs : Sh := (.cons (.val (.int .u64)) .nil)
def ref_Said.run (N : Nat) (b : (List UInt8)) : Option (Int × Unit) :=
  obind (ref_Said_0.go N N b (0 : Int) (0 : Int)) fun (n_, _) =>
    some (n_, ())
def ref_Said.fn (N : Nat) (x : Sh.den ref_Said.ins) : Option (Sh.den ref_Said.outs) := ref_Said.run N x.1
def ref_Said.S (N : Nat) : Fs := ⟨ref_Said.ins, ref_Said.outs, ref_Said.fn N⟩
def ref_Said.lam (N : Nat) : Pcs := pcs [([true, true, false, true, false], (ref_Said_0.P N).pc (ref_Said.C N))]
theorem ref_Said.pok (N : Nat) : (ref_Said.lam N).Ok Try.prog (ref_Said.C N) ref_Said.code := pcsOk_cons (c1 := .loop ref_Said_0.code) (by kernel_rfl) (ref_Said_0.ok N) (pcsOk_nil)
theorem ref_Said.ev (N : Nat) (x : Sh.den ref_Said.ins) : evC (ref_Said.C N) ref_Said.code (ref_Said.lam N) ⟨envOf 0 (bld (fun k => k) ref_Said.ins x 0).1, (bld (fun k => k) ref_Said.ins x 0).2.1, 1000⟩ (endF U ref_Said.outs Try.f44.results.toList []) = ref_Said.fn N x := by kernel_rfl
theorem ref_Said.ok (N : Nat) : (ref_Said.S N).con.Ok Try.prog 44 := fn_ok (F := ref_Said.S N) (n0 := 1000) Try.func44 (by kernel_rfl) (show Try.f44.body = some ref_Said.code by rfl) mix (ref_Said.cok N) (fun _ => rfl) (fun _ => rfl) (ref_Said.pok N) (fun x y h => (ref_Said.ev N x).trans h)
/-- hayloft/hayloftref03.Front -/
def ref_Front.ins : Sh := (.cons (.val (.slice .byte)) .nil)
def ref_Front.C (N : Nat) : Ctx := ⟨U, 86, fun _ => true, gam [(44, (ref_Said.S N).con)], gamY []⟩
theorem ref_Front.cok (N : Nat) : (ref_Front.C N).Ok Try.prog := ⟨U_ok, GamOk.cons (ref_Said.ok N) (GamOk.nil), GamYOk.nil⟩
def ref_Front.code : Code := Try.f30.body.getD .skip
def ref_Front_0.ins : Sh := (.cons (.val (.slice .byte)) (.cons (.box 34 (.cons (.val (.int .i64)) (.cons (.val .bool) (.cons (.val (.int .i64)) (.cons (.val .str) .nil))))) .nil))
def ref_Front_0.ts : List Tmp := [0, 2]
def ref_Front_0.asg : List Tmp := [3, 5, 6, 7, 8, 9, 10, 11, 12, 13, 14]
def ref_Front_0.C (N : Nat) : Ctx := { ref_Front.C N with may := fun t => ref_Front_0.asg.any (Nat.beq t) }
def ref_Front_0.code : Code := (sub ref_Front.code [true, false]).getD .skip
theorem ref_Front_0.cok (N : Nat) : (ref_Front_0.C N).Ok Try.prog := ⟨(ref_Front.cok N).U, (ref_Front.cok N).Γ, (ref_Front.cok N).Y⟩
def ref_Front_0.alts : List Alt := [⟨.normal, [], (.cons (.upd 0 34 (.cons (.val (.int .i64)) (.cons (.val .bool) (.cons (.val (.int .i64)) (.cons (.val .str) .nil))))) .nil)⟩, ⟨.ret, [3], (.cons (.upd 0 34 (.cons (.val (.int .i64)) (.cons (.val .bool) (.cons (.val (.int .i64)) (.cons (.val .str) .nil))))) (.cons (.val (.int .i64)) .nil))⟩]
def ref_Front_0.run (N : Nat) (b : (List UInt8)) (kind : Int) (bool : Bool) (int : Int) (text : (List UInt8)) : Option (((Int × Bool × Int × (List UInt8) × Unit) × Unit) ⊕ ((Int × Bool × Int × (List UInt8) × Unit) × Int × Unit)) :=
  bif decide ((b.length : Int) > (0 : Int)) then
    bif inB (0 : Int) b.length then
      bif decide (((b.getD 0 (0 : UInt8)).toNat : Int) = (0 : Int)) then
        some (.inr (((0 : Int), false, (0 : Int), ([] : List UInt8), ()), (1 : Int), ()))
      else some (.inl ((kind, bool, int, text, ()), ()))
    else none
  else some (.inl ((kind, bool, int, text, ()), ()))
def ref_Front_0.fn (N : Nat) (x : Sh.den ref_Front_0.ins) : Option (altsDen ref_Front_0.alts) := ref_Front_0.run N x.1 x.2.1.1 x.2.1.2.1 x.2.1.2.2.1 x.2.1.2.2.2.1
def ref_Front_0.P (N : Nat) : Ps := ⟨ref_Front_0.ts, ref_Front_0.ins, ref_Front_0.asg, ref_Front_0.alts, ref_Front_0.fn N⟩
def ref_Front_0.lam (N : Nat) : Pcs := pcs []
theorem ref_Front_0.pok (N : Nat) : (ref_Front_0.lam N).Ok Try.prog (ref_Front_0.C N) ref_Front_0.code := pcsOk_nil
theorem ref_Front_0.ev (N : Nat) (x : Sh.den ref_Front_0.ins) : evC (ref_Front_0.C N) ref_Front_0.code (ref_Front_0.lam N) ((ref_Front_0.P N).canon 1000 x) (altK (ref_Front_0.P N).alts) = ref_Front_0.fn N x := by kernel_rfl
theorem ref_Front_0.ok (N : Nat) : ((ref_Front_0.P N).pc (ref_Front.C N)).Ok Try.prog (ref_Front.C N) ref_Front_0.code := ps_ok (F := ref_Front_0.P N) (n0 := 1000) (ref_Front.cok N) mix (ref_Front_0.pok N) (fun x y h => (ref_Front_0.ev N x).trans h)
def ref_Front_1.ins : Sh := (.cons (.val (.slice .byte)) .nil)
def ref_Front_1.ts : List Tmp := [0]
def ref_Front_1.asg : List Tmp := [15, 16, 17, 18, 19, 20, 21, 22, 23, 24, 25, 26, 27, 28, 29]
def ref_Front_1.C (N : Nat) : Ctx := { ref_Front.C N with may := fun t => ref_Front_1.asg.any (Nat.beq t) }
def ref_Front_1.code : Code := (sub ref_Front.code [true, true, false, false]).getD .skip
theorem ref_Front_1.cok (N : Nat) : (ref_Front_1.C N).Ok Try.prog := ⟨(ref_Front.cok N).U, (ref_Front.cok N).Γ, (ref_Front.cok N).Y⟩
def ref_Front_1.alts : List Alt := [⟨.normal, [29], (.cons (.val .bool) .nil)⟩]
def ref_Front_1.run (N : Nat) (b : (List UInt8)) : Option ((Bool × Unit)) :=
  bif decide ((b.length : Int) > (1 : Int)) then
    bif inB (0 : Int) b.length then
      bif decide (((b.getD 0 (0 : UInt8)).toNat : Int) = (1 : Int)) then
        bif inB (1 : Int) b.length then
          some (decide (((b.getD 1 (0 : UInt8)).toNat : Int) < (2 : Int)), ())
        else none
      else some (false, ())
    else none
  else some (false, ())
def ref_Front_1.fn (N : Nat) (x : Sh.den ref_Front_1.ins) : Option (altsDen ref_Front_1.alts) := ref_Front_1.run N x.1
def ref_Front_1.P (N : Nat) : Ps := ⟨ref_Front_1.ts, ref_Front_1.ins, ref_Front_1.asg, ref_Front_1.alts, ref_Front_1.fn N⟩
def ref_Front_1.lam (N : Nat) : Pcs := pcs []
theorem ref_Front_1.pok (N : Nat) : (ref_Front_1.lam N).Ok Try.prog (ref_Front_1.C N) ref_Front_1.code := pcsOk_nil
theorem ref_Front_1.ev (N : Nat) (x : Sh.den ref_Front_1.ins) : evC (ref_Front_1.C N) ref_Front_1.code (ref_Front_1.lam N) ((ref_Front_1.P N).canon 1000 x) (altK (ref_Front_1.P N).alts) = ref_Front_1.fn N x := by kernel_rfl
theorem ref_Front_1.ok (N : Nat) : ((ref_Front_1.P N).pc (ref_Front.C N)).Ok Try.prog (ref_Front.C N) ref_Front_1.code := ps_ok (F := ref_Front_1.P N) (n0 := 1000) (ref_Front.cok N) mix (ref_Front_1.pok N) (fun x y h => (ref_Front_1.ev N x).trans h)
def ref_Front_2.ins : Sh := (.cons (.val (.slice .byte)) (.cons (.box 34 (.cons (.val (.int .i64)) (.cons (.val .bool) (.cons (.val (.int .i64)) (.cons (.val .str) .nil))))) .nil))
def ref_Front_2.ts : List Tmp := [0, 2]
def ref_Front_2.asg : List Tmp := [3, 35, 36, 37, 38, 39, 40, 41, 42, 43, 44, 45, 46, 47, 48]
def ref_Front_2.C (N : Nat) : Ctx := { ref_Front.C N with may := fun t => ref_Front_2.asg.any (Nat.beq t) }
def ref_Front_2.code : Code := (sub ref_Front.code [true, true, true, false]).getD .skip
theorem ref_Front_2.cok (N : Nat) : (ref_Front_2.C N).Ok Try.prog := ⟨(ref_Front.cok N).U, (ref_Front.cok N).Γ, (ref_Front.cok N).Y⟩
def ref_Front_2.alts : List Alt := [⟨.normal, [], (.cons (.upd 0 34 (.cons (.val (.int .i64)) (.cons (.val .bool) (.cons (.val (.int .i64)) (.cons (.val .str) .nil))))) .nil)⟩, ⟨.ret, [3], (.cons (.upd 0 34 (.cons (.val (.int .i64)) (.cons (.val .bool) (.cons (.val (.int .i64)) (.cons (.val .str) .nil))))) (.cons (.val (.int .i64)) .nil))⟩]
def ref_Front_2.run (N : Nat) (b : (List UInt8)) (kind : Int) (bool : Bool) (int : Int) (text : (List UInt8)) : Option (((Int × Bool × Int × (List UInt8) × Unit) × Unit) ⊕ ((Int × Bool × Int × (List UInt8) × Unit) × Int × Unit)) :=
  bif decide ((b.length : Int) > (8 : Int)) then
    bif inB (0 : Int) b.length then
      bif decide (((b.getD 0 (0 : UInt8)).toNat : Int) = (2 : Int)) then
        bif okB (1 : Int) (9 : Int) b.length then
          obind (ref_Said.run N ((b.take 9).drop 1)) fun (n_, _) =>
            some (.inr (((2 : Int), false, IntKind.i64.wrap n_, ([] : List UInt8), ()), (9 : Int), ()))
        else none
      else some (.inl ((kind, bool, int, text, ()), ()))
    else none
  else some (.inl ((kind, bool, int, text, ()), ()))
def ref_Front_2.fn (N : Nat) (x : Sh.den ref_Front_2.ins) : Option (altsDen ref_Front_2.alts) := ref_Front_2.run N x.1 x.2.1.1 x.2.1.2.1 x.2.1.2.2.1 x.2.1.2.2.2.1
def ref_Front_2.P (N : Nat) : Ps := ⟨ref_Front_2.ts, ref_Front_2.ins, ref_Front_2.asg, ref_Front_2.alts, ref_Front_2.fn N⟩
def ref_Front_2.lam (N : Nat) : Pcs := pcs []
theorem ref_Front_2.pok (N : Nat) : (ref_Front_2.lam N).Ok Try.prog (ref_Front_2.C N) ref_Front_2.code := pcsOk_nil
theorem ref_Front_2.ev (N : Nat) (x : Sh.den ref_Front_2.ins) : evC (ref_Front_2.C N) ref_Front_2.code (ref_Front_2.lam N) ((ref_Front_2.P N).canon 1000 x) (altK (ref_Front_2.P N).alts) = ref_Front_2.fn N x := by kernel_rfl
theorem ref_Front_2.ok (N : Nat) : ((ref_Front_2.P N).pc (ref_Front.C N)).Ok Try.prog (ref_Front.C N) ref_Front_2.code := ps_ok (F := ref_Front_2.P N) (n0 := 1000) (ref_Front.cok N) mix (ref_Front_2.pok N) (fun x y h => (ref_Front_2.ev N x).trans h)
def ref_Front_3.ins : Sh := (.cons (.val (.slice .byte)) .nil)
def ref_Front_3.ts : List Tmp := [0]
def ref_Front_3.asg : List Tmp := [49, 50, 51, 52, 53, 54, 55, 56, 57, 58, 59, 60, 61, 62, 63, 64, 65, 66, 67, 68, 69, 70, 71, 72, 73]
def ref_Front_3.C (N : Nat) : Ctx := { ref_Front.C N with may := fun t => ref_Front_3.asg.any (Nat.beq t) }
def ref_Front_3.code : Code := (sub ref_Front.code [true, true, true, true, false, false]).getD .skip
theorem ref_Front_3.cok (N : Nat) : (ref_Front_3.C N).Ok Try.prog := ⟨(ref_Front.cok N).U, (ref_Front.cok N).Γ, (ref_Front.cok N).Y⟩
def ref_Front_3.alts : List Alt := [⟨.normal, [73], (.cons (.val .bool) .nil)⟩]
def ref_Front_3.run (N : Nat) (b : (List UInt8)) : Option ((Bool × Unit)) :=
  bif decide ((b.length : Int) > (1 : Int)) then
    bif inB (0 : Int) b.length then
      bif decide (((b.getD 0 (0 : UInt8)).toNat : Int) = (3 : Int)) then
        bif inB (1 : Int) b.length then
          bif decide (((b.getD 1 (0 : UInt8)).toNat : Int) ≤ (64 : Int)) then
            bif inB (1 : Int) b.length then
              some (decide ((b.length : Int) ≥ (IntKind.i64.wrap ((2 : Int) + (IntKind.i64.wrap ((b.getD 1 (0 : UInt8)).toNat : Int))))), ())
            else none
          else some (false, ())
        else none
      else some (false, ())
    else none
  else some (false, ())
def ref_Front_3.fn (N : Nat) (x : Sh.den ref_Front_3.ins) : Option (altsDen ref_Front_3.alts) := ref_Front_3.run N x.1
def ref_Front_3.P (N : Nat) : Ps := ⟨ref_Front_3.ts, ref_Front_3.ins, ref_Front_3.asg, ref_Front_3.alts, ref_Front_3.fn N⟩
def ref_Front_3.lam (N : Nat) : Pcs := pcs []
theorem ref_Front_3.pok (N : Nat) : (ref_Front_3.lam N).Ok Try.prog (ref_Front_3.C N) ref_Front_3.code := pcsOk_nil
theorem ref_Front_3.ev (N : Nat) (x : Sh.den ref_Front_3.ins) : evC (ref_Front_3.C N) ref_Front_3.code (ref_Front_3.lam N) ((ref_Front_3.P N).canon 1000 x) (altK (ref_Front_3.P N).alts) = ref_Front_3.fn N x := by kernel_rfl
theorem ref_Front_3.ok (N : Nat) : ((ref_Front_3.P N).pc (ref_Front.C N)).Ok Try.prog (ref_Front.C N) ref_Front_3.code := ps_ok (F := ref_Front_3.P N) (n0 := 1000) (ref_Front.cok N) mix (ref_Front_3.pok N) (fun x y h => (ref_Front_3.ev N x).trans h)
def ref_Front.outs : Sh := (.cons (.val (.pair (.int .i64) (.pair .bool (.pair (.int .i64) .str)))) (.cons (.val (.int .i64)) .nil))
def ref_Front.run (N : Nat) (b : (List UInt8)) : Option ((Int × (Bool × (Int × (List UInt8)))) × Int × Unit) :=
  obind (ref_Front_0.run N b (0 : Int) false (0 : Int) ([] : List UInt8)) fun y => match y with
  | .inl ((kind, bool, int, text, _), _) =>
      obind (ref_Front_1.run N b) fun (t29, _) =>
        bif t29 then
          bif inB (1 : Int) b.length then
            some (((1 : Int), decide (((b.getD 1 (0 : UInt8)).toNat : Int) = (1 : Int)), (0 : Int), ([] : List UInt8)), (2 : Int), ())
          else none
        else
          obind (ref_Front_2.run N b kind bool int text) fun y => match y with
          | .inl ((kind2, bool2, int2, text2, _), _) =>
              obind (ref_Front_3.run N b) fun (t73, _) =>
                bif t73 then
                  bif inB (1 : Int) b.length then
                    bif okB (2 : Int) (IntKind.i64.wrap ((2 : Int) + (IntKind.i64.wrap ((b.getD 1 (0 : UInt8)).toNat : Int)))) b.length then
                      some (((3 : Int), false, (0 : Int), (b.take (IntKind.i64.wrap ((2 : Int) + (IntKind.i64.wrap ((b.getD 1 (0 : UInt8)).toNat : Int)))).toNat).drop 2), IntKind.i64.wrap ((2 : Int) + (IntKind.i64.wrap ((b.getD 1 (0 : UInt8)).toNat : Int))), ())
                    else none
                  else none
                else some (((0 : Int), false, (0 : Int), ([] : List UInt8)), (0 : Int), ())
          | .inr ((kind3, bool3, int3, text3, _), t31, _) =>
              some ((kind3, bool3, int3, text3), t31, ())
  | .inr ((kind1, bool1, int1, text1, _), t3, _) =>
      some ((kind1, bool1, int1, text1), t3, ())
def ref_Front.fn (N : Nat) (x : Sh.den ref_Front.ins) : Option (Sh.den ref_Front.outs) := ref_Front.run N x.1
def ref_Front.S (N : Nat) : Fs := ⟨ref_Front.ins, ref_Front.outs, ref_Front.fn N⟩
def ref_Front.lam (N : Nat) : Pcs := pcs [([true, false], (ref_Front_0.P N).pc (ref_Front.C N)), ([true, true, false, false], (ref_Front_1.P N).pc (ref_Front.C N)), ([true, true, true, false], (ref_Front_2.P N).pc (ref_Front.C N)), ([true, true, true, true, false, false], (ref_Front_3.P N).pc (ref_Front.C N))]
theorem ref_Front.pok (N : Nat) : (ref_Front.lam N).Ok Try.prog (ref_Front.C N) ref_Front.code := pcsOk_cons (c1 := ref_Front_0.code) (by kernel_rfl) (ref_Front_0.ok N) (pcsOk_cons (c1 := ref_Front_1.code) (by kernel_rfl) (ref_Front_1.ok N) (pcsOk_cons (c1 := ref_Front_2.code) (by kernel_rfl) (ref_Front_2.ok N) (pcsOk_cons (c1 := ref_Front_3.code) (by kernel_rfl) (ref_Front_3.ok N) (pcsOk_nil))))
theorem ref_Front.ev (N : Nat) (x : Sh.den ref_Front.ins) : evC (ref_Front.C N) ref_Front.code (ref_Front.lam N) ⟨envOf 0 (bld (fun k => k) ref_Front.ins x 0).1, (bld (fun k => k) ref_Front.ins x 0).2.1, 1000⟩ (endF U ref_Front.outs Try.f30.results.toList []) = ref_Front.fn N x := by kernel_rfl
theorem ref_Front.ok (N : Nat) : (ref_Front.S N).con.Ok Try.prog 30 := fn_ok (F := ref_Front.S N) (n0 := 1000) Try.func30 (by kernel_rfl) (show Try.f30.body = some ref_Front.code by rfl) mix (ref_Front.cok N) (fun _ => rfl) (fun _ => rfl) (ref_Front.pok N) (fun x y h => (ref_Front.ev N x).trans h)
/-- hayloft/hayloftref03.Decode -/
def ref_Decode.ins : Sh := (.cons (.val (.slice .byte)) .nil)
def ref_Decode.C (N : Nat) : Ctx := ⟨U, 47, fun _ => true, gam [(30, (ref_Front.S N).con)], gamY []⟩
theorem ref_Decode.cok (N : Nat) : (ref_Decode.C N).Ok Try.prog := ⟨U_ok, GamOk.cons (ref_Front.ok N) (GamOk.nil), GamYOk.nil⟩
def ref_Decode.code : Code := Try.f13.body.getD .skip
def ref_Decode_0.ins : Sh := (.cons (.val (.slice .byte)) (.cons (.own 34 (.pair (.int .i64) (.pair .bool (.pair (.int .i64) .str)))) (.cons (.val (.int .i64)) (.cons (.val (.int .i64)) .nil))))
def ref_Decode_0.ts : List Tmp := [0, 4, 5, 6]
def ref_Decode_0.asg : List Tmp := [2, 3, 4, 5, 6, 7, 8, 18, 19, 20, 21, 22, 23, 24, 25, 26, 27, 28, 29, 30, 31, 32, 33, 34, 35, 36, 37, 38, 39, 40, 41]
def ref_Decode_0.C (N : Nat) : Ctx := { ref_Decode.C N with may := fun t => ref_Decode_0.asg.any (Nat.beq t) }
def ref_Decode_0.code : Code := loopBody (sub ref_Decode.code [true, true, true, true, false, true, false])
theorem ref_Decode_0.cok (N : Nat) : (ref_Decode_0.C N).Ok Try.prog := ⟨(ref_Decode.cok N).U, (ref_Decode.cok N).Γ, (ref_Decode.cok N).Y⟩
def ref_Decode_0.alts : List Alt := [⟨.ret, [2, 3], (.cons (.own 34 (.pair (.int .i64) (.pair .bool (.pair (.int .i64) .str)))) (.cons (.val (.int .i64)) .nil))⟩, ⟨(.exit 0), [4, 5], (.cons (.own 34 (.pair (.int .i64) (.pair .bool (.pair (.int .i64) .str)))) (.cons (.val (.int .i64)) .nil))⟩]
def ref_Decode_0.go (N : Nat) : Nat → (List UInt8) → (List (Int × (Bool × (Int × (List UInt8))))) → Int → Int → Option (((List (Int × (Bool × (Int × (List UInt8))))) × Int × Unit) ⊕ ((List (Int × (Bool × (Int × (List UInt8))))) × Int × Unit))
  | 0, _, _, _, _ => none
  | fuel + 1, b, row, at_, i =>
    bif inB (0 : Int) b.length then
      bif decide (i < (IntKind.i64.wrap ((b.getD 0 (0 : UInt8)).toNat : Int))) then
        bif okB at_ (b.length : Int) b.length then
          obind (ref_Front.run N (b.drop at_.toNat)) fun (v, n_, _) =>
            bif decide (n_ = (0 : Int)) then
              some (.inl (([] : List (Int × (Bool × (Int × (List UInt8))))), (30 : Int), ()))
            else
              bif room (row.length + 1) 40 then
                ref_Decode_0.go N fuel b (row ++ ([v] : List (Int × (Bool × (Int × (List UInt8)))))) (IntKind.i64.wrap (at_ + n_)) (IntKind.i64.wrap (i + (1 : Int)))
              else none
        else none
      else some (.inr (row, at_, ()))
    else none
def ref_Decode_0.g (N n : Nat) (x : Sh.den ref_Decode_0.ins) : Option (altsDen ref_Decode_0.alts) := ref_Decode_0.go N n x.1 x.2.1 x.2.2.1 x.2.2.2.1
def ref_Decode_0.P (N : Nat) : Ps := ⟨ref_Decode_0.ts, ref_Decode_0.ins, ref_Decode_0.asg, ref_Decode_0.alts, ref_Decode_0.g N N⟩
def ref_Decode_0.lam (N : Nat) : Pcs := pcs []
theorem ref_Decode_0.pok (N : Nat) : (ref_Decode_0.lam N).Ok Try.prog (ref_Decode_0.C N) ref_Decode_0.code := pcsOk_nil
theorem ref_Decode_0.ev (N n : Nat) (x : Sh.den ref_Decode_0.ins) : evC (ref_Decode_0.C N) ref_Decode_0.code (ref_Decode_0.lam N) ((ref_Decode_0.P N).canon 1000 x) (loopK (ref_Decode_0.P N) (ref_Decode_0.g N n)) = ref_Decode_0.g N (n + 1) x := by kernel_rfl
theorem ref_Decode_0.ok (N : Nat) : ((ref_Decode_0.P N).pc (ref_Decode.C N)).Ok Try.prog (ref_Decode.C N) (.loop ref_Decode_0.code) := loop_ok (F := ref_Decode_0.P N) (n0 := 1000) (N := N) (ref_Decode.cok N) mix (ref_Decode_0.pok N) (ref_Decode_0.g N) (fun x => by rfl) rfl (fun n x y h => (ref_Decode_0.ev N n x).trans h)
def ref_Decode.outs : Sh := (.cons (.own 34 (.pair (.int .i64) (.pair .bool (.pair (.int .i64) .str)))) (.cons (.val (.int .i64)) .nil))
def ref_Decode.run (N : Nat) (b : (List UInt8)) : Option ((List (Int × (Bool × (Int × (List UInt8))))) × Int × Unit) :=
  bif decide ((b.length : Int) = (0 : Int)) then
    some (([] : List (Int × (Bool × (Int × (List UInt8))))), (30 : Int), ())
  else
    bif inB (0 : Int) b.length then
      bif decide (((b.getD 0 (0 : UInt8)).toNat : Int) > (16 : Int)) then
        some (([] : List (Int × (Bool × (Int × (List UInt8))))), (30 : Int), ())
      else
        obind (ref_Decode_0.go N N b ([] : List (Int × (Bool × (Int × (List UInt8))))) (1 : Int) (0 : Int)) fun y => match y with
        | .inl (t2, t3, _) =>
            some (t2, t3, ())
        | .inr (row, at_, _) =>
            bif decide (at_ < (b.length : Int)) then
              some (([] : List (Int × (Bool × (Int × (List UInt8))))), (30 : Int), ())
            else some (row, (0 : Int), ())
    else none
def ref_Decode.fn (N : Nat) (x : Sh.den ref_Decode.ins) : Option (Sh.den ref_Decode.outs) := ref_Decode.run N x.1
def ref_Decode.S (N : Nat) : Fs := ⟨ref_Decode.ins, ref_Decode.outs, ref_Decode.fn N⟩
def ref_Decode.lam (N : Nat) : Pcs := pcs [([true, true, true, true, false, true, false], (ref_Decode_0.P N).pc (ref_Decode.C N))]
theorem ref_Decode.pok (N : Nat) : (ref_Decode.lam N).Ok Try.prog (ref_Decode.C N) ref_Decode.code := pcsOk_cons (c1 := .loop ref_Decode_0.code) (by kernel_rfl) (ref_Decode_0.ok N) (pcsOk_nil)
theorem ref_Decode.ev (N : Nat) (x : Sh.den ref_Decode.ins) : evC (ref_Decode.C N) ref_Decode.code (ref_Decode.lam N) ⟨envOf 0 (bld (fun k => k) ref_Decode.ins x 0).1, (bld (fun k => k) ref_Decode.ins x 0).2.1, 1000⟩ (endF U ref_Decode.outs Try.f13.results.toList []) = ref_Decode.fn N x := by kernel_rfl
theorem ref_Decode.ok (N : Nat) : (ref_Decode.S N).con.Ok Try.prog 13 := fn_ok (F := ref_Decode.S N) (n0 := 1000) Try.func13 (by kernel_rfl) (show Try.f13.body = some ref_Decode.code by rfl) mix (ref_Decode.cok N) (fun _ => rfl) (fun _ => rfl) (ref_Decode.pok N) (fun x y h => (ref_Decode.ev N x).trans h)
/-- hayloft/rows.may -/
def rows_may_b.ins : Sh := (.cons (.rown 34 (.pair (.int .i64) (.pair .bool (.pair (.int .i64) .str)))) .nil)
def rows_may_b.C (N : Nat) : Ctx := ⟨U, 18, fun _ => true, gam [(31, (value_Right.S N).con)], gamY []⟩
theorem rows_may_b.cok (N : Nat) : (rows_may_b.C N).Ok Try.prog := ⟨U_ok, GamOk.cons (value_Right.ok N) (GamOk.nil), GamYOk.nil⟩
def rows_may_b.code : Code := Try.f25.body.getD .skip
def rows_may_b_0.ins : Sh := (.cons (.rown 34 (.pair (.int .i64) (.pair .bool (.pair (.int .i64) .str)))) (.cons (.val (.int .i64)) (.cons (.val (.int .i64)) .nil)))
def rows_may_b_0.ts : List Tmp := [5, 6, 7]
def rows_may_b_0.asg : List Tmp := [2, 4, 7, 8, 9, 10, 11, 12, 13, 14]
def rows_may_b_0.C (N : Nat) : Ctx := { rows_may_b.C N with may := fun t => rows_may_b_0.asg.any (Nat.beq t) }
def rows_may_b_0.code : Code := loopBody (sub rows_may_b.code [true, false, true, false])
theorem rows_may_b_0.cok (N : Nat) : (rows_may_b_0.C N).Ok Try.prog := ⟨(rows_may_b.cok N).U, (rows_may_b.cok N).Γ, (rows_may_b.cok N).Y⟩
def rows_may_b_0.alts : List Alt := [⟨.ret, [2], (.cons (.val .bool) .nil)⟩, ⟨(.exit 0), [], .nil⟩]
def rows_may_b_0.go (N : Nat) : Nat → (List (Int × (Bool × (Int × (List UInt8))))) → Int → Int → Option ((Bool × Unit) ⊕ Unit)
  | 0, _, _, _ => none
  | fuel + 1, t5, t6, t7 =>
    bif decide (t7 < t6) then
      bif inB t7 t5.length then
        bif decide (t7.toNat < t5.length) then
          obind (value_Right.run N (t5.getD t7.toNat ((0 : Int), false, (0 : Int), ([] : List UInt8)))) fun (b, _) =>
            bif !b then
              some (.inl (false, ()))
            else rows_may_b_0.go N fuel t5 t6 (IntKind.i64.wrap (t7 + (1 : Int)))
        else none
      else none
    else some (.inr ())
def rows_may_b_0.g (N n : Nat) (x : Sh.den rows_may_b_0.ins) : Option (altsDen rows_may_b_0.alts) := rows_may_b_0.go N n x.1 x.2.1 x.2.2.1
def rows_may_b_0.P (N : Nat) : Ps := ⟨rows_may_b_0.ts, rows_may_b_0.ins, rows_may_b_0.asg, rows_may_b_0.alts, rows_may_b_0.g N N⟩
def rows_may_b_0.lam (N : Nat) : Pcs := pcs []
theorem rows_may_b_0.pok (N : Nat) : (rows_may_b_0.lam N).Ok Try.prog (rows_may_b_0.C N) rows_may_b_0.code := pcsOk_nil
theorem rows_may_b_0.ev (N n : Nat) (x : Sh.den rows_may_b_0.ins) : evC (rows_may_b_0.C N) rows_may_b_0.code (rows_may_b_0.lam N) ((rows_may_b_0.P N).canon 1000 x) (loopK (rows_may_b_0.P N) (rows_may_b_0.g N n)) = rows_may_b_0.g N (n + 1) x := by kernel_rfl
theorem rows_may_b_0.ok (N : Nat) : ((rows_may_b_0.P N).pc (rows_may_b.C N)).Ok Try.prog (rows_may_b.C N) (.loop rows_may_b_0.code) := loop_ok (F := rows_may_b_0.P N) (n0 := 1000) (N := N) (rows_may_b.cok N) mix (rows_may_b_0.pok N) (rows_may_b_0.g N) (fun x => by rfl) rfl (fun n x y h => (rows_may_b_0.ev N n x).trans h)
def rows_may_b.outs : Sh := (.cons (.val .bool) .nil)
def rows_may_b.run (N : Nat) (row : (List (Int × (Bool × (Int × (List UInt8)))))) : Option (Bool × Unit) :=
  obind (rows_may_b_0.go N N row (row.length : Int) (0 : Int)) fun y => match y with
  | .inl (t2, _) =>
      some (t2, ())
  | .inr (_) =>
      some (decide ((row.length : Int) ≤ (16 : Int)), ())
def rows_may_b.fn (N : Nat) (x : Sh.den rows_may_b.ins) : Option (Sh.den rows_may_b.outs) := rows_may_b.run N x.1
def rows_may_b.S (N : Nat) : Fs := ⟨rows_may_b.ins, rows_may_b.outs, rows_may_b.fn N⟩
def rows_may_b.lam (N : Nat) : Pcs := pcs [([true, false, true, false], (rows_may_b_0.P N).pc (rows_may_b.C N))]
theorem rows_may_b.pok (N : Nat) : (rows_may_b.lam N).Ok Try.prog (rows_may_b.C N) rows_may_b.code := pcsOk_cons (c1 := .loop rows_may_b_0.code) (by kernel_rfl) (rows_may_b_0.ok N) (pcsOk_nil)
theorem rows_may_b.ev (N : Nat) (x : Sh.den rows_may_b.ins) : evC (rows_may_b.C N) rows_may_b.code (rows_may_b.lam N) ⟨envOf 0 (bld (fun k => k) rows_may_b.ins x 0).1, (bld (fun k => k) rows_may_b.ins x 0).2.1, 1000⟩ (endF U rows_may_b.outs Try.f25.results.toList []) = rows_may_b.fn N x := by kernel_rfl
theorem rows_may_b.ok (N : Nat) : (rows_may_b.S N).con.Ok Try.prog 25 := fn_ok (F := rows_may_b.S N) (n0 := 1000) Try.func25 (by kernel_rfl) (show Try.f25.body = some rows_may_b.code by rfl) mix (rows_may_b.cok N) (fun _ => rfl) (fun _ => rfl) (rows_may_b.pok N) (fun x y h => (rows_may_b.ev N x).trans h)
/-- hayloft/rows.Encode -/
def rows_Encode_b.ins : Sh := (.cons (.rown 34 (.pair (.int .i64) (.pair .bool (.pair (.int .i64) .str)))) .nil)
def rows_Encode_b.C (N : Nat) : Ctx := ⟨U, 25, fun _ => true, gam [(25, (rows_may_b.S N).con), (26, (rows_one.S N).con)], gamY []⟩
theorem rows_Encode_b.cok (N : Nat) : (rows_Encode_b.C N).Ok Try.prog := ⟨U_ok, GamOk.cons (rows_may_b.ok N) (GamOk.cons (rows_one.ok N) (GamOk.nil)), GamYOk.nil⟩
def rows_Encode_b.code : Code := Try.f10.body.getD .skip
def rows_Encode_b_0.ins : Sh := (.cons (.own 5 .byte) (.cons (.rown 34 (.pair (.int .i64) (.pair .bool (.pair (.int .i64) .str)))) (.cons (.val (.int .i64)) (.cons (.val (.int .i64)) .nil))))
def rows_Encode_b_0.ts : List Tmp := [4, 14, 15, 16]
def rows_Encode_b_0.asg : List Tmp := [4, 6, 16, 17, 18, 19, 20, 21, 22, 23]
def rows_Encode_b_0.C (N : Nat) : Ctx := { rows_Encode_b.C N with may := fun t => rows_Encode_b_0.asg.any (Nat.beq t) }
def rows_Encode_b_0.code : Code := loopBody (sub rows_Encode_b.code [true, true, true, false, true, false])
theorem rows_Encode_b_0.cok (N : Nat) : (rows_Encode_b_0.C N).Ok Try.prog := ⟨(rows_Encode_b.cok N).U, (rows_Encode_b.cok N).Γ, (rows_Encode_b.cok N).Y⟩
def rows_Encode_b_0.alts : List Alt := [⟨(.exit 0), [4], (.cons (.own 5 .byte) .nil)⟩]
def rows_Encode_b_0.go (N : Nat) : Nat → (List UInt8) → (List (Int × (Bool × (Int × (List UInt8))))) → Int → Int → Option (((List UInt8) × Unit))
  | 0, _, _, _, _ => none
  | fuel + 1, b, t14, t15, t16 =>
    bif decide (t16 < t15) then
      bif inB t16 t14.length then
        bif decide (t16.toNat < t14.length) then
          obind (rows_one.run N b (t14.getD t16.toNat ((0 : Int), false, (0 : Int), ([] : List UInt8)))) fun (l, _) =>
            rows_Encode_b_0.go N fuel l t14 t15 (IntKind.i64.wrap (t16 + (1 : Int)))
        else none
      else none
    else some (b, ())
def rows_Encode_b_0.g (N n : Nat) (x : Sh.den rows_Encode_b_0.ins) : Option (altsDen rows_Encode_b_0.alts) := rows_Encode_b_0.go N n x.1 x.2.1 x.2.2.1 x.2.2.2.1
def rows_Encode_b_0.P (N : Nat) : Ps := ⟨rows_Encode_b_0.ts, rows_Encode_b_0.ins, rows_Encode_b_0.asg, rows_Encode_b_0.alts, rows_Encode_b_0.g N N⟩
def rows_Encode_b_0.lam (N : Nat) : Pcs := pcs []
theorem rows_Encode_b_0.pok (N : Nat) : (rows_Encode_b_0.lam N).Ok Try.prog (rows_Encode_b_0.C N) rows_Encode_b_0.code := pcsOk_nil
theorem rows_Encode_b_0.ev (N n : Nat) (x : Sh.den rows_Encode_b_0.ins) : evC (rows_Encode_b_0.C N) rows_Encode_b_0.code (rows_Encode_b_0.lam N) ((rows_Encode_b_0.P N).canon 1000 x) (loopK (rows_Encode_b_0.P N) (rows_Encode_b_0.g N n)) = rows_Encode_b_0.g N (n + 1) x := by kernel_rfl
theorem rows_Encode_b_0.ok (N : Nat) : ((rows_Encode_b_0.P N).pc (rows_Encode_b.C N)).Ok Try.prog (rows_Encode_b.C N) (.loop rows_Encode_b_0.code) := loop_ok (F := rows_Encode_b_0.P N) (n0 := 1000) (N := N) (rows_Encode_b.cok N) mix (rows_Encode_b_0.pok N) (rows_Encode_b_0.g N) (fun x => by rfl) rfl (fun n x y h => (rows_Encode_b_0.ev N n x).trans h)
def rows_Encode_b.outs : Sh := (.cons (.own 5 .byte) (.cons (.val (.int .i64)) .nil))
def rows_Encode_b.run (N : Nat) (row : (List (Int × (Bool × (Int × (List UInt8)))))) : Option ((List UInt8) × Int × Unit) :=
  obind (rows_may_b.run N row) fun (b, _) =>
    bif !b then
      some (([] : List UInt8), (30 : Int), ())
    else
      obind (rows_Encode_b_0.go N N ([Hay.u8 (IntKind.u8.wrap (row.length : Int))] : List UInt8) row (row.length : Int) (0 : Int)) fun (b1, _) =>
        some (b1, (0 : Int), ())
def rows_Encode_b.fn (N : Nat) (x : Sh.den rows_Encode_b.ins) : Option (Sh.den rows_Encode_b.outs) := rows_Encode_b.run N x.1
def rows_Encode_b.S (N : Nat) : Fs := ⟨rows_Encode_b.ins, rows_Encode_b.outs, rows_Encode_b.fn N⟩
def rows_Encode_b.lam (N : Nat) : Pcs := pcs [([true, true, true, false, true, false], (rows_Encode_b_0.P N).pc (rows_Encode_b.C N))]
theorem rows_Encode_b.pok (N : Nat) : (rows_Encode_b.lam N).Ok Try.prog (rows_Encode_b.C N) rows_Encode_b.code := pcsOk_cons (c1 := .loop rows_Encode_b_0.code) (by kernel_rfl) (rows_Encode_b_0.ok N) (pcsOk_nil)
theorem rows_Encode_b.ev (N : Nat) (x : Sh.den rows_Encode_b.ins) : evC (rows_Encode_b.C N) rows_Encode_b.code (rows_Encode_b.lam N) ⟨envOf 0 (bld (fun k => k) rows_Encode_b.ins x 0).1, (bld (fun k => k) rows_Encode_b.ins x 0).2.1, 1000⟩ (endF U rows_Encode_b.outs Try.f10.results.toList []) = rows_Encode_b.fn N x := by kernel_rfl
theorem rows_Encode_b.ok (N : Nat) : (rows_Encode_b.S N).con.Ok Try.prog 10 := fn_ok (F := rows_Encode_b.S N) (n0 := 1000) Try.func10 (by kernel_rfl) (show Try.f10.body = some rows_Encode_b.code by rfl) mix (rows_Encode_b.cok N) (fun _ => rfl) (fun _ => rfl) (rows_Encode_b.pok N) (fun x y h => (rows_Encode_b.ev N x).trans h)
/-- hayloft/hayloftlaw03.alive -/
def law_alive.ins : Sh := .nil
def law_alive.C (N : Nat) : Ctx := ⟨U, 44, fun _ => true, gam [(10, (rows_Encode_b.S N).con), (12, (rows_Decode.S N).con)], gamY []⟩
theorem law_alive.cok (N : Nat) : (law_alive.C N).Ok Try.prog := ⟨U_ok, GamOk.cons (rows_Encode_b.ok N) (GamOk.cons (rows_Decode.ok N) (GamOk.nil)), GamYOk.nil⟩
def law_alive.code : Code := Try.f14.body.getD .skip
def law_alive.outs : Sh := (.cons (.val .bool) .nil)
def law_alive.run (N : Nat)  : Option (Bool × Unit) :=
  obind (rows_Encode_b.run N ([((2 : Int), false, (1 : Int), ([] : List UInt8))] : List (Int × (Bool × (Int × (List UInt8)))))) fun (l, n_, _) =>
    obind (rows_Decode.run N ([(1 : UInt8), (1 : UInt8), (1 : UInt8)] : List UInt8)) fun (l1, n1, _) =>
      bif decide (n_ = (0 : Int)) then
        bif decide ((l.length : Int) = (10 : Int)) then
          bif inB (9 : Int) l.length then
            bif decide (9 < l.length) then
              bif decide (((l.getD 9 (0 : UInt8)).toNat : Int) = (1 : Int)) then
                bif decide (n1 = (0 : Int)) then
                  bif decide ((l1.length : Int) = (1 : Int)) then
                    bif inB (0 : Int) l1.length then
                      bif decide (0 < l1.length) then
                        some ((l1.getD 0 ((0 : Int), false, (0 : Int), ([] : List UInt8))).2.1, ())
                      else none
                    else none
                  else some (false, ())
                else some (false, ())
              else some (false, ())
            else none
          else none
        else some (false, ())
      else some (false, ())
def law_alive.fn (N : Nat) (x : Sh.den law_alive.ins) : Option (Sh.den law_alive.outs) := law_alive.run N 
def law_alive.S (N : Nat) : Fs := ⟨law_alive.ins, law_alive.outs, law_alive.fn N⟩
def law_alive.lam (N : Nat) : Pcs := pcs []
theorem law_alive.pok (N : Nat) : (law_alive.lam N).Ok Try.prog (law_alive.C N) law_alive.code := pcsOk_nil
theorem law_alive.ev (N : Nat) (x : Sh.den law_alive.ins) : evC (law_alive.C N) law_alive.code (law_alive.lam N) ⟨envOf 0 (bld (fun k => k) law_alive.ins x 0).1, (bld (fun k => k) law_alive.ins x 0).2.1, 1000⟩ (endF U law_alive.outs Try.f14.results.toList []) = law_alive.fn N x := by kernel_rfl
theorem law_alive.ok (N : Nat) : (law_alive.S N).con.Ok Try.prog 14 := fn_ok (F := law_alive.S N) (n0 := 1000) Try.func14 (by kernel_rfl) (show Try.f14.body = some law_alive.code by rfl) mix (law_alive.cok N) (fun _ => rfl) (fun _ => rfl) (law_alive.pok N) (fun x y h => (law_alive.ev N x).trans h)
/-- hayloft/hayloftref02.SameRow -/
def ref_SameRow.ins : Sh := (.cons (.rown 34 (.pair (.int .i64) (.pair .bool (.pair (.int .i64) .str)))) (.cons (.rown 34 (.pair (.int .i64) (.pair .bool (.pair (.int .i64) .str)))) .nil))
def ref_SameRow.C (N : Nat) : Ctx := ⟨U, 26, fun _ => true, gam [], gamY []⟩
theorem ref_SameRow.cok (N : Nat) : (ref_SameRow.C N).Ok Try.prog := ⟨U_ok, GamOk.nil, GamYOk.nil⟩
def ref_SameRow.code : Code := Try.f15.body.getD .skip
def ref_SameRow_0.ins : Sh := (.cons (.rown 34 (.pair (.int .i64) (.pair .bool (.pair (.int .i64) .str)))) (.cons (.rown 34 (.pair (.int .i64) (.pair .bool (.pair (.int .i64) .str)))) (.cons (.val (.int .i64)) .nil)))
def ref_SameRow_0.ts : List Tmp := [0, 1, 5]
def ref_SameRow_0.asg : List Tmp := [4, 5, 11, 12, 13, 14, 15, 16, 17, 18, 19, 20, 21, 22, 23, 24, 25]
def ref_SameRow_0.C (N : Nat) : Ctx := { ref_SameRow.C N with may := fun t => ref_SameRow_0.asg.any (Nat.beq t) }
def ref_SameRow_0.code : Code := loopBody (sub ref_SameRow.code [true, true, false, true, false])
theorem ref_SameRow_0.cok (N : Nat) : (ref_SameRow_0.C N).Ok Try.prog := ⟨(ref_SameRow.cok N).U, (ref_SameRow.cok N).Γ, (ref_SameRow.cok N).Y⟩
def ref_SameRow_0.alts : List Alt := [⟨.ret, [4], (.cons (.val .bool) .nil)⟩, ⟨(.exit 0), [], .nil⟩]
def ref_SameRow_0.go (N : Nat) : Nat → (List (Int × (Bool × (Int × (List UInt8))))) → (List (Int × (Bool × (Int × (List UInt8))))) → Int → Option ((Bool × Unit) ⊕ Unit)
  | 0, _, _, _ => none
  | fuel + 1, a, b, i =>
    bif decide (i < (a.length : Int)) then
      bif inB i a.length then
        bif decide (i.toNat < a.length) then
          bif inB i b.length then
            bif decide (i.toNat < b.length) then
              bif !((decide ((a.getD i.toNat ((0 : Int), false, (0 : Int), ([] : List UInt8))).1 = (b.getD i.toNat ((0 : Int), false, (0 : Int), ([] : List UInt8))).1)) && (((a.getD i.toNat ((0 : Int), false, (0 : Int), ([] : List UInt8))).2.1 == (b.getD i.toNat ((0 : Int), false, (0 : Int), ([] : List UInt8))).2.1) && ((decide ((a.getD i.toNat ((0 : Int), false, (0 : Int), ([] : List UInt8))).2.2.1 = (b.getD i.toNat ((0 : Int), false, (0 : Int), ([] : List UInt8))).2.2.1)) && ((decide ((a.getD i.toNat ((0 : Int), false, (0 : Int), ([] : List UInt8))).2.2.2 = (b.getD i.toNat ((0 : Int), false, (0 : Int), ([] : List UInt8))).2.2.2)) && true)))) then
                some (.inl (false, ()))
              else ref_SameRow_0.go N fuel a b (IntKind.i64.wrap (i + (1 : Int)))
            else none
          else none
        else none
      else none
    else some (.inr ())
def ref_SameRow_0.g (N n : Nat) (x : Sh.den ref_SameRow_0.ins) : Option (altsDen ref_SameRow_0.alts) := ref_SameRow_0.go N n x.1 x.2.1 x.2.2.1
def ref_SameRow_0.P (N : Nat) : Ps := ⟨ref_SameRow_0.ts, ref_SameRow_0.ins, ref_SameRow_0.asg, ref_SameRow_0.alts, ref_SameRow_0.g N N⟩
def ref_SameRow_0.lam (N : Nat) : Pcs := pcs []
theorem ref_SameRow_0.pok (N : Nat) : (ref_SameRow_0.lam N).Ok Try.prog (ref_SameRow_0.C N) ref_SameRow_0.code := pcsOk_nil
theorem ref_SameRow_0.ev (N n : Nat) (x : Sh.den ref_SameRow_0.ins) : evC (ref_SameRow_0.C N) ref_SameRow_0.code (ref_SameRow_0.lam N) ((ref_SameRow_0.P N).canon 1000 x) (loopK (ref_SameRow_0.P N) (ref_SameRow_0.g N n)) = ref_SameRow_0.g N (n + 1) x := by kernel_rfl
theorem ref_SameRow_0.ok (N : Nat) : ((ref_SameRow_0.P N).pc (ref_SameRow.C N)).Ok Try.prog (ref_SameRow.C N) (.loop ref_SameRow_0.code) := loop_ok (F := ref_SameRow_0.P N) (n0 := 1000) (N := N) (ref_SameRow.cok N) mix (ref_SameRow_0.pok N) (ref_SameRow_0.g N) (fun x => by rfl) rfl (fun n x y h => (ref_SameRow_0.ev N n x).trans h)
def ref_SameRow.outs : Sh := (.cons (.val .bool) .nil)
def ref_SameRow.run (N : Nat) (a : (List (Int × (Bool × (Int × (List UInt8)))))) (b : (List (Int × (Bool × (Int × (List UInt8)))))) : Option (Bool × Unit) :=
  bif !(decide ((a.length : Int) = (b.length : Int))) then
    some (false, ())
  else
    obind (ref_SameRow_0.go N N a b (0 : Int)) fun y => match y with
    | .inl (t4, _) =>
        some (t4, ())
    | .inr (_) =>
        some (true, ())
def ref_SameRow.fn (N : Nat) (x : Sh.den ref_SameRow.ins) : Option (Sh.den ref_SameRow.outs) := ref_SameRow.run N x.1 x.2.1
def ref_SameRow.S (N : Nat) : Fs := ⟨ref_SameRow.ins, ref_SameRow.outs, ref_SameRow.fn N⟩
def ref_SameRow.lam (N : Nat) : Pcs := pcs [([true, true, false, true, false], (ref_SameRow_0.P N).pc (ref_SameRow.C N))]
theorem ref_SameRow.pok (N : Nat) : (ref_SameRow.lam N).Ok Try.prog (ref_SameRow.C N) ref_SameRow.code := pcsOk_cons (c1 := .loop ref_SameRow_0.code) (by kernel_rfl) (ref_SameRow_0.ok N) (pcsOk_nil)
theorem ref_SameRow.ev (N : Nat) (x : Sh.den ref_SameRow.ins) : evC (ref_SameRow.C N) ref_SameRow.code (ref_SameRow.lam N) ⟨envOf 0 (bld (fun k => k) ref_SameRow.ins x 0).1, (bld (fun k => k) ref_SameRow.ins x 0).2.1, 1000⟩ (endF U ref_SameRow.outs Try.f15.results.toList []) = ref_SameRow.fn N x := by kernel_rfl
theorem ref_SameRow.ok (N : Nat) : (ref_SameRow.S N).con.Ok Try.prog 15 := fn_ok (F := ref_SameRow.S N) (n0 := 1000) Try.func15 (by kernel_rfl) (show Try.f15.body = some ref_SameRow.code by rfl) mix (ref_SameRow.cok N) (fun _ => rfl) (fun _ => rfl) (ref_SameRow.pok N) (fun x y h => (ref_SameRow.ev N x).trans h)
/-- hayloft/hayloftlaw03.RowsCodes -/
def law_RowsCodes.ins : Sh := (.cons (.val (.slice (.pair (.int .i64) (.pair .bool (.pair (.int .i64) .str))))) (.cons (.val (.slice .byte)) .nil))
def law_RowsCodes.C (N : Nat) : Ctx := ⟨U, 67, fun _ => true, gam [(10, (rows_Encode.S N).con), (11, (ref_Encode.S N).con), (12, (rows_Decode.S N).con), (13, (ref_Decode.S N).con), (14, (law_alive.S N).con), (15, (ref_SameRow.S N).con)], gamY []⟩
theorem law_RowsCodes.cok (N : Nat) : (law_RowsCodes.C N).Ok Try.prog := ⟨U_ok, GamOk.cons (rows_Encode.ok N) (GamOk.cons (ref_Encode.ok N) (GamOk.cons (rows_Decode.ok N) (GamOk.cons (ref_Decode.ok N) (GamOk.cons (law_alive.ok N) (GamOk.cons (ref_SameRow.ok N) (GamOk.nil)))))), GamYOk.nil⟩
def law_RowsCodes.code : Code := Try.f3.body.getD .skip
def law_RowsCodes.outs : Sh := (.cons (.val .bool) .nil)
def law_RowsCodes.run (N : Nat) (row : (List (Int × (Bool × (Int × (List UInt8)))))) (b : (List UInt8)) : Option (Bool × Unit) :=
  obind (rows_Encode.run N row) fun (l, n_, _) =>
    obind (ref_Encode.run N row) fun (l1, n1, _) =>
      bif room (0 + b.length) 1 then
        obind (rows_Decode.run N b) fun (l2, n2, _) =>
          obind (ref_Decode.run N b) fun (l3, n3, _) =>
            obind (law_alive.run N) fun (b1, _) =>
              bif b1 then
                bif decide (l = l1) then
                  bif decide (n_ = n1) then
                    obind (ref_SameRow.run N l2 l3) fun (b2, _) =>
                      bif b2 then
                        bif decide (n2 = n3) then
                          some (decide (b = b), ())
                        else some (false, ())
                      else some (false, ())
                  else some (false, ())
                else some (false, ())
              else some (false, ())
      else none
def law_RowsCodes.fn (N : Nat) (x : Sh.den law_RowsCodes.ins) : Option (Sh.den law_RowsCodes.outs) := law_RowsCodes.run N x.1 x.2.1
def law_RowsCodes.S (N : Nat) : Fs := ⟨law_RowsCodes.ins, law_RowsCodes.outs, law_RowsCodes.fn N⟩
def law_RowsCodes.lam (N : Nat) : Pcs := pcs []
theorem law_RowsCodes.pok (N : Nat) : (law_RowsCodes.lam N).Ok Try.prog (law_RowsCodes.C N) law_RowsCodes.code := pcsOk_nil
theorem law_RowsCodes.ev (N : Nat) (x : Sh.den law_RowsCodes.ins) : evC (law_RowsCodes.C N) law_RowsCodes.code (law_RowsCodes.lam N) ⟨envOf 0 (bld (fun k => k) law_RowsCodes.ins x 0).1, (bld (fun k => k) law_RowsCodes.ins x 0).2.1, 1000⟩ (endF U law_RowsCodes.outs Try.f3.results.toList []) = law_RowsCodes.fn N x := by kernel_rfl
theorem law_RowsCodes.ok (N : Nat) : (law_RowsCodes.S N).con.Ok Try.prog 3 := fn_ok (F := law_RowsCodes.S N) (n0 := 1000) Try.func3 (by kernel_rfl) (show Try.f3.body = some law_RowsCodes.code by rfl) mix (law_RowsCodes.cok N) (fun _ => rfl) (fun _ => rfl) (law_RowsCodes.pok N) (fun x y h => (law_RowsCodes.ev N x).trans h)
/-- hayloft/rows.Key -/
def rows_Key.ins : Sh := (.cons (.val (.slice (.pair (.int .i64) (.pair .bool (.pair (.int .i64) .str))))) .nil)
def rows_Key.C (N : Nat) : Ctx := ⟨U, 70, fun _ => true, gam [(25, (rows_may.S N).con), (33, (rows_eight.S N).con), (26, (rows_one.S N).con)], gamY []⟩
theorem rows_Key.cok (N : Nat) : (rows_Key.C N).Ok Try.prog := ⟨U_ok, GamOk.cons (rows_may.ok N) (GamOk.cons (rows_eight.ok N) (GamOk.cons (rows_one.ok N) (GamOk.nil))), GamYOk.nil⟩
def rows_Key.code : Code := Try.f20.body.getD .skip
def rows_Key_0.ins : Sh := (.cons (.own 5 .byte) (.cons (.val (.slice (.pair (.int .i64) (.pair .bool (.pair (.int .i64) .str))))) (.cons (.val (.int .i64)) (.cons (.val (.int .i64)) .nil))))
def rows_Key_0.ts : List Tmp := [4, 11, 12, 13]
def rows_Key_0.asg : List Tmp := [4, 6, 7, 13, 14, 15, 16, 17, 18, 19, 20, 21, 22, 23, 24, 25, 26, 27, 28, 29, 30, 31, 32, 33, 34, 35, 36, 37, 38, 39, 40, 41, 42, 43, 44, 45, 46, 47, 48, 49, 50, 51, 52, 53, 54, 55, 56, 57, 58, 59, 60, 61, 62, 63, 64, 65, 66, 67, 68]
def rows_Key_0.C (N : Nat) : Ctx := { rows_Key.C N with may := fun t => rows_Key_0.asg.any (Nat.beq t) }
def rows_Key_0.code : Code := loopBody (sub rows_Key.code [true, true, true, false, true, false])
theorem rows_Key_0.cok (N : Nat) : (rows_Key_0.C N).Ok Try.prog := ⟨(rows_Key.cok N).U, (rows_Key.cok N).Γ, (rows_Key.cok N).Y⟩
def rows_Key_0_0.ins : Sh := (.cons (.own 5 .byte) (.cons (.rbox 34 (.cons (.val (.int .i64)) (.cons (.val .bool) (.cons (.val (.int .i64)) (.cons (.val .str) .nil))))) (.cons (.val (.int .i64)) (.cons (.val (.int .i64)) .nil))))
def rows_Key_0_0.ts : List Tmp := [4, 6, 45, 46]
def rows_Key_0_0.asg : List Tmp := [4, 7, 46, 47, 48, 49, 50, 51, 52, 53, 54, 55, 56, 57, 58, 59, 60, 61, 62, 63, 64]
def rows_Key_0_0.C (N : Nat) : Ctx := { rows_Key_0.C N with may := fun t => rows_Key_0_0.asg.any (Nat.beq t) }
def rows_Key_0_0.code : Code := loopBody (sub rows_Key_0.code [true, true, false, false, true, true, false, true, true, true, false, true, false, true, false])
theorem rows_Key_0_0.cok (N : Nat) : (rows_Key_0_0.C N).Ok Try.prog := ⟨(rows_Key_0.cok N).U, (rows_Key_0.cok N).Γ, (rows_Key_0.cok N).Y⟩
def rows_Key_0_0.alts : List Alt := [⟨(.exit 3), [4], (.cons (.own 5 .byte) .nil)⟩]
def rows_Key_0_0.go (N : Nat) : Nat → (List UInt8) → Int → Bool → Int → (List UInt8) → Int → Int → Option (((List UInt8) × Unit))
  | 0, _, _, _, _, _, _, _ => none
  | fuel + 1, b, kind, bool, int, text, t45, t46 =>
    bif decide (t46 < t45) then
      bif inB t46 text.length then
        bif room (b.length + 1) 1 then
          bif inB t46 text.length then
            bif decide (((text.getD t46.toNat (0 : UInt8)).toNat : Int) = (0 : Int)) then
              bif room ((b ++ ([Hay.u8 ((text.getD t46.toNat (0 : UInt8)).toNat : Int)] : List UInt8)).length + 1) 1 then
                rows_Key_0_0.go N fuel ((b ++ ([Hay.u8 ((text.getD t46.toNat (0 : UInt8)).toNat : Int)] : List UInt8)) ++ ([(255 : UInt8)] : List UInt8)) kind bool int text t45 (IntKind.i64.wrap (t46 + (1 : Int)))
              else none
            else rows_Key_0_0.go N fuel (b ++ ([Hay.u8 ((text.getD t46.toNat (0 : UInt8)).toNat : Int)] : List UInt8)) kind bool int text t45 (IntKind.i64.wrap (t46 + (1 : Int)))
          else none
        else none
      else none
    else some (b, ())
def rows_Key_0_0.g (N n : Nat) (x : Sh.den rows_Key_0_0.ins) : Option (altsDen rows_Key_0_0.alts) := rows_Key_0_0.go N n x.1 x.2.1.1 x.2.1.2.1 x.2.1.2.2.1 x.2.1.2.2.2.1 x.2.2.1 x.2.2.2.1
def rows_Key_0_0.P (N : Nat) : Ps := ⟨rows_Key_0_0.ts, rows_Key_0_0.ins, rows_Key_0_0.asg, rows_Key_0_0.alts, rows_Key_0_0.g N N⟩
def rows_Key_0_0.lam (N : Nat) : Pcs := pcs []
theorem rows_Key_0_0.pok (N : Nat) : (rows_Key_0_0.lam N).Ok Try.prog (rows_Key_0_0.C N) rows_Key_0_0.code := pcsOk_nil
theorem rows_Key_0_0.ev (N n : Nat) (x : Sh.den rows_Key_0_0.ins) : evC (rows_Key_0_0.C N) rows_Key_0_0.code (rows_Key_0_0.lam N) ((rows_Key_0_0.P N).canon 1000 x) (loopK (rows_Key_0_0.P N) (rows_Key_0_0.g N n)) = rows_Key_0_0.g N (n + 1) x := by kernel_rfl
theorem rows_Key_0_0.ok (N : Nat) : ((rows_Key_0_0.P N).pc (rows_Key_0.C N)).Ok Try.prog (rows_Key_0.C N) (.loop rows_Key_0_0.code) := loop_ok (F := rows_Key_0_0.P N) (n0 := 1000) (N := N) (rows_Key_0.cok N) mix (rows_Key_0_0.pok N) (rows_Key_0_0.g N) (fun x => by rfl) rfl (fun n x y h => (rows_Key_0_0.ev N n x).trans h)
def rows_Key_0.alts : List Alt := [⟨(.exit 0), [4], (.cons (.own 5 .byte) .nil)⟩]
def rows_Key_0.go (N : Nat) : Nat → (List UInt8) → (List (Int × (Bool × (Int × (List UInt8))))) → Int → Int → Option (((List UInt8) × Unit))
  | 0, _, _, _, _ => none
  | fuel + 1, b, t11, t12, t13 =>
    bif decide (t13 < t12) then
      bif inB t13 t11.length then
        bif decide ((t11.getD t13.toNat ((0 : Int), false, (0 : Int), ([] : List UInt8))).1 = (2 : Int)) then
          bif room (b.length + 1) 1 then
            obind (rows_eight.run N (b ++ ([Hay.u8 (IntKind.u8.wrap (t11.getD t13.toNat ((0 : Int), false, (0 : Int), ([] : List UInt8))).1)] : List UInt8)) (IntKind.u64.wrap ((IntKind.u64.wrap (t11.getD t13.toNat ((0 : Int), false, (0 : Int), ([] : List UInt8))).2.2.1) + (9223372036854775808 : Int)))) fun (l, _) =>
              rows_Key_0.go N fuel l t11 t12 (IntKind.i64.wrap (t13 + (1 : Int)))
          else none
        else
          bif decide ((t11.getD t13.toNat ((0 : Int), false, (0 : Int), ([] : List UInt8))).1 = (3 : Int)) then
            bif room (b.length + 1) 1 then
              obind (rows_Key_0_0.go N N (b ++ ([Hay.u8 (IntKind.u8.wrap (t11.getD t13.toNat ((0 : Int), false, (0 : Int), ([] : List UInt8))).1)] : List UInt8)) (t11.getD t13.toNat ((0 : Int), false, (0 : Int), ([] : List UInt8))).1 (t11.getD t13.toNat ((0 : Int), false, (0 : Int), ([] : List UInt8))).2.1 (t11.getD t13.toNat ((0 : Int), false, (0 : Int), ([] : List UInt8))).2.2.1 (t11.getD t13.toNat ((0 : Int), false, (0 : Int), ([] : List UInt8))).2.2.2 ((t11.getD t13.toNat ((0 : Int), false, (0 : Int), ([] : List UInt8))).2.2.2.length : Int) (0 : Int)) fun (b1, _) =>
                bif room (b1.length + 2) 1 then
                  rows_Key_0.go N fuel (b1 ++ ([(0 : UInt8), (0 : UInt8)] : List UInt8)) t11 t12 (IntKind.i64.wrap (t13 + (1 : Int)))
                else none
            else none
          else
            obind (rows_one.run N b (t11.getD t13.toNat ((0 : Int), false, (0 : Int), ([] : List UInt8)))) fun (l1, _) =>
              rows_Key_0.go N fuel l1 t11 t12 (IntKind.i64.wrap (t13 + (1 : Int)))
      else none
    else some (b, ())
def rows_Key_0.g (N n : Nat) (x : Sh.den rows_Key_0.ins) : Option (altsDen rows_Key_0.alts) := rows_Key_0.go N n x.1 x.2.1 x.2.2.1 x.2.2.2.1
def rows_Key_0.P (N : Nat) : Ps := ⟨rows_Key_0.ts, rows_Key_0.ins, rows_Key_0.asg, rows_Key_0.alts, rows_Key_0.g N N⟩
def rows_Key_0.lam (N : Nat) : Pcs := pcs [([true, true, false, false, true, true, false, true, true, true, false, true, false, true, false], (rows_Key_0_0.P N).pc (rows_Key_0.C N))]
theorem rows_Key_0.pok (N : Nat) : (rows_Key_0.lam N).Ok Try.prog (rows_Key_0.C N) rows_Key_0.code := pcsOk_cons (c1 := .loop rows_Key_0_0.code) (by kernel_rfl) (rows_Key_0_0.ok N) (pcsOk_nil)
theorem rows_Key_0.ev (N n : Nat) (x : Sh.den rows_Key_0.ins) : evC (rows_Key_0.C N) rows_Key_0.code (rows_Key_0.lam N) ((rows_Key_0.P N).canon 1000 x) (loopK (rows_Key_0.P N) (rows_Key_0.g N n)) = rows_Key_0.g N (n + 1) x := by kernel_rfl
theorem rows_Key_0.ok (N : Nat) : ((rows_Key_0.P N).pc (rows_Key.C N)).Ok Try.prog (rows_Key.C N) (.loop rows_Key_0.code) := loop_ok (F := rows_Key_0.P N) (n0 := 1000) (N := N) (rows_Key.cok N) mix (rows_Key_0.pok N) (rows_Key_0.g N) (fun x => by rfl) rfl (fun n x y h => (rows_Key_0.ev N n x).trans h)
def rows_Key.outs : Sh := (.cons (.own 5 .byte) (.cons (.val (.int .i64)) .nil))
def rows_Key.run (N : Nat) (row : (List (Int × (Bool × (Int × (List UInt8)))))) : Option ((List UInt8) × Int × Unit) :=
  obind (rows_may.run N row) fun (b, _) =>
    bif !b then
      some (([] : List UInt8), (30 : Int), ())
    else
      obind (rows_Key_0.go N N ([] : List UInt8) row (row.length : Int) (0 : Int)) fun (b1, _) =>
        some (b1, (0 : Int), ())
def rows_Key.fn (N : Nat) (x : Sh.den rows_Key.ins) : Option (Sh.den rows_Key.outs) := rows_Key.run N x.1
def rows_Key.S (N : Nat) : Fs := ⟨rows_Key.ins, rows_Key.outs, rows_Key.fn N⟩
def rows_Key.lam (N : Nat) : Pcs := pcs [([true, true, true, false, true, false], (rows_Key_0.P N).pc (rows_Key.C N))]
theorem rows_Key.pok (N : Nat) : (rows_Key.lam N).Ok Try.prog (rows_Key.C N) rows_Key.code := pcsOk_cons (c1 := .loop rows_Key_0.code) (by kernel_rfl) (rows_Key_0.ok N) (pcsOk_nil)
theorem rows_Key.ev (N : Nat) (x : Sh.den rows_Key.ins) : evC (rows_Key.C N) rows_Key.code (rows_Key.lam N) ⟨envOf 0 (bld (fun k => k) rows_Key.ins x 0).1, (bld (fun k => k) rows_Key.ins x 0).2.1, 1000⟩ (endF U rows_Key.outs Try.f20.results.toList []) = rows_Key.fn N x := by kernel_rfl
theorem rows_Key.ok (N : Nat) : (rows_Key.S N).con.Ok Try.prog 20 := fn_ok (F := rows_Key.S N) (n0 := 1000) Try.func20 (by kernel_rfl) (show Try.f20.body = some rows_Key.code by rfl) mix (rows_Key.cok N) (fun _ => rfl) (fun _ => rfl) (rows_Key.pok N) (fun x y h => (rows_Key.ev N x).trans h)
/-- hayloft/hayloftref03.Key -/
def ref_Key.ins : Sh := (.cons (.val (.slice (.pair (.int .i64) (.pair .bool (.pair (.int .i64) .str))))) .nil)
def ref_Key.C (N : Nat) : Ctx := ⟨U, 72, fun _ => true, gam [(27, (ref_Right.S N).con), (28, (ref_One.S N).con), (35, (ref_Number.S N).con)], gamY []⟩
theorem ref_Key.cok (N : Nat) : (ref_Key.C N).Ok Try.prog := ⟨U_ok, GamOk.cons (ref_Right.ok N) (GamOk.cons (ref_One.ok N) (GamOk.cons (ref_Number.ok N) (GamOk.nil))), GamYOk.nil⟩
def ref_Key.code : Code := Try.f22.body.getD .skip
def ref_Key_0.ins : Sh := (.cons (.val (.slice (.pair (.int .i64) (.pair .bool (.pair (.int .i64) .str))))) (.cons (.own 5 .byte) (.cons (.val (.int .i64)) .nil)))
def ref_Key_0.ts : List Tmp := [0, 5, 6]
def ref_Key_0.asg : List Tmp := [5, 6, 7, 8, 13, 14, 15, 16, 17, 18, 19, 20, 21, 22, 23, 24, 25, 26, 27, 28, 29, 30, 31, 32, 33, 34, 35, 36, 37, 38, 39, 40, 41, 42, 43, 44, 45, 46, 47, 48, 49, 50, 51, 52, 53, 54, 55, 56, 57, 58, 59, 60, 61, 62, 63, 64, 65, 66, 67, 68, 69, 70]
def ref_Key_0.C (N : Nat) : Ctx := { ref_Key.C N with may := fun t => ref_Key_0.asg.any (Nat.beq t) }
def ref_Key_0.code : Code := loopBody (sub ref_Key.code [true, true, true, true, false, true, false])
theorem ref_Key_0.cok (N : Nat) : (ref_Key_0.C N).Ok Try.prog := ⟨(ref_Key.cok N).U, (ref_Key.cok N).Γ, (ref_Key.cok N).Y⟩
def ref_Key_0_0.ins : Sh := (.cons (.own 5 .byte) (.cons (.rbox 34 (.cons (.val (.int .i64)) (.cons (.val .bool) (.cons (.val (.int .i64)) (.cons (.val .str) .nil))))) (.cons (.val (.int .i64)) .nil)))
def ref_Key_0_0.ts : List Tmp := [5, 7, 8]
def ref_Key_0_0.asg : List Tmp := [5, 8, 46, 47, 48, 49, 50, 51, 52, 53, 54, 55, 56, 57, 58, 59, 60, 61, 62, 63, 64, 65, 66, 67]
def ref_Key_0_0.C (N : Nat) : Ctx := { ref_Key_0.C N with may := fun t => ref_Key_0_0.asg.any (Nat.beq t) }
def ref_Key_0_0.code : Code := loopBody (sub ref_Key_0.code [true, false, false, true, true, true, true, false, true, false])
theorem ref_Key_0_0.cok (N : Nat) : (ref_Key_0_0.C N).Ok Try.prog := ⟨(ref_Key_0.cok N).U, (ref_Key_0.cok N).Γ, (ref_Key_0.cok N).Y⟩
def ref_Key_0_0.alts : List Alt := [⟨(.exit 2), [5], (.cons (.own 5 .byte) .nil)⟩]
def ref_Key_0_0.go (N : Nat) : Nat → (List UInt8) → Int → Bool → Int → (List UInt8) → Int → Option (((List UInt8) × Unit))
  | 0, _, _, _, _, _, _ => none
  | fuel + 1, b, kind, bool, int, text, k =>
    bif decide (k < (text.length : Int)) then
      bif inB k text.length then
        bif room (b.length + 1) 1 then
          bif inB k text.length then
            bif decide (((text.getD k.toNat (0 : UInt8)).toNat : Int) = (0 : Int)) then
              bif room ((b ++ ([Hay.u8 ((text.getD k.toNat (0 : UInt8)).toNat : Int)] : List UInt8)).length + 1) 1 then
                ref_Key_0_0.go N fuel ((b ++ ([Hay.u8 ((text.getD k.toNat (0 : UInt8)).toNat : Int)] : List UInt8)) ++ ([(255 : UInt8)] : List UInt8)) kind bool int text (IntKind.i64.wrap (k + (1 : Int)))
              else none
            else ref_Key_0_0.go N fuel (b ++ ([Hay.u8 ((text.getD k.toNat (0 : UInt8)).toNat : Int)] : List UInt8)) kind bool int text (IntKind.i64.wrap (k + (1 : Int)))
          else none
        else none
      else none
    else some (b, ())
def ref_Key_0_0.g (N n : Nat) (x : Sh.den ref_Key_0_0.ins) : Option (altsDen ref_Key_0_0.alts) := ref_Key_0_0.go N n x.1 x.2.1.1 x.2.1.2.1 x.2.1.2.2.1 x.2.1.2.2.2.1 x.2.2.1
def ref_Key_0_0.P (N : Nat) : Ps := ⟨ref_Key_0_0.ts, ref_Key_0_0.ins, ref_Key_0_0.asg, ref_Key_0_0.alts, ref_Key_0_0.g N N⟩
def ref_Key_0_0.lam (N : Nat) : Pcs := pcs []
theorem ref_Key_0_0.pok (N : Nat) : (ref_Key_0_0.lam N).Ok Try.prog (ref_Key_0_0.C N) ref_Key_0_0.code := pcsOk_nil
theorem ref_Key_0_0.ev (N n : Nat) (x : Sh.den ref_Key_0_0.ins) : evC (ref_Key_0_0.C N) ref_Key_0_0.code (ref_Key_0_0.lam N) ((ref_Key_0_0.P N).canon 1000 x) (loopK (ref_Key_0_0.P N) (ref_Key_0_0.g N n)) = ref_Key_0_0.g N (n + 1) x := by kernel_rfl
theorem ref_Key_0_0.ok (N : Nat) : ((ref_Key_0_0.P N).pc (ref_Key_0.C N)).Ok Try.prog (ref_Key_0.C N) (.loop ref_Key_0_0.code) := loop_ok (F := ref_Key_0_0.P N) (n0 := 1000) (N := N) (ref_Key_0.cok N) mix (ref_Key_0_0.pok N) (ref_Key_0_0.g N) (fun x => by rfl) rfl (fun n x y h => (ref_Key_0_0.ev N n x).trans h)
def ref_Key_0.alts : List Alt := [⟨(.exit 0), [5], (.cons (.own 5 .byte) .nil)⟩]
def ref_Key_0.go (N : Nat) : Nat → (List (Int × (Bool × (Int × (List UInt8))))) → (List UInt8) → Int → Option (((List UInt8) × Unit))
  | 0, _, _, _ => none
  | fuel + 1, row, b, i =>
    bif decide (i < (row.length : Int)) then
      bif inB i row.length then
        bif decide ((row.getD i.toNat ((0 : Int), false, (0 : Int), ([] : List UInt8))).1 < (2 : Int)) then
          obind (ref_One.run N (row.getD i.toNat ((0 : Int), false, (0 : Int), ([] : List UInt8)))) fun (l, _) =>
            bif room (b.length + l.length) 1 then
              ref_Key_0.go N fuel row (b ++ l) (IntKind.i64.wrap (i + (1 : Int)))
            else none
        else
          bif room (b.length + 1) 1 then
            bif decide ((row.getD i.toNat ((0 : Int), false, (0 : Int), ([] : List UInt8))).1 = (2 : Int)) then
              obind (ref_Number.run N (IntKind.u64.wrap ((IntKind.u64.wrap (row.getD i.toNat ((0 : Int), false, (0 : Int), ([] : List UInt8))).2.2.1) + (9223372036854775808 : Int)))) fun (l1, _) =>
                bif room ((b ++ ([Hay.u8 (IntKind.u8.wrap (row.getD i.toNat ((0 : Int), false, (0 : Int), ([] : List UInt8))).1)] : List UInt8)).length + l1.length) 1 then
                  ref_Key_0.go N fuel row ((b ++ ([Hay.u8 (IntKind.u8.wrap (row.getD i.toNat ((0 : Int), false, (0 : Int), ([] : List UInt8))).1)] : List UInt8)) ++ l1) (IntKind.i64.wrap (i + (1 : Int)))
                else none
            else
              obind (ref_Key_0_0.go N N (b ++ ([Hay.u8 (IntKind.u8.wrap (row.getD i.toNat ((0 : Int), false, (0 : Int), ([] : List UInt8))).1)] : List UInt8)) (row.getD i.toNat ((0 : Int), false, (0 : Int), ([] : List UInt8))).1 (row.getD i.toNat ((0 : Int), false, (0 : Int), ([] : List UInt8))).2.1 (row.getD i.toNat ((0 : Int), false, (0 : Int), ([] : List UInt8))).2.2.1 (row.getD i.toNat ((0 : Int), false, (0 : Int), ([] : List UInt8))).2.2.2 (0 : Int)) fun (b1, _) =>
                bif room (b1.length + 2) 1 then
                  ref_Key_0.go N fuel row (b1 ++ ([(0 : UInt8), (0 : UInt8)] : List UInt8)) (IntKind.i64.wrap (i + (1 : Int)))
                else none
          else none
      else none
    else some (b, ())
def ref_Key_0.g (N n : Nat) (x : Sh.den ref_Key_0.ins) : Option (altsDen ref_Key_0.alts) := ref_Key_0.go N n x.1 x.2.1 x.2.2.1
def ref_Key_0.P (N : Nat) : Ps := ⟨ref_Key_0.ts, ref_Key_0.ins, ref_Key_0.asg, ref_Key_0.alts, ref_Key_0.g N N⟩
def ref_Key_0.lam (N : Nat) : Pcs := pcs [([true, false, false, true, true, true, true, false, true, false], (ref_Key_0_0.P N).pc (ref_Key_0.C N))]
theorem ref_Key_0.pok (N : Nat) : (ref_Key_0.lam N).Ok Try.prog (ref_Key_0.C N) ref_Key_0.code := pcsOk_cons (c1 := .loop ref_Key_0_0.code) (by kernel_rfl) (ref_Key_0_0.ok N) (pcsOk_nil)
theorem ref_Key_0.ev (N n : Nat) (x : Sh.den ref_Key_0.ins) : evC (ref_Key_0.C N) ref_Key_0.code (ref_Key_0.lam N) ((ref_Key_0.P N).canon 1000 x) (loopK (ref_Key_0.P N) (ref_Key_0.g N n)) = ref_Key_0.g N (n + 1) x := by kernel_rfl
theorem ref_Key_0.ok (N : Nat) : ((ref_Key_0.P N).pc (ref_Key.C N)).Ok Try.prog (ref_Key.C N) (.loop ref_Key_0.code) := loop_ok (F := ref_Key_0.P N) (n0 := 1000) (N := N) (ref_Key.cok N) mix (ref_Key_0.pok N) (ref_Key_0.g N) (fun x => by rfl) rfl (fun n x y h => (ref_Key_0.ev N n x).trans h)
def ref_Key.outs : Sh := (.cons (.own 5 .byte) (.cons (.val (.int .i64)) .nil))
def ref_Key.run (N : Nat) (row : (List (Int × (Bool × (Int × (List UInt8)))))) : Option ((List UInt8) × Int × Unit) :=
  obind (ref_Right.run N row) fun (b, _) =>
    bif !b then
      some (([] : List UInt8), (30 : Int), ())
    else
      obind (ref_Key_0.go N N row ([] : List UInt8) (0 : Int)) fun (b1, _) =>
        some (b1, (0 : Int), ())
def ref_Key.fn (N : Nat) (x : Sh.den ref_Key.ins) : Option (Sh.den ref_Key.outs) := ref_Key.run N x.1
def ref_Key.S (N : Nat) : Fs := ⟨ref_Key.ins, ref_Key.outs, ref_Key.fn N⟩
def ref_Key.lam (N : Nat) : Pcs := pcs [([true, true, true, true, false, true, false], (ref_Key_0.P N).pc (ref_Key.C N))]
theorem ref_Key.pok (N : Nat) : (ref_Key.lam N).Ok Try.prog (ref_Key.C N) ref_Key.code := pcsOk_cons (c1 := .loop ref_Key_0.code) (by kernel_rfl) (ref_Key_0.ok N) (pcsOk_nil)
theorem ref_Key.ev (N : Nat) (x : Sh.den ref_Key.ins) : evC (ref_Key.C N) ref_Key.code (ref_Key.lam N) ⟨envOf 0 (bld (fun k => k) ref_Key.ins x 0).1, (bld (fun k => k) ref_Key.ins x 0).2.1, 1000⟩ (endF U ref_Key.outs Try.f22.results.toList []) = ref_Key.fn N x := by kernel_rfl
theorem ref_Key.ok (N : Nat) : (ref_Key.S N).con.Ok Try.prog 22 := fn_ok (F := ref_Key.S N) (n0 := 1000) Try.func22 (by kernel_rfl) (show Try.f22.body = some ref_Key.code by rfl) mix (ref_Key.cok N) (fun _ => rfl) (fun _ => rfl) (ref_Key.pok N) (fun x y h => (ref_Key.ev N x).trans h)
/-- hayloft/rows.text -/
def rows_text.ins : Sh := (.cons (.val (.slice .byte)) .nil)
def rows_text.C (N : Nat) : Ctx := ⟨U, 40, fun _ => true, gam [], gamY []⟩
theorem rows_text.cok (N : Nat) : (rows_text.C N).Ok Try.prog := ⟨U_ok, GamOk.nil, GamYOk.nil⟩
def rows_text.code : Code := Try.f38.body.getD .skip
def rows_text_0.ins : Sh := (.cons (.val (.slice .byte)) (.cons (.own 5 .byte) .nil))
def rows_text_0.ts : List Tmp := [0, 5]
def rows_text_0.asg : List Tmp := [0, 2, 3, 4, 5, 6, 7, 8, 9, 10, 11, 12, 13, 14, 15, 16, 17, 18, 19, 20, 21, 22, 23, 24, 25, 26, 27, 28, 29, 30, 31, 32, 33, 34, 35, 36, 37, 38, 39]
def rows_text_0.C (N : Nat) : Ctx := { rows_text.C N with may := fun t => rows_text_0.asg.any (Nat.beq t) }
def rows_text_0.code : Code := loopBody (sub rows_text.code [true, true, false, false])
theorem rows_text_0.cok (N : Nat) : (rows_text_0.C N).Ok Try.prog := ⟨(rows_text.cok N).U, (rows_text.cok N).Γ, (rows_text.cok N).Y⟩
def rows_text_0.alts : List Alt := [⟨.ret, [2, 3, 4], (.cons (.val .str) (.cons (.val (.slice .byte)) (.cons (.val .bool) .nil)))⟩, ⟨(.exit 0), [], .nil⟩]
def rows_text_0.go (N : Nat) : Nat → (List UInt8) → (List UInt8) → Option (((List UInt8) × (List UInt8) × Bool × Unit) ⊕ Unit)
  | 0, _, _ => none
  | fuel + 1, b, s =>
    bif decide ((b.length : Int) ≥ (2 : Int)) then
      bif inB (0 : Int) b.length then
        bif !(decide (((b.getD 0 (0 : UInt8)).toNat : Int) = (0 : Int))) then
          bif inB (0 : Int) b.length then
            bif room (s.length + 1) 1 then
              bif okB (1 : Int) (b.length : Int) b.length then
                rows_text_0.go N fuel (b.drop 1) (s ++ ([Hay.u8 ((b.getD 0 (0 : UInt8)).toNat : Int)] : List UInt8))
              else none
            else none
          else none
        else
          bif inB (1 : Int) b.length then
            bif decide (((b.getD 1 (0 : UInt8)).toNat : Int) = (255 : Int)) then
              bif room (s.length + 1) 1 then
                bif okB (2 : Int) (b.length : Int) b.length then
                  rows_text_0.go N fuel (b.drop 2) (s ++ ([(0 : UInt8)] : List UInt8))
                else none
              else none
            else
              bif okB (2 : Int) (b.length : Int) b.length then
                bif inB (1 : Int) b.length then
                  some (.inl (s, b.drop 2, decide (((b.getD 1 (0 : UInt8)).toNat : Int) = (0 : Int)), ()))
                else none
              else none
          else none
      else none
    else some (.inr ())
def rows_text_0.g (N n : Nat) (x : Sh.den rows_text_0.ins) : Option (altsDen rows_text_0.alts) := rows_text_0.go N n x.1 x.2.1
def rows_text_0.P (N : Nat) : Ps := ⟨rows_text_0.ts, rows_text_0.ins, rows_text_0.asg, rows_text_0.alts, rows_text_0.g N N⟩
def rows_text_0.lam (N : Nat) : Pcs := pcs []
theorem rows_text_0.pok (N : Nat) : (rows_text_0.lam N).Ok Try.prog (rows_text_0.C N) rows_text_0.code := pcsOk_nil
theorem rows_text_0.ev (N n : Nat) (x : Sh.den rows_text_0.ins) : evC (rows_text_0.C N) rows_text_0.code (rows_text_0.lam N) ((rows_text_0.P N).canon 1000 x) (loopK (rows_text_0.P N) (rows_text_0.g N n)) = rows_text_0.g N (n + 1) x := by kernel_rfl
theorem rows_text_0.ok (N : Nat) : ((rows_text_0.P N).pc (rows_text.C N)).Ok Try.prog (rows_text.C N) (.loop rows_text_0.code) := loop_ok (F := rows_text_0.P N) (n0 := 1000) (N := N) (rows_text.cok N) mix (rows_text_0.pok N) (rows_text_0.g N) (fun x => by rfl) rfl (fun n x y h => (rows_text_0.ev N n x).trans h)
def rows_text.outs : Sh := (.cons (.val .str) (.cons (.val (.slice .byte)) (.cons (.val .bool) .nil)))
def rows_text.run (N : Nat) (b : (List UInt8)) : Option ((List UInt8) × (List UInt8) × Bool × Unit) :=
  obind (rows_text_0.go N N b ([] : List UInt8)) fun y => match y with
  | .inl (t2, t3, t4, _) =>
      some (t2, t3, t4, ())
  | .inr (_) =>
      some (([] : List UInt8), ([] : List UInt8), false, ())
def rows_text.fn (N : Nat) (x : Sh.den rows_text.ins) : Option (Sh.den rows_text.outs) := rows_text.run N x.1
def rows_text.S (N : Nat) : Fs := ⟨rows_text.ins, rows_text.outs, rows_text.fn N⟩
def rows_text.lam (N : Nat) : Pcs := pcs [([true, true, false, false], (rows_text_0.P N).pc (rows_text.C N))]
theorem rows_text.pok (N : Nat) : (rows_text.lam N).Ok Try.prog (rows_text.C N) rows_text.code := pcsOk_cons (c1 := .loop rows_text_0.code) (by kernel_rfl) (rows_text_0.ok N) (pcsOk_nil)
theorem rows_text.ev (N : Nat) (x : Sh.den rows_text.ins) : evC (rows_text.C N) rows_text.code (rows_text.lam N) ⟨envOf 0 (bld (fun k => k) rows_text.ins x 0).1, (bld (fun k => k) rows_text.ins x 0).2.1, 1000⟩ (endF U rows_text.outs Try.f38.results.toList []) = rows_text.fn N x := by kernel_rfl
theorem rows_text.ok (N : Nat) : (rows_text.S N).con.Ok Try.prog 38 := fn_ok (F := rows_text.S N) (n0 := 1000) Try.func38 (by kernel_rfl) (show Try.f38.body = some rows_text.code by rfl) mix (rows_text.cok N) (fun _ => rfl) (fun _ => rfl) (rows_text.pok N) (fun x y h => (rows_text.ev N x).trans h)
/-- hayloft/rows.Key -/
def rows_Key_b.ins : Sh := (.cons (.rown 34 (.pair (.int .i64) (.pair .bool (.pair (.int .i64) .str)))) .nil)
def rows_Key_b.C (N : Nat) : Ctx := ⟨U, 70, fun _ => true, gam [(25, (rows_may_b.S N).con), (33, (rows_eight.S N).con), (26, (rows_one.S N).con)], gamY []⟩
theorem rows_Key_b.cok (N : Nat) : (rows_Key_b.C N).Ok Try.prog := ⟨U_ok, GamOk.cons (rows_may_b.ok N) (GamOk.cons (rows_eight.ok N) (GamOk.cons (rows_one.ok N) (GamOk.nil))), GamYOk.nil⟩
def rows_Key_b.code : Code := Try.f20.body.getD .skip
def rows_Key_b_0.ins : Sh := (.cons (.own 5 .byte) (.cons (.rown 34 (.pair (.int .i64) (.pair .bool (.pair (.int .i64) .str)))) (.cons (.val (.int .i64)) (.cons (.val (.int .i64)) .nil))))
def rows_Key_b_0.ts : List Tmp := [4, 11, 12, 13]
def rows_Key_b_0.asg : List Tmp := [4, 6, 7, 13, 14, 15, 16, 17, 18, 19, 20, 21, 22, 23, 24, 25, 26, 27, 28, 29, 30, 31, 32, 33, 34, 35, 36, 37, 38, 39, 40, 41, 42, 43, 44, 45, 46, 47, 48, 49, 50, 51, 52, 53, 54, 55, 56, 57, 58, 59, 60, 61, 62, 63, 64, 65, 66, 67, 68]
def rows_Key_b_0.C (N : Nat) : Ctx := { rows_Key_b.C N with may := fun t => rows_Key_b_0.asg.any (Nat.beq t) }
def rows_Key_b_0.code : Code := loopBody (sub rows_Key_b.code [true, true, true, false, true, false])
theorem rows_Key_b_0.cok (N : Nat) : (rows_Key_b_0.C N).Ok Try.prog := ⟨(rows_Key_b.cok N).U, (rows_Key_b.cok N).Γ, (rows_Key_b.cok N).Y⟩
def rows_Key_b_0_0.ins : Sh := (.cons (.own 5 .byte) (.cons (.rbox 34 (.cons (.val (.int .i64)) (.cons (.val .bool) (.cons (.val (.int .i64)) (.cons (.val .str) .nil))))) (.cons (.val (.int .i64)) (.cons (.val (.int .i64)) .nil))))
def rows_Key_b_0_0.ts : List Tmp := [4, 6, 45, 46]
def rows_Key_b_0_0.asg : List Tmp := [4, 7, 46, 47, 48, 49, 50, 51, 52, 53, 54, 55, 56, 57, 58, 59, 60, 61, 62, 63, 64]
def rows_Key_b_0_0.C (N : Nat) : Ctx := { rows_Key_b_0.C N with may := fun t => rows_Key_b_0_0.asg.any (Nat.beq t) }
def rows_Key_b_0_0.code : Code := loopBody (sub rows_Key_b_0.code [true, true, false, false, true, true, false, true, true, true, false, true, false, true, false])
theorem rows_Key_b_0_0.cok (N : Nat) : (rows_Key_b_0_0.C N).Ok Try.prog := ⟨(rows_Key_b_0.cok N).U, (rows_Key_b_0.cok N).Γ, (rows_Key_b_0.cok N).Y⟩
def rows_Key_b_0_0.alts : List Alt := [⟨(.exit 3), [4], (.cons (.own 5 .byte) .nil)⟩]
def rows_Key_b_0_0.go (N : Nat) : Nat → (List UInt8) → Int → Bool → Int → (List UInt8) → Int → Int → Option (((List UInt8) × Unit))
  | 0, _, _, _, _, _, _, _ => none
  | fuel + 1, b, kind, bool, int, text, t45, t46 =>
    bif decide (t46 < t45) then
      bif inB t46 text.length then
        bif room (b.length + 1) 1 then
          bif inB t46 text.length then
            bif decide (((text.getD t46.toNat (0 : UInt8)).toNat : Int) = (0 : Int)) then
              bif room ((b ++ ([Hay.u8 ((text.getD t46.toNat (0 : UInt8)).toNat : Int)] : List UInt8)).length + 1) 1 then
                rows_Key_b_0_0.go N fuel ((b ++ ([Hay.u8 ((text.getD t46.toNat (0 : UInt8)).toNat : Int)] : List UInt8)) ++ ([(255 : UInt8)] : List UInt8)) kind bool int text t45 (IntKind.i64.wrap (t46 + (1 : Int)))
              else none
            else rows_Key_b_0_0.go N fuel (b ++ ([Hay.u8 ((text.getD t46.toNat (0 : UInt8)).toNat : Int)] : List UInt8)) kind bool int text t45 (IntKind.i64.wrap (t46 + (1 : Int)))
          else none
        else none
      else none
    else some (b, ())
def rows_Key_b_0_0.g (N n : Nat) (x : Sh.den rows_Key_b_0_0.ins) : Option (altsDen rows_Key_b_0_0.alts) := rows_Key_b_0_0.go N n x.1 x.2.1.1 x.2.1.2.1 x.2.1.2.2.1 x.2.1.2.2.2.1 x.2.2.1 x.2.2.2.1
def rows_Key_b_0_0.P (N : Nat) : Ps := ⟨rows_Key_b_0_0.ts, rows_Key_b_0_0.ins, rows_Key_b_0_0.asg, rows_Key_b_0_0.alts, rows_Key_b_0_0.g N N⟩
def rows_Key_b_0_0.lam (N : Nat) : Pcs := pcs []
theorem rows_Key_b_0_0.pok (N : Nat) : (rows_Key_b_0_0.lam N).Ok Try.prog (rows_Key_b_0_0.C N) rows_Key_b_0_0.code := pcsOk_nil
theorem rows_Key_b_0_0.ev (N n : Nat) (x : Sh.den rows_Key_b_0_0.ins) : evC (rows_Key_b_0_0.C N) rows_Key_b_0_0.code (rows_Key_b_0_0.lam N) ((rows_Key_b_0_0.P N).canon 1000 x) (loopK (rows_Key_b_0_0.P N) (rows_Key_b_0_0.g N n)) = rows_Key_b_0_0.g N (n + 1) x := by kernel_rfl
theorem rows_Key_b_0_0.ok (N : Nat) : ((rows_Key_b_0_0.P N).pc (rows_Key_b_0.C N)).Ok Try.prog (rows_Key_b_0.C N) (.loop rows_Key_b_0_0.code) := loop_ok (F := rows_Key_b_0_0.P N) (n0 := 1000) (N := N) (rows_Key_b_0.cok N) mix (rows_Key_b_0_0.pok N) (rows_Key_b_0_0.g N) (fun x => by rfl) rfl (fun n x y h => (rows_Key_b_0_0.ev N n x).trans h)
def rows_Key_b_0.alts : List Alt := [⟨(.exit 0), [4], (.cons (.own 5 .byte) .nil)⟩]
def rows_Key_b_0.go (N : Nat) : Nat → (List UInt8) → (List (Int × (Bool × (Int × (List UInt8))))) → Int → Int → Option (((List UInt8) × Unit))
  | 0, _, _, _, _ => none
  | fuel + 1, b, t11, t12, t13 =>
    bif decide (t13 < t12) then
      bif inB t13 t11.length then
        bif decide (t13.toNat < t11.length) then
          bif decide ((t11.getD t13.toNat ((0 : Int), false, (0 : Int), ([] : List UInt8))).1 = (2 : Int)) then
            bif room (b.length + 1) 1 then
              obind (rows_eight.run N (b ++ ([Hay.u8 (IntKind.u8.wrap (t11.getD t13.toNat ((0 : Int), false, (0 : Int), ([] : List UInt8))).1)] : List UInt8)) (IntKind.u64.wrap ((IntKind.u64.wrap (t11.getD t13.toNat ((0 : Int), false, (0 : Int), ([] : List UInt8))).2.2.1) + (9223372036854775808 : Int)))) fun (l, _) =>
                rows_Key_b_0.go N fuel l t11 t12 (IntKind.i64.wrap (t13 + (1 : Int)))
            else none
          else
            bif decide ((t11.getD t13.toNat ((0 : Int), false, (0 : Int), ([] : List UInt8))).1 = (3 : Int)) then
              bif room (b.length + 1) 1 then
                obind (rows_Key_b_0_0.go N N (b ++ ([Hay.u8 (IntKind.u8.wrap (t11.getD t13.toNat ((0 : Int), false, (0 : Int), ([] : List UInt8))).1)] : List UInt8)) (t11.getD t13.toNat ((0 : Int), false, (0 : Int), ([] : List UInt8))).1 (t11.getD t13.toNat ((0 : Int), false, (0 : Int), ([] : List UInt8))).2.1 (t11.getD t13.toNat ((0 : Int), false, (0 : Int), ([] : List UInt8))).2.2.1 (t11.getD t13.toNat ((0 : Int), false, (0 : Int), ([] : List UInt8))).2.2.2 ((t11.getD t13.toNat ((0 : Int), false, (0 : Int), ([] : List UInt8))).2.2.2.length : Int) (0 : Int)) fun (b1, _) =>
                  bif room (b1.length + 2) 1 then
                    rows_Key_b_0.go N fuel (b1 ++ ([(0 : UInt8), (0 : UInt8)] : List UInt8)) t11 t12 (IntKind.i64.wrap (t13 + (1 : Int)))
                  else none
              else none
            else
              obind (rows_one.run N b (t11.getD t13.toNat ((0 : Int), false, (0 : Int), ([] : List UInt8)))) fun (l1, _) =>
                rows_Key_b_0.go N fuel l1 t11 t12 (IntKind.i64.wrap (t13 + (1 : Int)))
        else none
      else none
    else some (b, ())
def rows_Key_b_0.g (N n : Nat) (x : Sh.den rows_Key_b_0.ins) : Option (altsDen rows_Key_b_0.alts) := rows_Key_b_0.go N n x.1 x.2.1 x.2.2.1 x.2.2.2.1
def rows_Key_b_0.P (N : Nat) : Ps := ⟨rows_Key_b_0.ts, rows_Key_b_0.ins, rows_Key_b_0.asg, rows_Key_b_0.alts, rows_Key_b_0.g N N⟩
def rows_Key_b_0.lam (N : Nat) : Pcs := pcs [([true, true, false, false, true, true, false, true, true, true, false, true, false, true, false], (rows_Key_b_0_0.P N).pc (rows_Key_b_0.C N))]
theorem rows_Key_b_0.pok (N : Nat) : (rows_Key_b_0.lam N).Ok Try.prog (rows_Key_b_0.C N) rows_Key_b_0.code := pcsOk_cons (c1 := .loop rows_Key_b_0_0.code) (by kernel_rfl) (rows_Key_b_0_0.ok N) (pcsOk_nil)
theorem rows_Key_b_0.ev (N n : Nat) (x : Sh.den rows_Key_b_0.ins) : evC (rows_Key_b_0.C N) rows_Key_b_0.code (rows_Key_b_0.lam N) ((rows_Key_b_0.P N).canon 1000 x) (loopK (rows_Key_b_0.P N) (rows_Key_b_0.g N n)) = rows_Key_b_0.g N (n + 1) x := by kernel_rfl
theorem rows_Key_b_0.ok (N : Nat) : ((rows_Key_b_0.P N).pc (rows_Key_b.C N)).Ok Try.prog (rows_Key_b.C N) (.loop rows_Key_b_0.code) := loop_ok (F := rows_Key_b_0.P N) (n0 := 1000) (N := N) (rows_Key_b.cok N) mix (rows_Key_b_0.pok N) (rows_Key_b_0.g N) (fun x => by rfl) rfl (fun n x y h => (rows_Key_b_0.ev N n x).trans h)
def rows_Key_b.outs : Sh := (.cons (.own 5 .byte) (.cons (.val (.int .i64)) .nil))
def rows_Key_b.run (N : Nat) (row : (List (Int × (Bool × (Int × (List UInt8)))))) : Option ((List UInt8) × Int × Unit) :=
  obind (rows_may_b.run N row) fun (b, _) =>
    bif !b then
      some (([] : List UInt8), (30 : Int), ())
    else
      obind (rows_Key_b_0.go N N ([] : List UInt8) row (row.length : Int) (0 : Int)) fun (b1, _) =>
        some (b1, (0 : Int), ())
def rows_Key_b.fn (N : Nat) (x : Sh.den rows_Key_b.ins) : Option (Sh.den rows_Key_b.outs) := rows_Key_b.run N x.1
def rows_Key_b.S (N : Nat) : Fs := ⟨rows_Key_b.ins, rows_Key_b.outs, rows_Key_b.fn N⟩
def rows_Key_b.lam (N : Nat) : Pcs := pcs [([true, true, true, false, true, false], (rows_Key_b_0.P N).pc (rows_Key_b.C N))]
theorem rows_Key_b.pok (N : Nat) : (rows_Key_b.lam N).Ok Try.prog (rows_Key_b.C N) rows_Key_b.code := pcsOk_cons (c1 := .loop rows_Key_b_0.code) (by kernel_rfl) (rows_Key_b_0.ok N) (pcsOk_nil)
theorem rows_Key_b.ev (N : Nat) (x : Sh.den rows_Key_b.ins) : evC (rows_Key_b.C N) rows_Key_b.code (rows_Key_b.lam N) ⟨envOf 0 (bld (fun k => k) rows_Key_b.ins x 0).1, (bld (fun k => k) rows_Key_b.ins x 0).2.1, 1000⟩ (endF U rows_Key_b.outs Try.f20.results.toList []) = rows_Key_b.fn N x := by kernel_rfl
theorem rows_Key_b.ok (N : Nat) : (rows_Key_b.S N).con.Ok Try.prog 20 := fn_ok (F := rows_Key_b.S N) (n0 := 1000) Try.func20 (by kernel_rfl) (show Try.f20.body = some rows_Key_b.code by rfl) mix (rows_Key_b.cok N) (fun _ => rfl) (fun _ => rfl) (rows_Key_b.pok N) (fun x y h => (rows_Key_b.ev N x).trans h)
/-- bytes.Equal -/
def bytes_Equal.ins : Sh := (.cons (.rown 5 .byte) (.cons (.val (.slice .byte)) .nil))
def bytes_Equal.C (N : Nat) : Ctx := ⟨U, 10, fun _ => true, gam [], gamY []⟩
theorem bytes_Equal.cok (N : Nat) : (bytes_Equal.C N).Ok Try.prog := ⟨U_ok, GamOk.nil, GamYOk.nil⟩
def bytes_Equal.code : Code := Try.f40.body.getD .skip
def bytes_Equal.outs : Sh := (.cons (.val .bool) .nil)
def bytes_Equal.run (N : Nat) (a : (List UInt8)) (b : (List UInt8)) : Option (Bool × Unit) :=
  some (decide (a = b), ())
def bytes_Equal.fn (N : Nat) (x : Sh.den bytes_Equal.ins) : Option (Sh.den bytes_Equal.outs) := bytes_Equal.run N x.1 x.2.1
def bytes_Equal.S (N : Nat) : Fs := ⟨bytes_Equal.ins, bytes_Equal.outs, bytes_Equal.fn N⟩
def bytes_Equal.lam (N : Nat) : Pcs := pcs []
theorem bytes_Equal.pok (N : Nat) : (bytes_Equal.lam N).Ok Try.prog (bytes_Equal.C N) bytes_Equal.code := pcsOk_nil
theorem bytes_Equal.ev (N : Nat) (x : Sh.den bytes_Equal.ins) : evC (bytes_Equal.C N) bytes_Equal.code (bytes_Equal.lam N) ⟨envOf 0 (bld (fun k => k) bytes_Equal.ins x 0).1, (bld (fun k => k) bytes_Equal.ins x 0).2.1, 1000⟩ (endF U bytes_Equal.outs Try.f40.results.toList []) = bytes_Equal.fn N x := by kernel_rfl
theorem bytes_Equal.ok (N : Nat) : (bytes_Equal.S N).con.Ok Try.prog 40 := fn_ok (F := bytes_Equal.S N) (n0 := 1000) Try.func40 (by kernel_rfl) (show Try.f40.body = some bytes_Equal.code by rfl) mix (bytes_Equal.cok N) (fun _ => rfl) (fun _ => rfl) (bytes_Equal.pok N) (fun x y h => (bytes_Equal.ev N x).trans h)
/-- hayloft/rows.Unkey -/
def rows_Unkey.ins : Sh := (.cons (.val (.slice .byte)) .nil)
def rows_Unkey.C (N : Nat) : Ctx := ⟨U, 78, fun _ => true, gam [(37, (rows_number.S N).con), (36, (value_Int.S N).con), (38, (rows_text.S N).con), (39, (value_Text.S N).con), (29, (rows_read.S N).con), (20, (rows_Key_b.S N).con), (40, (bytes_Equal.S N).con)], gamY []⟩
theorem rows_Unkey.cok (N : Nat) : (rows_Unkey.C N).Ok Try.prog := ⟨U_ok, GamOk.cons (rows_number.ok N) (GamOk.cons (value_Int.ok N) (GamOk.cons (rows_text.ok N) (GamOk.cons (value_Text.ok N) (GamOk.cons (rows_read.ok N) (GamOk.cons (rows_Key_b.ok N) (GamOk.cons (bytes_Equal.ok N) (GamOk.nil))))))), GamYOk.nil⟩
def rows_Unkey.code : Code := Try.f23.body.getD .skip
def rows_Unkey_0.ins : Sh := (.cons (.own 34 (.pair (.int .i64) (.pair .bool (.pair (.int .i64) .str)))) (.cons (.val (.slice .byte)) .nil))
def rows_Unkey_0.ts : List Tmp := [4, 5]
def rows_Unkey_0.asg : List Tmp := [2, 3, 4, 5, 6, 7, 8, 12, 13, 14, 15, 16, 17, 18, 19, 20, 21, 22, 23, 24, 25, 26, 27, 28, 29, 30, 31, 32, 33, 34, 35, 36, 37, 38, 39, 40, 41, 42, 43, 44, 45, 46, 47, 48, 49, 50, 51, 52, 53, 54, 55, 56, 57, 58, 59, 60, 61, 62, 63]
def rows_Unkey_0.C (N : Nat) : Ctx := { rows_Unkey.C N with may := fun t => rows_Unkey_0.asg.any (Nat.beq t) }
def rows_Unkey_0.code : Code := loopBody (sub rows_Unkey.code [true, true, true, false, false])
theorem rows_Unkey_0.cok (N : Nat) : (rows_Unkey_0.C N).Ok Try.prog := ⟨(rows_Unkey.cok N).U, (rows_Unkey.cok N).Γ, (rows_Unkey.cok N).Y⟩
def rows_Unkey_0_0.ins : Sh := (.cons (.val (.slice .byte)) .nil)
def rows_Unkey_0_0.ts : List Tmp := [5]
def rows_Unkey_0_0.asg : List Tmp := [21, 22, 23, 24, 25, 26, 27, 28, 29, 30]
def rows_Unkey_0_0.C (N : Nat) : Ctx := { rows_Unkey_0.C N with may := fun t => rows_Unkey_0_0.asg.any (Nat.beq t) }
def rows_Unkey_0_0.code : Code := (sub rows_Unkey_0.code [true, false, true, true, false, false, false]).getD .skip
theorem rows_Unkey_0_0.cok (N : Nat) : (rows_Unkey_0_0.C N).Ok Try.prog := ⟨(rows_Unkey_0.cok N).U, (rows_Unkey_0.cok N).Γ, (rows_Unkey_0.cok N).Y⟩
def rows_Unkey_0_0.alts : List Alt := [⟨.normal, [21], (.cons (.val .bool) .nil)⟩]
def rows_Unkey_0_0.run (N : Nat) (rest : (List UInt8)) : Option ((Bool × Unit)) :=
  bif inB (0 : Int) rest.length then
    bif decide (((rest.getD 0 (0 : UInt8)).toNat : Int) = (2 : Int)) then
      some (decide ((rest.length : Int) ≥ (9 : Int)), ())
    else some (false, ())
  else none
def rows_Unkey_0_0.fn (N : Nat) (x : Sh.den rows_Unkey_0_0.ins) : Option (altsDen rows_Unkey_0_0.alts) := rows_Unkey_0_0.run N x.1
def rows_Unkey_0_0.P (N : Nat) : Ps := ⟨rows_Unkey_0_0.ts, rows_Unkey_0_0.ins, rows_Unkey_0_0.asg, rows_Unkey_0_0.alts, rows_Unkey_0_0.fn N⟩
def rows_Unkey_0_0.lam (N : Nat) : Pcs := pcs []
theorem rows_Unkey_0_0.pok (N : Nat) : (rows_Unkey_0_0.lam N).Ok Try.prog (rows_Unkey_0_0.C N) rows_Unkey_0_0.code := pcsOk_nil
theorem rows_Unkey_0_0.ev (N : Nat) (x : Sh.den rows_Unkey_0_0.ins) : evC (rows_Unkey_0_0.C N) rows_Unkey_0_0.code (rows_Unkey_0_0.lam N) ((rows_Unkey_0_0.P N).canon 1000 x) (altK (rows_Unkey_0_0.P N).alts) = rows_Unkey_0_0.fn N x := by kernel_rfl
theorem rows_Unkey_0_0.ok (N : Nat) : ((rows_Unkey_0_0.P N).pc (rows_Unkey_0.C N)).Ok Try.prog (rows_Unkey_0.C N) rows_Unkey_0_0.code := ps_ok (F := rows_Unkey_0_0.P N) (n0 := 1000) (rows_Unkey_0.cok N) mix (rows_Unkey_0_0.pok N) (fun x y h => (rows_Unkey_0_0.ev N x).trans h)
def rows_Unkey_0_1.ins : Sh := (.cons (.val (.slice .byte)) (.cons (.box 34 (.cons (.val (.int .i64)) (.cons (.val .bool) (.cons (.val (.int .i64)) (.cons (.val .str) .nil))))) (.cons (.val .bool) .nil)))
def rows_Unkey_0_1.ts : List Tmp := [5, 6, 7]
def rows_Unkey_0_1.asg : List Tmp := [5, 7, 8, 15, 16, 17, 18, 19, 20, 21, 22, 23, 24, 25, 26, 27, 28, 29, 30, 31, 32, 33, 34, 35, 36, 37, 38, 39, 40, 41, 42, 43, 44, 45, 46, 47, 48, 49, 50, 51, 52]
def rows_Unkey_0_1.C (N : Nat) : Ctx := { rows_Unkey_0.C N with may := fun t => rows_Unkey_0_1.asg.any (Nat.beq t) }
def rows_Unkey_0_1.code : Code := (sub rows_Unkey_0.code [true, false, true, true, false]).getD .skip
theorem rows_Unkey_0_1.cok (N : Nat) : (rows_Unkey_0_1.C N).Ok Try.prog := ⟨(rows_Unkey_0.cok N).U, (rows_Unkey_0.cok N).Γ, (rows_Unkey_0.cok N).Y⟩
def rows_Unkey_0_1_0.ins : Sh := (.cons (.val (.slice .byte)) .nil)
def rows_Unkey_0_1_0.ts : List Tmp := [5]
def rows_Unkey_0_1_0.asg : List Tmp := [21, 22, 23, 24, 25, 26, 27, 28, 29, 30]
def rows_Unkey_0_1_0.C (N : Nat) : Ctx := { rows_Unkey_0_1.C N with may := fun t => rows_Unkey_0_1_0.asg.any (Nat.beq t) }
def rows_Unkey_0_1_0.code : Code := (sub rows_Unkey_0_1.code [false, false]).getD .skip
theorem rows_Unkey_0_1_0.cok (N : Nat) : (rows_Unkey_0_1_0.C N).Ok Try.prog := ⟨(rows_Unkey_0_1.cok N).U, (rows_Unkey_0_1.cok N).Γ, (rows_Unkey_0_1.cok N).Y⟩
def rows_Unkey_0_1_0.alts : List Alt := [⟨.normal, [21], (.cons (.val .bool) .nil)⟩]
def rows_Unkey_0_1_0.run (N : Nat) (rest : (List UInt8)) : Option ((Bool × Unit)) :=
  bif inB (0 : Int) rest.length then
    bif decide (((rest.getD 0 (0 : UInt8)).toNat : Int) = (2 : Int)) then
      some (decide ((rest.length : Int) ≥ (9 : Int)), ())
    else some (false, ())
  else none
def rows_Unkey_0_1_0.fn (N : Nat) (x : Sh.den rows_Unkey_0_1_0.ins) : Option (altsDen rows_Unkey_0_1_0.alts) := rows_Unkey_0_1_0.run N x.1
def rows_Unkey_0_1_0.P (N : Nat) : Ps := ⟨rows_Unkey_0_1_0.ts, rows_Unkey_0_1_0.ins, rows_Unkey_0_1_0.asg, rows_Unkey_0_1_0.alts, rows_Unkey_0_1_0.fn N⟩
def rows_Unkey_0_1_0.lam (N : Nat) : Pcs := pcs []
theorem rows_Unkey_0_1_0.pok (N : Nat) : (rows_Unkey_0_1_0.lam N).Ok Try.prog (rows_Unkey_0_1_0.C N) rows_Unkey_0_1_0.code := pcsOk_nil
theorem rows_Unkey_0_1_0.ev (N : Nat) (x : Sh.den rows_Unkey_0_1_0.ins) : evC (rows_Unkey_0_1_0.C N) rows_Unkey_0_1_0.code (rows_Unkey_0_1_0.lam N) ((rows_Unkey_0_1_0.P N).canon 1000 x) (altK (rows_Unkey_0_1_0.P N).alts) = rows_Unkey_0_1_0.fn N x := by kernel_rfl
theorem rows_Unkey_0_1_0.ok (N : Nat) : ((rows_Unkey_0_1_0.P N).pc (rows_Unkey_0_1.C N)).Ok Try.prog (rows_Unkey_0_1.C N) rows_Unkey_0_1_0.code := ps_ok (F := rows_Unkey_0_1_0.P N) (n0 := 1000) (rows_Unkey_0_1.cok N) mix (rows_Unkey_0_1_0.pok N) (fun x y h => (rows_Unkey_0_1_0.ev N x).trans h)
def rows_Unkey_0_1.alts : List Alt := [⟨.normal, [5, 7], (.cons (.upd 0 34 (.cons (.val (.int .i64)) (.cons (.val .bool) (.cons (.val (.int .i64)) (.cons (.val .str) .nil))))) (.cons (.val (.slice .byte)) (.cons (.val .bool) .nil)))⟩]
def rows_Unkey_0_1.run (N : Nat) (rest : (List UInt8)) (kind : Int) (bool : Bool) (int : Int) (text : (List UInt8)) (ok_ : Bool) : Option (((Int × Bool × Int × (List UInt8) × Unit) × (List UInt8) × Bool × Unit)) :=
  obind (rows_Unkey_0_1_0.run N rest) fun (t21, _) =>
    bif t21 then
      bif okB (1 : Int) (rest.length : Int) rest.length then
        obind (rows_number.run N (rest.drop 1)) fun (n_, _) =>
          obind (value_Int.run N (IntKind.i64.wrap (IntKind.u64.wrap (n_ - (9223372036854775808 : Int))))) fun (v, _) =>
            bif okB (9 : Int) (rest.length : Int) rest.length then
              some ((v.1, v.2.1, v.2.2.1, v.2.2.2, ()), rest.drop 9, ok_, ())
            else none
      else none
    else
      bif inB (0 : Int) rest.length then
        bif decide (((rest.getD 0 (0 : UInt8)).toNat : Int) = (3 : Int)) then
          bif okB (1 : Int) (rest.length : Int) rest.length then
            obind (rows_text.run N (rest.drop 1)) fun (s, l, b, _) =>
              obind (value_Text.run N s) fun (v1, _) =>
                some ((v1.1, v1.2.1, v1.2.2.1, v1.2.2.2, ()), l, b, ())
          else none
        else
          obind (rows_read.run N rest) fun (v2, l1, b1, _) =>
            some ((v2.1, v2.2.1, v2.2.2.1, v2.2.2.2, ()), l1, b1, ())
      else none
def rows_Unkey_0_1.fn (N : Nat) (x : Sh.den rows_Unkey_0_1.ins) : Option (altsDen rows_Unkey_0_1.alts) := rows_Unkey_0_1.run N x.1 x.2.1.1 x.2.1.2.1 x.2.1.2.2.1 x.2.1.2.2.2.1 x.2.2.1
def rows_Unkey_0_1.P (N : Nat) : Ps := ⟨rows_Unkey_0_1.ts, rows_Unkey_0_1.ins, rows_Unkey_0_1.asg, rows_Unkey_0_1.alts, rows_Unkey_0_1.fn N⟩
def rows_Unkey_0_1.lam (N : Nat) : Pcs := pcs [([false, false], (rows_Unkey_0_1_0.P N).pc (rows_Unkey_0_1.C N))]
theorem rows_Unkey_0_1.pok (N : Nat) : (rows_Unkey_0_1.lam N).Ok Try.prog (rows_Unkey_0_1.C N) rows_Unkey_0_1.code := pcsOk_cons (c1 := rows_Unkey_0_1_0.code) (by kernel_rfl) (rows_Unkey_0_1_0.ok N) (pcsOk_nil)
theorem rows_Unkey_0_1.ev (N : Nat) (x : Sh.den rows_Unkey_0_1.ins) : evC (rows_Unkey_0_1.C N) rows_Unkey_0_1.code (rows_Unkey_0_1.lam N) ((rows_Unkey_0_1.P N).canon 1000 x) (altK (rows_Unkey_0_1.P N).alts) = rows_Unkey_0_1.fn N x := by kernel_rfl
theorem rows_Unkey_0_1.ok (N : Nat) : ((rows_Unkey_0_1.P N).pc (rows_Unkey_0.C N)).Ok Try.prog (rows_Unkey_0.C N) rows_Unkey_0_1.code := ps_ok (F := rows_Unkey_0_1.P N) (n0 := 1000) (rows_Unkey_0.cok N) mix (rows_Unkey_0_1.pok N) (fun x y h => (rows_Unkey_0_1.ev N x).trans h)
def rows_Unkey_0.alts : List Alt := [⟨.ret, [2, 3], (.cons (.own 34 (.pair (.int .i64) (.pair .bool (.pair (.int .i64) .str)))) (.cons (.val (.int .i64)) .nil))⟩, ⟨(.exit 0), [4], (.cons (.own 34 (.pair (.int .i64) (.pair .bool (.pair (.int .i64) .str)))) .nil)⟩]
def rows_Unkey_0.go (N : Nat) : Nat → (List (Int × (Bool × (Int × (List UInt8))))) → (List UInt8) → Option (((List (Int × (Bool × (Int × (List UInt8))))) × Int × Unit) ⊕ ((List (Int × (Bool × (Int × (List UInt8))))) × Unit))
  | 0, _, _ => none
  | fuel + 1, row, rest =>
    bif decide ((rest.length : Int) > (0 : Int)) then
      obind (rows_Unkey_0_1.run N rest (0 : Int) false (0 : Int) ([] : List UInt8) true) fun ((kind, bool, int, text, _), rest1, ok_, _) =>
        bif !ok_ then
          some (.inl (([] : List (Int × (Bool × (Int × (List UInt8))))), (30 : Int), ()))
        else
          bif decide ((row.length : Int) = (16 : Int)) then
            some (.inl (([] : List (Int × (Bool × (Int × (List UInt8))))), (30 : Int), ()))
          else
            bif room (row.length + 1) 40 then
              rows_Unkey_0.go N fuel (row ++ ([(kind, bool, int, text)] : List (Int × (Bool × (Int × (List UInt8)))))) rest1
            else none
    else some (.inr (row, ()))
def rows_Unkey_0.g (N n : Nat) (x : Sh.den rows_Unkey_0.ins) : Option (altsDen rows_Unkey_0.alts) := rows_Unkey_0.go N n x.1 x.2.1
def rows_Unkey_0.P (N : Nat) : Ps := ⟨rows_Unkey_0.ts, rows_Unkey_0.ins, rows_Unkey_0.asg, rows_Unkey_0.alts, rows_Unkey_0.g N N⟩
def rows_Unkey_0.lam (N : Nat) : Pcs := pcs [([true, false, true, true, false, false, false], (rows_Unkey_0_0.P N).pc (rows_Unkey_0.C N)), ([true, false, true, true, false], (rows_Unkey_0_1.P N).pc (rows_Unkey_0.C N))]
theorem rows_Unkey_0.pok (N : Nat) : (rows_Unkey_0.lam N).Ok Try.prog (rows_Unkey_0.C N) rows_Unkey_0.code := pcsOk_cons (c1 := rows_Unkey_0_0.code) (by kernel_rfl) (rows_Unkey_0_0.ok N) (pcsOk_cons (c1 := rows_Unkey_0_1.code) (by kernel_rfl) (rows_Unkey_0_1.ok N) (pcsOk_nil))
theorem rows_Unkey_0.ev (N n : Nat) (x : Sh.den rows_Unkey_0.ins) : evC (rows_Unkey_0.C N) rows_Unkey_0.code (rows_Unkey_0.lam N) ((rows_Unkey_0.P N).canon 1000 x) (loopK (rows_Unkey_0.P N) (rows_Unkey_0.g N n)) = rows_Unkey_0.g N (n + 1) x := by kernel_rfl
theorem rows_Unkey_0.ok (N : Nat) : ((rows_Unkey_0.P N).pc (rows_Unkey.C N)).Ok Try.prog (rows_Unkey.C N) (.loop rows_Unkey_0.code) := loop_ok (F := rows_Unkey_0.P N) (n0 := 1000) (N := N) (rows_Unkey.cok N) mix (rows_Unkey_0.pok N) (rows_Unkey_0.g N) (fun x => by rfl) rfl (fun n x y h => (rows_Unkey_0.ev N n x).trans h)
def rows_Unkey.outs : Sh := (.cons (.own 34 (.pair (.int .i64) (.pair .bool (.pair (.int .i64) .str)))) (.cons (.val (.int .i64)) .nil))
def rows_Unkey.run (N : Nat) (b : (List UInt8)) : Option ((List (Int × (Bool × (Int × (List UInt8))))) × Int × Unit) :=
  obind (rows_Unkey_0.go N N ([] : List (Int × (Bool × (Int × (List UInt8))))) b) fun y => match y with
  | .inl (t2, t3, _) =>
      some (t2, t3, ())
  | .inr (row, _) =>
      obind (rows_Key_b.run N row) fun (l, n_, _) =>
        bif !(decide (n_ = (0 : Int))) then
          some (([] : List (Int × (Bool × (Int × (List UInt8))))), (30 : Int), ())
        else
          obind (bytes_Equal.run N l b) fun (b1, _) =>
            bif !b1 then
              some (([] : List (Int × (Bool × (Int × (List UInt8))))), (30 : Int), ())
            else some (row, (0 : Int), ())
def rows_Unkey.fn (N : Nat) (x : Sh.den rows_Unkey.ins) : Option (Sh.den rows_Unkey.outs) := rows_Unkey.run N x.1
def rows_Unkey.S (N : Nat) : Fs := ⟨rows_Unkey.ins, rows_Unkey.outs, rows_Unkey.fn N⟩
def rows_Unkey.lam (N : Nat) : Pcs := pcs [([true, true, true, false, false], (rows_Unkey_0.P N).pc (rows_Unkey.C N))]
theorem rows_Unkey.pok (N : Nat) : (rows_Unkey.lam N).Ok Try.prog (rows_Unkey.C N) rows_Unkey.code := pcsOk_cons (c1 := .loop rows_Unkey_0.code) (by kernel_rfl) (rows_Unkey_0.ok N) (pcsOk_nil)
theorem rows_Unkey.ev (N : Nat) (x : Sh.den rows_Unkey.ins) : evC (rows_Unkey.C N) rows_Unkey.code (rows_Unkey.lam N) ⟨envOf 0 (bld (fun k => k) rows_Unkey.ins x 0).1, (bld (fun k => k) rows_Unkey.ins x 0).2.1, 1000⟩ (endF U rows_Unkey.outs Try.f23.results.toList []) = rows_Unkey.fn N x := by kernel_rfl
theorem rows_Unkey.ok (N : Nat) : (rows_Unkey.S N).con.Ok Try.prog 23 := fn_ok (F := rows_Unkey.S N) (n0 := 1000) Try.func23 (by kernel_rfl) (show Try.f23.body = some rows_Unkey.code by rfl) mix (rows_Unkey.cok N) (fun _ => rfl) (fun _ => rfl) (rows_Unkey.pok N) (fun x y h => (rows_Unkey.ev N x).trans h)
/-- hayloft/hayloftref03.front -/
def ref_front.ins : Sh := (.cons (.val (.slice .byte)) .nil)
def ref_front.C (N : Nat) : Ctx := ⟨U, 92, fun _ => true, gam [(44, (ref_Said.S N).con), (30, (ref_Front.S N).con)], gamY []⟩
theorem ref_front.cok (N : Nat) : (ref_front.C N).Ok Try.prog := ⟨U_ok, GamOk.cons (ref_Said.ok N) (GamOk.cons (ref_Front.ok N) (GamOk.nil)), GamYOk.nil⟩
def ref_front.code : Code := Try.f41.body.getD .skip
def ref_front_0.ins : Sh := (.cons (.val (.slice .byte)) (.cons (.box 34 (.cons (.val (.int .i64)) (.cons (.val .bool) (.cons (.val (.int .i64)) (.cons (.val .str) .nil))))) .nil))
def ref_front_0.ts : List Tmp := [0, 2]
def ref_front_0.asg : List Tmp := [3, 10, 11, 12, 13, 14, 15, 16, 17, 18, 19, 20, 21, 22, 23, 24]
def ref_front_0.C (N : Nat) : Ctx := { ref_front.C N with may := fun t => ref_front_0.asg.any (Nat.beq t) }
def ref_front_0.code : Code := (sub ref_front.code [true, true, false]).getD .skip
theorem ref_front_0.cok (N : Nat) : (ref_front_0.C N).Ok Try.prog := ⟨(ref_front.cok N).U, (ref_front.cok N).Γ, (ref_front.cok N).Y⟩
def ref_front_0.alts : List Alt := [⟨.normal, [], (.cons (.upd 0 34 (.cons (.val (.int .i64)) (.cons (.val .bool) (.cons (.val (.int .i64)) (.cons (.val .str) .nil))))) .nil)⟩, ⟨.ret, [3], (.cons (.upd 0 34 (.cons (.val (.int .i64)) (.cons (.val .bool) (.cons (.val (.int .i64)) (.cons (.val .str) .nil))))) (.cons (.val (.int .i64)) .nil))⟩]
def ref_front_0.run (N : Nat) (b : (List UInt8)) (kind : Int) (bool : Bool) (int : Int) (text : (List UInt8)) : Option (((Int × Bool × Int × (List UInt8) × Unit) × Unit) ⊕ ((Int × Bool × Int × (List UInt8) × Unit) × Int × Unit)) :=
  bif inB (0 : Int) b.length then
    bif decide (((b.getD 0 (0 : UInt8)).toNat : Int) = (2 : Int)) then
      bif decide ((b.length : Int) > (8 : Int)) then
        bif okB (1 : Int) (9 : Int) b.length then
          obind (ref_Said.run N ((b.take 9).drop 1)) fun (n_, _) =>
            some (.inr (((2 : Int), false, IntKind.i64.wrap (IntKind.u64.wrap (n_ - (9223372036854775808 : Int))), ([] : List UInt8), ()), (9 : Int), ()))
        else none
      else some (.inl ((kind, bool, int, text, ()), ()))
    else some (.inl ((kind, bool, int, text, ()), ()))
  else none
def ref_front_0.fn (N : Nat) (x : Sh.den ref_front_0.ins) : Option (altsDen ref_front_0.alts) := ref_front_0.run N x.1 x.2.1.1 x.2.1.2.1 x.2.1.2.2.1 x.2.1.2.2.2.1
def ref_front_0.P (N : Nat) : Ps := ⟨ref_front_0.ts, ref_front_0.ins, ref_front_0.asg, ref_front_0.alts, ref_front_0.fn N⟩
def ref_front_0.lam (N : Nat) : Pcs := pcs []
theorem ref_front_0.pok (N : Nat) : (ref_front_0.lam N).Ok Try.prog (ref_front_0.C N) ref_front_0.code := pcsOk_nil
theorem ref_front_0.ev (N : Nat) (x : Sh.den ref_front_0.ins) : evC (ref_front_0.C N) ref_front_0.code (ref_front_0.lam N) ((ref_front_0.P N).canon 1000 x) (altK (ref_front_0.P N).alts) = ref_front_0.fn N x := by kernel_rfl
theorem ref_front_0.ok (N : Nat) : ((ref_front_0.P N).pc (ref_front.C N)).Ok Try.prog (ref_front.C N) ref_front_0.code := ps_ok (F := ref_front_0.P N) (n0 := 1000) (ref_front.cok N) mix (ref_front_0.pok N) (fun x y h => (ref_front_0.ev N x).trans h)
def ref_front_1.ins : Sh := (.cons (.val (.slice .byte)) (.cons (.box 34 (.cons (.val (.int .i64)) (.cons (.val .bool) (.cons (.val (.int .i64)) (.cons (.val .str) .nil))))) (.cons (.own 5 .byte) (.cons (.val (.int .i64)) .nil))))
def ref_front_1.ts : List Tmp := [0, 2, 4, 5]
def ref_front_1.asg : List Tmp := [3, 4, 5, 38, 39, 40, 41, 42, 43, 44, 45, 46, 47, 48, 49, 50, 51, 52, 53, 54, 55, 56, 57, 58, 59, 60, 61, 62, 63, 64, 65, 66, 67, 68, 69, 70, 71, 72, 73, 74, 75, 76, 77, 78, 79, 80, 81, 82, 83, 84, 85, 86, 87, 88, 89, 90]
def ref_front_1.C (N : Nat) : Ctx := { ref_front.C N with may := fun t => ref_front_1.asg.any (Nat.beq t) }
def ref_front_1.code : Code := loopBody (sub ref_front.code [true, true, true, true, true, true, true, false, false])
theorem ref_front_1.cok (N : Nat) : (ref_front_1.C N).Ok Try.prog := ⟨(ref_front.cok N).U, (ref_front.cok N).Γ, (ref_front.cok N).Y⟩
def ref_front_1_0.ins : Sh := (.cons (.val (.slice .byte)) (.cons (.box 34 (.cons (.val (.int .i64)) (.cons (.val .bool) (.cons (.val (.int .i64)) (.cons (.val .str) .nil))))) (.cons (.rown 5 .byte) (.cons (.val (.int .i64)) .nil))))
def ref_front_1_0.ts : List Tmp := [0, 2, 4, 5]
def ref_front_1_0.asg : List Tmp := [3, 43, 44, 45, 46, 47, 48, 49, 50, 51, 52, 53, 54, 55, 56, 57, 58, 59, 60]
def ref_front_1_0.C (N : Nat) : Ctx := { ref_front_1.C N with may := fun t => ref_front_1_0.asg.any (Nat.beq t) }
def ref_front_1_0.code : Code := (sub ref_front_1.code [true, false, false]).getD .skip
theorem ref_front_1_0.cok (N : Nat) : (ref_front_1_0.C N).Ok Try.prog := ⟨(ref_front_1.cok N).U, (ref_front_1.cok N).Γ, (ref_front_1.cok N).Y⟩
def ref_front_1_0.alts : List Alt := [⟨.normal, [], (.cons (.upd 0 34 (.cons (.val (.int .i64)) (.cons (.val .bool) (.cons (.val (.int .i64)) (.cons (.val .str) .nil))))) .nil)⟩, ⟨.ret, [3], (.cons (.upd 0 34 (.cons (.val (.int .i64)) (.cons (.val .bool) (.cons (.val (.int .i64)) (.cons (.val .str) .nil))))) (.cons (.val (.int .i64)) .nil))⟩]
def ref_front_1_0.run (N : Nat) (b : (List UInt8)) (kind : Int) (bool : Bool) (int : Int) (text : (List UInt8)) (s : (List UInt8)) (i : Int) : Option (((Int × Bool × Int × (List UInt8) × Unit) × Unit) ⊕ ((Int × Bool × Int × (List UInt8) × Unit) × Int × Unit)) :=
  bif inB i b.length then
    bif decide (((b.getD i.toNat (0 : UInt8)).toNat : Int) = (0 : Int)) then
      bif inB (IntKind.i64.wrap (i + (1 : Int))) b.length then
        bif decide (((b.getD (IntKind.i64.wrap (i + (1 : Int))).toNat (0 : UInt8)).toNat : Int) = (0 : Int)) then
          some (.inr (((3 : Int), false, (0 : Int), s, ()), IntKind.i64.wrap (i + (2 : Int)), ()))
        else some (.inl ((kind, bool, int, text, ()), ()))
      else none
    else some (.inl ((kind, bool, int, text, ()), ()))
  else none
def ref_front_1_0.fn (N : Nat) (x : Sh.den ref_front_1_0.ins) : Option (altsDen ref_front_1_0.alts) := ref_front_1_0.run N x.1 x.2.1.1 x.2.1.2.1 x.2.1.2.2.1 x.2.1.2.2.2.1 x.2.2.1 x.2.2.2.1
def ref_front_1_0.P (N : Nat) : Ps := ⟨ref_front_1_0.ts, ref_front_1_0.ins, ref_front_1_0.asg, ref_front_1_0.alts, ref_front_1_0.fn N⟩
def ref_front_1_0.lam (N : Nat) : Pcs := pcs []
theorem ref_front_1_0.pok (N : Nat) : (ref_front_1_0.lam N).Ok Try.prog (ref_front_1_0.C N) ref_front_1_0.code := pcsOk_nil
theorem ref_front_1_0.ev (N : Nat) (x : Sh.den ref_front_1_0.ins) : evC (ref_front_1_0.C N) ref_front_1_0.code (ref_front_1_0.lam N) ((ref_front_1_0.P N).canon 1000 x) (altK (ref_front_1_0.P N).alts) = ref_front_1_0.fn N x := by kernel_rfl
theorem ref_front_1_0.ok (N : Nat) : ((ref_front_1_0.P N).pc (ref_front_1.C N)).Ok Try.prog (ref_front_1.C N) ref_front_1_0.code := ps_ok (F := ref_front_1_0.P N) (n0 := 1000) (ref_front_1.cok N) mix (ref_front_1_0.pok N) (fun x y h => (ref_front_1_0.ev N x).trans h)
def ref_front_1_1.ins : Sh := (.cons (.val (.slice .byte)) (.cons (.box 34 (.cons (.val (.int .i64)) (.cons (.val .bool) (.cons (.val (.int .i64)) (.cons (.val .str) .nil))))) (.cons (.val (.int .i64)) .nil)))
def ref_front_1_1.ts : List Tmp := [0, 2, 5]
def ref_front_1_1.asg : List Tmp := [3, 61, 62, 63, 64, 65, 66, 67, 68, 69, 70, 71, 72, 73, 74]
def ref_front_1_1.C (N : Nat) : Ctx := { ref_front_1.C N with may := fun t => ref_front_1_1.asg.any (Nat.beq t) }
def ref_front_1_1.code : Code := (sub ref_front_1.code [true, false, true, false]).getD .skip
theorem ref_front_1_1.cok (N : Nat) : (ref_front_1_1.C N).Ok Try.prog := ⟨(ref_front_1.cok N).U, (ref_front_1.cok N).Γ, (ref_front_1.cok N).Y⟩
def ref_front_1_1.alts : List Alt := [⟨.normal, [], (.cons (.upd 0 34 (.cons (.val (.int .i64)) (.cons (.val .bool) (.cons (.val (.int .i64)) (.cons (.val .str) .nil))))) .nil)⟩, ⟨.ret, [3], (.cons (.upd 0 34 (.cons (.val (.int .i64)) (.cons (.val .bool) (.cons (.val (.int .i64)) (.cons (.val .str) .nil))))) (.cons (.val (.int .i64)) .nil))⟩]
def ref_front_1_1.run (N : Nat) (b : (List UInt8)) (kind : Int) (bool : Bool) (int : Int) (text : (List UInt8)) (i : Int) : Option (((Int × Bool × Int × (List UInt8) × Unit) × Unit) ⊕ ((Int × Bool × Int × (List UInt8) × Unit) × Int × Unit)) :=
  bif inB i b.length then
    bif decide (((b.getD i.toNat (0 : UInt8)).toNat : Int) = (0 : Int)) then
      bif inB (IntKind.i64.wrap (i + (1 : Int))) b.length then
        bif !(decide (((b.getD (IntKind.i64.wrap (i + (1 : Int))).toNat (0 : UInt8)).toNat : Int) = (255 : Int))) then
          some (.inr (((0 : Int), false, (0 : Int), ([] : List UInt8), ()), (0 : Int), ()))
        else some (.inl ((kind, bool, int, text, ()), ()))
      else none
    else some (.inl ((kind, bool, int, text, ()), ()))
  else none
def ref_front_1_1.fn (N : Nat) (x : Sh.den ref_front_1_1.ins) : Option (altsDen ref_front_1_1.alts) := ref_front_1_1.run N x.1 x.2.1.1 x.2.1.2.1 x.2.1.2.2.1 x.2.1.2.2.2.1 x.2.2.1
def ref_front_1_1.P (N : Nat) : Ps := ⟨ref_front_1_1.ts, ref_front_1_1.ins, ref_front_1_1.asg, ref_front_1_1.alts, ref_front_1_1.fn N⟩
def ref_front_1_1.lam (N : Nat) : Pcs := pcs []
theorem ref_front_1_1.pok (N : Nat) : (ref_front_1_1.lam N).Ok Try.prog (ref_front_1_1.C N) ref_front_1_1.code := pcsOk_nil
theorem ref_front_1_1.ev (N : Nat) (x : Sh.den ref_front_1_1.ins) : evC (ref_front_1_1.C N) ref_front_1_1.code (ref_front_1_1.lam N) ((ref_front_1_1.P N).canon 1000 x) (altK (ref_front_1_1.P N).alts) = ref_front_1_1.fn N x := by kernel_rfl
theorem ref_front_1_1.ok (N : Nat) : ((ref_front_1_1.P N).pc (ref_front_1.C N)).Ok Try.prog (ref_front_1.C N) ref_front_1_1.code := ps_ok (F := ref_front_1_1.P N) (n0 := 1000) (ref_front_1.cok N) mix (ref_front_1_1.pok N) (fun x y h => (ref_front_1_1.ev N x).trans h)
def ref_front_1.alts : List Alt := [⟨.ret, [3], (.cons (.upd 0 34 (.cons (.val (.int .i64)) (.cons (.val .bool) (.cons (.val (.int .i64)) (.cons (.val .str) .nil))))) (.cons (.val (.int .i64)) .nil))⟩, ⟨(.exit 0), [], (.cons (.upd 0 34 (.cons (.val (.int .i64)) (.cons (.val .bool) (.cons (.val (.int .i64)) (.cons (.val .str) .nil))))) .nil)⟩]
def ref_front_1.go (N : Nat) : Nat → (List UInt8) → Int → Bool → Int → (List UInt8) → (List UInt8) → Int → Option (((Int × Bool × Int × (List UInt8) × Unit) × Int × Unit) ⊕ ((Int × Bool × Int × (List UInt8) × Unit) × Unit))
  | 0, _, _, _, _, _, _, _ => none
  | fuel + 1, b, kind, bool, int, text, s, i =>
    bif decide ((IntKind.i64.wrap (i + (1 : Int))) < (b.length : Int)) then
      obind (ref_front_1_0.run N b kind bool int text s i) fun y => match y with
      | .inl ((kind1, bool1, int1, text1, _), _) =>
          obind (ref_front_1_1.run N b kind1 bool1 int1 text1 i) fun y => match y with
          | .inl ((kind3, bool3, int3, text3, _), _) =>
              bif inB i b.length then
                bif room (s.length + 1) 1 then
                  bif inB i b.length then
                    bif decide (((b.getD i.toNat (0 : UInt8)).toNat : Int) = (0 : Int)) then
                      ref_front_1.go N fuel b kind3 bool3 int3 text3 (s ++ ([Hay.u8 ((b.getD i.toNat (0 : UInt8)).toNat : Int)] : List UInt8)) (IntKind.i64.wrap ((IntKind.i64.wrap (i + (1 : Int))) + (1 : Int)))
                    else ref_front_1.go N fuel b kind3 bool3 int3 text3 (s ++ ([Hay.u8 ((b.getD i.toNat (0 : UInt8)).toNat : Int)] : List UInt8)) (IntKind.i64.wrap (i + (1 : Int)))
                  else none
                else none
              else none
          | .inr ((kind4, bool4, int4, text4, _), t31, _) =>
              some (.inl ((kind4, bool4, int4, text4, ()), t31, ()))
      | .inr ((kind2, bool2, int2, text2, _), t3, _) =>
          some (.inl ((kind2, bool2, int2, text2, ()), t3, ()))
    else some (.inr ((kind, bool, int, text, ()), ()))
def ref_front_1.g (N n : Nat) (x : Sh.den ref_front_1.ins) : Option (altsDen ref_front_1.alts) := ref_front_1.go N n x.1 x.2.1.1 x.2.1.2.1 x.2.1.2.2.1 x.2.1.2.2.2.1 x.2.2.1 x.2.2.2.1
def ref_front_1.P (N : Nat) : Ps := ⟨ref_front_1.ts, ref_front_1.ins, ref_front_1.asg, ref_front_1.alts, ref_front_1.g N N⟩
def ref_front_1.lam (N : Nat) : Pcs := pcs [([true, false, false], (ref_front_1_0.P N).pc (ref_front_1.C N)), ([true, false, true, false], (ref_front_1_1.P N).pc (ref_front_1.C N))]
theorem ref_front_1.pok (N : Nat) : (ref_front_1.lam N).Ok Try.prog (ref_front_1.C N) ref_front_1.code := pcsOk_cons (c1 := ref_front_1_0.code) (by kernel_rfl) (ref_front_1_0.ok N) (pcsOk_cons (c1 := ref_front_1_1.code) (by kernel_rfl) (ref_front_1_1.ok N) (pcsOk_nil))
theorem ref_front_1.ev (N n : Nat) (x : Sh.den ref_front_1.ins) : evC (ref_front_1.C N) ref_front_1.code (ref_front_1.lam N) ((ref_front_1.P N).canon 1000 x) (loopK (ref_front_1.P N) (ref_front_1.g N n)) = ref_front_1.g N (n + 1) x := by kernel_rfl
theorem ref_front_1.ok (N : Nat) : ((ref_front_1.P N).pc (ref_front.C N)).Ok Try.prog (ref_front.C N) (.loop ref_front_1.code) := loop_ok (F := ref_front_1.P N) (n0 := 1000) (N := N) (ref_front.cok N) mix (ref_front_1.pok N) (ref_front_1.g N) (fun x => by rfl) rfl (fun n x y h => (ref_front_1.ev N n x).trans h)
def ref_front.outs : Sh := (.cons (.val (.pair (.int .i64) (.pair .bool (.pair (.int .i64) .str)))) (.cons (.val (.int .i64)) .nil))
def ref_front.run (N : Nat) (b : (List UInt8)) : Option ((Int × (Bool × (Int × (List UInt8)))) × Int × Unit) :=
  bif decide ((b.length : Int) = (0 : Int)) then
    some (((0 : Int), false, (0 : Int), ([] : List UInt8)), (0 : Int), ())
  else
    obind (ref_front_0.run N b (0 : Int) false (0 : Int) ([] : List UInt8)) fun y => match y with
    | .inl ((kind, bool, int, text, _), _) =>
        bif inB (0 : Int) b.length then
          bif decide (((b.getD 0 (0 : UInt8)).toNat : Int) < (2 : Int)) then
            obind (ref_Front.run N b) fun (v, n1, _) =>
              some (v, n1, ())
          else
            bif inB (0 : Int) b.length then
              bif !(decide (((b.getD 0 (0 : UInt8)).toNat : Int) = (3 : Int))) then
                some (((0 : Int), false, (0 : Int), ([] : List UInt8)), (0 : Int), ())
              else
                obind (ref_front_1.go N N b kind bool int text ([] : List UInt8) (1 : Int)) fun y => match y with
                | .inl ((kind2, bool2, int2, text2, _), t31, _) =>
                    some ((kind2, bool2, int2, text2), t31, ())
                | .inr ((kind3, bool3, int3, text3, _), _) =>
                    some (((0 : Int), false, (0 : Int), ([] : List UInt8)), (0 : Int), ())
            else none
        else none
    | .inr ((kind1, bool1, int1, text1, _), t3, _) =>
        some ((kind1, bool1, int1, text1), t3, ())
def ref_front.fn (N : Nat) (x : Sh.den ref_front.ins) : Option (Sh.den ref_front.outs) := ref_front.run N x.1
def ref_front.S (N : Nat) : Fs := ⟨ref_front.ins, ref_front.outs, ref_front.fn N⟩
def ref_front.lam (N : Nat) : Pcs := pcs [([true, true, false], (ref_front_0.P N).pc (ref_front.C N)), ([true, true, true, true, true, true, true, false, false], (ref_front_1.P N).pc (ref_front.C N))]
theorem ref_front.pok (N : Nat) : (ref_front.lam N).Ok Try.prog (ref_front.C N) ref_front.code := pcsOk_cons (c1 := ref_front_0.code) (by kernel_rfl) (ref_front_0.ok N) (pcsOk_cons (c1 := .loop ref_front_1.code) (by kernel_rfl) (ref_front_1.ok N) (pcsOk_nil))
theorem ref_front.ev (N : Nat) (x : Sh.den ref_front.ins) : evC (ref_front.C N) ref_front.code (ref_front.lam N) ⟨envOf 0 (bld (fun k => k) ref_front.ins x 0).1, (bld (fun k => k) ref_front.ins x 0).2.1, 1000⟩ (endF U ref_front.outs Try.f41.results.toList []) = ref_front.fn N x := by kernel_rfl
theorem ref_front.ok (N : Nat) : (ref_front.S N).con.Ok Try.prog 41 := fn_ok (F := ref_front.S N) (n0 := 1000) Try.func41 (by kernel_rfl) (show Try.f41.body = some ref_front.code by rfl) mix (ref_front.cok N) (fun _ => rfl) (fun _ => rfl) (ref_front.pok N) (fun x y h => (ref_front.ev N x).trans h)
/-- hayloft/hayloftref03.Unkey -/
def ref_Unkey.ins : Sh := (.cons (.val (.slice .byte)) .nil)
def ref_Unkey.C (N : Nat) : Ctx := ⟨U, 40, fun _ => true, gam [(41, (ref_front.S N).con)], gamY []⟩
theorem ref_Unkey.cok (N : Nat) : (ref_Unkey.C N).Ok Try.prog := ⟨U_ok, GamOk.cons (ref_front.ok N) (GamOk.nil), GamYOk.nil⟩
def ref_Unkey.code : Code := Try.f24.body.getD .skip
def ref_Unkey_0.ins : Sh := (.cons (.val (.slice .byte)) (.cons (.own 34 (.pair (.int .i64) (.pair .bool (.pair (.int .i64) .str)))) (.cons (.val (.int .i64)) .nil)))
def ref_Unkey_0.ts : List Tmp := [0, 4, 5]
def ref_Unkey_0.asg : List Tmp := [2, 3, 4, 5, 6, 7, 8, 9, 10, 11, 12, 13, 14, 15, 16, 17, 18, 19, 20, 21, 22, 23, 24, 25, 26, 27, 28, 29, 30, 31, 32, 33, 34, 35, 36, 37, 38]
def ref_Unkey_0.C (N : Nat) : Ctx := { ref_Unkey.C N with may := fun t => ref_Unkey_0.asg.any (Nat.beq t) }
def ref_Unkey_0.code : Code := loopBody (sub ref_Unkey.code [true, true, true, false, false])
theorem ref_Unkey_0.cok (N : Nat) : (ref_Unkey_0.C N).Ok Try.prog := ⟨(ref_Unkey.cok N).U, (ref_Unkey.cok N).Γ, (ref_Unkey.cok N).Y⟩
def ref_Unkey_0.alts : List Alt := [⟨.ret, [2, 3], (.cons (.own 34 (.pair (.int .i64) (.pair .bool (.pair (.int .i64) .str)))) (.cons (.val (.int .i64)) .nil))⟩, ⟨(.exit 0), [4], (.cons (.own 34 (.pair (.int .i64) (.pair .bool (.pair (.int .i64) .str)))) .nil)⟩]
def ref_Unkey_0.go (N : Nat) : Nat → (List UInt8) → (List (Int × (Bool × (Int × (List UInt8))))) → Int → Option (((List (Int × (Bool × (Int × (List UInt8))))) × Int × Unit) ⊕ ((List (Int × (Bool × (Int × (List UInt8))))) × Unit))
  | 0, _, _, _ => none
  | fuel + 1, b, row, at_ =>
    bif decide (at_ < (b.length : Int)) then
      bif okB at_ (b.length : Int) b.length then
        obind (ref_front.run N (b.drop at_.toNat)) fun (v, n_, _) =>
          bif decide (n_ = (0 : Int)) then
            some (.inl (([] : List (Int × (Bool × (Int × (List UInt8))))), (30 : Int), ()))
          else
            bif decide ((v.2.2.2.length : Int) > (64 : Int)) then
              some (.inl (([] : List (Int × (Bool × (Int × (List UInt8))))), (30 : Int), ()))
            else
              bif decide ((row.length : Int) = (16 : Int)) then
                some (.inl (([] : List (Int × (Bool × (Int × (List UInt8))))), (30 : Int), ()))
              else
                bif room (row.length + 1) 40 then
                  ref_Unkey_0.go N fuel b (row ++ ([v] : List (Int × (Bool × (Int × (List UInt8)))))) (IntKind.i64.wrap (at_ + n_))
                else none
      else none
    else some (.inr (row, ()))
def ref_Unkey_0.g (N n : Nat) (x : Sh.den ref_Unkey_0.ins) : Option (altsDen ref_Unkey_0.alts) := ref_Unkey_0.go N n x.1 x.2.1 x.2.2.1
def ref_Unkey_0.P (N : Nat) : Ps := ⟨ref_Unkey_0.ts, ref_Unkey_0.ins, ref_Unkey_0.asg, ref_Unkey_0.alts, ref_Unkey_0.g N N⟩
def ref_Unkey_0.lam (N : Nat) : Pcs := pcs []
theorem ref_Unkey_0.pok (N : Nat) : (ref_Unkey_0.lam N).Ok Try.prog (ref_Unkey_0.C N) ref_Unkey_0.code := pcsOk_nil
theorem ref_Unkey_0.ev (N n : Nat) (x : Sh.den ref_Unkey_0.ins) : evC (ref_Unkey_0.C N) ref_Unkey_0.code (ref_Unkey_0.lam N) ((ref_Unkey_0.P N).canon 1000 x) (loopK (ref_Unkey_0.P N) (ref_Unkey_0.g N n)) = ref_Unkey_0.g N (n + 1) x := by kernel_rfl
theorem ref_Unkey_0.ok (N : Nat) : ((ref_Unkey_0.P N).pc (ref_Unkey.C N)).Ok Try.prog (ref_Unkey.C N) (.loop ref_Unkey_0.code) := loop_ok (F := ref_Unkey_0.P N) (n0 := 1000) (N := N) (ref_Unkey.cok N) mix (ref_Unkey_0.pok N) (ref_Unkey_0.g N) (fun x => by rfl) rfl (fun n x y h => (ref_Unkey_0.ev N n x).trans h)
def ref_Unkey.outs : Sh := (.cons (.own 34 (.pair (.int .i64) (.pair .bool (.pair (.int .i64) .str)))) (.cons (.val (.int .i64)) .nil))
def ref_Unkey.run (N : Nat) (b : (List UInt8)) : Option ((List (Int × (Bool × (Int × (List UInt8))))) × Int × Unit) :=
  obind (ref_Unkey_0.go N N b ([] : List (Int × (Bool × (Int × (List UInt8))))) (0 : Int)) fun y => match y with
  | .inl (t2, t3, _) =>
      some (t2, t3, ())
  | .inr (row, _) =>
      some (row, (0 : Int), ())
def ref_Unkey.fn (N : Nat) (x : Sh.den ref_Unkey.ins) : Option (Sh.den ref_Unkey.outs) := ref_Unkey.run N x.1
def ref_Unkey.S (N : Nat) : Fs := ⟨ref_Unkey.ins, ref_Unkey.outs, ref_Unkey.fn N⟩
def ref_Unkey.lam (N : Nat) : Pcs := pcs [([true, true, true, false, false], (ref_Unkey_0.P N).pc (ref_Unkey.C N))]
theorem ref_Unkey.pok (N : Nat) : (ref_Unkey.lam N).Ok Try.prog (ref_Unkey.C N) ref_Unkey.code := pcsOk_cons (c1 := .loop ref_Unkey_0.code) (by kernel_rfl) (ref_Unkey_0.ok N) (pcsOk_nil)
theorem ref_Unkey.ev (N : Nat) (x : Sh.den ref_Unkey.ins) : evC (ref_Unkey.C N) ref_Unkey.code (ref_Unkey.lam N) ⟨envOf 0 (bld (fun k => k) ref_Unkey.ins x 0).1, (bld (fun k => k) ref_Unkey.ins x 0).2.1, 1000⟩ (endF U ref_Unkey.outs Try.f24.results.toList []) = ref_Unkey.fn N x := by kernel_rfl
theorem ref_Unkey.ok (N : Nat) : (ref_Unkey.S N).con.Ok Try.prog 24 := fn_ok (F := ref_Unkey.S N) (n0 := 1000) Try.func24 (by kernel_rfl) (show Try.f24.body = some ref_Unkey.code by rfl) mix (ref_Unkey.cok N) (fun _ => rfl) (fun _ => rfl) (ref_Unkey.pok N) (fun x y h => (ref_Unkey.ev N x).trans h)
/-- hayloft/hayloftlaw03.RowsKeys -/
def law_RowsKeys.ins : Sh := (.cons (.val (.slice (.pair (.int .i64) (.pair .bool (.pair (.int .i64) .str))))) (.cons (.val (.slice .byte)) .nil))
def law_RowsKeys.C (N : Nat) : Ctx := ⟨U, 56, fun _ => true, gam [(20, (rows_Key.S N).con), (22, (ref_Key.S N).con), (23, (rows_Unkey.S N).con), (24, (ref_Unkey.S N).con), (14, (law_alive.S N).con), (15, (ref_SameRow.S N).con)], gamY []⟩
theorem law_RowsKeys.cok (N : Nat) : (law_RowsKeys.C N).Ok Try.prog := ⟨U_ok, GamOk.cons (rows_Key.ok N) (GamOk.cons (ref_Key.ok N) (GamOk.cons (rows_Unkey.ok N) (GamOk.cons (ref_Unkey.ok N) (GamOk.cons (law_alive.ok N) (GamOk.cons (ref_SameRow.ok N) (GamOk.nil)))))), GamYOk.nil⟩
def law_RowsKeys.code : Code := Try.f8.body.getD .skip
def law_RowsKeys.outs : Sh := (.cons (.val .bool) .nil)
def law_RowsKeys.run (N : Nat) (row : (List (Int × (Bool × (Int × (List UInt8)))))) (b : (List UInt8)) : Option (Bool × Unit) :=
  obind (rows_Key.run N row) fun (l, n_, _) =>
    obind (ref_Key.run N row) fun (l1, n1, _) =>
      obind (rows_Unkey.run N b) fun (l2, n2, _) =>
        obind (ref_Unkey.run N b) fun (l3, n3, _) =>
          obind (law_alive.run N) fun (b1, _) =>
            bif b1 then
              bif decide (l = l1) then
                bif decide (n_ = n1) then
                  obind (ref_SameRow.run N l2 l3) fun (b2, _) =>
                    bif b2 then
                      some (decide (n2 = n3), ())
                    else some (false, ())
                else some (false, ())
              else some (false, ())
            else some (false, ())
def law_RowsKeys.fn (N : Nat) (x : Sh.den law_RowsKeys.ins) : Option (Sh.den law_RowsKeys.outs) := law_RowsKeys.run N x.1 x.2.1
def law_RowsKeys.S (N : Nat) : Fs := ⟨law_RowsKeys.ins, law_RowsKeys.outs, law_RowsKeys.fn N⟩
def law_RowsKeys.lam (N : Nat) : Pcs := pcs []
theorem law_RowsKeys.pok (N : Nat) : (law_RowsKeys.lam N).Ok Try.prog (law_RowsKeys.C N) law_RowsKeys.code := pcsOk_nil
theorem law_RowsKeys.ev (N : Nat) (x : Sh.den law_RowsKeys.ins) : evC (law_RowsKeys.C N) law_RowsKeys.code (law_RowsKeys.lam N) ⟨envOf 0 (bld (fun k => k) law_RowsKeys.ins x 0).1, (bld (fun k => k) law_RowsKeys.ins x 0).2.1, 1000⟩ (endF U law_RowsKeys.outs Try.f8.results.toList []) = law_RowsKeys.fn N x := by kernel_rfl
theorem law_RowsKeys.ok (N : Nat) : (law_RowsKeys.S N).con.Ok Try.prog 8 := fn_ok (F := law_RowsKeys.S N) (n0 := 1000) Try.func8 (by kernel_rfl) (show Try.f8.body = some law_RowsKeys.code by rfl) mix (law_RowsKeys.cok N) (fun _ => rfl) (fun _ => rfl) (law_RowsKeys.pok N) (fun x y h => (law_RowsKeys.ev N x).trans h)
/-- hayloft/hayloftref02.SameRow -/
def ref_SameRow_b.ins : Sh := (.cons (.rown 34 (.pair (.int .i64) (.pair .bool (.pair (.int .i64) .str)))) (.cons (.val (.slice (.pair (.int .i64) (.pair .bool (.pair (.int .i64) .str))))) .nil))
def ref_SameRow_b.C (N : Nat) : Ctx := ⟨U, 26, fun _ => true, gam [], gamY []⟩
theorem ref_SameRow_b.cok (N : Nat) : (ref_SameRow_b.C N).Ok Try.prog := ⟨U_ok, GamOk.nil, GamYOk.nil⟩
def ref_SameRow_b.code : Code := Try.f15.body.getD .skip
def ref_SameRow_b_0.ins : Sh := (.cons (.rown 34 (.pair (.int .i64) (.pair .bool (.pair (.int .i64) .str)))) (.cons (.val (.slice (.pair (.int .i64) (.pair .bool (.pair (.int .i64) .str))))) (.cons (.val (.int .i64)) .nil)))
def ref_SameRow_b_0.ts : List Tmp := [0, 1, 5]
def ref_SameRow_b_0.asg : List Tmp := [4, 5, 11, 12, 13, 14, 15, 16, 17, 18, 19, 20, 21, 22, 23, 24, 25]
def ref_SameRow_b_0.C (N : Nat) : Ctx := { ref_SameRow_b.C N with may := fun t => ref_SameRow_b_0.asg.any (Nat.beq t) }
def ref_SameRow_b_0.code : Code := loopBody (sub ref_SameRow_b.code [true, true, false, true, false])
theorem ref_SameRow_b_0.cok (N : Nat) : (ref_SameRow_b_0.C N).Ok Try.prog := ⟨(ref_SameRow_b.cok N).U, (ref_SameRow_b.cok N).Γ, (ref_SameRow_b.cok N).Y⟩
def ref_SameRow_b_0.alts : List Alt := [⟨.ret, [4], (.cons (.val .bool) .nil)⟩, ⟨(.exit 0), [], .nil⟩]
def ref_SameRow_b_0.go (N : Nat) : Nat → (List (Int × (Bool × (Int × (List UInt8))))) → (List (Int × (Bool × (Int × (List UInt8))))) → Int → Option ((Bool × Unit) ⊕ Unit)
  | 0, _, _, _ => none
  | fuel + 1, a, b, i =>
    bif decide (i < (a.length : Int)) then
      bif inB i a.length then
        bif decide (i.toNat < a.length) then
          bif inB i b.length then
            bif !((decide ((a.getD i.toNat ((0 : Int), false, (0 : Int), ([] : List UInt8))).1 = (b.getD i.toNat ((0 : Int), false, (0 : Int), ([] : List UInt8))).1)) && (((a.getD i.toNat ((0 : Int), false, (0 : Int), ([] : List UInt8))).2.1 == (b.getD i.toNat ((0 : Int), false, (0 : Int), ([] : List UInt8))).2.1) && ((decide ((a.getD i.toNat ((0 : Int), false, (0 : Int), ([] : List UInt8))).2.2.1 = (b.getD i.toNat ((0 : Int), false, (0 : Int), ([] : List UInt8))).2.2.1)) && ((decide ((a.getD i.toNat ((0 : Int), false, (0 : Int), ([] : List UInt8))).2.2.2 = (b.getD i.toNat ((0 : Int), false, (0 : Int), ([] : List UInt8))).2.2.2)) && true)))) then
              some (.inl (false, ()))
            else ref_SameRow_b_0.go N fuel a b (IntKind.i64.wrap (i + (1 : Int)))
          else none
        else none
      else none
    else some (.inr ())
def ref_SameRow_b_0.g (N n : Nat) (x : Sh.den ref_SameRow_b_0.ins) : Option (altsDen ref_SameRow_b_0.alts) := ref_SameRow_b_0.go N n x.1 x.2.1 x.2.2.1
def ref_SameRow_b_0.P (N : Nat) : Ps := ⟨ref_SameRow_b_0.ts, ref_SameRow_b_0.ins, ref_SameRow_b_0.asg, ref_SameRow_b_0.alts, ref_SameRow_b_0.g N N⟩
def ref_SameRow_b_0.lam (N : Nat) : Pcs := pcs []
theorem ref_SameRow_b_0.pok (N : Nat) : (ref_SameRow_b_0.lam N).Ok Try.prog (ref_SameRow_b_0.C N) ref_SameRow_b_0.code := pcsOk_nil
theorem ref_SameRow_b_0.ev (N n : Nat) (x : Sh.den ref_SameRow_b_0.ins) : evC (ref_SameRow_b_0.C N) ref_SameRow_b_0.code (ref_SameRow_b_0.lam N) ((ref_SameRow_b_0.P N).canon 1000 x) (loopK (ref_SameRow_b_0.P N) (ref_SameRow_b_0.g N n)) = ref_SameRow_b_0.g N (n + 1) x := by kernel_rfl
theorem ref_SameRow_b_0.ok (N : Nat) : ((ref_SameRow_b_0.P N).pc (ref_SameRow_b.C N)).Ok Try.prog (ref_SameRow_b.C N) (.loop ref_SameRow_b_0.code) := loop_ok (F := ref_SameRow_b_0.P N) (n0 := 1000) (N := N) (ref_SameRow_b.cok N) mix (ref_SameRow_b_0.pok N) (ref_SameRow_b_0.g N) (fun x => by rfl) rfl (fun n x y h => (ref_SameRow_b_0.ev N n x).trans h)
def ref_SameRow_b.outs : Sh := (.cons (.val .bool) .nil)
def ref_SameRow_b.run (N : Nat) (a : (List (Int × (Bool × (Int × (List UInt8)))))) (b : (List (Int × (Bool × (Int × (List UInt8)))))) : Option (Bool × Unit) :=
  bif !(decide ((a.length : Int) = (b.length : Int))) then
    some (false, ())
  else
    obind (ref_SameRow_b_0.go N N a b (0 : Int)) fun y => match y with
    | .inl (t4, _) =>
        some (t4, ())
    | .inr (_) =>
        some (true, ())
def ref_SameRow_b.fn (N : Nat) (x : Sh.den ref_SameRow_b.ins) : Option (Sh.den ref_SameRow_b.outs) := ref_SameRow_b.run N x.1 x.2.1
def ref_SameRow_b.S (N : Nat) : Fs := ⟨ref_SameRow_b.ins, ref_SameRow_b.outs, ref_SameRow_b.fn N⟩
def ref_SameRow_b.lam (N : Nat) : Pcs := pcs [([true, true, false, true, false], (ref_SameRow_b_0.P N).pc (ref_SameRow_b.C N))]
theorem ref_SameRow_b.pok (N : Nat) : (ref_SameRow_b.lam N).Ok Try.prog (ref_SameRow_b.C N) ref_SameRow_b.code := pcsOk_cons (c1 := .loop ref_SameRow_b_0.code) (by kernel_rfl) (ref_SameRow_b_0.ok N) (pcsOk_nil)
theorem ref_SameRow_b.ev (N : Nat) (x : Sh.den ref_SameRow_b.ins) : evC (ref_SameRow_b.C N) ref_SameRow_b.code (ref_SameRow_b.lam N) ⟨envOf 0 (bld (fun k => k) ref_SameRow_b.ins x 0).1, (bld (fun k => k) ref_SameRow_b.ins x 0).2.1, 1000⟩ (endF U ref_SameRow_b.outs Try.f15.results.toList []) = ref_SameRow_b.fn N x := by kernel_rfl
theorem ref_SameRow_b.ok (N : Nat) : (ref_SameRow_b.S N).con.Ok Try.prog 15 := fn_ok (F := ref_SameRow_b.S N) (n0 := 1000) Try.func15 (by kernel_rfl) (show Try.f15.body = some ref_SameRow_b.code by rfl) mix (ref_SameRow_b.cok N) (fun _ => rfl) (fun _ => rfl) (ref_SameRow_b.pok N) (fun x y h => (ref_SameRow_b.ev N x).trans h)
/-- hayloft/hayloftlaw03.RowsBack -/
def law_RowsBack.ins : Sh := (.cons (.val (.slice (.pair (.int .i64) (.pair .bool (.pair (.int .i64) .str))))) (.cons (.val (.slice .byte)) .nil))
def law_RowsBack.C (N : Nat) : Ctx := ⟨U, 110, fun _ => true, gam [(10, (((rows_Encode_b.S N).con).or (rows_Encode.S N).con)), (20, (((rows_Key_b.S N).con).or (rows_Key.S N).con)), (14, (law_alive.S N).con), (12, (rows_Decode.S N).con), (23, (rows_Unkey.S N).con), (15, (ref_SameRow_b.S N).con)], gamY []⟩
theorem law_RowsBack.cok (N : Nat) : (law_RowsBack.C N).Ok Try.prog := ⟨U_ok, GamOk.cons (Con.or_ok (rows_Encode_b.ok N) (rows_Encode.ok N)) (GamOk.cons (Con.or_ok (rows_Key_b.ok N) (rows_Key.ok N)) (GamOk.cons (law_alive.ok N) (GamOk.cons (rows_Decode.ok N) (GamOk.cons (rows_Unkey.ok N) (GamOk.cons (ref_SameRow_b.ok N) (GamOk.nil)))))), GamYOk.nil⟩
def law_RowsBack.code : Code := Try.f9.body.getD .skip
def law_RowsBack_0.ins : Sh := (.cons (.val (.slice (.pair (.int .i64) (.pair .bool (.pair (.int .i64) .str))))) (.cons (.own 5 .byte) (.cons (.val (.int .i64)) (.cons (.own 5 .byte) .nil))))
def law_RowsBack_0.ts : List Tmp := [0, 5, 6, 7]
def law_RowsBack_0.asg : List Tmp := [4, 9, 10, 11, 12, 38, 39, 40, 41, 42, 43, 44, 45, 46, 47, 48, 49, 50, 51, 52, 53, 54, 55, 56, 57, 58, 59, 60, 61, 62, 63, 64, 65, 66, 67]
def law_RowsBack_0.C (N : Nat) : Ctx := { law_RowsBack.C N with may := fun t => law_RowsBack_0.asg.any (Nat.beq t) }
def law_RowsBack_0.code : Code := (sub law_RowsBack.code [true, true, true, true, false]).getD .skip
theorem law_RowsBack_0.cok (N : Nat) : (law_RowsBack_0.C N).Ok Try.prog := ⟨(law_RowsBack.cok N).U, (law_RowsBack.cok N).Γ, (law_RowsBack.cok N).Y⟩
def law_RowsBack_0.alts : List Alt := [⟨.normal, [], .nil⟩, ⟨.ret, [4], (.cons (.val .bool) .nil)⟩]
def law_RowsBack_0.run (N : Nat) (row : (List (Int × (Bool × (Int × (List UInt8)))))) (x : (List UInt8)) (e : Int) (k : (List UInt8)) : Option (Unit ⊕ (Bool × Unit)) :=
  bif decide (e = (0 : Int)) then
    obind (rows_Decode.run N x) fun (l, n_, _) =>
      obind (rows_Unkey.run N k) fun (l1, n1, _) =>
        bif !(decide (n_ = (0 : Int))) then
          some (.inr (false, ()))
        else
          bif !(decide (n1 = (0 : Int))) then
            some (.inr (false, ()))
          else
            obind (ref_SameRow_b.run N l row) fun (b, _) =>
              bif !b then
                some (.inr (false, ()))
              else
                obind (ref_SameRow_b.run N l1 row) fun (b1, _) =>
                  bif !b1 then
                    some (.inr (false, ()))
                  else some (.inl ())
  else some (.inl ())
def law_RowsBack_0.fn (N : Nat) (x : Sh.den law_RowsBack_0.ins) : Option (altsDen law_RowsBack_0.alts) := law_RowsBack_0.run N x.1 x.2.1 x.2.2.1 x.2.2.2.1
def law_RowsBack_0.P (N : Nat) : Ps := ⟨law_RowsBack_0.ts, law_RowsBack_0.ins, law_RowsBack_0.asg, law_RowsBack_0.alts, law_RowsBack_0.fn N⟩
def law_RowsBack_0.lam (N : Nat) : Pcs := pcs []
theorem law_RowsBack_0.pok (N : Nat) : (law_RowsBack_0.lam N).Ok Try.prog (law_RowsBack_0.C N) law_RowsBack_0.code := pcsOk_nil
theorem law_RowsBack_0.ev (N : Nat) (x : Sh.den law_RowsBack_0.ins) : evC (law_RowsBack_0.C N) law_RowsBack_0.code (law_RowsBack_0.lam N) ((law_RowsBack_0.P N).canon 1000 x) (altK (law_RowsBack_0.P N).alts) = law_RowsBack_0.fn N x := by kernel_rfl
theorem law_RowsBack_0.ok (N : Nat) : ((law_RowsBack_0.P N).pc (law_RowsBack.C N)).Ok Try.prog (law_RowsBack.C N) law_RowsBack_0.code := ps_ok (F := law_RowsBack_0.P N) (n0 := 1000) (law_RowsBack.cok N) mix (law_RowsBack_0.pok N) (fun x y h => (law_RowsBack_0.ev N x).trans h)
def law_RowsBack_1.ins : Sh := (.cons (.val (.slice .byte)) (.cons (.rown 34 (.pair (.int .i64) (.pair .bool (.pair (.int .i64) .str)))) (.cons (.val (.int .i64)) .nil)))
def law_RowsBack_1.ts : List Tmp := [1, 13, 14]
def law_RowsBack_1.asg : List Tmp := [4, 15, 16, 73, 74, 75, 76, 77, 78, 79, 80, 81, 82, 83, 84, 85, 86, 87, 88]
def law_RowsBack_1.C (N : Nat) : Ctx := { law_RowsBack.C N with may := fun t => law_RowsBack_1.asg.any (Nat.beq t) }
def law_RowsBack_1.code : Code := (sub law_RowsBack.code [true, true, true, true, true, true, false]).getD .skip
theorem law_RowsBack_1.cok (N : Nat) : (law_RowsBack_1.C N).Ok Try.prog := ⟨(law_RowsBack.cok N).U, (law_RowsBack.cok N).Γ, (law_RowsBack.cok N).Y⟩
def law_RowsBack_1.alts : List Alt := [⟨.normal, [], .nil⟩, ⟨.ret, [4], (.cons (.val .bool) .nil)⟩]
def law_RowsBack_1.run (N : Nat) (b : (List UInt8)) (r : (List (Int × (Bool × (Int × (List UInt8)))))) (g : Int) : Option (Unit ⊕ (Bool × Unit)) :=
  bif decide (g = (0 : Int)) then
    obind (rows_Encode_b.run N r) fun (l, n_, _) =>
      bif !(decide (n_ = (0 : Int))) then
        some (.inr (false, ()))
      else
        bif !(decide (l = b)) then
          some (.inr (false, ()))
        else some (.inl ())
  else some (.inl ())
def law_RowsBack_1.fn (N : Nat) (x : Sh.den law_RowsBack_1.ins) : Option (altsDen law_RowsBack_1.alts) := law_RowsBack_1.run N x.1 x.2.1 x.2.2.1
def law_RowsBack_1.P (N : Nat) : Ps := ⟨law_RowsBack_1.ts, law_RowsBack_1.ins, law_RowsBack_1.asg, law_RowsBack_1.alts, law_RowsBack_1.fn N⟩
def law_RowsBack_1.lam (N : Nat) : Pcs := pcs []
theorem law_RowsBack_1.pok (N : Nat) : (law_RowsBack_1.lam N).Ok Try.prog (law_RowsBack_1.C N) law_RowsBack_1.code := pcsOk_nil
theorem law_RowsBack_1.ev (N : Nat) (x : Sh.den law_RowsBack_1.ins) : evC (law_RowsBack_1.C N) law_RowsBack_1.code (law_RowsBack_1.lam N) ((law_RowsBack_1.P N).canon 1000 x) (altK (law_RowsBack_1.P N).alts) = law_RowsBack_1.fn N x := by kernel_rfl
theorem law_RowsBack_1.ok (N : Nat) : ((law_RowsBack_1.P N).pc (law_RowsBack.C N)).Ok Try.prog (law_RowsBack.C N) law_RowsBack_1.code := ps_ok (F := law_RowsBack_1.P N) (n0 := 1000) (law_RowsBack.cok N) mix (law_RowsBack_1.pok N) (fun x y h => (law_RowsBack_1.ev N x).trans h)
def law_RowsBack.outs : Sh := (.cons (.val .bool) .nil)
def law_RowsBack.run (N : Nat) (row : (List (Int × (Bool × (Int × (List UInt8)))))) (b : (List UInt8)) : Option (Bool × Unit) :=
  obind (rows_Encode.run N row) fun (l, n_, _) =>
    obind (rows_Key.run N row) fun (l1, n1, _) =>
      obind (law_alive.run N) fun (b1, _) =>
        bif !b1 then
          some (false, ())
        else
          bif !(decide (n_ = n1)) then
            some (false, ())
          else
            obind (law_RowsBack_0.run N row l n_ l1) fun y => match y with
            | .inl _ =>
                obind (rows_Decode.run N b) fun (l4, n4, _) =>
                  obind (law_RowsBack_1.run N b l4 n4) fun y => match y with
                  | .inl _ =>
                      obind (rows_Unkey.run N b) fun (l6, n6, _) =>
                        bif !(decide (n6 = (0 : Int))) then
                          some (true, ())
                        else
                          obind (rows_Key_b.run N l6) fun (l7, n7, _) =>
                            bif decide (n7 = (0 : Int)) then
                              some (decide (l7 = b), ())
                            else some (false, ())
                  | .inr (t41, _) =>
                      some (t41, ())
            | .inr (t4, _) =>
                some (t4, ())
def law_RowsBack.fn (N : Nat) (x : Sh.den law_RowsBack.ins) : Option (Sh.den law_RowsBack.outs) := law_RowsBack.run N x.1 x.2.1
def law_RowsBack.S (N : Nat) : Fs := ⟨law_RowsBack.ins, law_RowsBack.outs, law_RowsBack.fn N⟩
def law_RowsBack.lam (N : Nat) : Pcs := pcs [([true, true, true, true, false], (law_RowsBack_0.P N).pc (law_RowsBack.C N)), ([true, true, true, true, true, true, false], (law_RowsBack_1.P N).pc (law_RowsBack.C N))]
theorem law_RowsBack.pok (N : Nat) : (law_RowsBack.lam N).Ok Try.prog (law_RowsBack.C N) law_RowsBack.code := pcsOk_cons (c1 := law_RowsBack_0.code) (by kernel_rfl) (law_RowsBack_0.ok N) (pcsOk_cons (c1 := law_RowsBack_1.code) (by kernel_rfl) (law_RowsBack_1.ok N) (pcsOk_nil))
theorem law_RowsBack.ev (N : Nat) (x : Sh.den law_RowsBack.ins) : evC (law_RowsBack.C N) law_RowsBack.code (law_RowsBack.lam N) ⟨envOf 0 (bld (fun k => k) law_RowsBack.ins x 0).1, (bld (fun k => k) law_RowsBack.ins x 0).2.1, 1000⟩ (endF U law_RowsBack.outs Try.f9.results.toList []) = law_RowsBack.fn N x := by kernel_rfl
theorem law_RowsBack.ok (N : Nat) : (law_RowsBack.S N).con.Ok Try.prog 9 := fn_ok (F := law_RowsBack.S N) (n0 := 1000) Try.func9 (by kernel_rfl) (show Try.f9.body = some law_RowsBack.code by rfl) mix (law_RowsBack.cok N) (fun _ => rfl) (fun _ => rfl) (law_RowsBack.pok N) (fun x y h => (law_RowsBack.ev N x).trans h)
/-- hayloft/hayloftref02.less -/
def ref_less.ins : Sh := (.cons (.val (.pair (.int .i64) (.pair .bool (.pair (.int .i64) .str)))) (.cons (.val (.pair (.int .i64) (.pair .bool (.pair (.int .i64) .str)))) .nil))
def ref_less.C (N : Nat) : Ctx := ⟨U, 43, fun _ => true, gam [], gamY []⟩
theorem ref_less.cok (N : Nat) : (ref_less.C N).Ok Try.prog := ⟨U_ok, GamOk.nil, GamYOk.nil⟩
def ref_less.code : Code := Try.f45.body.getD .skip
def ref_less.outs : Sh := (.cons (.val .bool) .nil)
def ref_less.run (N : Nat) (a : (Int × (Bool × (Int × (List UInt8))))) (b : (Int × (Bool × (Int × (List UInt8))))) : Option (Bool × Unit) :=
  bif !(decide (a.1 = b.1)) then
    some (decide (a.1 < b.1), ())
  else
    bif decide (a.1 = (1 : Int)) then
      bif !a.2.1 then
        some (b.2.1, ())
      else some (false, ())
    else
      bif decide (a.1 = (2 : Int)) then
        some (decide (a.2.2.1 < b.2.2.1), ())
      else
        bif decide (a.1 = (3 : Int)) then
          some (Go.Op.bytesLess a.2.2.2 b.2.2.2, ())
        else some (false, ())
def ref_less.fn (N : Nat) (x : Sh.den ref_less.ins) : Option (Sh.den ref_less.outs) := ref_less.run N x.1 x.2.1
def ref_less.S (N : Nat) : Fs := ⟨ref_less.ins, ref_less.outs, ref_less.fn N⟩
def ref_less.lam (N : Nat) : Pcs := pcs []
theorem ref_less.pok (N : Nat) : (ref_less.lam N).Ok Try.prog (ref_less.C N) ref_less.code := pcsOk_nil
theorem ref_less.ev (N : Nat) (x : Sh.den ref_less.ins) : evC (ref_less.C N) ref_less.code (ref_less.lam N) ⟨envOf 0 (bld (fun k => k) ref_less.ins x 0).1, (bld (fun k => k) ref_less.ins x 0).2.1, 1000⟩ (endF U ref_less.outs Try.f45.results.toList []) = ref_less.fn N x := by kernel_rfl
theorem ref_less.ok (N : Nat) : (ref_less.S N).con.Ok Try.prog 45 := fn_ok (F := ref_less.S N) (n0 := 1000) Try.func45 (by kernel_rfl) (show Try.f45.body = some ref_less.code by rfl) mix (ref_less.cok N) (fun _ => rfl) (fun _ => rfl) (ref_less.pok N) (fun x y h => (ref_less.ev N x).trans h)
/-- hayloft/hayloftref02.Compare -/
def ref_Compare.ins : Sh := (.cons (.val (.pair (.int .i64) (.pair .bool (.pair (.int .i64) .str)))) (.cons (.val (.pair (.int .i64) (.pair .bool (.pair (.int .i64) .str)))) .nil))
def ref_Compare.C (N : Nat) : Ctx := ⟨U, 15, fun _ => true, gam [(45, (ref_less.S N).con)], gamY []⟩
theorem ref_Compare.cok (N : Nat) : (ref_Compare.C N).Ok Try.prog := ⟨U_ok, GamOk.cons (ref_less.ok N) (GamOk.nil), GamYOk.nil⟩
def ref_Compare.code : Code := Try.f34.body.getD .skip
def ref_Compare.outs : Sh := (.cons (.val (.int .i64)) .nil)
def ref_Compare.run (N : Nat) (a : (Int × (Bool × (Int × (List UInt8))))) (b : (Int × (Bool × (Int × (List UInt8))))) : Option (Int × Unit) :=
  obind (ref_less.run N a b) fun (b1, _) =>
    obind (ref_less.run N b a) fun (b2, _) =>
      bif b1 then
        some ((-1 : Int), ())
      else
        bif b2 then
          some ((1 : Int), ())
        else some ((0 : Int), ())
def ref_Compare.fn (N : Nat) (x : Sh.den ref_Compare.ins) : Option (Sh.den ref_Compare.outs) := ref_Compare.run N x.1 x.2.1
def ref_Compare.S (N : Nat) : Fs := ⟨ref_Compare.ins, ref_Compare.outs, ref_Compare.fn N⟩
def ref_Compare.lam (N : Nat) : Pcs := pcs []
theorem ref_Compare.pok (N : Nat) : (ref_Compare.lam N).Ok Try.prog (ref_Compare.C N) ref_Compare.code := pcsOk_nil
theorem ref_Compare.ev (N : Nat) (x : Sh.den ref_Compare.ins) : evC (ref_Compare.C N) ref_Compare.code (ref_Compare.lam N) ⟨envOf 0 (bld (fun k => k) ref_Compare.ins x 0).1, (bld (fun k => k) ref_Compare.ins x 0).2.1, 1000⟩ (endF U ref_Compare.outs Try.f34.results.toList []) = ref_Compare.fn N x := by kernel_rfl
theorem ref_Compare.ok (N : Nat) : (ref_Compare.S N).con.Ok Try.prog 34 := fn_ok (F := ref_Compare.S N) (n0 := 1000) Try.func34 (by kernel_rfl) (show Try.f34.body = some ref_Compare.code by rfl) mix (ref_Compare.cok N) (fun _ => rfl) (fun _ => rfl) (ref_Compare.pok N) (fun x y h => (ref_Compare.ev N x).trans h)
/-- hayloft/hayloftref02.Rows -/
def ref_Rows.ins : Sh := (.cons (.val (.slice (.pair (.int .i64) (.pair .bool (.pair (.int .i64) .str))))) (.cons (.val (.slice (.pair (.int .i64) (.pair .bool (.pair (.int .i64) .str))))) .nil))
def ref_Rows.C (N : Nat) : Ctx := ⟨U, 34, fun _ => true, gam [(34, (ref_Compare.S N).con)], gamY []⟩
theorem ref_Rows.cok (N : Nat) : (ref_Rows.C N).Ok Try.prog := ⟨U_ok, GamOk.cons (ref_Compare.ok N) (GamOk.nil), GamYOk.nil⟩
def ref_Rows.code : Code := Try.f21.body.getD .skip
def ref_Rows_0.ins : Sh := (.cons (.val (.slice (.pair (.int .i64) (.pair .bool (.pair (.int .i64) .str))))) (.cons (.val (.slice (.pair (.int .i64) (.pair .bool (.pair (.int .i64) .str))))) (.cons (.val (.int .i64)) .nil)))
def ref_Rows_0.ts : List Tmp := [0, 1, 5]
def ref_Rows_0.asg : List Tmp := [4, 5, 6, 7, 8, 9, 10, 11, 12, 13, 14, 15, 16, 17, 18, 19, 20, 21, 22, 23, 24, 25, 26, 27, 28]
def ref_Rows_0.C (N : Nat) : Ctx := { ref_Rows.C N with may := fun t => ref_Rows_0.asg.any (Nat.beq t) }
def ref_Rows_0.code : Code := loopBody (sub ref_Rows.code [true, false, true, false])
theorem ref_Rows_0.cok (N : Nat) : (ref_Rows_0.C N).Ok Try.prog := ⟨(ref_Rows.cok N).U, (ref_Rows.cok N).Γ, (ref_Rows.cok N).Y⟩
def ref_Rows_0.alts : List Alt := [⟨.ret, [4], (.cons (.val (.int .i64)) .nil)⟩, ⟨(.exit 0), [], .nil⟩]
def ref_Rows_0.go (N : Nat) : Nat → (List (Int × (Bool × (Int × (List UInt8))))) → (List (Int × (Bool × (Int × (List UInt8))))) → Int → Option ((Int × Unit) ⊕ Unit)
  | 0, _, _, _ => none
  | fuel + 1, a, b, i =>
    bif decide (i < (a.length : Int)) then
      bif decide (i = (b.length : Int)) then
        some (.inl ((1 : Int), ()))
      else
        bif inB i a.length then
          bif inB i b.length then
            obind (ref_Compare.run N (a.getD i.toNat ((0 : Int), false, (0 : Int), ([] : List UInt8))) (b.getD i.toNat ((0 : Int), false, (0 : Int), ([] : List UInt8)))) fun (n_, _) =>
              bif !(decide (n_ = (0 : Int))) then
                some (.inl (n_, ()))
              else ref_Rows_0.go N fuel a b (IntKind.i64.wrap (i + (1 : Int)))
          else none
        else none
    else some (.inr ())
def ref_Rows_0.g (N n : Nat) (x : Sh.den ref_Rows_0.ins) : Option (altsDen ref_Rows_0.alts) := ref_Rows_0.go N n x.1 x.2.1 x.2.2.1
def ref_Rows_0.P (N : Nat) : Ps := ⟨ref_Rows_0.ts, ref_Rows_0.ins, ref_Rows_0.asg, ref_Rows_0.alts, ref_Rows_0.g N N⟩
def ref_Rows_0.lam (N : Nat) : Pcs := pcs []
theorem ref_Rows_0.pok (N : Nat) : (ref_Rows_0.lam N).Ok Try.prog (ref_Rows_0.C N) ref_Rows_0.code := pcsOk_nil
theorem ref_Rows_0.ev (N n : Nat) (x : Sh.den ref_Rows_0.ins) : evC (ref_Rows_0.C N) ref_Rows_0.code (ref_Rows_0.lam N) ((ref_Rows_0.P N).canon 1000 x) (loopK (ref_Rows_0.P N) (ref_Rows_0.g N n)) = ref_Rows_0.g N (n + 1) x := by kernel_rfl
theorem ref_Rows_0.ok (N : Nat) : ((ref_Rows_0.P N).pc (ref_Rows.C N)).Ok Try.prog (ref_Rows.C N) (.loop ref_Rows_0.code) := loop_ok (F := ref_Rows_0.P N) (n0 := 1000) (N := N) (ref_Rows.cok N) mix (ref_Rows_0.pok N) (ref_Rows_0.g N) (fun x => by rfl) rfl (fun n x y h => (ref_Rows_0.ev N n x).trans h)
def ref_Rows.outs : Sh := (.cons (.val (.int .i64)) .nil)
def ref_Rows.run (N : Nat) (a : (List (Int × (Bool × (Int × (List UInt8)))))) (b : (List (Int × (Bool × (Int × (List UInt8)))))) : Option (Int × Unit) :=
  obind (ref_Rows_0.go N N a b (0 : Int)) fun y => match y with
  | .inl (t4, _) =>
      some (t4, ())
  | .inr (_) =>
      bif decide ((a.length : Int) < (b.length : Int)) then
        some ((-1 : Int), ())
      else some ((0 : Int), ())
def ref_Rows.fn (N : Nat) (x : Sh.den ref_Rows.ins) : Option (Sh.den ref_Rows.outs) := ref_Rows.run N x.1 x.2.1
def ref_Rows.S (N : Nat) : Fs := ⟨ref_Rows.ins, ref_Rows.outs, ref_Rows.fn N⟩
def ref_Rows.lam (N : Nat) : Pcs := pcs [([true, false, true, false], (ref_Rows_0.P N).pc (ref_Rows.C N))]
theorem ref_Rows.pok (N : Nat) : (ref_Rows.lam N).Ok Try.prog (ref_Rows.C N) ref_Rows.code := pcsOk_cons (c1 := .loop ref_Rows_0.code) (by kernel_rfl) (ref_Rows_0.ok N) (pcsOk_nil)
theorem ref_Rows.ev (N : Nat) (x : Sh.den ref_Rows.ins) : evC (ref_Rows.C N) ref_Rows.code (ref_Rows.lam N) ⟨envOf 0 (bld (fun k => k) ref_Rows.ins x 0).1, (bld (fun k => k) ref_Rows.ins x 0).2.1, 1000⟩ (endF U ref_Rows.outs Try.f21.results.toList []) = ref_Rows.fn N x := by kernel_rfl
theorem ref_Rows.ok (N : Nat) : (ref_Rows.S N).con.Ok Try.prog 21 := fn_ok (F := ref_Rows.S N) (n0 := 1000) Try.func21 (by kernel_rfl) (show Try.f21.body = some ref_Rows.code by rfl) mix (ref_Rows.cok N) (fun _ => rfl) (fun _ => rfl) (ref_Rows.pok N) (fun x y h => (ref_Rows.ev N x).trans h)
/-- hayloft/hayloftlaw03.RowsOrder -/
def law_RowsOrder.ins : Sh := (.cons (.val (.slice (.pair (.int .i64) (.pair .bool (.pair (.int .i64) .str))))) (.cons (.val (.slice (.pair (.int .i64) (.pair .bool (.pair (.int .i64) .str))))) .nil))
def law_RowsOrder.C (N : Nat) : Ctx := ⟨U, 52, fun _ => true, gam [(20, (rows_Key.S N).con), (14, (law_alive.S N).con), (21, (ref_Rows.S N).con)], gamY []⟩
theorem law_RowsOrder.cok (N : Nat) : (law_RowsOrder.C N).Ok Try.prog := ⟨U_ok, GamOk.cons (rows_Key.ok N) (GamOk.cons (law_alive.ok N) (GamOk.cons (ref_Rows.ok N) (GamOk.nil))), GamYOk.nil⟩
def law_RowsOrder.code : Code := Try.f6.body.getD .skip
def law_RowsOrder.outs : Sh := (.cons (.val .bool) .nil)
def law_RowsOrder.run (N : Nat) (a : (List (Int × (Bool × (Int × (List UInt8)))))) (b : (List (Int × (Bool × (Int × (List UInt8)))))) : Option (Bool × Unit) :=
  obind (rows_Key.run N a) fun (l, n_, _) =>
    obind (rows_Key.run N b) fun (l1, n1, _) =>
      obind (law_alive.run N) fun (b1, _) =>
        bif !b1 then
          obind (law_alive.run N) fun (b2, _) =>
            some (b2, ())
        else
          bif !(decide (n_ = (0 : Int))) then
            obind (law_alive.run N) fun (b3, _) =>
              some (b3, ())
          else
            bif !(decide (n1 = (0 : Int))) then
              obind (law_alive.run N) fun (b4, _) =>
                some (b4, ())
            else
              obind (ref_Rows.run N a b) fun (n2, _) =>
                bif (Go.Op.bytesLess l l1) == (decide (n2 < (0 : Int))) then
                  some ((decide (l = l1)) == (decide (n2 = (0 : Int))), ())
                else some (false, ())
def law_RowsOrder.fn (N : Nat) (x : Sh.den law_RowsOrder.ins) : Option (Sh.den law_RowsOrder.outs) := law_RowsOrder.run N x.1 x.2.1
def law_RowsOrder.S (N : Nat) : Fs := ⟨law_RowsOrder.ins, law_RowsOrder.outs, law_RowsOrder.fn N⟩
def law_RowsOrder.lam (N : Nat) : Pcs := pcs []
theorem law_RowsOrder.pok (N : Nat) : (law_RowsOrder.lam N).Ok Try.prog (law_RowsOrder.C N) law_RowsOrder.code := pcsOk_nil
theorem law_RowsOrder.ev (N : Nat) (x : Sh.den law_RowsOrder.ins) : evC (law_RowsOrder.C N) law_RowsOrder.code (law_RowsOrder.lam N) ⟨envOf 0 (bld (fun k => k) law_RowsOrder.ins x 0).1, (bld (fun k => k) law_RowsOrder.ins x 0).2.1, 1000⟩ (endF U law_RowsOrder.outs Try.f6.results.toList []) = law_RowsOrder.fn N x := by kernel_rfl
theorem law_RowsOrder.ok (N : Nat) : (law_RowsOrder.S N).con.Ok Try.prog 6 := fn_ok (F := law_RowsOrder.S N) (n0 := 1000) Try.func6 (by kernel_rfl) (show Try.f6.body = some law_RowsOrder.code by rfl) mix (law_RowsOrder.cok N) (fun _ => rfl) (fun _ => rfl) (law_RowsOrder.pok N) (fun x y h => (law_RowsOrder.ev N x).trans h)
/-- hayloft/rows.Hash -/
def rows_Hash.ins : Sh := (.cons (.val (.pair (.int .i64) (.pair .bool (.pair (.int .i64) .str)))) .nil)
def rows_Hash.C (N : Nat) : Ctx := ⟨U, 23, fun _ => true, gam [(31, (value_Right.S N).con), (26, (rows_one.S N).con)], gamY []⟩
theorem rows_Hash.cok (N : Nat) : (rows_Hash.C N).Ok Try.prog := ⟨U_ok, GamOk.cons (value_Right.ok N) (GamOk.cons (rows_one.ok N) (GamOk.nil)), GamYOk.nil⟩
def rows_Hash.code : Code := Try.f17.body.getD .skip
def rows_Hash_0.ins : Sh := (.cons (.val (.int .u64)) (.cons (.rown 5 .byte) (.cons (.val (.int .i64)) (.cons (.val (.int .i64)) .nil))))
def rows_Hash_0.ts : List Tmp := [3, 10, 11, 12]
def rows_Hash_0.asg : List Tmp := [3, 5, 12, 13, 14, 15, 16, 17, 18, 19, 20, 21]
def rows_Hash_0.C (N : Nat) : Ctx := { rows_Hash.C N with may := fun t => rows_Hash_0.asg.any (Nat.beq t) }
def rows_Hash_0.code : Code := loopBody (sub rows_Hash.code [true, true, true, false, true, false])
theorem rows_Hash_0.cok (N : Nat) : (rows_Hash_0.C N).Ok Try.prog := ⟨(rows_Hash.cok N).U, (rows_Hash.cok N).Γ, (rows_Hash.cok N).Y⟩
def rows_Hash_0.alts : List Alt := [⟨(.exit 0), [3], (.cons (.val (.int .u64)) .nil)⟩]
def rows_Hash_0.go (N : Nat) : Nat → Int → (List UInt8) → Int → Int → Option ((Int × Unit))
  | 0, _, _, _, _ => none
  | fuel + 1, h, t10, t11, t12 =>
    bif decide (t12 < t11) then
      bif inB t12 t10.length then
        bif decide (t12.toNat < t10.length) then
          rows_Hash_0.go N fuel (IntKind.u64.wrap ((IntKind.u64.wrap ((BitVec.ofInt 64 h ^^^ BitVec.ofInt 64 (IntKind.u64.wrap ((t10.getD t12.toNat (0 : UInt8)).toNat : Int))).toNat : Int)) * (1099511628211 : Int))) t10 t11 (IntKind.i64.wrap (t12 + (1 : Int)))
        else none
      else none
    else some (h, ())
def rows_Hash_0.g (N n : Nat) (x : Sh.den rows_Hash_0.ins) : Option (altsDen rows_Hash_0.alts) := rows_Hash_0.go N n x.1 x.2.1 x.2.2.1 x.2.2.2.1
def rows_Hash_0.P (N : Nat) : Ps := ⟨rows_Hash_0.ts, rows_Hash_0.ins, rows_Hash_0.asg, rows_Hash_0.alts, rows_Hash_0.g N N⟩
def rows_Hash_0.lam (N : Nat) : Pcs := pcs []
theorem rows_Hash_0.pok (N : Nat) : (rows_Hash_0.lam N).Ok Try.prog (rows_Hash_0.C N) rows_Hash_0.code := pcsOk_nil
theorem rows_Hash_0.ev (N n : Nat) (x : Sh.den rows_Hash_0.ins) : evC (rows_Hash_0.C N) rows_Hash_0.code (rows_Hash_0.lam N) ((rows_Hash_0.P N).canon 1000 x) (loopK (rows_Hash_0.P N) (rows_Hash_0.g N n)) = rows_Hash_0.g N (n + 1) x := by kernel_rfl
theorem rows_Hash_0.ok (N : Nat) : ((rows_Hash_0.P N).pc (rows_Hash.C N)).Ok Try.prog (rows_Hash.C N) (.loop rows_Hash_0.code) := loop_ok (F := rows_Hash_0.P N) (n0 := 1000) (N := N) (rows_Hash.cok N) mix (rows_Hash_0.pok N) (rows_Hash_0.g N) (fun x => by rfl) rfl (fun n x y h => (rows_Hash_0.ev N n x).trans h)
def rows_Hash.outs : Sh := (.cons (.val (.int .u64)) .nil)
def rows_Hash.run (N : Nat) (v : (Int × (Bool × (Int × (List UInt8))))) : Option (Int × Unit) :=
  obind (value_Right.run N v) fun (b, _) =>
    bif !b then
      some ((0 : Int), ())
    else
      obind (rows_one.run N ([] : List UInt8) v) fun (l, _) =>
        obind (rows_Hash_0.go N N (14695981039346656037 : Int) l (l.length : Int) (0 : Int)) fun (h, _) =>
          some (h, ())
def rows_Hash.fn (N : Nat) (x : Sh.den rows_Hash.ins) : Option (Sh.den rows_Hash.outs) := rows_Hash.run N x.1
def rows_Hash.S (N : Nat) : Fs := ⟨rows_Hash.ins, rows_Hash.outs, rows_Hash.fn N⟩
def rows_Hash.lam (N : Nat) : Pcs := pcs [([true, true, true, false, true, false], (rows_Hash_0.P N).pc (rows_Hash.C N))]
theorem rows_Hash.pok (N : Nat) : (rows_Hash.lam N).Ok Try.prog (rows_Hash.C N) rows_Hash.code := pcsOk_cons (c1 := .loop rows_Hash_0.code) (by kernel_rfl) (rows_Hash_0.ok N) (pcsOk_nil)
theorem rows_Hash.ev (N : Nat) (x : Sh.den rows_Hash.ins) : evC (rows_Hash.C N) rows_Hash.code (rows_Hash.lam N) ⟨envOf 0 (bld (fun k => k) rows_Hash.ins x 0).1, (bld (fun k => k) rows_Hash.ins x 0).2.1, 1000⟩ (endF U rows_Hash.outs Try.f17.results.toList []) = rows_Hash.fn N x := by kernel_rfl
theorem rows_Hash.ok (N : Nat) : (rows_Hash.S N).con.Ok Try.prog 17 := fn_ok (F := rows_Hash.S N) (n0 := 1000) Try.func17 (by kernel_rfl) (show Try.f17.body = some rows_Hash.code by rfl) mix (rows_Hash.cok N) (fun _ => rfl) (fun _ => rfl) (rows_Hash.pok N) (fun x y h => (rows_Hash.ev N x).trans h)
/-- hayloft/rows.Segment -/
def rows_Segment.ins : Sh := (.cons (.val (.pair (.int .i64) (.pair .bool (.pair (.int .i64) .str)))) (.cons (.val (.int .i64)) .nil))
def rows_Segment.C (N : Nat) : Ctx := ⟨U, 13, fun _ => true, gam [(17, (rows_Hash.S N).con)], gamY []⟩
theorem rows_Segment.cok (N : Nat) : (rows_Segment.C N).Ok Try.prog := ⟨U_ok, GamOk.cons (rows_Hash.ok N) (GamOk.nil), GamYOk.nil⟩
def rows_Segment.code : Code := Try.f16.body.getD .skip
def rows_Segment.outs : Sh := (.cons (.val (.int .i64)) .nil)
def rows_Segment.run (N : Nat) (v : (Int × (Bool × (Int × (List UInt8))))) (many : Int) : Option (Int × Unit) :=
  bif decide (many < (1 : Int)) then
    some ((0 : Int), ())
  else
    obind (rows_Hash.run N v) fun (n_, _) =>
      bif !(decide ((IntKind.u64.wrap many) = (0 : Int))) then
        some (IntKind.i64.wrap (n_.tmod (IntKind.u64.wrap many)), ())
      else none
def rows_Segment.fn (N : Nat) (x : Sh.den rows_Segment.ins) : Option (Sh.den rows_Segment.outs) := rows_Segment.run N x.1 x.2.1
def rows_Segment.S (N : Nat) : Fs := ⟨rows_Segment.ins, rows_Segment.outs, rows_Segment.fn N⟩
def rows_Segment.lam (N : Nat) : Pcs := pcs []
theorem rows_Segment.pok (N : Nat) : (rows_Segment.lam N).Ok Try.prog (rows_Segment.C N) rows_Segment.code := pcsOk_nil
theorem rows_Segment.ev (N : Nat) (x : Sh.den rows_Segment.ins) : evC (rows_Segment.C N) rows_Segment.code (rows_Segment.lam N) ⟨envOf 0 (bld (fun k => k) rows_Segment.ins x 0).1, (bld (fun k => k) rows_Segment.ins x 0).2.1, 1000⟩ (endF U rows_Segment.outs Try.f16.results.toList []) = rows_Segment.fn N x := by kernel_rfl
theorem rows_Segment.ok (N : Nat) : (rows_Segment.S N).con.Ok Try.prog 16 := fn_ok (F := rows_Segment.S N) (n0 := 1000) Try.func16 (by kernel_rfl) (show Try.f16.body = some rows_Segment.code by rfl) mix (rows_Segment.cok N) (fun _ => rfl) (fun _ => rfl) (rows_Segment.pok N) (fun x y h => (rows_Segment.ev N x).trans h)
/-- hayloft/hayloftref03.Hash -/
def ref_Hash.ins : Sh := (.cons (.val (.pair (.int .i64) (.pair .bool (.pair (.int .i64) .str)))) .nil)
def ref_Hash.C (N : Nat) : Ctx := ⟨U, 28, fun _ => true, gam [(32, (ref_Right_32.S N).con), (28, (ref_One.S N).con)], gamY []⟩
theorem ref_Hash.cok (N : Nat) : (ref_Hash.C N).Ok Try.prog := ⟨U_ok, GamOk.cons (ref_Right_32.ok N) (GamOk.cons (ref_One.ok N) (GamOk.nil)), GamYOk.nil⟩
def ref_Hash.code : Code := Try.f18.body.getD .skip
def ref_Hash_0.ins : Sh := (.cons (.val (.int .u64)) (.cons (.rown 5 .byte) (.cons (.val (.int .i64)) .nil)))
def ref_Hash_0.ts : List Tmp := [4, 5, 6]
def ref_Hash_0.asg : List Tmp := [4, 6, 13, 14, 15, 16, 17, 18, 19, 20, 21, 22, 23, 24, 25, 26]
def ref_Hash_0.C (N : Nat) : Ctx := { ref_Hash.C N with may := fun t => ref_Hash_0.asg.any (Nat.beq t) }
def ref_Hash_0.code : Code := loopBody (sub ref_Hash.code [true, true, true, true, true, false, true, false])
theorem ref_Hash_0.cok (N : Nat) : (ref_Hash_0.C N).Ok Try.prog := ⟨(ref_Hash.cok N).U, (ref_Hash.cok N).Γ, (ref_Hash.cok N).Y⟩
def ref_Hash_0.alts : List Alt := [⟨(.exit 0), [4], (.cons (.val (.int .u64)) .nil)⟩]
def ref_Hash_0.go (N : Nat) : Nat → Int → (List UInt8) → Int → Option ((Int × Unit))
  | 0, _, _, _ => none
  | fuel + 1, h, b, i =>
    bif decide (i < (b.length : Int)) then
      bif inB i b.length then
        bif decide (i.toNat < b.length) then
          ref_Hash_0.go N fuel (IntKind.u64.wrap ((IntKind.u64.wrap ((BitVec.ofInt 64 h ^^^ BitVec.ofInt 64 (IntKind.u64.wrap ((b.getD i.toNat (0 : UInt8)).toNat : Int))).toNat : Int)) * (1099511628211 : Int))) b (IntKind.i64.wrap (i + (1 : Int)))
        else none
      else none
    else some (h, ())
def ref_Hash_0.g (N n : Nat) (x : Sh.den ref_Hash_0.ins) : Option (altsDen ref_Hash_0.alts) := ref_Hash_0.go N n x.1 x.2.1 x.2.2.1
def ref_Hash_0.P (N : Nat) : Ps := ⟨ref_Hash_0.ts, ref_Hash_0.ins, ref_Hash_0.asg, ref_Hash_0.alts, ref_Hash_0.g N N⟩
def ref_Hash_0.lam (N : Nat) : Pcs := pcs []
theorem ref_Hash_0.pok (N : Nat) : (ref_Hash_0.lam N).Ok Try.prog (ref_Hash_0.C N) ref_Hash_0.code := pcsOk_nil
theorem ref_Hash_0.ev (N n : Nat) (x : Sh.den ref_Hash_0.ins) : evC (ref_Hash_0.C N) ref_Hash_0.code (ref_Hash_0.lam N) ((ref_Hash_0.P N).canon 1000 x) (loopK (ref_Hash_0.P N) (ref_Hash_0.g N n)) = ref_Hash_0.g N (n + 1) x := by kernel_rfl
theorem ref_Hash_0.ok (N : Nat) : ((ref_Hash_0.P N).pc (ref_Hash.C N)).Ok Try.prog (ref_Hash.C N) (.loop ref_Hash_0.code) := loop_ok (F := ref_Hash_0.P N) (n0 := 1000) (N := N) (ref_Hash.cok N) mix (ref_Hash_0.pok N) (ref_Hash_0.g N) (fun x => by rfl) rfl (fun n x y h => (ref_Hash_0.ev N n x).trans h)
def ref_Hash.outs : Sh := (.cons (.val (.int .u64)) .nil)
def ref_Hash.run (N : Nat) (v : (Int × (Bool × (Int × (List UInt8))))) : Option (Int × Unit) :=
  obind (ref_Right_32.run N v) fun (b, _) =>
    bif !b then
      some ((0 : Int), ())
    else
      obind (ref_One.run N v) fun (l, _) =>
        obind (ref_Hash_0.go N N (14695981039346656037 : Int) l (0 : Int)) fun (h, _) =>
          some (h, ())
def ref_Hash.fn (N : Nat) (x : Sh.den ref_Hash.ins) : Option (Sh.den ref_Hash.outs) := ref_Hash.run N x.1
def ref_Hash.S (N : Nat) : Fs := ⟨ref_Hash.ins, ref_Hash.outs, ref_Hash.fn N⟩
def ref_Hash.lam (N : Nat) : Pcs := pcs [([true, true, true, true, true, false, true, false], (ref_Hash_0.P N).pc (ref_Hash.C N))]
theorem ref_Hash.pok (N : Nat) : (ref_Hash.lam N).Ok Try.prog (ref_Hash.C N) ref_Hash.code := pcsOk_cons (c1 := .loop ref_Hash_0.code) (by kernel_rfl) (ref_Hash_0.ok N) (pcsOk_nil)
theorem ref_Hash.ev (N : Nat) (x : Sh.den ref_Hash.ins) : evC (ref_Hash.C N) ref_Hash.code (ref_Hash.lam N) ⟨envOf 0 (bld (fun k => k) ref_Hash.ins x 0).1, (bld (fun k => k) ref_Hash.ins x 0).2.1, 1000⟩ (endF U ref_Hash.outs Try.f18.results.toList []) = ref_Hash.fn N x := by kernel_rfl
theorem ref_Hash.ok (N : Nat) : (ref_Hash.S N).con.Ok Try.prog 18 := fn_ok (F := ref_Hash.S N) (n0 := 1000) Try.func18 (by kernel_rfl) (show Try.f18.body = some ref_Hash.code by rfl) mix (ref_Hash.cok N) (fun _ => rfl) (fun _ => rfl) (ref_Hash.pok N) (fun x y h => (ref_Hash.ev N x).trans h)
/-- hayloft/hayloftref03.Segment -/
def ref_Segment.ins : Sh := (.cons (.val (.pair (.int .i64) (.pair .bool (.pair (.int .i64) .str)))) (.cons (.val (.int .i64)) .nil))
def ref_Segment.C (N : Nat) : Ctx := ⟨U, 13, fun _ => true, gam [(18, (ref_Hash.S N).con)], gamY []⟩
theorem ref_Segment.cok (N : Nat) : (ref_Segment.C N).Ok Try.prog := ⟨U_ok, GamOk.cons (ref_Hash.ok N) (GamOk.nil), GamYOk.nil⟩
def ref_Segment.code : Code := Try.f19.body.getD .skip
def ref_Segment.outs : Sh := (.cons (.val (.int .i64)) .nil)
def ref_Segment.run (N : Nat) (v : (Int × (Bool × (Int × (List UInt8))))) (many : Int) : Option (Int × Unit) :=
  bif decide (many < (1 : Int)) then
    some ((0 : Int), ())
  else
    obind (ref_Hash.run N v) fun (n_, _) =>
      bif !(decide ((IntKind.u64.wrap many) = (0 : Int))) then
        some (IntKind.i64.wrap (n_.tmod (IntKind.u64.wrap many)), ())
      else none
def ref_Segment.fn (N : Nat) (x : Sh.den ref_Segment.ins) : Option (Sh.den ref_Segment.outs) := ref_Segment.run N x.1 x.2.1
def ref_Segment.S (N : Nat) : Fs := ⟨ref_Segment.ins, ref_Segment.outs, ref_Segment.fn N⟩
def ref_Segment.lam (N : Nat) : Pcs := pcs []
theorem ref_Segment.pok (N : Nat) : (ref_Segment.lam N).Ok Try.prog (ref_Segment.C N) ref_Segment.code := pcsOk_nil
theorem ref_Segment.ev (N : Nat) (x : Sh.den ref_Segment.ins) : evC (ref_Segment.C N) ref_Segment.code (ref_Segment.lam N) ⟨envOf 0 (bld (fun k => k) ref_Segment.ins x 0).1, (bld (fun k => k) ref_Segment.ins x 0).2.1, 1000⟩ (endF U ref_Segment.outs Try.f19.results.toList []) = ref_Segment.fn N x := by kernel_rfl
theorem ref_Segment.ok (N : Nat) : (ref_Segment.S N).con.Ok Try.prog 19 := fn_ok (F := ref_Segment.S N) (n0 := 1000) Try.func19 (by kernel_rfl) (show Try.f19.body = some ref_Segment.code by rfl) mix (ref_Segment.cok N) (fun _ => rfl) (fun _ => rfl) (ref_Segment.pok N) (fun x y h => (ref_Segment.ev N x).trans h)
/-- hayloft/hayloftlaw03.RowsHashes -/
def law_RowsHashes.ins : Sh := (.cons (.val (.pair (.int .i64) (.pair .bool (.pair (.int .i64) .str)))) (.cons (.val (.int .i64)) .nil))
def law_RowsHashes.C (N : Nat) : Ctx := ⟨U, 37, fun _ => true, gam [(16, (rows_Segment.S N).con), (14, (law_alive.S N).con), (17, (rows_Hash.S N).con), (18, (ref_Hash.S N).con), (19, (ref_Segment.S N).con)], gamY []⟩
theorem law_RowsHashes.cok (N : Nat) : (law_RowsHashes.C N).Ok Try.prog := ⟨U_ok, GamOk.cons (rows_Segment.ok N) (GamOk.cons (law_alive.ok N) (GamOk.cons (rows_Hash.ok N) (GamOk.cons (ref_Hash.ok N) (GamOk.cons (ref_Segment.ok N) (GamOk.nil))))), GamYOk.nil⟩
def law_RowsHashes.code : Code := Try.f5.body.getD .skip
def law_RowsHashes.outs : Sh := (.cons (.val .bool) .nil)
def law_RowsHashes.run (N : Nat) (v : (Int × (Bool × (Int × (List UInt8))))) (many : Int) : Option (Bool × Unit) :=
  obind (rows_Segment.run N v many) fun (n_, _) =>
    obind (law_alive.run N) fun (b, _) =>
      bif b then
        obind (rows_Hash.run N v) fun (n1, _) =>
          obind (ref_Hash.run N v) fun (n2, _) =>
            bif decide (n1 = n2) then
              obind (ref_Segment.run N v many) fun (n3, _) =>
                bif decide (n_ = n3) then
                  bif decide (n_ ≥ (0 : Int)) then
                    bif decide (many < (1 : Int)) then
                      some (true, ())
                    else some (decide (n_ < many), ())
                  else some (false, ())
                else some (false, ())
            else some (false, ())
      else some (false, ())
def law_RowsHashes.fn (N : Nat) (x : Sh.den law_RowsHashes.ins) : Option (Sh.den law_RowsHashes.outs) := law_RowsHashes.run N x.1 x.2.1
def law_RowsHashes.S (N : Nat) : Fs := ⟨law_RowsHashes.ins, law_RowsHashes.outs, law_RowsHashes.fn N⟩
def law_RowsHashes.lam (N : Nat) : Pcs := pcs []
theorem law_RowsHashes.pok (N : Nat) : (law_RowsHashes.lam N).Ok Try.prog (law_RowsHashes.C N) law_RowsHashes.code := pcsOk_nil
theorem law_RowsHashes.ev (N : Nat) (x : Sh.den law_RowsHashes.ins) : evC (law_RowsHashes.C N) law_RowsHashes.code (law_RowsHashes.lam N) ⟨envOf 0 (bld (fun k => k) law_RowsHashes.ins x 0).1, (bld (fun k => k) law_RowsHashes.ins x 0).2.1, 1000⟩ (endF U law_RowsHashes.outs Try.f5.results.toList []) = law_RowsHashes.fn N x := by kernel_rfl
theorem law_RowsHashes.ok (N : Nat) : (law_RowsHashes.S N).con.Ok Try.prog 5 := fn_ok (F := law_RowsHashes.S N) (n0 := 1000) Try.func5 (by kernel_rfl) (show Try.f5.body = some law_RowsHashes.code by rfl) mix (law_RowsHashes.cok N) (fun _ => rfl) (fun _ => rfl) (law_RowsHashes.pok N) (fun x y h => (law_RowsHashes.ev N x).trans h)
/-- hayloft/hayloftref02.SameRow -/
def ref_SameRow_c.ins : Sh := (.cons (.val (.slice (.pair (.int .i64) (.pair .bool (.pair (.int .i64) .str))))) (.cons (.val (.slice (.pair (.int .i64) (.pair .bool (.pair (.int .i64) .str))))) .nil))
def ref_SameRow_c.C (N : Nat) : Ctx := ⟨U, 26, fun _ => true, gam [], gamY []⟩
theorem ref_SameRow_c.cok (N : Nat) : (ref_SameRow_c.C N).Ok Try.prog := ⟨U_ok, GamOk.nil, GamYOk.nil⟩
def ref_SameRow_c.code : Code := Try.f15.body.getD .skip
def ref_SameRow_c_0.ins : Sh := (.cons (.val (.slice (.pair (.int .i64) (.pair .bool (.pair (.int .i64) .str))))) (.cons (.val (.slice (.pair (.int .i64) (.pair .bool (.pair (.int .i64) .str))))) (.cons (.val (.int .i64)) .nil)))
def ref_SameRow_c_0.ts : List Tmp := [0, 1, 5]
def ref_SameRow_c_0.asg : List Tmp := [4, 5, 11, 12, 13, 14, 15, 16, 17, 18, 19, 20, 21, 22, 23, 24, 25]
def ref_SameRow_c_0.C (N : Nat) : Ctx := { ref_SameRow_c.C N with may := fun t => ref_SameRow_c_0.asg.any (Nat.beq t) }
def ref_SameRow_c_0.code : Code := loopBody (sub ref_SameRow_c.code [true, true, false, true, false])
theorem ref_SameRow_c_0.cok (N : Nat) : (ref_SameRow_c_0.C N).Ok Try.prog := ⟨(ref_SameRow_c.cok N).U, (ref_SameRow_c.cok N).Γ, (ref_SameRow_c.cok N).Y⟩
def ref_SameRow_c_0.alts : List Alt := [⟨.ret, [4], (.cons (.val .bool) .nil)⟩, ⟨(.exit 0), [], .nil⟩]
def ref_SameRow_c_0.go (N : Nat) : Nat → (List (Int × (Bool × (Int × (List UInt8))))) → (List (Int × (Bool × (Int × (List UInt8))))) → Int → Option ((Bool × Unit) ⊕ Unit)
  | 0, _, _, _ => none
  | fuel + 1, a, b, i =>
    bif decide (i < (a.length : Int)) then
      bif inB i a.length then
        bif inB i b.length then
          bif !((decide ((a.getD i.toNat ((0 : Int), false, (0 : Int), ([] : List UInt8))).1 = (b.getD i.toNat ((0 : Int), false, (0 : Int), ([] : List UInt8))).1)) && (((a.getD i.toNat ((0 : Int), false, (0 : Int), ([] : List UInt8))).2.1 == (b.getD i.toNat ((0 : Int), false, (0 : Int), ([] : List UInt8))).2.1) && ((decide ((a.getD i.toNat ((0 : Int), false, (0 : Int), ([] : List UInt8))).2.2.1 = (b.getD i.toNat ((0 : Int), false, (0 : Int), ([] : List UInt8))).2.2.1)) && ((decide ((a.getD i.toNat ((0 : Int), false, (0 : Int), ([] : List UInt8))).2.2.2 = (b.getD i.toNat ((0 : Int), false, (0 : Int), ([] : List UInt8))).2.2.2)) && true)))) then
            some (.inl (false, ()))
          else ref_SameRow_c_0.go N fuel a b (IntKind.i64.wrap (i + (1 : Int)))
        else none
      else none
    else some (.inr ())
def ref_SameRow_c_0.g (N n : Nat) (x : Sh.den ref_SameRow_c_0.ins) : Option (altsDen ref_SameRow_c_0.alts) := ref_SameRow_c_0.go N n x.1 x.2.1 x.2.2.1
def ref_SameRow_c_0.P (N : Nat) : Ps := ⟨ref_SameRow_c_0.ts, ref_SameRow_c_0.ins, ref_SameRow_c_0.asg, ref_SameRow_c_0.alts, ref_SameRow_c_0.g N N⟩
def ref_SameRow_c_0.lam (N : Nat) : Pcs := pcs []
theorem ref_SameRow_c_0.pok (N : Nat) : (ref_SameRow_c_0.lam N).Ok Try.prog (ref_SameRow_c_0.C N) ref_SameRow_c_0.code := pcsOk_nil
theorem ref_SameRow_c_0.ev (N n : Nat) (x : Sh.den ref_SameRow_c_0.ins) : evC (ref_SameRow_c_0.C N) ref_SameRow_c_0.code (ref_SameRow_c_0.lam N) ((ref_SameRow_c_0.P N).canon 1000 x) (loopK (ref_SameRow_c_0.P N) (ref_SameRow_c_0.g N n)) = ref_SameRow_c_0.g N (n + 1) x := by kernel_rfl
theorem ref_SameRow_c_0.ok (N : Nat) : ((ref_SameRow_c_0.P N).pc (ref_SameRow_c.C N)).Ok Try.prog (ref_SameRow_c.C N) (.loop ref_SameRow_c_0.code) := loop_ok (F := ref_SameRow_c_0.P N) (n0 := 1000) (N := N) (ref_SameRow_c.cok N) mix (ref_SameRow_c_0.pok N) (ref_SameRow_c_0.g N) (fun x => by rfl) rfl (fun n x y h => (ref_SameRow_c_0.ev N n x).trans h)
def ref_SameRow_c.outs : Sh := (.cons (.val .bool) .nil)
def ref_SameRow_c.run (N : Nat) (a : (List (Int × (Bool × (Int × (List UInt8)))))) (b : (List (Int × (Bool × (Int × (List UInt8)))))) : Option (Bool × Unit) :=
  bif !(decide ((a.length : Int) = (b.length : Int))) then
    some (false, ())
  else
    obind (ref_SameRow_c_0.go N N a b (0 : Int)) fun y => match y with
    | .inl (t4, _) =>
        some (t4, ())
    | .inr (_) =>
        some (true, ())
def ref_SameRow_c.fn (N : Nat) (x : Sh.den ref_SameRow_c.ins) : Option (Sh.den ref_SameRow_c.outs) := ref_SameRow_c.run N x.1 x.2.1
def ref_SameRow_c.S (N : Nat) : Fs := ⟨ref_SameRow_c.ins, ref_SameRow_c.outs, ref_SameRow_c.fn N⟩
def ref_SameRow_c.lam (N : Nat) : Pcs := pcs [([true, true, false, true, false], (ref_SameRow_c_0.P N).pc (ref_SameRow_c.C N))]
theorem ref_SameRow_c.pok (N : Nat) : (ref_SameRow_c.lam N).Ok Try.prog (ref_SameRow_c.C N) ref_SameRow_c.code := pcsOk_cons (c1 := .loop ref_SameRow_c_0.code) (by kernel_rfl) (ref_SameRow_c_0.ok N) (pcsOk_nil)
theorem ref_SameRow_c.ev (N : Nat) (x : Sh.den ref_SameRow_c.ins) : evC (ref_SameRow_c.C N) ref_SameRow_c.code (ref_SameRow_c.lam N) ⟨envOf 0 (bld (fun k => k) ref_SameRow_c.ins x 0).1, (bld (fun k => k) ref_SameRow_c.ins x 0).2.1, 1000⟩ (endF U ref_SameRow_c.outs Try.f15.results.toList []) = ref_SameRow_c.fn N x := by kernel_rfl
theorem ref_SameRow_c.ok (N : Nat) : (ref_SameRow_c.S N).con.Ok Try.prog 15 := fn_ok (F := ref_SameRow_c.S N) (n0 := 1000) Try.func15 (by kernel_rfl) (show Try.f15.body = some ref_SameRow_c.code by rfl) mix (ref_SameRow_c.cok N) (fun _ => rfl) (fun _ => rfl) (ref_SameRow_c.pok N) (fun x y h => (ref_SameRow_c.ev N x).trans h)
/-- hayloft/hayloftlaw03.RowsApart -/
def law_RowsApart.ins : Sh := (.cons (.val (.slice (.pair (.int .i64) (.pair .bool (.pair (.int .i64) .str))))) (.cons (.val (.slice (.pair (.int .i64) (.pair .bool (.pair (.int .i64) .str))))) (.cons (.val (.int .i64)) .nil)))
def law_RowsApart.C (N : Nat) : Ctx := ⟨U, 94, fun _ => true, gam [(10, (rows_Encode.S N).con), (20, (rows_Key.S N).con), (14, (law_alive.S N).con), (15, (ref_SameRow_c.S N).con), (16, (rows_Segment.S N).con)], gamY []⟩
theorem law_RowsApart.cok (N : Nat) : (law_RowsApart.C N).Ok Try.prog := ⟨U_ok, GamOk.cons (rows_Encode.ok N) (GamOk.cons (rows_Key.ok N) (GamOk.cons (law_alive.ok N) (GamOk.cons (ref_SameRow_c.ok N) (GamOk.cons (rows_Segment.ok N) (GamOk.nil))))), GamYOk.nil⟩
def law_RowsApart.code : Code := Try.f7.body.getD .skip
def law_RowsApart.outs : Sh := (.cons (.val .bool) .nil)
def law_RowsApart.run (N : Nat) (a : (List (Int × (Bool × (Int × (List UInt8)))))) (b : (List (Int × (Bool × (Int × (List UInt8)))))) (many : Int) : Option (Bool × Unit) :=
  obind (rows_Encode.run N a) fun (l, n_, _) =>
    obind (rows_Encode.run N b) fun (l1, n1, _) =>
      obind (rows_Key.run N a) fun (l2, n2, _) =>
        obind (rows_Key.run N b) fun (l3, n3, _) =>
          bif !(decide (n_ = (0 : Int))) then
            obind (law_alive.run N) fun (b1, _) =>
              some (b1, ())
          else
            bif !(decide (n1 = (0 : Int))) then
              obind (law_alive.run N) fun (b2, _) =>
                some (b2, ())
            else
              obind (ref_SameRow_c.run N a b) fun (b3, _) =>
                bif !((decide (l = l1)) == b3) then
                  some (false, ())
                else
                  bif !((decide (l2 = l3)) == b3) then
                    some (false, ())
                  else
                    bif decide ((a.length : Int) = (0 : Int)) then
                      obind (law_alive.run N) fun (b4, _) =>
                        some (b4, ())
                    else
                      bif decide ((b.length : Int) = (0 : Int)) then
                        obind (law_alive.run N) fun (b5, _) =>
                          some (b5, ())
                      else
                        bif inB (0 : Int) a.length then
                          bif inB (0 : Int) b.length then
                            bif !((decide ((a.getD 0 ((0 : Int), false, (0 : Int), ([] : List UInt8))).1 = (b.getD 0 ((0 : Int), false, (0 : Int), ([] : List UInt8))).1)) && (((a.getD 0 ((0 : Int), false, (0 : Int), ([] : List UInt8))).2.1 == (b.getD 0 ((0 : Int), false, (0 : Int), ([] : List UInt8))).2.1) && ((decide ((a.getD 0 ((0 : Int), false, (0 : Int), ([] : List UInt8))).2.2.1 = (b.getD 0 ((0 : Int), false, (0 : Int), ([] : List UInt8))).2.2.1)) && ((decide ((a.getD 0 ((0 : Int), false, (0 : Int), ([] : List UInt8))).2.2.2 = (b.getD 0 ((0 : Int), false, (0 : Int), ([] : List UInt8))).2.2.2)) && true)))) then
                              obind (law_alive.run N) fun (b6, _) =>
                                some (b6, ())
                            else
                              obind (law_alive.run N) fun (b7, _) =>
                                bif b7 then
                                  bif inB (0 : Int) a.length then
                                    obind (rows_Segment.run N (a.getD 0 ((0 : Int), false, (0 : Int), ([] : List UInt8))) many) fun (n4, _) =>
                                      bif inB (0 : Int) b.length then
                                        obind (rows_Segment.run N (b.getD 0 ((0 : Int), false, (0 : Int), ([] : List UInt8))) many) fun (n5, _) =>
                                          some (decide (n4 = n5), ())
                                      else none
                                  else none
                                else some (false, ())
                          else none
                        else none
def law_RowsApart.fn (N : Nat) (x : Sh.den law_RowsApart.ins) : Option (Sh.den law_RowsApart.outs) := law_RowsApart.run N x.1 x.2.1 x.2.2.1
def law_RowsApart.S (N : Nat) : Fs := ⟨law_RowsApart.ins, law_RowsApart.outs, law_RowsApart.fn N⟩
def law_RowsApart.lam (N : Nat) : Pcs := pcs []
theorem law_RowsApart.pok (N : Nat) : (law_RowsApart.lam N).Ok Try.prog (law_RowsApart.C N) law_RowsApart.code := pcsOk_nil
theorem law_RowsApart.ev (N : Nat) (x : Sh.den law_RowsApart.ins) : evC (law_RowsApart.C N) law_RowsApart.code (law_RowsApart.lam N) ⟨envOf 0 (bld (fun k => k) law_RowsApart.ins x 0).1, (bld (fun k => k) law_RowsApart.ins x 0).2.1, 1000⟩ (endF U law_RowsApart.outs Try.f7.results.toList []) = law_RowsApart.fn N x := by kernel_rfl
theorem law_RowsApart.ok (N : Nat) : (law_RowsApart.S N).con.Ok Try.prog 7 := fn_ok (F := law_RowsApart.S N) (n0 := 1000) Try.func7 (by kernel_rfl) (show Try.f7.body = some law_RowsApart.code by rfl) mix (law_RowsApart.cok N) (fun _ => rfl) (fun _ => rfl) (law_RowsApart.pok N) (fun x y h => (law_RowsApart.ev N x).trans h)
/-- hayloft/hayloftlaw03.RowsPrefix -/
def law_RowsPrefix.ins : Sh := (.cons (.val (.slice (.pair (.int .i64) (.pair .bool (.pair (.int .i64) .str))))) (.cons (.val (.int .i64)) (.cons (.val (.slice .byte)) .nil)))
def law_RowsPrefix.C (N : Nat) : Ctx := ⟨U, 61, fun _ => true, gam [(10, (rows_Encode.S N).con), (14, (law_alive.S N).con), (12, (rows_Decode.S N).con)], gamY []⟩
theorem law_RowsPrefix.cok (N : Nat) : (law_RowsPrefix.C N).Ok Try.prog := ⟨U_ok, GamOk.cons (rows_Encode.ok N) (GamOk.cons (law_alive.ok N) (GamOk.cons (rows_Decode.ok N) (GamOk.nil))), GamYOk.nil⟩
def law_RowsPrefix.code : Code := Try.f4.body.getD .skip
def law_RowsPrefix.outs : Sh := (.cons (.val .bool) .nil)
def law_RowsPrefix.run (N : Nat) (row : (List (Int × (Bool × (Int × (List UInt8)))))) (cut : Int) (more : (List UInt8)) : Option (Bool × Unit) :=
  obind (rows_Encode.run N row) fun (l, n_, _) =>
    bif !(decide (n_ = (0 : Int))) then
      obind (law_alive.run N) fun (b, _) =>
        some (b, ())
    else
      bif decide (cut < (0 : Int)) then
        obind (law_alive.run N) fun (b1, _) =>
          some (b1, ())
      else
        bif decide (cut ≥ (l.length : Int)) then
          obind (law_alive.run N) fun (b2, _) =>
            some (b2, ())
        else
          bif okB (0 : Int) cut l.length then
            obind (rows_Decode.run N ((l.drop 0).take (cut - (0 : Int)).toNat)) fun (l1, n1, _) =>
              bif room (0 + l.length) 1 then
                bif room (l.length + more.length) 1 then
                  obind (rows_Decode.run N (l ++ more)) fun (l2, n2, _) =>
                    obind (law_alive.run N) fun (b3, _) =>
                      bif b3 then
                        bif decide (n1 = (30 : Int)) then
                          bif decide ((more.length : Int) = (0 : Int)) then
                            some (true, ())
                          else some (decide (n2 = (30 : Int)), ())
                        else some (false, ())
                      else some (false, ())
                else none
              else none
          else none
def law_RowsPrefix.fn (N : Nat) (x : Sh.den law_RowsPrefix.ins) : Option (Sh.den law_RowsPrefix.outs) := law_RowsPrefix.run N x.1 x.2.1 x.2.2.1
def law_RowsPrefix.S (N : Nat) : Fs := ⟨law_RowsPrefix.ins, law_RowsPrefix.outs, law_RowsPrefix.fn N⟩
def law_RowsPrefix.lam (N : Nat) : Pcs := pcs []
theorem law_RowsPrefix.pok (N : Nat) : (law_RowsPrefix.lam N).Ok Try.prog (law_RowsPrefix.C N) law_RowsPrefix.code := pcsOk_nil
theorem law_RowsPrefix.ev (N : Nat) (x : Sh.den law_RowsPrefix.ins) : evC (law_RowsPrefix.C N) law_RowsPrefix.code (law_RowsPrefix.lam N) ⟨envOf 0 (bld (fun k => k) law_RowsPrefix.ins x 0).1, (bld (fun k => k) law_RowsPrefix.ins x 0).2.1, 1000⟩ (endF U law_RowsPrefix.outs Try.f4.results.toList []) = law_RowsPrefix.fn N x := by kernel_rfl
theorem law_RowsPrefix.ok (N : Nat) : (law_RowsPrefix.S N).con.Ok Try.prog 4 := fn_ok (F := law_RowsPrefix.S N) (n0 := 1000) Try.func4 (by kernel_rfl) (show Try.f4.body = some law_RowsPrefix.code by rfl) mix (law_RowsPrefix.cok N) (fun _ => rfl) (fun _ => rfl) (law_RowsPrefix.pok N) (fun x y h => (law_RowsPrefix.ev N x).trans h)
end
end Go.Hay.Ytkdcillgnlfabaa
