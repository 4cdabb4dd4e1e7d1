/- Functions of the program as functions of Lean, and that they are what the program computes. Conditions: none. -/
import Derived.Test.YtnaaaldeadjohaaFa
set_option linter.unusedVariables false
namespace Go.Hay.Ytnaaaldeadjohaa
open Go Go.Hay Go.Proofs
noncomputable section
set_option maxRecDepth 100000
theorem ref_Nodes.ok (N : Nat) : (ref_Nodes.S N).con.Ok Try.prog 19 := fn_ok (F := ref_Nodes.S N) (n0 := 1000) Try.func19 (by kernel_rfl) (show Try.f19.body = some ref_Nodes.code by rfl) mix (ref_Nodes.cok N) (fun _ => rfl) (fun _ => rfl) (ref_Nodes.pok N) (fun x y h => (ref_Nodes.ev N x).trans h)
/-- hayloft/hayloftref13.In -/
def ref_In_b.ins : Sh := (.cons (.rown 3 (.int .i64)) (.cons (.val (.int .i64)) .nil))
def ref_In_b.C (N : Nat) : Ctx := ⟨U, 18, fun _ => true, gam [], gamY []⟩
theorem ref_In_b.cok (N : Nat) : (ref_In_b.C N).Ok Try.prog := ⟨U_ok, GamOk.nil, GamYOk.nil⟩
def ref_In_b.code : Code := Try.f22.body.getD .skip
def ref_In_b_0.ins : Sh := (.cons (.rown 3 (.int .i64)) (.cons (.val (.int .i64)) (.cons (.val (.int .i64)) .nil)))
def ref_In_b_0.ts : List Tmp := [0, 1, 5]
def ref_In_b_0.asg : List Tmp := [4, 5, 6, 7, 8, 9, 10, 11, 12, 13, 14, 15, 16, 17]
def ref_In_b_0.C (N : Nat) : Ctx := { ref_In_b.C N with may := fun t => ref_In_b_0.asg.any (Nat.beq t) }
def ref_In_b_0.code : Code := loopBody (sub ref_In_b.code [true, false, true, false])
theorem ref_In_b_0.cok (N : Nat) : (ref_In_b_0.C N).Ok Try.prog := ⟨(ref_In_b.cok N).U, (ref_In_b.cok N).Γ, (ref_In_b.cok N).Y⟩
def ref_In_b_0.alts : List Alt := [⟨.ret, [4], (.cons (.val .bool) .nil)⟩, ⟨(.exit 0), [], .nil⟩]
def ref_In_b_0.go (N : Nat) : Nat → (List Int) → Int → Int → Option ((Bool × Unit) ⊕ Unit)
  | 0, _, _, _ => none
  | fuel + 1, l, n_, i =>
    bif decide (i < (l.length : Int)) then
      bif inB i l.length then
        bif decide (i.toNat < l.length) then
          bif decide ((l.getD i.toNat (0 : Int)) = n_) then
            some (.inl (true, ()))
          else ref_In_b_0.go N fuel l n_ (IntKind.i64.wrap (i + (1 : Int)))
        else none
      else none
    else some (.inr ())
def ref_In_b_0.g (N n : Nat) (x : Sh.den ref_In_b_0.ins) : Option (altsDen ref_In_b_0.alts) := ref_In_b_0.go N n x.1 x.2.1 x.2.2.1
def ref_In_b_0.P (N : Nat) : Ps := ⟨ref_In_b_0.ts, ref_In_b_0.ins, ref_In_b_0.asg, ref_In_b_0.alts, ref_In_b_0.g N N⟩
def ref_In_b_0.lam (N : Nat) : Pcs := pcs []
theorem ref_In_b_0.pok (N : Nat) : (ref_In_b_0.lam N).Ok Try.prog (ref_In_b_0.C N) ref_In_b_0.code := pcsOk_nil
theorem ref_In_b_0.ev (N n : Nat) (x : Sh.den ref_In_b_0.ins) : evC (ref_In_b_0.C N) ref_In_b_0.code (ref_In_b_0.lam N) ((ref_In_b_0.P N).canon 1000 x) (loopK (ref_In_b_0.P N) (ref_In_b_0.g N n)) = ref_In_b_0.g N (n + 1) x := by kernel_rfl
theorem ref_In_b_0.ok (N : Nat) : ((ref_In_b_0.P N).pc (ref_In_b.C N)).Ok Try.prog (ref_In_b.C N) (.loop ref_In_b_0.code) := loop_ok (F := ref_In_b_0.P N) (n0 := 1000) (N := N) (ref_In_b.cok N) mix (ref_In_b_0.pok N) (ref_In_b_0.g N) (fun x => by rfl) rfl (fun n x y h => (ref_In_b_0.ev N n x).trans h)
def ref_In_b.outs : Sh := (.cons (.val .bool) .nil)
def ref_In_b.run (N : Nat) (l : (List Int)) (n_ : Int) : Option (Bool × Unit) :=
  obind (ref_In_b_0.go N N l n_ (0 : Int)) fun y => match y with
  | .inl (t4, _) =>
      some (t4, ())
  | .inr (_) =>
      some (false, ())
def ref_In_b.fn (N : Nat) (x : Sh.den ref_In_b.ins) : Option (Sh.den ref_In_b.outs) := ref_In_b.run N x.1 x.2.1
def ref_In_b.S (N : Nat) : Fs := ⟨ref_In_b.ins, ref_In_b.outs, ref_In_b.fn N⟩
def ref_In_b.lam (N : Nat) : Pcs := pcs [([true, false, true, false], (ref_In_b_0.P N).pc (ref_In_b.C N))]
theorem ref_In_b.pok (N : Nat) : (ref_In_b.lam N).Ok Try.prog (ref_In_b.C N) ref_In_b.code := pcsOk_cons (c1 := .loop ref_In_b_0.code) (by kernel_rfl) (ref_In_b_0.ok N) (pcsOk_nil)
theorem ref_In_b.ev (N : Nat) (x : Sh.den ref_In_b.ins) : evC (ref_In_b.C N) ref_In_b.code (ref_In_b.lam N) ⟨envOf 0 (bld (fun k => k) ref_In_b.ins x 0).1, (bld (fun k => k) ref_In_b.ins x 0).2.1, 1000⟩ (endF U ref_In_b.outs Try.f22.results.toList []) = ref_In_b.fn N x := by kernel_rfl
theorem ref_In_b.ok (N : Nat) : (ref_In_b.S N).con.Ok Try.prog 22 := fn_ok (F := ref_In_b.S N) (n0 := 1000) Try.func22 (by kernel_rfl) (show Try.f22.body = some ref_In_b.code by rfl) mix (ref_In_b.cok N) (fun _ => rfl) (fun _ => rfl) (ref_In_b.pok N) (fun x y h => (ref_In_b.ev N x).trans h)
/-- hayloft/hayloftref13.Of -/
def ref_Of.ins : Sh := (.cons (.val (.pair (.int .i64) (.pair (.int .i64) (.pair (.int .i64) (.pair (.slice (.pair .str (.slice (.pair .str (.pair (.int .i64) .bool))))) (.slice (.pair .str (.pair (.int .i64) (.pair (.slice (.int .i64)) (.pair (.slice (.int .i64)) (.pair (.int .i64) (.int .i64)))))))))))) (.cons (.val (.int .i64)) .nil))
def ref_Of.C (N : Nat) : Ctx := ⟨U, 34, fun _ => true, gam [(16, (ref_Segments.S N).con), (19, (ref_Nodes.S N).con), (22, (ref_In_b.S N).con)], gamY []⟩
theorem ref_Of.cok (N : Nat) : (ref_Of.C N).Ok Try.prog := ⟨U_ok, GamOk.cons (ref_Segments.ok N) (GamOk.cons (ref_Nodes.ok N) (GamOk.cons (ref_In_b.ok N) (GamOk.nil))), GamYOk.nil⟩
def ref_Of.code : Code := Try.f15.body.getD .skip
def ref_Of_0.ins : Sh := (.cons (.val (.int .i64)) (.cons (.rbox 25 (.cons (.val (.int .i64)) (.cons (.val (.int .i64)) (.cons (.val (.int .i64)) (.cons (.val (.slice (.pair .str (.slice (.pair .str (.pair (.int .i64) .bool)))))) (.cons (.val (.slice (.pair .str (.pair (.int .i64) (.pair (.slice (.int .i64)) (.pair (.slice (.int .i64)) (.pair (.int .i64) (.int .i64)))))))) .nil)))))) (.cons (.own 31 (.pair (.int .i64) (.int .i64))) (.cons (.rown 31 (.pair (.int .i64) (.int .i64))) (.cons (.val (.int .i64)) .nil)))))
def ref_Of_0.ts : List Tmp := [1, 2, 5, 6, 7]
def ref_Of_0.asg : List Tmp := [5, 7, 8, 11, 12, 13, 14, 15, 16, 17, 18, 19, 20, 21, 22, 23, 24, 25, 26, 27, 28, 29, 30, 31, 32]
def ref_Of_0.C (N : Nat) : Ctx := { ref_Of.C N with may := fun t => ref_Of_0.asg.any (Nat.beq t) }
def ref_Of_0.code : Code := loopBody (sub ref_Of.code [true, true, true, false, true, false])
theorem ref_Of_0.cok (N : Nat) : (ref_Of_0.C N).Ok Try.prog := ⟨(ref_Of.cok N).U, (ref_Of.cok N).Γ, (ref_Of.cok N).Y⟩
def ref_Of_0.alts : List Alt := [⟨(.exit 0), [5], (.cons (.own 31 (.pair (.int .i64) (.int .i64))) .nil)⟩]
def ref_Of_0.go (N : Nat) : Nat → Int → Int → Int → Int → (List ((List UInt8) × (List ((List UInt8) × (Int × Bool))))) → (List ((List UInt8) × (Int × ((List Int) × ((List Int) × (Int × Int)))))) → (List (Int × Int)) → (List (Int × Int)) → Int → Option (((List (Int × Int)) × Unit))
  | 0, _, _, _, _, _, _, _, _, _ => none
  | fuel + 1, node, nodes, segments, k, tables, projs, l, all, i =>
    bif decide (i < (all.length : Int)) then
      bif inB i all.length then
        bif decide (i.toNat < all.length) then
          obind (ref_Nodes.run N (nodes, segments, k, tables, projs) (all.getD i.toNat ((0 : Int), (0 : Int)))) fun (l1, _) =>
            obind (ref_In_b.run N l1 node) fun (b, _) =>
              bif b then
                bif inB i all.length then
                  bif decide (i.toNat < all.length) then
                    bif room (l.length + 1) 16 then
                      ref_Of_0.go N fuel node nodes segments k tables projs (l ++ ([all.getD i.toNat ((0 : Int), (0 : Int))] : List (Int × Int))) all (IntKind.i64.wrap (i + (1 : Int)))
                    else none
                  else none
                else none
              else ref_Of_0.go N fuel node nodes segments k tables projs l all (IntKind.i64.wrap (i + (1 : Int)))
        else none
      else none
    else some (l, ())
def ref_Of_0.g (N n : Nat) (x : Sh.den ref_Of_0.ins) : Option (altsDen ref_Of_0.alts) := ref_Of_0.go N n x.1 x.2.1.1 x.2.1.2.1 x.2.1.2.2.1 x.2.1.2.2.2.1 x.2.1.2.2.2.2.1 x.2.2.1 x.2.2.2.1 x.2.2.2.2.1
def ref_Of_0.P (N : Nat) : Ps := ⟨ref_Of_0.ts, ref_Of_0.ins, ref_Of_0.asg, ref_Of_0.alts, ref_Of_0.g N N⟩
def ref_Of_0.lam (N : Nat) : Pcs := pcs []
theorem ref_Of_0.pok (N : Nat) : (ref_Of_0.lam N).Ok Try.prog (ref_Of_0.C N) ref_Of_0.code := pcsOk_nil
theorem ref_Of_0.ev (N n : Nat) (x : Sh.den ref_Of_0.ins) : evC (ref_Of_0.C N) ref_Of_0.code (ref_Of_0.lam N) ((ref_Of_0.P N).canon 1000 x) (loopK (ref_Of_0.P N) (ref_Of_0.g N n)) = ref_Of_0.g N (n + 1) x := by kernel_rfl
theorem ref_Of_0.ok (N : Nat) : ((ref_Of_0.P N).pc (ref_Of.C N)).Ok Try.prog (ref_Of.C N) (.loop ref_Of_0.code) := loop_ok (F := ref_Of_0.P N) (n0 := 1000) (N := N) (ref_Of.cok N) mix (ref_Of_0.pok N) (ref_Of_0.g N) (fun x => by rfl) rfl (fun n x y h => (ref_Of_0.ev N n x).trans h)
def ref_Of.outs : Sh := (.cons (.own 31 (.pair (.int .i64) (.int .i64))) .nil)
def ref_Of.run (N : Nat) (c : (Int × (Int × (Int × ((List ((List UInt8) × (List ((List UInt8) × (Int × Bool))))) × (List ((List UInt8) × (Int × ((List Int) × ((List Int) × (Int × Int))))))))))) (node : Int) : Option ((List (Int × Int)) × Unit) :=
  obind (ref_Segments.run N c) fun (l, _) =>
    obind (ref_Of_0.go N N node c.1 c.2.1 c.2.2.1 c.2.2.2.1 c.2.2.2.2 ([] : List (Int × Int)) l (0 : Int)) fun (l1, _) =>
      some (l1, ())
def ref_Of.fn (N : Nat) (x : Sh.den ref_Of.ins) : Option (Sh.den ref_Of.outs) := ref_Of.run N x.1 x.2.1
def ref_Of.S (N : Nat) : Fs := ⟨ref_Of.ins, ref_Of.outs, ref_Of.fn N⟩
def ref_Of.lam (N : Nat) : Pcs := pcs [([true, true, true, false, true, false], (ref_Of_0.P N).pc (ref_Of.C N))]
theorem ref_Of.pok (N : Nat) : (ref_Of.lam N).Ok Try.prog (ref_Of.C N) ref_Of.code := pcsOk_cons (c1 := .loop ref_Of_0.code) (by kernel_rfl) (ref_Of_0.ok N) (pcsOk_nil)
theorem ref_Of.ev (N : Nat) (x : Sh.den ref_Of.ins) : evC (ref_Of.C N) ref_Of.code (ref_Of.lam N) ⟨envOf 0 (bld (fun k => k) ref_Of.ins x 0).1, (bld (fun k => k) ref_Of.ins x 0).2.1, 1000⟩ (endF U ref_Of.outs Try.f15.results.toList []) = ref_Of.fn N x := by kernel_rfl
theorem ref_Of.ok (N : Nat) : (ref_Of.S N).con.Ok Try.prog 15 := fn_ok (F := ref_Of.S N) (n0 := 1000) Try.func15 (by kernel_rfl) (show Try.f15.body = some ref_Of.code by rfl) mix (ref_Of.cok N) (fun _ => rfl) (fun _ => rfl) (ref_Of.pok N) (fun x y h => (ref_Of.ev N x).trans h)
/-- hayloft/hayloftref13.Check -/
def ref_Check.ins : Sh := (.cons (.val (.pair (.int .i64) (.pair (.int .i64) (.pair (.int .i64) (.pair (.slice (.pair .str (.slice (.pair .str (.pair (.int .i64) .bool))))) (.slice (.pair .str (.pair (.int .i64) (.pair (.slice (.int .i64)) (.pair (.slice (.int .i64)) (.pair (.int .i64) (.int .i64)))))))))))) .nil)
def ref_Check.C (N : Nat) : Ctx := ⟨U, 144, fun _ => true, gam [(34, (ref_Table.S N).con), (35, (ref_projection.S N).con), (36, (ref_covered.S N).con), (15, (ref_Of.S N).con)], gamY []⟩
theorem ref_Check.cok (N : Nat) : (ref_Check.C N).Ok Try.prog := ⟨U_ok, GamOk.cons (ref_Table.ok N) (GamOk.cons (ref_projection.ok N) (GamOk.cons (ref_covered.ok N) (GamOk.cons (ref_Of.ok N) (GamOk.nil)))), GamYOk.nil⟩
def ref_Check.code : Code := Try.f11.body.getD .skip
def ref_Check_0.ins : Sh := (.cons (.rbox 25 (.cons (.val (.int .i64)) (.cons (.val (.int .i64)) (.cons (.val (.int .i64)) (.cons (.val (.slice (.pair .str (.slice (.pair .str (.pair (.int .i64) .bool)))))) (.cons (.val (.slice (.pair .str (.pair (.int .i64) (.pair (.slice (.int .i64)) (.pair (.slice (.int .i64)) (.pair (.int .i64) (.int .i64)))))))) .nil)))))) (.cons (.val (.int .i64)) .nil))
def ref_Check_0.ts : List Tmp := [1, 3]
def ref_Check_0.asg : List Tmp := [2, 3, 4, 51, 52, 53, 54, 55, 56, 57, 58, 59, 60, 61, 62, 63, 64, 65, 66, 67, 68, 69, 70, 71, 72, 73, 74, 75, 76, 77, 78, 79, 80, 81, 82]
def ref_Check_0.C (N : Nat) : Ctx := { ref_Check.C N with may := fun t => ref_Check_0.asg.any (Nat.beq t) }
def ref_Check_0.code : Code := loopBody (sub ref_Check.code [true, true, true, false, true, false])
theorem ref_Check_0.cok (N : Nat) : (ref_Check_0.C N).Ok Try.prog := ⟨(ref_Check.cok N).U, (ref_Check.cok N).Γ, (ref_Check.cok N).Y⟩
def ref_Check_0_0.ins : Sh := (.cons (.rbox 25 (.cons (.val (.int .i64)) (.cons (.val (.int .i64)) (.cons (.val (.int .i64)) (.cons (.val (.slice (.pair .str (.slice (.pair .str (.pair (.int .i64) .bool)))))) (.cons (.val (.slice (.pair .str (.pair (.int .i64) (.pair (.slice (.int .i64)) (.pair (.slice (.int .i64)) (.pair (.int .i64) (.int .i64)))))))) .nil)))))) (.cons (.val (.int .i64)) (.cons (.val (.int .i64)) .nil)))
def ref_Check_0_0.ts : List Tmp := [1, 3, 4]
def ref_Check_0_0.asg : List Tmp := [2, 4, 65, 66, 67, 68, 69, 70, 71, 72, 73, 74, 75, 76, 77, 78, 79, 80, 81, 82]
def ref_Check_0_0.C (N : Nat) : Ctx := { ref_Check_0.C N with may := fun t => ref_Check_0_0.asg.any (Nat.beq t) }
def ref_Check_0_0.code : Code := loopBody (sub ref_Check_0.code [true, false, false, true, true, false])
theorem ref_Check_0_0.cok (N : Nat) : (ref_Check_0_0.C N).Ok Try.prog := ⟨(ref_Check_0.cok N).U, (ref_Check_0.cok N).Γ, (ref_Check_0.cok N).Y⟩
def ref_Check_0_0.alts : List Alt := [⟨.ret, [2], (.cons (.val (.int .i64)) .nil)⟩, ⟨(.exit 2), [], .nil⟩]
def ref_Check_0_0.go (N : Nat) : Nat → Int → Int → Int → (List ((List UInt8) × (List ((List UInt8) × (Int × Bool))))) → (List ((List UInt8) × (Int × ((List Int) × ((List Int) × (Int × Int)))))) → Int → Int → Option ((Int × Unit) ⊕ Unit)
  | 0, _, _, _, _, _, _, _ => none
  | fuel + 1, nodes, segments, k, tables, projs, i, k1 =>
    bif decide (k1 < i) then
      bif inB k1 tables.length then
        bif inB i tables.length then
          bif decide ((tables.getD k1.toNat (([] : List UInt8), ([] : List ((List UInt8) × (Int × Bool))))).1 = (tables.getD i.toNat (([] : List UInt8), ([] : List ((List UInt8) × (Int × Bool))))).1) then
            some (.inl ((130 : Int), ()))
          else ref_Check_0_0.go N fuel nodes segments k tables projs i (IntKind.i64.wrap (k1 + (1 : Int)))
        else none
      else none
    else some (.inr ())
def ref_Check_0_0.g (N n : Nat) (x : Sh.den ref_Check_0_0.ins) : Option (altsDen ref_Check_0_0.alts) := ref_Check_0_0.go N n x.1.1 x.1.2.1 x.1.2.2.1 x.1.2.2.2.1 x.1.2.2.2.2.1 x.2.1 x.2.2.1
def ref_Check_0_0.P (N : Nat) : Ps := ⟨ref_Check_0_0.ts, ref_Check_0_0.ins, ref_Check_0_0.asg, ref_Check_0_0.alts, ref_Check_0_0.g N N⟩
def ref_Check_0_0.lam (N : Nat) : Pcs := pcs []
theorem ref_Check_0_0.pok (N : Nat) : (ref_Check_0_0.lam N).Ok Try.prog (ref_Check_0_0.C N) ref_Check_0_0.code := pcsOk_nil
theorem ref_Check_0_0.ev (N n : Nat) (x : Sh.den ref_Check_0_0.ins) : evC (ref_Check_0_0.C N) ref_Check_0_0.code (ref_Check_0_0.lam N) ((ref_Check_0_0.P N).canon 1000 x) (loopK (ref_Check_0_0.P N) (ref_Check_0_0.g N n)) = ref_Check_0_0.g N (n + 1) x := by kernel_rfl
theorem ref_Check_0_0.ok (N : Nat) : ((ref_Check_0_0.P N).pc (ref_Check_0.C N)).Ok Try.prog (ref_Check_0.C N) (.loop ref_Check_0_0.code) := loop_ok (F := ref_Check_0_0.P N) (n0 := 1000) (N := N) (ref_Check_0.cok N) mix (ref_Check_0_0.pok N) (ref_Check_0_0.g N) (fun x => by rfl) rfl (fun n x y h => (ref_Check_0_0.ev N n x).trans h)
def ref_Check_0.alts : List Alt := [⟨.ret, [2], (.cons (.val (.int .i64)) .nil)⟩, ⟨(.exit 0), [], .nil⟩]
def ref_Check_0.go (N : Nat) : Nat → Int → Int → Int → (List ((List UInt8) × (List ((List UInt8) × (Int × Bool))))) → (List ((List UInt8) × (Int × ((List Int) × ((List Int) × (Int × Int)))))) → Int → Option ((Int × Unit) ⊕ Unit)
  | 0, _, _, _, _, _, _ => none
  | fuel + 1, nodes, segments, k, tables, projs, i =>
    bif decide (i < (tables.length : Int)) then
      bif inB i tables.length then
        obind (ref_Table.run N (tables.getD i.toNat (([] : List UInt8), ([] : List ((List UInt8) × (Int × Bool)))))) fun (n_, _) =>
          bif !(decide (n_ = (0 : Int))) then
            some (.inl ((130 : Int), ()))
          else
            obind (ref_Check_0_0.go N N nodes segments k tables projs i (0 : Int)) fun y => match y with
            | .inl (t2, _) =>
                some (.inl (t2, ()))
            | .inr (_) =>
                ref_Check_0.go N fuel nodes segments k tables projs (IntKind.i64.wrap (i + (1 : Int)))
      else none
    else some (.inr ())
def ref_Check_0.g (N n : Nat) (x : Sh.den ref_Check_0.ins) : Option (altsDen ref_Check_0.alts) := ref_Check_0.go N n x.1.1 x.1.2.1 x.1.2.2.1 x.1.2.2.2.1 x.1.2.2.2.2.1 x.2.1
def ref_Check_0.P (N : Nat) : Ps := ⟨ref_Check_0.ts, ref_Check_0.ins, ref_Check_0.asg, ref_Check_0.alts, ref_Check_0.g N N⟩
def ref_Check_0.lam (N : Nat) : Pcs := pcs [([true, false, false, true, true, false], (ref_Check_0_0.P N).pc (ref_Check_0.C N))]
theorem ref_Check_0.pok (N : Nat) : (ref_Check_0.lam N).Ok Try.prog (ref_Check_0.C N) ref_Check_0.code := pcsOk_cons (c1 := .loop ref_Check_0_0.code) (by kernel_rfl) (ref_Check_0_0.ok N) (pcsOk_nil)
theorem ref_Check_0.ev (N n : Nat) (x : Sh.den ref_Check_0.ins) : evC (ref_Check_0.C N) ref_Check_0.code (ref_Check_0.lam N) ((ref_Check_0.P N).canon 1000 x) (loopK (ref_Check_0.P N) (ref_Check_0.g N n)) = ref_Check_0.g N (n + 1) x := by kernel_rfl
theorem ref_Check_0.ok (N : Nat) : ((ref_Check_0.P N).pc (ref_Check.C N)).Ok Try.prog (ref_Check.C N) (.loop ref_Check_0.code) := loop_ok (F := ref_Check_0.P N) (n0 := 1000) (N := N) (ref_Check.cok N) mix (ref_Check_0.pok N) (ref_Check_0.g N) (fun x => by rfl) rfl (fun n x y h => (ref_Check_0.ev N n x).trans h)
def ref_Check_1.ins : Sh := (.cons (.rbox 25 (.cons (.val (.int .i64)) (.cons (.val (.int .i64)) (.cons (.val (.int .i64)) (.cons (.val (.slice (.pair .str (.slice (.pair .str (.pair (.int .i64) .bool)))))) (.cons (.val (.slice (.pair .str (.pair (.int .i64) (.pair (.slice (.int .i64)) (.pair (.slice (.int .i64)) (.pair (.int .i64) (.int .i64)))))))) .nil)))))) (.cons (.val (.int .i64)) .nil))
def ref_Check_1.ts : List Tmp := [1, 5]
def ref_Check_1.asg : List Tmp := [2, 5, 6, 7, 87, 88, 89, 90, 91, 92, 93, 94, 95, 96, 97, 98, 99, 100, 101, 102, 103, 104, 105, 106, 107, 108, 109, 110, 111, 112, 113, 114, 115, 116, 117, 118, 119, 120]
def ref_Check_1.C (N : Nat) : Ctx := { ref_Check.C N with may := fun t => ref_Check_1.asg.any (Nat.beq t) }
def ref_Check_1.code : Code := loopBody (sub ref_Check.code [true, true, true, true, true, false, true, false])
theorem ref_Check_1.cok (N : Nat) : (ref_Check_1.C N).Ok Try.prog := ⟨(ref_Check.cok N).U, (ref_Check.cok N).Γ, (ref_Check.cok N).Y⟩
def ref_Check_1_0.ins : Sh := (.cons (.rbox 25 (.cons (.val (.int .i64)) (.cons (.val (.int .i64)) (.cons (.val (.int .i64)) (.cons (.val (.slice (.pair .str (.slice (.pair .str (.pair (.int .i64) .bool)))))) (.cons (.val (.slice (.pair .str (.pair (.int .i64) (.pair (.slice (.int .i64)) (.pair (.slice (.int .i64)) (.pair (.int .i64) (.int .i64)))))))) .nil)))))) (.cons (.val (.int .i64)) (.cons (.val (.int .i64)) .nil)))
def ref_Check_1_0.ts : List Tmp := [1, 5, 7]
def ref_Check_1_0.asg : List Tmp := [2, 7, 103, 104, 105, 106, 107, 108, 109, 110, 111, 112, 113, 114, 115, 116, 117, 118, 119, 120]
def ref_Check_1_0.C (N : Nat) : Ctx := { ref_Check_1.C N with may := fun t => ref_Check_1_0.asg.any (Nat.beq t) }
def ref_Check_1_0.code : Code := loopBody (sub ref_Check_1.code [true, false, false, true, true, true, false])
theorem ref_Check_1_0.cok (N : Nat) : (ref_Check_1_0.C N).Ok Try.prog := ⟨(ref_Check_1.cok N).U, (ref_Check_1.cok N).Γ, (ref_Check_1.cok N).Y⟩
def ref_Check_1_0.alts : List Alt := [⟨.ret, [2], (.cons (.val (.int .i64)) .nil)⟩, ⟨(.exit 6), [], .nil⟩]
def ref_Check_1_0.go (N : Nat) : Nat → Int → Int → Int → (List ((List UInt8) × (List ((List UInt8) × (Int × Bool))))) → (List ((List UInt8) × (Int × ((List Int) × ((List Int) × (Int × Int)))))) → Int → Int → Option ((Int × Unit) ⊕ Unit)
  | 0, _, _, _, _, _, _, _ => none
  | fuel + 1, nodes, segments, k, tables, projs, i, k1 =>
    bif decide (k1 < i) then
      bif inB k1 projs.length then
        bif inB i projs.length then
          bif decide ((projs.getD k1.toNat (([] : List UInt8), (0 : Int), ([] : List Int), ([] : List Int), (0 : Int), (0 : Int))).1 = (projs.getD i.toNat (([] : List UInt8), (0 : Int), ([] : List Int), ([] : List Int), (0 : Int), (0 : Int))).1) then
            some (.inl ((131 : Int), ()))
          else ref_Check_1_0.go N fuel nodes segments k tables projs i (IntKind.i64.wrap (k1 + (1 : Int)))
        else none
      else none
    else some (.inr ())
def ref_Check_1_0.g (N n : Nat) (x : Sh.den ref_Check_1_0.ins) : Option (altsDen ref_Check_1_0.alts) := ref_Check_1_0.go N n x.1.1 x.1.2.1 x.1.2.2.1 x.1.2.2.2.1 x.1.2.2.2.2.1 x.2.1 x.2.2.1
def ref_Check_1_0.P (N : Nat) : Ps := ⟨ref_Check_1_0.ts, ref_Check_1_0.ins, ref_Check_1_0.asg, ref_Check_1_0.alts, ref_Check_1_0.g N N⟩
def ref_Check_1_0.lam (N : Nat) : Pcs := pcs []
theorem ref_Check_1_0.pok (N : Nat) : (ref_Check_1_0.lam N).Ok Try.prog (ref_Check_1_0.C N) ref_Check_1_0.code := pcsOk_nil
theorem ref_Check_1_0.ev (N n : Nat) (x : Sh.den ref_Check_1_0.ins) : evC (ref_Check_1_0.C N) ref_Check_1_0.code (ref_Check_1_0.lam N) ((ref_Check_1_0.P N).canon 1000 x) (loopK (ref_Check_1_0.P N) (ref_Check_1_0.g N n)) = ref_Check_1_0.g N (n + 1) x := by kernel_rfl
theorem ref_Check_1_0.ok (N : Nat) : ((ref_Check_1_0.P N).pc (ref_Check_1.C N)).Ok Try.prog (ref_Check_1.C N) (.loop ref_Check_1_0.code) := loop_ok (F := ref_Check_1_0.P N) (n0 := 1000) (N := N) (ref_Check_1.cok N) mix (ref_Check_1_0.pok N) (ref_Check_1_0.g N) (fun x => by rfl) rfl (fun n x y h => (ref_Check_1_0.ev N n x).trans h)
def ref_Check_1.alts : List Alt := [⟨.ret, [2], (.cons (.val (.int .i64)) .nil)⟩, ⟨(.exit 4), [], .nil⟩]
def ref_Check_1.go (N : Nat) : Nat → Int → Int → Int → (List ((List UInt8) × (List ((List UInt8) × (Int × Bool))))) → (List ((List UInt8) × (Int × ((List Int) × ((List Int) × (Int × Int)))))) → Int → Option ((Int × Unit) ⊕ Unit)
  | 0, _, _, _, _, _, _ => none
  | fuel + 1, nodes, segments, k, tables, projs, i =>
    bif decide (i < (projs.length : Int)) then
      bif inB i projs.length then
        obind (ref_projection.run N (nodes, segments, k, tables, projs) (projs.getD i.toNat (([] : List UInt8), (0 : Int), ([] : List Int), ([] : List Int), (0 : Int), (0 : Int)))) fun (b, _) =>
          bif !b then
            some (.inl ((131 : Int), ()))
          else
            obind (ref_Check_1_0.go N N nodes segments k tables projs i (0 : Int)) fun y => match y with
            | .inl (t2, _) =>
                some (.inl (t2, ()))
            | .inr (_) =>
                ref_Check_1.go N fuel nodes segments k tables projs (IntKind.i64.wrap (i + (1 : Int)))
      else none
    else some (.inr ())
def ref_Check_1.g (N n : Nat) (x : Sh.den ref_Check_1.ins) : Option (altsDen ref_Check_1.alts) := ref_Check_1.go N n x.1.1 x.1.2.1 x.1.2.2.1 x.1.2.2.2.1 x.1.2.2.2.2.1 x.2.1
def ref_Check_1.P (N : Nat) : Ps := ⟨ref_Check_1.ts, ref_Check_1.ins, ref_Check_1.asg, ref_Check_1.alts, ref_Check_1.g N N⟩
def ref_Check_1.lam (N : Nat) : Pcs := pcs [([true, false, false, true, true, true, false], (ref_Check_1_0.P N).pc (ref_Check_1.C N))]
theorem ref_Check_1.pok (N : Nat) : (ref_Check_1.lam N).Ok Try.prog (ref_Check_1.C N) ref_Check_1.code := pcsOk_cons (c1 := .loop ref_Check_1_0.code) (by kernel_rfl) (ref_Check_1_0.ok N) (pcsOk_nil)
theorem ref_Check_1.ev (N n : Nat) (x : Sh.den ref_Check_1.ins) : evC (ref_Check_1.C N) ref_Check_1.code (ref_Check_1.lam N) ((ref_Check_1.P N).canon 1000 x) (loopK (ref_Check_1.P N) (ref_Check_1.g N n)) = ref_Check_1.g N (n + 1) x := by kernel_rfl
theorem ref_Check_1.ok (N : Nat) : ((ref_Check_1.P N).pc (ref_Check.C N)).Ok Try.prog (ref_Check.C N) (.loop ref_Check_1.code) := loop_ok (F := ref_Check_1.P N) (n0 := 1000) (N := N) (ref_Check.cok N) mix (ref_Check_1.pok N) (ref_Check_1.g N) (fun x => by rfl) rfl (fun n x y h => (ref_Check_1.ev N n x).trans h)
def ref_Check_2.ins : Sh := (.cons (.rbox 25 (.cons (.val (.int .i64)) (.cons (.val (.int .i64)) (.cons (.val (.int .i64)) (.cons (.val (.slice (.pair .str (.slice (.pair .str (.pair (.int .i64) .bool)))))) (.cons (.val (.slice (.pair .str (.pair (.int .i64) (.pair (.slice (.int .i64)) (.pair (.slice (.int .i64)) (.pair (.int .i64) (.int .i64)))))))) .nil)))))) (.cons (.val (.int .i64)) .nil))
def ref_Check_2.ts : List Tmp := [1, 8]
def ref_Check_2.asg : List Tmp := [2, 8, 9, 121, 122, 123, 124, 125, 126, 127, 128, 129, 130, 131, 132]
def ref_Check_2.C (N : Nat) : Ctx := { ref_Check.C N with may := fun t => ref_Check_2.asg.any (Nat.beq t) }
def ref_Check_2.code : Code := loopBody (sub ref_Check.code [true, true, true, true, true, true, false, true, false])
theorem ref_Check_2.cok (N : Nat) : (ref_Check_2.C N).Ok Try.prog := ⟨(ref_Check.cok N).U, (ref_Check.cok N).Γ, (ref_Check.cok N).Y⟩
def ref_Check_2.alts : List Alt := [⟨.ret, [2], (.cons (.val (.int .i64)) .nil)⟩, ⟨(.exit 8), [], .nil⟩]
def ref_Check_2.go (N : Nat) : Nat → Int → Int → Int → (List ((List UInt8) × (List ((List UInt8) × (Int × Bool))))) → (List ((List UInt8) × (Int × ((List Int) × ((List Int) × (Int × Int)))))) → Int → Option ((Int × Unit) ⊕ Unit)
  | 0, _, _, _, _, _, _ => none
  | fuel + 1, nodes, segments, k, tables, projs, i =>
    bif decide (i < (tables.length : Int)) then
      obind (ref_covered.run N (nodes, segments, k, tables, projs) i) fun (b, _) =>
        bif !b then
          some (.inl ((132 : Int), ()))
        else ref_Check_2.go N fuel nodes segments k tables projs (IntKind.i64.wrap (i + (1 : Int)))
    else some (.inr ())
def ref_Check_2.g (N n : Nat) (x : Sh.den ref_Check_2.ins) : Option (altsDen ref_Check_2.alts) := ref_Check_2.go N n x.1.1 x.1.2.1 x.1.2.2.1 x.1.2.2.2.1 x.1.2.2.2.2.1 x.2.1
def ref_Check_2.P (N : Nat) : Ps := ⟨ref_Check_2.ts, ref_Check_2.ins, ref_Check_2.asg, ref_Check_2.alts, ref_Check_2.g N N⟩
def ref_Check_2.lam (N : Nat) : Pcs := pcs []
theorem ref_Check_2.pok (N : Nat) : (ref_Check_2.lam N).Ok Try.prog (ref_Check_2.C N) ref_Check_2.code := pcsOk_nil
theorem ref_Check_2.ev (N n : Nat) (x : Sh.den ref_Check_2.ins) : evC (ref_Check_2.C N) ref_Check_2.code (ref_Check_2.lam N) ((ref_Check_2.P N).canon 1000 x) (loopK (ref_Check_2.P N) (ref_Check_2.g N n)) = ref_Check_2.g N (n + 1) x := by kernel_rfl
theorem ref_Check_2.ok (N : Nat) : ((ref_Check_2.P N).pc (ref_Check.C N)).Ok Try.prog (ref_Check.C N) (.loop ref_Check_2.code) := loop_ok (F := ref_Check_2.P N) (n0 := 1000) (N := N) (ref_Check.cok N) mix (ref_Check_2.pok N) (ref_Check_2.g N) (fun x => by rfl) rfl (fun n x y h => (ref_Check_2.ev N n x).trans h)
def ref_Check_3.ins : Sh := (.cons (.rbox 25 (.cons (.val (.int .i64)) (.cons (.val (.int .i64)) (.cons (.val (.int .i64)) (.cons (.val (.slice (.pair .str (.slice (.pair .str (.pair (.int .i64) .bool)))))) (.cons (.val (.slice (.pair .str (.pair (.int .i64) (.pair (.slice (.int .i64)) (.pair (.slice (.int .i64)) (.pair (.int .i64) (.int .i64)))))))) .nil)))))) (.cons (.val (.int .i64)) .nil))
def ref_Check_3.ts : List Tmp := [1, 10]
def ref_Check_3.asg : List Tmp := [2, 10, 133, 134, 135, 136, 137, 138, 139, 140, 141, 142, 143]
def ref_Check_3.C (N : Nat) : Ctx := { ref_Check.C N with may := fun t => ref_Check_3.asg.any (Nat.beq t) }
def ref_Check_3.code : Code := loopBody (sub ref_Check.code [true, true, true, true, true, true, true, false, true, false])
theorem ref_Check_3.cok (N : Nat) : (ref_Check_3.C N).Ok Try.prog := ⟨(ref_Check.cok N).U, (ref_Check.cok N).Γ, (ref_Check.cok N).Y⟩
def ref_Check_3.alts : List Alt := [⟨.ret, [2], (.cons (.val (.int .i64)) .nil)⟩, ⟨(.exit 10), [], .nil⟩]
def ref_Check_3.go (N : Nat) : Nat → Int → Int → Int → (List ((List UInt8) × (List ((List UInt8) × (Int × Bool))))) → (List ((List UInt8) × (Int × ((List Int) × ((List Int) × (Int × Int)))))) → Int → Option ((Int × Unit) ⊕ Unit)
  | 0, _, _, _, _, _, _ => none
  | fuel + 1, nodes, segments, k, tables, projs, i =>
    bif decide (i < nodes) then
      obind (ref_Of.run N (nodes, segments, k, tables, projs) i) fun (l, _) =>
        bif decide ((l.length : Int) = (0 : Int)) then
          some (.inl ((133 : Int), ()))
        else ref_Check_3.go N fuel nodes segments k tables projs (IntKind.i64.wrap (i + (1 : Int)))
    else some (.inr ())
def ref_Check_3.g (N n : Nat) (x : Sh.den ref_Check_3.ins) : Option (altsDen ref_Check_3.alts) := ref_Check_3.go N n x.1.1 x.1.2.1 x.1.2.2.1 x.1.2.2.2.1 x.1.2.2.2.2.1 x.2.1
def ref_Check_3.P (N : Nat) : Ps := ⟨ref_Check_3.ts, ref_Check_3.ins, ref_Check_3.asg, ref_Check_3.alts, ref_Check_3.g N N⟩
def ref_Check_3.lam (N : Nat) : Pcs := pcs []
theorem ref_Check_3.pok (N : Nat) : (ref_Check_3.lam N).Ok Try.prog (ref_Check_3.C N) ref_Check_3.code := pcsOk_nil
theorem ref_Check_3.ev (N n : Nat) (x : Sh.den ref_Check_3.ins) : evC (ref_Check_3.C N) ref_Check_3.code (ref_Check_3.lam N) ((ref_Check_3.P N).canon 1000 x) (loopK (ref_Check_3.P N) (ref_Check_3.g N n)) = ref_Check_3.g N (n + 1) x := by kernel_rfl
theorem ref_Check_3.ok (N : Nat) : ((ref_Check_3.P N).pc (ref_Check.C N)).Ok Try.prog (ref_Check.C N) (.loop ref_Check_3.code) := loop_ok (F := ref_Check_3.P N) (n0 := 1000) (N := N) (ref_Check.cok N) mix (ref_Check_3.pok N) (ref_Check_3.g N) (fun x => by rfl) rfl (fun n x y h => (ref_Check_3.ev N n x).trans h)
def ref_Check.outs : Sh := (.cons (.val (.int .i64)) .nil)
def ref_Check.run (N : Nat) (c : (Int × (Int × (Int × ((List ((List UInt8) × (List ((List UInt8) × (Int × Bool))))) × (List ((List UInt8) × (Int × ((List Int) × ((List Int) × (Int × Int))))))))))) : Option (Int × Unit) :=
  bif decide (c.1 < (1 : Int)) then
    some ((133 : Int), ())
  else
    bif decide (c.1 > (8 : Int)) then
      some ((133 : Int), ())
    else
      bif decide (c.2.2.1 < (0 : Int)) then
        some ((133 : Int), ())
      else
        bif decide (c.2.2.1 ≥ c.1) then
          some ((133 : Int), ())
        else
          bif decide (c.2.1 < (1 : Int)) then
            some ((133 : Int), ())
          else
            bif decide (c.2.1 > (8 : Int)) then
              some ((133 : Int), ())
            else
              bif decide ((c.2.2.2.1.length : Int) = (0 : Int)) then
                some ((130 : Int), ())
              else
                bif decide ((c.2.2.2.1.length : Int) > (4 : Int)) then
                  some ((130 : Int), ())
                else
                  obind (ref_Check_0.go N N c.1 c.2.1 c.2.2.1 c.2.2.2.1 c.2.2.2.2 (0 : Int)) fun y => match y with
                  | .inl (t2, _) =>
                      some (t2, ())
                  | .inr (_) =>
                      bif decide ((c.2.2.2.2.length : Int) > (8 : Int)) then
                        some ((131 : Int), ())
                      else
                        obind (ref_Check_1.go N N c.1 c.2.1 c.2.2.1 c.2.2.2.1 c.2.2.2.2 (0 : Int)) fun y => match y with
                        | .inl (t21, _) =>
                            some (t21, ())
                        | .inr (_) =>
                            obind (ref_Check_2.go N N c.1 c.2.1 c.2.2.1 c.2.2.2.1 c.2.2.2.2 (0 : Int)) fun y => match y with
                            | .inl (t22, _) =>
                                some (t22, ())
                            | .inr (_) =>
                                obind (ref_Check_3.go N N c.1 c.2.1 c.2.2.1 c.2.2.2.1 c.2.2.2.2 (0 : Int)) fun y => match y with
                                | .inl (t23, _) =>
                                    some (t23, ())
                                | .inr (_) =>
                                    some ((0 : Int), ())
def ref_Check.fn (N : Nat) (x : Sh.den ref_Check.ins) : Option (Sh.den ref_Check.outs) := ref_Check.run N x.1
def ref_Check.S (N : Nat) : Fs := ⟨ref_Check.ins, ref_Check.outs, ref_Check.fn N⟩
def ref_Check.lam (N : Nat) : Pcs := pcs [([true, true, true, false, true, false], (ref_Check_0.P N).pc (ref_Check.C N)), ([true, true, true, true, true, false, true, false], (ref_Check_1.P N).pc (ref_Check.C N)), ([true, true, true, true, true, true, false, true, false], (ref_Check_2.P N).pc (ref_Check.C N)), ([true, true, true, true, true, true, true, false, true, false], (ref_Check_3.P N).pc (ref_Check.C N))]
theorem ref_Check.pok (N : Nat) : (ref_Check.lam N).Ok Try.prog (ref_Check.C N) ref_Check.code := pcsOk_cons (c1 := .loop ref_Check_0.code) (by kernel_rfl) (ref_Check_0.ok N) (pcsOk_cons (c1 := .loop ref_Check_1.code) (by kernel_rfl) (ref_Check_1.ok N) (pcsOk_cons (c1 := .loop ref_Check_2.code) (by kernel_rfl) (ref_Check_2.ok N) (pcsOk_cons (c1 := .loop ref_Check_3.code) (by kernel_rfl) (ref_Check_3.ok N) (pcsOk_nil))))
theorem ref_Check.ev (N : Nat) (x : Sh.den ref_Check.ins) : evC (ref_Check.C N) ref_Check.code (ref_Check.lam N) ⟨envOf 0 (bld (fun k => k) ref_Check.ins x 0).1, (bld (fun k => k) ref_Check.ins x 0).2.1, 1000⟩ (endF U ref_Check.outs Try.f11.results.toList []) = ref_Check.fn N x := by kernel_rfl
theorem ref_Check.ok (N : Nat) : (ref_Check.S N).con.Ok Try.prog 11 := fn_ok (F := ref_Check.S N) (n0 := 1000) Try.func11 (by kernel_rfl) (show Try.f11.body = some ref_Check.code by rfl) mix (ref_Check.cok N) (fun _ => rfl) (fun _ => rfl) (ref_Check.pok N) (fun x y h => (ref_Check.ev N x).trans h)
/-- hayloft/hayloftlaw13.CatalogChecks -/
def law_CatalogChecks.ins : Sh := (.cons (.val (.pair (.int .i64) (.pair (.int .i64) (.pair (.int .i64) (.pair (.slice (.pair .str (.slice (.pair .str (.pair (.int .i64) .bool))))) (.slice (.pair .str (.pair (.int .i64) (.pair (.slice (.int .i64)) (.pair (.slice (.int .i64)) (.pair (.int .i64) (.int .i64)))))))))))) .nil)
def law_CatalogChecks.C (N : Nat) : Ctx := ⟨U, 11, fun _ => true, gam [(9, (law_alive.S N).con), (10, (catalog_Check.S N).con), (11, (ref_Check.S N).con)], gamY []⟩
theorem law_CatalogChecks.cok (N : Nat) : (law_CatalogChecks.C N).Ok Try.prog := ⟨U_ok, GamOk.cons (law_alive.ok N) (GamOk.cons (catalog_Check.ok N) (GamOk.cons (ref_Check.ok N) (GamOk.nil))), GamYOk.nil⟩
def law_CatalogChecks.code : Code := Try.f3.body.getD .skip
def law_CatalogChecks.outs : Sh := (.cons (.val .bool) .nil)
def law_CatalogChecks.run (N : Nat) (c : (Int × (Int × (Int × ((List ((List UInt8) × (List ((List UInt8) × (Int × Bool))))) × (List ((List UInt8) × (Int × ((List Int) × ((List Int) × (Int × Int))))))))))) : Option (Bool × Unit) :=
  obind (law_alive.run N) fun (b, _) =>
    bif b then
      obind (catalog_Check.run N c) fun (n_, _) =>
        obind (ref_Check.run N c) fun (n1, _) =>
          some (decide (n_ = n1), ())
    else some (false, ())
def law_CatalogChecks.fn (N : Nat) (x : Sh.den law_CatalogChecks.ins) : Option (Sh.den law_CatalogChecks.outs) := law_CatalogChecks.run N x.1
def law_CatalogChecks.S (N : Nat) : Fs := ⟨law_CatalogChecks.ins, law_CatalogChecks.outs, law_CatalogChecks.fn N⟩
def law_CatalogChecks.lam (N : Nat) : Pcs := pcs []
theorem law_CatalogChecks.pok (N : Nat) : (law_CatalogChecks.lam N).Ok Try.prog (law_CatalogChecks.C N) law_CatalogChecks.code := pcsOk_nil
theorem law_CatalogChecks.ev (N : Nat) (x : Sh.den law_CatalogChecks.ins) : evC (law_CatalogChecks.C N) law_CatalogChecks.code (law_CatalogChecks.lam N) ⟨envOf 0 (bld (fun k => k) law_CatalogChecks.ins x 0).1, (bld (fun k => k) law_CatalogChecks.ins x 0).2.1, 1000⟩ (endF U law_CatalogChecks.outs Try.f3.results.toList []) = law_CatalogChecks.fn N x := by kernel_rfl
theorem law_CatalogChecks.ok (N : Nat) : (law_CatalogChecks.S N).con.Ok Try.prog 3 := fn_ok (F := law_CatalogChecks.S N) (n0 := 1000) Try.func3 (by kernel_rfl) (show Try.f3.body = some law_CatalogChecks.code by rfl) mix (law_CatalogChecks.cok N) (fun _ => rfl) (fun _ => rfl) (law_CatalogChecks.pok N) (fun x y h => (law_CatalogChecks.ev N x).trans h)
def Y2.ins : Sh := (.cons (.box 33 (.cons (.own 31 (.pair (.int .i64) (.int .i64))) .nil)) (.cons (.agg (.cons (.val (.int .i64)) (.cons (.val (.int .i64)) .nil))) .nil))
def Y2.C (N : Nat) : Ctx := ⟨U, 22, fun _ => true, gam [], gamY []⟩
theorem Y2.cok (N : Nat) : (Y2.C N).Ok Try.prog := ⟨U_ok, GamOk.nil, GamYOk.nil⟩
def Y2.code : Code := site2.body
def Y2.alts : List Alt := [⟨.normal, [], (.cons (.upd 0 33 (.cons (.own 31 (.pair (.int .i64) (.int .i64))) .nil)) .nil)⟩]
def Y2.run (N : Nat) (l : (List (Int × Int))) (t16 : Int) (t161 : Int) : Option ((((List (Int × Int)) × Unit) × Unit)) :=
  bif room (l.length + 1) 16 then
    some ((l ++ ([(t16, t161)] : List (Int × Int)), ()), ())
  else none
def Y2.fn (N : Nat) (x : Sh.den Y2.ins) : Option (altsDen Y2.alts) := Y2.run N x.1.1 x.2.1.1 x.2.1.2.1
def Y2.F (N : Nat) : Ys := ⟨[5], [16], Y2.ins, Y2.alts, Y2.fn N⟩
def Y2.yc (N : Nat) : Yc := (Y2.F N).yc
def Y2.lam (N : Nat) : Pcs := pcs []
theorem Y2.pok (N : Nat) : (Y2.lam N).Ok Try.prog (Y2.C N) site2.body := pcsOk_nil
theorem Y2.ev (N : Nat) (x : Sh.den Y2.ins) : evC (Y2.C N) site2.assign (pcs []) ⟨addT [5, 16] (bld (fun k => k) Y2.ins x 0).1 [], (bld (fun k => k) Y2.ins x 0).2.1, 1000⟩ (thenC fun s => evC (Y2.C N) site2.body (Y2.lam N) s (altK Y2.alts)) = Y2.fn N x := by kernel_rfl
theorem Y2.ok (N : Nat) : (Y2.yc N).Ok Try.prog 1000002 := ys_ok (σ := site2) (k := 2) (C := Y2.C N) (F := Y2.F N) (n0 := 1000) (fun _ => rfl) (Y2.cok N) mix (fun _ => rfl) (show site2.ps.toList = [16] by kernel_rfl) (show site2.ts = [5] by kernel_rfl) (show site2.nt = 22 by kernel_rfl) rfl rfl rfl rfl rfl pcsOk_nil (Y2.pok N) (fun x y h => (Y2.ev N x).trans h)
/-- hayloft/catalog.Segments$1 -/
def catalog_Segments_f1_c.ins : Sh := (.cons (.box 1000002 (.cons (.val (.int .i64)) (.cons (.junk) (.cons (.junk) (.cons (.junk) (.cons (.box 33 (.cons (.own 31 (.pair (.int .i64) (.int .i64))) .nil)) .nil)))))) (.cons (.rbox 25 (.cons (.val (.int .i64)) (.cons (.val (.int .i64)) (.cons (.val (.int .i64)) (.cons (.val (.slice (.pair .str (.slice (.pair .str (.pair (.int .i64) .bool)))))) (.cons (.val (.slice (.pair .str (.pair (.int .i64) (.pair (.slice (.int .i64)) (.pair (.slice (.int .i64)) (.pair (.int .i64) (.int .i64)))))))) .nil)))))) .nil))
def catalog_Segments_f1_c.C (N : Nat) : Ctx := ⟨U, 24, fun _ => true, gam [], gamY [(1000002, Y2.yc N)]⟩
theorem catalog_Segments_f1_c.cok (N : Nat) : (catalog_Segments_f1_c.C N).Ok Try.prog := ⟨U_ok, GamOk.nil, GamYOk.cons (Y2.ok N) (GamYOk.nil)⟩
def catalog_Segments_f1_c.code : Code := Try.f62.body.getD .skip
def catalog_Segments_f1_c_0.ins : Sh := (.cons (.box 1000002 (.cons (.val (.int .i64)) (.cons (.junk) (.cons (.junk) (.cons (.junk) (.cons (.box 33 (.cons (.own 31 (.pair (.int .i64) (.int .i64))) .nil)) .nil)))))) (.cons (.rbox 25 (.cons (.val (.int .i64)) (.cons (.val (.int .i64)) (.cons (.val (.int .i64)) (.cons (.val (.slice (.pair .str (.slice (.pair .str (.pair (.int .i64) .bool)))))) (.cons (.val (.slice (.pair .str (.pair (.int .i64) (.pair (.slice (.int .i64)) (.pair (.slice (.int .i64)) (.pair (.int .i64) (.int .i64)))))))) .nil)))))) (.cons (.val (.int .i64)) (.cons (.val (.int .i64)) .nil))))
def catalog_Segments_f1_c_0.ts : List Tmp := [0, 1, 7, 8]
def catalog_Segments_f1_c_0.asg : List Tmp := [3, 4, 8, 9, 10, 11, 12, 13, 14, 15, 16, 17, 18, 19, 20, 21, 22, 23]
def catalog_Segments_f1_c_0.C (N : Nat) : Ctx := { catalog_Segments_f1_c.C N with may := fun t => catalog_Segments_f1_c_0.asg.any (Nat.beq t) }
def catalog_Segments_f1_c_0.code : Code := loopBody (sub catalog_Segments_f1_c.code [true, false])
theorem catalog_Segments_f1_c_0.cok (N : Nat) : (catalog_Segments_f1_c_0.C N).Ok Try.prog := ⟨(catalog_Segments_f1_c.cok N).U, (catalog_Segments_f1_c.cok N).Γ, (catalog_Segments_f1_c.cok N).Y⟩
def catalog_Segments_f1_c_0_0.ins : Sh := (.cons (.box 1000002 (.cons (.val (.int .i64)) (.cons (.junk) (.cons (.junk) (.cons (.junk) (.cons (.box 33 (.cons (.own 31 (.pair (.int .i64) (.int .i64))) .nil)) .nil)))))) (.cons (.val (.int .i64)) (.cons (.val (.int .i64)) (.cons (.val (.int .i64)) .nil))))
def catalog_Segments_f1_c_0_0.ts : List Tmp := [0, 3, 12, 13]
def catalog_Segments_f1_c_0_0.asg : List Tmp := [4, 13, 14, 15, 16, 17, 18, 19, 20, 21, 22]
def catalog_Segments_f1_c_0_0.C (N : Nat) : Ctx := { catalog_Segments_f1_c_0.C N with may := fun t => catalog_Segments_f1_c_0_0.asg.any (Nat.beq t) }
def catalog_Segments_f1_c_0_0.code : Code := loopBody (sub catalog_Segments_f1_c_0.code [true, true, false, false, true, true, false])
theorem catalog_Segments_f1_c_0_0.cok (N : Nat) : (catalog_Segments_f1_c_0_0.C N).Ok Try.prog := ⟨(catalog_Segments_f1_c_0.cok N).U, (catalog_Segments_f1_c_0.cok N).Γ, (catalog_Segments_f1_c_0.cok N).Y⟩
def catalog_Segments_f1_c_0_0.alts : List Alt := [⟨(.exit 2), [], (.cons (.upd 1 33 (.cons (.own 31 (.pair (.int .i64) (.int .i64))) .nil)) (.cons (.upd 0 1000002 (.cons (.val (.int .i64)) (.cons (.junk) (.cons (.junk) (.cons (.junk) (.cons (.ref 0) .nil)))))) .nil))⟩]
def catalog_Segments_f1_c_0_0.go (N : Nat) : Nat → Int → (List (Int × Int)) → Int → Int → Int → Option ((((List (Int × Int)) × Unit) × (Int × Unit × Unit × Unit × Unit × Unit) × Unit))
  | 0, _, _, _, _, _ => none
  | fuel + 1, yield, yield1, p, t12, t13 =>
    bif decide (t13 < t12) then
      bif decide (yield = (0 : Int)) then
        obind (Y2.run N yield1 p t13) fun ((v, _), _) =>
          catalog_Segments_f1_c_0_0.go N fuel (0 : Int) v p t12 (IntKind.i64.wrap (t13 + (1 : Int)))
      else none
    else some ((yield1, ()), (yield, (), (), (), (), ()), ())
def catalog_Segments_f1_c_0_0.g (N n : Nat) (x : Sh.den catalog_Segments_f1_c_0_0.ins) : Option (altsDen catalog_Segments_f1_c_0_0.alts) := catalog_Segments_f1_c_0_0.go N n x.1.1 x.1.2.2.2.2.1.1 x.2.1 x.2.2.1 x.2.2.2.1
def catalog_Segments_f1_c_0_0.P (N : Nat) : Ps := ⟨catalog_Segments_f1_c_0_0.ts, catalog_Segments_f1_c_0_0.ins, catalog_Segments_f1_c_0_0.asg, catalog_Segments_f1_c_0_0.alts, catalog_Segments_f1_c_0_0.g N N⟩
def catalog_Segments_f1_c_0_0.lam (N : Nat) : Pcs := pcs []
theorem catalog_Segments_f1_c_0_0.pok (N : Nat) : (catalog_Segments_f1_c_0_0.lam N).Ok Try.prog (catalog_Segments_f1_c_0_0.C N) catalog_Segments_f1_c_0_0.code := pcsOk_nil
theorem catalog_Segments_f1_c_0_0.ev (N n : Nat) (x : Sh.den catalog_Segments_f1_c_0_0.ins) : evC (catalog_Segments_f1_c_0_0.C N) catalog_Segments_f1_c_0_0.code (catalog_Segments_f1_c_0_0.lam N) ((catalog_Segments_f1_c_0_0.P N).canon 1000 x) (loopK (catalog_Segments_f1_c_0_0.P N) (catalog_Segments_f1_c_0_0.g N n)) = catalog_Segments_f1_c_0_0.g N (n + 1) x := by kernel_rfl
theorem catalog_Segments_f1_c_0_0.ok (N : Nat) : ((catalog_Segments_f1_c_0_0.P N).pc (catalog_Segments_f1_c_0.C N)).Ok Try.prog (catalog_Segments_f1_c_0.C N) (.loop catalog_Segments_f1_c_0_0.code) := loop_ok (F := catalog_Segments_f1_c_0_0.P N) (n0 := 1000) (N := N) (catalog_Segments_f1_c_0.cok N) mix (catalog_Segments_f1_c_0_0.pok N) (catalog_Segments_f1_c_0_0.g N) (fun x => by rfl) rfl (fun n x y h => (catalog_Segments_f1_c_0_0.ev N n x).trans h)
def catalog_Segments_f1_c_0.alts : List Alt := [⟨(.exit 0), [], (.cons (.upd 1 33 (.cons (.own 31 (.pair (.int .i64) (.int .i64))) .nil)) (.cons (.upd 0 1000002 (.cons (.val (.int .i64)) (.cons (.junk) (.cons (.junk) (.cons (.junk) (.cons (.ref 0) .nil)))))) .nil))⟩]
def catalog_Segments_f1_c_0.go (N : Nat) : Nat → Int → (List (Int × Int)) → Int → Int → Int → (List ((List UInt8) × (List ((List UInt8) × (Int × Bool))))) → (List ((List UInt8) × (Int × ((List Int) × ((List Int) × (Int × Int)))))) → Int → Int → Option ((((List (Int × Int)) × Unit) × (Int × Unit × Unit × Unit × Unit × Unit) × Unit))
  | 0, _, _, _, _, _, _, _, _, _ => none
  | fuel + 1, yield, yield1, nodes, segments, k, tables, projs, t7, t8 =>
    bif decide (t8 < t7) then
      obind (catalog_Segments_f1_c_0_0.go N N yield yield1 t8 segments (0 : Int)) fun ((v, _), (v1, _, _, _, _, _), _) =>
        catalog_Segments_f1_c_0.go N fuel v1 v nodes segments k tables projs t7 (IntKind.i64.wrap (t8 + (1 : Int)))
    else some ((yield1, ()), (yield, (), (), (), (), ()), ())
def catalog_Segments_f1_c_0.g (N n : Nat) (x : Sh.den catalog_Segments_f1_c_0.ins) : Option (altsDen catalog_Segments_f1_c_0.alts) := catalog_Segments_f1_c_0.go N n x.1.1 x.1.2.2.2.2.1.1 x.2.1.1 x.2.1.2.1 x.2.1.2.2.1 x.2.1.2.2.2.1 x.2.1.2.2.2.2.1 x.2.2.1 x.2.2.2.1
def catalog_Segments_f1_c_0.P (N : Nat) : Ps := ⟨catalog_Segments_f1_c_0.ts, catalog_Segments_f1_c_0.ins, catalog_Segments_f1_c_0.asg, catalog_Segments_f1_c_0.alts, catalog_Segments_f1_c_0.g N N⟩
def catalog_Segments_f1_c_0.lam (N : Nat) : Pcs := pcs [([true, true, false, false, true, true, false], (catalog_Segments_f1_c_0_0.P N).pc (catalog_Segments_f1_c_0.C N))]
theorem catalog_Segments_f1_c_0.pok (N : Nat) : (catalog_Segments_f1_c_0.lam N).Ok Try.prog (catalog_Segments_f1_c_0.C N) catalog_Segments_f1_c_0.code := pcsOk_cons (c1 := .loop catalog_Segments_f1_c_0_0.code) (by kernel_rfl) (catalog_Segments_f1_c_0_0.ok N) (pcsOk_nil)
theorem catalog_Segments_f1_c_0.ev (N n : Nat) (x : Sh.den catalog_Segments_f1_c_0.ins) : evC (catalog_Segments_f1_c_0.C N) catalog_Segments_f1_c_0.code (catalog_Segments_f1_c_0.lam N) ((catalog_Segments_f1_c_0.P N).canon 1000 x) (loopK (catalog_Segments_f1_c_0.P N) (catalog_Segments_f1_c_0.g N n)) = catalog_Segments_f1_c_0.g N (n + 1) x := by kernel_rfl
theorem catalog_Segments_f1_c_0.ok (N : Nat) : ((catalog_Segments_f1_c_0.P N).pc (catalog_Segments_f1_c.C N)).Ok Try.prog (catalog_Segments_f1_c.C N) (.loop catalog_Segments_f1_c_0.code) := loop_ok (F := catalog_Segments_f1_c_0.P N) (n0 := 1000) (N := N) (catalog_Segments_f1_c.cok N) mix (catalog_Segments_f1_c_0.pok N) (catalog_Segments_f1_c_0.g N) (fun x => by rfl) rfl (fun n x y h => (catalog_Segments_f1_c_0.ev N n x).trans h)
def catalog_Segments_f1_c.outs : Sh := (.cons (.upd 1 33 (.cons (.own 31 (.pair (.int .i64) (.int .i64))) .nil)) (.cons (.upd 0 1000002 (.cons (.val (.int .i64)) (.cons (.junk) (.cons (.junk) (.cons (.junk) (.cons (.ref 0) .nil)))))) .nil))
def catalog_Segments_f1_c.run (N : Nat) (yield : Int) (yield1 : (List (Int × Int))) (nodes : Int) (segments : Int) (k : Int) (tables : (List ((List UInt8) × (List ((List UInt8) × (Int × Bool)))))) (projs : (List ((List UInt8) × (Int × ((List Int) × ((List Int) × (Int × Int))))))) : Option (((List (Int × Int)) × Unit) × (Int × Unit × Unit × Unit × Unit × Unit) × Unit) :=
  obind (catalog_Segments_f1_c_0.go N N yield yield1 nodes segments k tables projs (projs.length : Int) (0 : Int)) fun ((v, _), (v1, _, _, _, _, _), _) =>
    some ((v, ()), (v1, (), (), (), (), ()), ())
def catalog_Segments_f1_c.fn (N : Nat) (x : Sh.den catalog_Segments_f1_c.ins) : Option (Sh.den catalog_Segments_f1_c.outs) := catalog_Segments_f1_c.run N x.1.1 x.1.2.2.2.2.1.1 x.2.1.1 x.2.1.2.1 x.2.1.2.2.1 x.2.1.2.2.2.1 x.2.1.2.2.2.2.1
def catalog_Segments_f1_c.S (N : Nat) : Fs := ⟨catalog_Segments_f1_c.ins, catalog_Segments_f1_c.outs, catalog_Segments_f1_c.fn N⟩
def catalog_Segments_f1_c.lam (N : Nat) : Pcs := pcs [([true, false], (catalog_Segments_f1_c_0.P N).pc (catalog_Segments_f1_c.C N))]
theorem catalog_Segments_f1_c.pok (N : Nat) : (catalog_Segments_f1_c.lam N).Ok Try.prog (catalog_Segments_f1_c.C N) catalog_Segments_f1_c.code := pcsOk_cons (c1 := .loop catalog_Segments_f1_c_0.code) (by kernel_rfl) (catalog_Segments_f1_c_0.ok N) (pcsOk_nil)
theorem catalog_Segments_f1_c.ev (N : Nat) (x : Sh.den catalog_Segments_f1_c.ins) : evC (catalog_Segments_f1_c.C N) catalog_Segments_f1_c.code (catalog_Segments_f1_c.lam N) ⟨envOf 0 (bld (fun k => k) catalog_Segments_f1_c.ins x 0).1, (bld (fun k => k) catalog_Segments_f1_c.ins x 0).2.1, 1000⟩ (endF U catalog_Segments_f1_c.outs Try.f62.results.toList []) = catalog_Segments_f1_c.fn N x := by kernel_rfl
theorem catalog_Segments_f1_c.ok (N : Nat) : (catalog_Segments_f1_c.S N).con.Ok Try.prog 62 := fn_ok (F := catalog_Segments_f1_c.S N) (n0 := 1000) Try.func62 (by kernel_rfl) (show Try.f62.body = some catalog_Segments_f1_c.code by rfl) mix (catalog_Segments_f1_c.cok N) (fun _ => rfl) (fun _ => rfl) (catalog_Segments_f1_c.pok N) (fun x y h => (catalog_Segments_f1_c.ev N x).trans h)
/-- hayloft/hayloftlaw13.segments -/
def law_segments.ins : Sh := (.cons (.val (.pair (.int .i64) (.pair (.int .i64) (.pair (.int .i64) (.pair (.slice (.pair .str (.slice (.pair .str (.pair (.int .i64) .bool))))) (.slice (.pair .str (.pair (.int .i64) (.pair (.slice (.int .i64)) (.pair (.slice (.int .i64)) (.pair (.int .i64) (.int .i64)))))))))))) .nil)
def law_segments.C (N : Nat) : Ctx := ⟨U, 22, fun _ => true, gam [(37, (catalog_Segments.S N).con), (9, (law_alive.S N).con), (62, (catalog_Segments_f1_c.S N).con)], gamY []⟩
theorem law_segments.cok (N : Nat) : (law_segments.C N).Ok Try.prog := ⟨U_ok, GamOk.cons (catalog_Segments.ok N) (GamOk.cons (law_alive.ok N) (GamOk.cons (catalog_Segments_f1_c.ok N) (GamOk.nil))), GamYOk.nil⟩
def law_segments.code : Code := Try.f12.body.getD .skip
def law_segments.outs : Sh := (.cons (.own 31 (.pair (.int .i64) (.int .i64))) (.cons (.val .bool) .nil))
def law_segments.run (N : Nat) (c : (Int × (Int × (Int × ((List ((List UInt8) × (List ((List UInt8) × (Int × Bool))))) × (List ((List UInt8) × (Int × ((List Int) × ((List Int) × (Int × Int))))))))))) : Option ((List (Int × Int)) × Bool × Unit) :=
  obind (catalog_Segments.run N c) fun (((nodes, segments, k, tables, projs, _), _), _) =>
    obind (law_alive.run N) fun (b, _) =>
      bif !b then
        some (([] : List (Int × Int)), false, ())
      else
        obind (catalog_Segments_f1_c.run N (0 : Int) ([] : List (Int × Int)) nodes segments k tables projs) fun ((v, _), (v1, _, _, _, _, _), _) =>
          bif decide (v1 = (0 : Int)) then
            some (v, true, ())
          else none
def law_segments.fn (N : Nat) (x : Sh.den law_segments.ins) : Option (Sh.den law_segments.outs) := law_segments.run N x.1
def law_segments.S (N : Nat) : Fs := ⟨law_segments.ins, law_segments.outs, law_segments.fn N⟩
def law_segments.lam (N : Nat) : Pcs := pcs [([true, true, true, true, false, true, false], rfPc (law_segments.C N) 1000002 (.tmp 15) [5] [.normal])]
theorem law_segments.pok (N : Nat) : (law_segments.lam N).Ok Try.prog (law_segments.C N) law_segments.code := pcsOk_cons (c1 := .rangeFunc (.tmp 15) site2.ps site2.assign site2.body) (by kernel_rfl) (rf_ok (k := 2) (fun _ => rfl) (law_segments.cok N)) (pcsOk_nil)
theorem law_segments.ev (N : Nat) (x : Sh.den law_segments.ins) : evC (law_segments.C N) law_segments.code (law_segments.lam N) ⟨envOf 0 (bld (fun k => k) law_segments.ins x 0).1, (bld (fun k => k) law_segments.ins x 0).2.1, 1000⟩ (endF U law_segments.outs Try.f12.results.toList []) = law_segments.fn N x := by kernel_rfl
theorem law_segments.ok (N : Nat) : (law_segments.S N).con.Ok Try.prog 12 := fn_ok (F := law_segments.S N) (n0 := 1000) Try.func12 (by kernel_rfl) (show Try.f12.body = some law_segments.code by rfl) mix (law_segments.cok N) (fun _ => rfl) (fun _ => rfl) (law_segments.pok N) (fun x y h => (law_segments.ev N x).trans h)
/-- hayloft/hayloftref13.SameSegments -/
def ref_SameSegments.ins : Sh := (.cons (.rown 31 (.pair (.int .i64) (.int .i64))) (.cons (.rown 31 (.pair (.int .i64) (.int .i64))) .nil))
def ref_SameSegments.C (N : Nat) : Ctx := ⟨U, 26, fun _ => true, gam [], gamY []⟩
theorem ref_SameSegments.cok (N : Nat) : (ref_SameSegments.C N).Ok Try.prog := ⟨U_ok, GamOk.nil, GamYOk.nil⟩
def ref_SameSegments.code : Code := Try.f13.body.getD .skip
def ref_SameSegments_0.ins : Sh := (.cons (.rown 31 (.pair (.int .i64) (.int .i64))) (.cons (.rown 31 (.pair (.int .i64) (.int .i64))) (.cons (.val (.int .i64)) .nil)))
def ref_SameSegments_0.ts : List Tmp := [0, 1, 5]
def ref_SameSegments_0.asg : List Tmp := [4, 5, 11, 12, 13, 14, 15, 16, 17, 18, 19, 20, 21, 22, 23, 24, 25]
def ref_SameSegments_0.C (N : Nat) : Ctx := { ref_SameSegments.C N with may := fun t => ref_SameSegments_0.asg.any (Nat.beq t) }
def ref_SameSegments_0.code : Code := loopBody (sub ref_SameSegments.code [true, true, false, true, false])
theorem ref_SameSegments_0.cok (N : Nat) : (ref_SameSegments_0.C N).Ok Try.prog := ⟨(ref_SameSegments.cok N).U, (ref_SameSegments.cok N).Γ, (ref_SameSegments.cok N).Y⟩
def ref_SameSegments_0.alts : List Alt := [⟨.ret, [4], (.cons (.val .bool) .nil)⟩, ⟨(.exit 0), [], .nil⟩]
def ref_SameSegments_0.go (N : Nat) : Nat → (List (Int × Int)) → (List (Int × Int)) → Int → Option ((Bool × Unit) ⊕ Unit)
  | 0, _, _, _ => none
  | fuel + 1, a, b, i =>
    bif decide (i < (a.length : Int)) then
      bif inB i a.length then
        bif decide (i.toNat < a.length) then
          bif inB i b.length then
            bif decide (i.toNat < b.length) then
              bif !((decide ((a.getD i.toNat ((0 : Int), (0 : Int))).1 = (b.getD i.toNat ((0 : Int), (0 : Int))).1)) && ((decide ((a.getD i.toNat ((0 : Int), (0 : Int))).2 = (b.getD i.toNat ((0 : Int), (0 : Int))).2)) && true)) then
                some (.inl (false, ()))
              else ref_SameSegments_0.go N fuel a b (IntKind.i64.wrap (i + (1 : Int)))
            else none
          else none
        else none
      else none
    else some (.inr ())
def ref_SameSegments_0.g (N n : Nat) (x : Sh.den ref_SameSegments_0.ins) : Option (altsDen ref_SameSegments_0.alts) := ref_SameSegments_0.go N n x.1 x.2.1 x.2.2.1
def ref_SameSegments_0.P (N : Nat) : Ps := ⟨ref_SameSegments_0.ts, ref_SameSegments_0.ins, ref_SameSegments_0.asg, ref_SameSegments_0.alts, ref_SameSegments_0.g N N⟩
def ref_SameSegments_0.lam (N : Nat) : Pcs := pcs []
theorem ref_SameSegments_0.pok (N : Nat) : (ref_SameSegments_0.lam N).Ok Try.prog (ref_SameSegments_0.C N) ref_SameSegments_0.code := pcsOk_nil
theorem ref_SameSegments_0.ev (N n : Nat) (x : Sh.den ref_SameSegments_0.ins) : evC (ref_SameSegments_0.C N) ref_SameSegments_0.code (ref_SameSegments_0.lam N) ((ref_SameSegments_0.P N).canon 1000 x) (loopK (ref_SameSegments_0.P N) (ref_SameSegments_0.g N n)) = ref_SameSegments_0.g N (n + 1) x := by kernel_rfl
theorem ref_SameSegments_0.ok (N : Nat) : ((ref_SameSegments_0.P N).pc (ref_SameSegments.C N)).Ok Try.prog (ref_SameSegments.C N) (.loop ref_SameSegments_0.code) := loop_ok (F := ref_SameSegments_0.P N) (n0 := 1000) (N := N) (ref_SameSegments.cok N) mix (ref_SameSegments_0.pok N) (ref_SameSegments_0.g N) (fun x => by rfl) rfl (fun n x y h => (ref_SameSegments_0.ev N n x).trans h)
def ref_SameSegments.outs : Sh := (.cons (.val .bool) .nil)
def ref_SameSegments.run (N : Nat) (a : (List (Int × Int))) (b : (List (Int × Int))) : Option (Bool × Unit) :=
  bif !(decide ((a.length : Int) = (b.length : Int))) then
    some (false, ())
  else
    obind (ref_SameSegments_0.go N N a b (0 : Int)) fun y => match y with
    | .inl (t4, _) =>
        some (t4, ())
    | .inr (_) =>
        some (true, ())
def ref_SameSegments.fn (N : Nat) (x : Sh.den ref_SameSegments.ins) : Option (Sh.den ref_SameSegments.outs) := ref_SameSegments.run N x.1 x.2.1
def ref_SameSegments.S (N : Nat) : Fs := ⟨ref_SameSegments.ins, ref_SameSegments.outs, ref_SameSegments.fn N⟩
def ref_SameSegments.lam (N : Nat) : Pcs := pcs [([true, true, false, true, false], (ref_SameSegments_0.P N).pc (ref_SameSegments.C N))]
theorem ref_SameSegments.pok (N : Nat) : (ref_SameSegments.lam N).Ok Try.prog (ref_SameSegments.C N) ref_SameSegments.code := pcsOk_cons (c1 := .loop ref_SameSegments_0.code) (by kernel_rfl) (ref_SameSegments_0.ok N) (pcsOk_nil)
theorem ref_SameSegments.ev (N : Nat) (x : Sh.den ref_SameSegments.ins) : evC (ref_SameSegments.C N) ref_SameSegments.code (ref_SameSegments.lam N) ⟨envOf 0 (bld (fun k => k) ref_SameSegments.ins x 0).1, (bld (fun k => k) ref_SameSegments.ins x 0).2.1, 1000⟩ (endF U ref_SameSegments.outs Try.f13.results.toList []) = ref_SameSegments.fn N x := by kernel_rfl
theorem ref_SameSegments.ok (N : Nat) : (ref_SameSegments.S N).con.Ok Try.prog 13 := fn_ok (F := ref_SameSegments.S N) (n0 := 1000) Try.func13 (by kernel_rfl) (show Try.f13.body = some ref_SameSegments.code by rfl) mix (ref_SameSegments.cok N) (fun _ => rfl) (fun _ => rfl) (ref_SameSegments.pok N) (fun x y h => (ref_SameSegments.ev N x).trans h)
/-- hayloft/hayloftref13.SameInts -/
def ref_SameInts.ins : Sh := (.cons (.rown 3 (.int .i64)) (.cons (.rown 3 (.int .i64)) .nil))
def ref_SameInts.C (N : Nat) : Ctx := ⟨U, 26, fun _ => true, gam [], gamY []⟩
theorem ref_SameInts.cok (N : Nat) : (ref_SameInts.C N).Ok Try.prog := ⟨U_ok, GamOk.nil, GamYOk.nil⟩
def ref_SameInts.code : Code := Try.f17.body.getD .skip
def ref_SameInts_0.ins : Sh := (.cons (.rown 3 (.int .i64)) (.cons (.rown 3 (.int .i64)) (.cons (.val (.int .i64)) .nil)))
def ref_SameInts_0.ts : List Tmp := [0, 1, 5]
def ref_SameInts_0.asg : List Tmp := [4, 5, 11, 12, 13, 14, 15, 16, 17, 18, 19, 20, 21, 22, 23, 24, 25]
def ref_SameInts_0.C (N : Nat) : Ctx := { ref_SameInts.C N with may := fun t => ref_SameInts_0.asg.any (Nat.beq t) }
def ref_SameInts_0.code : Code := loopBody (sub ref_SameInts.code [true, true, false, true, false])
theorem ref_SameInts_0.cok (N : Nat) : (ref_SameInts_0.C N).Ok Try.prog := ⟨(ref_SameInts.cok N).U, (ref_SameInts.cok N).Γ, (ref_SameInts.cok N).Y⟩
def ref_SameInts_0.alts : List Alt := [⟨.ret, [4], (.cons (.val .bool) .nil)⟩, ⟨(.exit 0), [], .nil⟩]
def ref_SameInts_0.go (N : Nat) : Nat → (List Int) → (List Int) → Int → Option ((Bool × Unit) ⊕ Unit)
  | 0, _, _, _ => none
  | fuel + 1, a, b, i =>
    bif decide (i < (a.length : Int)) then
      bif inB i a.length then
        bif decide (i.toNat < a.length) then
          bif inB i b.length then
            bif decide (i.toNat < b.length) then
              bif !(decide ((a.getD i.toNat (0 : Int)) = (b.getD i.toNat (0 : Int)))) then
                some (.inl (false, ()))
              else ref_SameInts_0.go N fuel a b (IntKind.i64.wrap (i + (1 : Int)))
            else none
          else none
        else none
      else none
    else some (.inr ())
def ref_SameInts_0.g (N n : Nat) (x : Sh.den ref_SameInts_0.ins) : Option (altsDen ref_SameInts_0.alts) := ref_SameInts_0.go N n x.1 x.2.1 x.2.2.1
def ref_SameInts_0.P (N : Nat) : Ps := ⟨ref_SameInts_0.ts, ref_SameInts_0.ins, ref_SameInts_0.asg, ref_SameInts_0.alts, ref_SameInts_0.g N N⟩
def ref_SameInts_0.lam (N : Nat) : Pcs := pcs []
theorem ref_SameInts_0.pok (N : Nat) : (ref_SameInts_0.lam N).Ok Try.prog (ref_SameInts_0.C N) ref_SameInts_0.code := pcsOk_nil
theorem ref_SameInts_0.ev (N n : Nat) (x : Sh.den ref_SameInts_0.ins) : evC (ref_SameInts_0.C N) ref_SameInts_0.code (ref_SameInts_0.lam N) ((ref_SameInts_0.P N).canon 1000 x) (loopK (ref_SameInts_0.P N) (ref_SameInts_0.g N n)) = ref_SameInts_0.g N (n + 1) x := by kernel_rfl
theorem ref_SameInts_0.ok (N : Nat) : ((ref_SameInts_0.P N).pc (ref_SameInts.C N)).Ok Try.prog (ref_SameInts.C N) (.loop ref_SameInts_0.code) := loop_ok (F := ref_SameInts_0.P N) (n0 := 1000) (N := N) (ref_SameInts.cok N) mix (ref_SameInts_0.pok N) (ref_SameInts_0.g N) (fun x => by rfl) rfl (fun n x y h => (ref_SameInts_0.ev N n x).trans h)
def ref_SameInts.outs : Sh := (.cons (.val .bool) .nil)
def ref_SameInts.run (N : Nat) (a : (List Int)) (b : (List Int)) : Option (Bool × Unit) :=
  bif !(decide ((a.length : Int) = (b.length : Int))) then
    some (false, ())
  else
    obind (ref_SameInts_0.go N N a b (0 : Int)) fun y => match y with
    | .inl (t4, _) =>
        some (t4, ())
    | .inr (_) =>
        some (true, ())
def ref_SameInts.fn (N : Nat) (x : Sh.den ref_SameInts.ins) : Option (Sh.den ref_SameInts.outs) := ref_SameInts.run N x.1 x.2.1
def ref_SameInts.S (N : Nat) : Fs := ⟨ref_SameInts.ins, ref_SameInts.outs, ref_SameInts.fn N⟩
def ref_SameInts.lam (N : Nat) : Pcs := pcs [([true, true, false, true, false], (ref_SameInts_0.P N).pc (ref_SameInts.C N))]
theorem ref_SameInts.pok (N : Nat) : (ref_SameInts.lam N).Ok Try.prog (ref_SameInts.C N) ref_SameInts.code := pcsOk_cons (c1 := .loop ref_SameInts_0.code) (by kernel_rfl) (ref_SameInts_0.ok N) (pcsOk_nil)
theorem ref_SameInts.ev (N : Nat) (x : Sh.den ref_SameInts.ins) : evC (ref_SameInts.C N) ref_SameInts.code (ref_SameInts.lam N) ⟨envOf 0 (bld (fun k => k) ref_SameInts.ins x 0).1, (bld (fun k => k) ref_SameInts.ins x 0).2.1, 1000⟩ (endF U ref_SameInts.outs Try.f17.results.toList []) = ref_SameInts.fn N x := by kernel_rfl
theorem ref_SameInts.ok (N : Nat) : (ref_SameInts.S N).con.Ok Try.prog 17 := fn_ok (F := ref_SameInts.S N) (n0 := 1000) Try.func17 (by kernel_rfl) (show Try.f17.body = some ref_SameInts.code by rfl) mix (ref_SameInts.cok N) (fun _ => rfl) (fun _ => rfl) (ref_SameInts.pok N) (fun x y h => (ref_SameInts.ev N x).trans h)
/-- hayloft/catalog.Covered$1 -/
def catalog_Covered_f1_b.ins : Sh := (.cons (.val (.int .i64)) (.cons (.rbox 32 (.cons (.val (.slice .bool)) .nil)) .nil))
def catalog_Covered_f1_b.C (N : Nat) : Ctx := ⟨U, 14, fun _ => true, gam [], gamY []⟩
theorem catalog_Covered_f1_b.cok (N : Nat) : (catalog_Covered_f1_b.C N).Ok Try.prog := ⟨U_ok, GamOk.nil, GamYOk.nil⟩
def catalog_Covered_f1_b.code : Code := Try.f40.body.getD .skip
def catalog_Covered_f1_b.outs : Sh := (.cons (.val .bool) .nil)
def catalog_Covered_f1_b.run (N : Nat) (n_ : Int) (t1 : (List Bool)) : Option (Bool × Unit) :=
  bif decide (n_ < (t1.length : Int)) then
    bif inB n_ t1.length then
      some (t1.getD n_.toNat false, ())
    else none
  else some (false, ())
def catalog_Covered_f1_b.fn (N : Nat) (x : Sh.den catalog_Covered_f1_b.ins) : Option (Sh.den catalog_Covered_f1_b.outs) := catalog_Covered_f1_b.run N x.1 x.2.1.1
def catalog_Covered_f1_b.S (N : Nat) : Fs := ⟨catalog_Covered_f1_b.ins, catalog_Covered_f1_b.outs, catalog_Covered_f1_b.fn N⟩
def catalog_Covered_f1_b.lam (N : Nat) : Pcs := pcs []
theorem catalog_Covered_f1_b.pok (N : Nat) : (catalog_Covered_f1_b.lam N).Ok Try.prog (catalog_Covered_f1_b.C N) catalog_Covered_f1_b.code := pcsOk_nil
theorem catalog_Covered_f1_b.ev (N : Nat) (x : Sh.den catalog_Covered_f1_b.ins) : evC (catalog_Covered_f1_b.C N) catalog_Covered_f1_b.code (catalog_Covered_f1_b.lam N) ⟨envOf 0 (bld (fun k => k) catalog_Covered_f1_b.ins x 0).1, (bld (fun k => k) catalog_Covered_f1_b.ins x 0).2.1, 1000⟩ (endF U catalog_Covered_f1_b.outs Try.f40.results.toList []) = catalog_Covered_f1_b.fn N x := by kernel_rfl
theorem catalog_Covered_f1_b.ok (N : Nat) : (catalog_Covered_f1_b.S N).con.Ok Try.prog 40 := fn_ok (F := catalog_Covered_f1_b.S N) (n0 := 1000) Try.func40 (by kernel_rfl) (show Try.f40.body = some catalog_Covered_f1_b.code by rfl) mix (catalog_Covered_f1_b.cok N) (fun _ => rfl) (fun _ => rfl) (catalog_Covered_f1_b.pok N) (fun x y h => (catalog_Covered_f1_b.ev N x).trans h)
/-- slices.IndexFunc[[]int,int] -/
def slices_IndexFunc_int_int_c.ins : Sh := (.cons (.rown 3 (.int .i64)) (.cons (.fn 40 (.cons (.rbox 32 (.cons (.val (.slice .bool)) .nil)) .nil)) .nil))
def slices_IndexFunc_int_int_c.C (N : Nat) : Ctx := ⟨U, 19, fun _ => true, gam [(40, (catalog_Covered_f1_b.S N).con)], gamY []⟩
theorem slices_IndexFunc_int_int_c.cok (N : Nat) : (slices_IndexFunc_int_int_c.C N).Ok Try.prog := ⟨U_ok, GamOk.cons (catalog_Covered_f1_b.ok N) (GamOk.nil), GamYOk.nil⟩
def slices_IndexFunc_int_int_c.code : Code := Try.f64.body.getD .skip
def slices_IndexFunc_int_int_c_0.ins : Sh := (.cons (.rown 3 (.int .i64)) (.cons (.fn 40 (.cons (.rbox 32 (.cons (.val (.slice .bool)) .nil)) .nil)) (.cons (.val (.int .i64)) (.cons (.val (.int .i64)) .nil))))
def slices_IndexFunc_int_int_c_0.ts : List Tmp := [0, 1, 7, 8]
def slices_IndexFunc_int_int_c_0.asg : List Tmp := [4, 5, 8, 9, 10, 11, 12, 13, 14, 15, 16, 17, 18]
def slices_IndexFunc_int_int_c_0.C (N : Nat) : Ctx := { slices_IndexFunc_int_int_c.C N with may := fun t => slices_IndexFunc_int_int_c_0.asg.any (Nat.beq t) }
def slices_IndexFunc_int_int_c_0.code : Code := loopBody (sub slices_IndexFunc_int_int_c.code [true, false, true, false])
theorem slices_IndexFunc_int_int_c_0.cok (N : Nat) : (slices_IndexFunc_int_int_c_0.C N).Ok Try.prog := ⟨(slices_IndexFunc_int_int_c.cok N).U, (slices_IndexFunc_int_int_c.cok N).Γ, (slices_IndexFunc_int_int_c.cok N).Y⟩
def slices_IndexFunc_int_int_c_0.alts : List Alt := [⟨.ret, [4], (.cons (.val (.int .i64)) .nil)⟩, ⟨(.exit 0), [], .nil⟩]
def slices_IndexFunc_int_int_c_0.go (N : Nat) : Nat → (List Int) → (List Bool) → Int → Int → Option ((Int × Unit) ⊕ Unit)
  | 0, _, _, _, _ => none
  | fuel + 1, s, f, t7, t8 =>
    bif decide (t8 < t7) then
      bif inB t8 s.length then
        bif decide (t8.toNat < s.length) then
          obind (catalog_Covered_f1_b.run N (s.getD t8.toNat (0 : Int)) f) fun (b, _) =>
            bif b then
              some (.inl (t8, ()))
            else slices_IndexFunc_int_int_c_0.go N fuel s f t7 (IntKind.i64.wrap (t8 + (1 : Int)))
        else none
      else none
    else some (.inr ())
def slices_IndexFunc_int_int_c_0.g (N n : Nat) (x : Sh.den slices_IndexFunc_int_int_c_0.ins) : Option (altsDen slices_IndexFunc_int_int_c_0.alts) := slices_IndexFunc_int_int_c_0.go N n x.1 x.2.1.1.1 x.2.2.1 x.2.2.2.1
def slices_IndexFunc_int_int_c_0.P (N : Nat) : Ps := ⟨slices_IndexFunc_int_int_c_0.ts, slices_IndexFunc_int_int_c_0.ins, slices_IndexFunc_int_int_c_0.asg, slices_IndexFunc_int_int_c_0.alts, slices_IndexFunc_int_int_c_0.g N N⟩
def slices_IndexFunc_int_int_c_0.lam (N : Nat) : Pcs := pcs []
theorem slices_IndexFunc_int_int_c_0.pok (N : Nat) : (slices_IndexFunc_int_int_c_0.lam N).Ok Try.prog (slices_IndexFunc_int_int_c_0.C N) slices_IndexFunc_int_int_c_0.code := pcsOk_nil
theorem slices_IndexFunc_int_int_c_0.ev (N n : Nat) (x : Sh.den slices_IndexFunc_int_int_c_0.ins) : evC (slices_IndexFunc_int_int_c_0.C N) slices_IndexFunc_int_int_c_0.code (slices_IndexFunc_int_int_c_0.lam N) ((slices_IndexFunc_int_int_c_0.P N).canon 1000 x) (loopK (slices_IndexFunc_int_int_c_0.P N) (slices_IndexFunc_int_int_c_0.g N n)) = slices_IndexFunc_int_int_c_0.g N (n + 1) x := by kernel_rfl
theorem slices_IndexFunc_int_int_c_0.ok (N : Nat) : ((slices_IndexFunc_int_int_c_0.P N).pc (slices_IndexFunc_int_int_c.C N)).Ok Try.prog (slices_IndexFunc_int_int_c.C N) (.loop slices_IndexFunc_int_int_c_0.code) := loop_ok (F := slices_IndexFunc_int_int_c_0.P N) (n0 := 1000) (N := N) (slices_IndexFunc_int_int_c.cok N) mix (slices_IndexFunc_int_int_c_0.pok N) (slices_IndexFunc_int_int_c_0.g N) (fun x => by rfl) rfl (fun n x y h => (slices_IndexFunc_int_int_c_0.ev N n x).trans h)
def slices_IndexFunc_int_int_c.outs : Sh := (.cons (.val (.int .i64)) .nil)
def slices_IndexFunc_int_int_c.run (N : Nat) (s : (List Int)) (f : (List Bool)) : Option (Int × Unit) :=
  obind (slices_IndexFunc_int_int_c_0.go N N s f (s.length : Int) (0 : Int)) fun y => match y with
  | .inl (t4, _) =>
      some (t4, ())
  | .inr (_) =>
      some ((-1 : Int), ())
def slices_IndexFunc_int_int_c.fn (N : Nat) (x : Sh.den slices_IndexFunc_int_int_c.ins) : Option (Sh.den slices_IndexFunc_int_int_c.outs) := slices_IndexFunc_int_int_c.run N x.1 x.2.1.1.1
def slices_IndexFunc_int_int_c.S (N : Nat) : Fs := ⟨slices_IndexFunc_int_int_c.ins, slices_IndexFunc_int_int_c.outs, slices_IndexFunc_int_int_c.fn N⟩
def slices_IndexFunc_int_int_c.lam (N : Nat) : Pcs := pcs [([true, false, true, false], (slices_IndexFunc_int_int_c_0.P N).pc (slices_IndexFunc_int_int_c.C N))]
theorem slices_IndexFunc_int_int_c.pok (N : Nat) : (slices_IndexFunc_int_int_c.lam N).Ok Try.prog (slices_IndexFunc_int_int_c.C N) slices_IndexFunc_int_int_c.code := pcsOk_cons (c1 := .loop slices_IndexFunc_int_int_c_0.code) (by kernel_rfl) (slices_IndexFunc_int_int_c_0.ok N) (pcsOk_nil)
theorem slices_IndexFunc_int_int_c.ev (N : Nat) (x : Sh.den slices_IndexFunc_int_int_c.ins) : evC (slices_IndexFunc_int_int_c.C N) slices_IndexFunc_int_int_c.code (slices_IndexFunc_int_int_c.lam N) ⟨envOf 0 (bld (fun k => k) slices_IndexFunc_int_int_c.ins x 0).1, (bld (fun k => k) slices_IndexFunc_int_int_c.ins x 0).2.1, 1000⟩ (endF U slices_IndexFunc_int_int_c.outs Try.f64.results.toList []) = slices_IndexFunc_int_int_c.fn N x := by kernel_rfl
theorem slices_IndexFunc_int_int_c.ok (N : Nat) : (slices_IndexFunc_int_int_c.S N).con.Ok Try.prog 64 := fn_ok (F := slices_IndexFunc_int_int_c.S N) (n0 := 1000) Try.func64 (by kernel_rfl) (show Try.f64.body = some slices_IndexFunc_int_int_c.code by rfl) mix (slices_IndexFunc_int_int_c.cok N) (fun _ => rfl) (fun _ => rfl) (slices_IndexFunc_int_int_c.pok N) (fun x y h => (slices_IndexFunc_int_int_c.ev N x).trans h)
/-- slices.ContainsFunc[[]int,int] -/
def slices_ContainsFunc_int_int_c.ins : Sh := (.cons (.rown 3 (.int .i64)) (.cons (.fn 40 (.cons (.rbox 32 (.cons (.val (.slice .bool)) .nil)) .nil)) .nil))
def slices_ContainsFunc_int_int_c.C (N : Nat) : Ctx := ⟨U, 9, fun _ => true, gam [(64, (slices_IndexFunc_int_int_c.S N).con)], gamY []⟩
theorem slices_ContainsFunc_int_int_c.cok (N : Nat) : (slices_ContainsFunc_int_int_c.C N).Ok Try.prog := ⟨U_ok, GamOk.cons (slices_IndexFunc_int_int_c.ok N) (GamOk.nil), GamYOk.nil⟩
def slices_ContainsFunc_int_int_c.code : Code := Try.f39.body.getD .skip
def slices_ContainsFunc_int_int_c.outs : Sh := (.cons (.val .bool) .nil)
def slices_ContainsFunc_int_int_c.run (N : Nat) (s : (List Int)) (f : (List Bool)) : Option (Bool × Unit) :=
  obind (slices_IndexFunc_int_int_c.run N s f) fun (n_, _) =>
    some (decide (n_ ≥ (0 : Int)), ())
def slices_ContainsFunc_int_int_c.fn (N : Nat) (x : Sh.den slices_ContainsFunc_int_int_c.ins) : Option (Sh.den slices_ContainsFunc_int_int_c.outs) := slices_ContainsFunc_int_int_c.run N x.1 x.2.1.1.1
def slices_ContainsFunc_int_int_c.S (N : Nat) : Fs := ⟨slices_ContainsFunc_int_int_c.ins, slices_ContainsFunc_int_int_c.outs, slices_ContainsFunc_int_int_c.fn N⟩
def slices_ContainsFunc_int_int_c.lam (N : Nat) : Pcs := pcs []
theorem slices_ContainsFunc_int_int_c.pok (N : Nat) : (slices_ContainsFunc_int_int_c.lam N).Ok Try.prog (slices_ContainsFunc_int_int_c.C N) slices_ContainsFunc_int_int_c.code := pcsOk_nil
theorem slices_ContainsFunc_int_int_c.ev (N : Nat) (x : Sh.den slices_ContainsFunc_int_int_c.ins) : evC (slices_ContainsFunc_int_int_c.C N) slices_ContainsFunc_int_int_c.code (slices_ContainsFunc_int_int_c.lam N) ⟨envOf 0 (bld (fun k => k) slices_ContainsFunc_int_int_c.ins x 0).1, (bld (fun k => k) slices_ContainsFunc_int_int_c.ins x 0).2.1, 1000⟩ (endF U slices_ContainsFunc_int_int_c.outs Try.f39.results.toList []) = slices_ContainsFunc_int_int_c.fn N x := by kernel_rfl
theorem slices_ContainsFunc_int_int_c.ok (N : Nat) : (slices_ContainsFunc_int_int_c.S N).con.Ok Try.prog 39 := fn_ok (F := slices_ContainsFunc_int_int_c.S N) (n0 := 1000) Try.func39 (by kernel_rfl) (show Try.f39.body = some slices_ContainsFunc_int_int_c.code by rfl) mix (slices_ContainsFunc_int_int_c.cok N) (fun _ => rfl) (fun _ => rfl) (slices_ContainsFunc_int_int_c.pok N) (fun x y h => (slices_ContainsFunc_int_int_c.ev N x).trans h)
def Y3.ins : Sh := (.cons (.rbox 25 (.cons (.val (.int .i64)) (.cons (.val (.int .i64)) (.cons (.val (.int .i64)) (.cons (.val (.slice (.pair .str (.slice (.pair .str (.pair (.int .i64) .bool)))))) (.cons (.val (.slice (.pair .str (.pair (.int .i64) (.pair (.slice (.int .i64)) (.pair (.slice (.int .i64)) (.pair (.int .i64) (.int .i64)))))))) .nil)))))) (.cons (.rbox 32 (.cons (.val (.slice .bool)) .nil)) (.cons (.box 4 (.cons (.val .bool) .nil)) (.cons (.agg (.cons (.val (.int .i64)) (.cons (.val (.int .i64)) .nil))) .nil))))
def Y3.C (N : Nat) : Ctx := ⟨U, 15, fun _ => true, gam [(18, (catalog_Nodes.S N).con), (39, (slices_ContainsFunc_int_int_c.S N).con)], gamY []⟩
theorem Y3.cok (N : Nat) : (Y3.C N).Ok Try.prog := ⟨U_ok, GamOk.cons (catalog_Nodes.ok N) (GamOk.cons (slices_ContainsFunc_int_int_c.ok N) (GamOk.nil)), GamYOk.nil⟩
def Y3.code : Code := site3.body
def Y3.alts : List Alt := [⟨.normal, [], (.cons (.upd 2 4 (.cons (.val .bool) .nil)) .nil)⟩, ⟨.ret, [], (.cons (.upd 2 4 (.cons (.val .bool) .nil)) .nil)⟩]
def Y3.run (N : Nat) (nodes : Int) (segments : Int) (k : Int) (tables : (List ((List UInt8) × (List ((List UInt8) × (Int × Bool)))))) (projs : (List ((List UInt8) × (Int × ((List Int) × ((List Int) × (Int × Int))))))) (live : (List Bool)) (t4 : Bool) (t8 : Int) (t81 : Int) : Option (((Bool × Unit) × Unit) ⊕ ((Bool × Unit) × Unit)) :=
  obind (catalog_Nodes.run N (nodes, segments, k, tables, projs) (t8, t81)) fun (l, _) =>
    obind (slices_ContainsFunc_int_int_c.run N l live) fun (b, _) =>
      bif !b then
        some (.inr ((false, ()), ()))
      else some (.inl ((t4, ()), ()))
def Y3.fn (N : Nat) (x : Sh.den Y3.ins) : Option (altsDen Y3.alts) := Y3.run N x.1.1 x.1.2.1 x.1.2.2.1 x.1.2.2.2.1 x.1.2.2.2.2.1 x.2.1.1 x.2.2.1.1 x.2.2.2.1.1 x.2.2.2.1.2.1
def Y3.F (N : Nat) : Ys := ⟨[2, 3, 4], [8], Y3.ins, Y3.alts, Y3.fn N⟩
def Y3.yc (N : Nat) : Yc := (Y3.F N).yc
def Y3.lam (N : Nat) : Pcs := pcs []
theorem Y3.pok (N : Nat) : (Y3.lam N).Ok Try.prog (Y3.C N) site3.body := pcsOk_nil
theorem Y3.ev (N : Nat) (x : Sh.den Y3.ins) : evC (Y3.C N) site3.assign (pcs []) ⟨addT [2, 3, 4, 8] (bld (fun k => k) Y3.ins x 0).1 [], (bld (fun k => k) Y3.ins x 0).2.1, 1000⟩ (thenC fun s => evC (Y3.C N) site3.body (Y3.lam N) s (altK Y3.alts)) = Y3.fn N x := by kernel_rfl
theorem Y3.ok (N : Nat) : (Y3.yc N).Ok Try.prog 1000003 := ys_ok (σ := site3) (k := 3) (C := Y3.C N) (F := Y3.F N) (n0 := 1000) (fun _ => rfl) (Y3.cok N) mix (fun _ => rfl) (show site3.ps.toList = [8] by kernel_rfl) (show site3.ts = [2, 3, 4] by kernel_rfl) (show site3.nt = 15 by kernel_rfl) rfl rfl rfl rfl rfl pcsOk_nil (Y3.pok N) (fun x y h => (Y3.ev N x).trans h)
/-- hayloft/catalog.Segments$1 -/
def catalog_Segments_f1_d.ins : Sh := (.cons (.box 1000003 (.cons (.val (.int .i64)) (.cons (.junk) (.cons (.junk) (.cons (.junk) (.cons (.rbox 25 (.cons (.val (.int .i64)) (.cons (.val (.int .i64)) (.cons (.val (.int .i64)) (.cons (.val (.slice (.pair .str (.slice (.pair .str (.pair (.int .i64) .bool)))))) (.cons (.val (.slice (.pair .str (.pair (.int .i64) (.pair (.slice (.int .i64)) (.pair (.slice (.int .i64)) (.pair (.int .i64) (.int .i64)))))))) .nil)))))) (.cons (.rbox 32 (.cons (.val (.slice .bool)) .nil)) (.cons (.box 4 (.cons (.val .bool) .nil)) .nil)))))))) (.cons (.rbox 25 (.cons (.val (.int .i64)) (.cons (.val (.int .i64)) (.cons (.val (.int .i64)) (.cons (.val (.slice (.pair .str (.slice (.pair .str (.pair (.int .i64) .bool)))))) (.cons (.val (.slice (.pair .str (.pair (.int .i64) (.pair (.slice (.int .i64)) (.pair (.slice (.int .i64)) (.pair (.int .i64) (.int .i64)))))))) .nil)))))) .nil))
def catalog_Segments_f1_d.C (N : Nat) : Ctx := ⟨U, 24, fun _ => true, gam [], gamY [(1000003, Y3.yc N)]⟩
theorem catalog_Segments_f1_d.cok (N : Nat) : (catalog_Segments_f1_d.C N).Ok Try.prog := ⟨U_ok, GamOk.nil, GamYOk.cons (Y3.ok N) (GamYOk.nil)⟩
def catalog_Segments_f1_d.code : Code := Try.f62.body.getD .skip
def catalog_Segments_f1_d_0.ins : Sh := (.cons (.box 1000003 (.cons (.val (.int .i64)) (.cons (.junk) (.cons (.junk) (.cons (.junk) (.cons (.rbox 25 (.cons (.val (.int .i64)) (.cons (.val (.int .i64)) (.cons (.val (.int .i64)) (.cons (.val (.slice (.pair .str (.slice (.pair .str (.pair (.int .i64) .bool)))))) (.cons (.val (.slice (.pair .str (.pair (.int .i64) (.pair (.slice (.int .i64)) (.pair (.slice (.int .i64)) (.pair (.int .i64) (.int .i64)))))))) .nil)))))) (.cons (.rbox 32 (.cons (.val (.slice .bool)) .nil)) (.cons (.box 4 (.cons (.val .bool) .nil)) .nil)))))))) (.cons (.rbox 25 (.cons (.val (.int .i64)) (.cons (.val (.int .i64)) (.cons (.val (.int .i64)) (.cons (.val (.slice (.pair .str (.slice (.pair .str (.pair (.int .i64) .bool)))))) (.cons (.val (.slice (.pair .str (.pair (.int .i64) (.pair (.slice (.int .i64)) (.pair (.slice (.int .i64)) (.pair (.int .i64) (.int .i64)))))))) .nil)))))) (.cons (.val (.int .i64)) (.cons (.val (.int .i64)) .nil))))
def catalog_Segments_f1_d_0.ts : List Tmp := [0, 1, 7, 8]
def catalog_Segments_f1_d_0.asg : List Tmp := [3, 4, 8, 9, 10, 11, 12, 13, 14, 15, 16, 17, 18, 19, 20, 21, 22, 23]
def catalog_Segments_f1_d_0.C (N : Nat) : Ctx := { catalog_Segments_f1_d.C N with may := fun t => catalog_Segments_f1_d_0.asg.any (Nat.beq t) }
def catalog_Segments_f1_d_0.code : Code := loopBody (sub catalog_Segments_f1_d.code [true, false])
theorem catalog_Segments_f1_d_0.cok (N : Nat) : (catalog_Segments_f1_d_0.C N).Ok Try.prog := ⟨(catalog_Segments_f1_d.cok N).U, (catalog_Segments_f1_d.cok N).Γ, (catalog_Segments_f1_d.cok N).Y⟩
def catalog_Segments_f1_d_0_0.ins : Sh := (.cons (.box 1000003 (.cons (.val (.int .i64)) (.cons (.junk) (.cons (.junk) (.cons (.junk) (.cons (.rbox 25 (.cons (.val (.int .i64)) (.cons (.val (.int .i64)) (.cons (.val (.int .i64)) (.cons (.val (.slice (.pair .str (.slice (.pair .str (.pair (.int .i64) .bool)))))) (.cons (.val (.slice (.pair .str (.pair (.int .i64) (.pair (.slice (.int .i64)) (.pair (.slice (.int .i64)) (.pair (.int .i64) (.int .i64)))))))) .nil)))))) (.cons (.rbox 32 (.cons (.val (.slice .bool)) .nil)) (.cons (.box 4 (.cons (.val .bool) .nil)) .nil)))))))) (.cons (.val (.int .i64)) (.cons (.val (.int .i64)) (.cons (.val (.int .i64)) .nil))))
def catalog_Segments_f1_d_0_0.ts : List Tmp := [0, 3, 12, 13]
def catalog_Segments_f1_d_0_0.asg : List Tmp := [4, 13, 14, 15, 16, 17, 18, 19, 20, 21, 22]
def catalog_Segments_f1_d_0_0.C (N : Nat) : Ctx := { catalog_Segments_f1_d_0.C N with may := fun t => catalog_Segments_f1_d_0_0.asg.any (Nat.beq t) }
def catalog_Segments_f1_d_0_0.code : Code := loopBody (sub catalog_Segments_f1_d_0.code [true, true, false, false, true, true, false])
theorem catalog_Segments_f1_d_0_0.cok (N : Nat) : (catalog_Segments_f1_d_0_0.C N).Ok Try.prog := ⟨(catalog_Segments_f1_d_0.cok N).U, (catalog_Segments_f1_d_0.cok N).Γ, (catalog_Segments_f1_d_0.cok N).Y⟩
def catalog_Segments_f1_d_0_0.alts : List Alt := [⟨.ret, [], (.cons (.upd 3 4 (.cons (.val .bool) .nil)) (.cons (.upd 0 1000003 (.cons (.val (.int .i64)) (.cons (.junk) (.cons (.junk) (.cons (.junk) (.cons (.keep 0 1) (.cons (.keep 0 2) (.cons (.ref 0) .nil)))))))) .nil))⟩, ⟨(.exit 2), [], (.cons (.upd 3 4 (.cons (.val .bool) .nil)) (.cons (.upd 0 1000003 (.cons (.val (.int .i64)) (.cons (.junk) (.cons (.junk) (.cons (.junk) (.cons (.keep 0 1) (.cons (.keep 0 2) (.cons (.ref 0) .nil)))))))) .nil))⟩]
def catalog_Segments_f1_d_0_0.go (N : Nat) : Nat → Int → Int → Int → Int → (List ((List UInt8) × (List ((List UInt8) × (Int × Bool))))) → (List ((List UInt8) × (Int × ((List Int) × ((List Int) × (Int × Int)))))) → (List Bool) → Bool → Int → Int → Int → Option (((Bool × Unit) × (Int × Unit × Unit × Unit × Unit × Unit × Unit × Unit) × Unit) ⊕ ((Bool × Unit) × (Int × Unit × Unit × Unit × Unit × Unit × Unit × Unit) × Unit))
  | 0, _, _, _, _, _, _, _, _, _, _, _ => none
  | fuel + 1, yield, nodes, segments, k, tables, projs, yield1, yield2, p, t12, t13 =>
    bif decide (t13 < t12) then
      bif decide (yield = (0 : Int)) then
        obind (Y3.run N nodes segments k tables projs yield1 yield2 p t13) fun y => match y with
        | .inl ((v, _), _) =>
            catalog_Segments_f1_d_0_0.go N fuel (0 : Int) nodes segments k tables projs yield1 v p t12 (IntKind.i64.wrap (t13 + (1 : Int)))
        | .inr ((v1, _), _) =>
            some (.inl ((v1, ()), ((1 : Int), (), (), (), (), (), (), ()), ()))
      else none
    else some (.inr ((yield2, ()), (yield, (), (), (), (), (), (), ()), ()))
def catalog_Segments_f1_d_0_0.g (N n : Nat) (x : Sh.den catalog_Segments_f1_d_0_0.ins) : Option (altsDen catalog_Segments_f1_d_0_0.alts) := catalog_Segments_f1_d_0_0.go N n x.1.1 x.1.2.2.2.2.1.1 x.1.2.2.2.2.1.2.1 x.1.2.2.2.2.1.2.2.1 x.1.2.2.2.2.1.2.2.2.1 x.1.2.2.2.2.1.2.2.2.2.1 x.1.2.2.2.2.2.1.1 x.1.2.2.2.2.2.2.1.1 x.2.1 x.2.2.1 x.2.2.2.1
def catalog_Segments_f1_d_0_0.P (N : Nat) : Ps := ⟨catalog_Segments_f1_d_0_0.ts, catalog_Segments_f1_d_0_0.ins, catalog_Segments_f1_d_0_0.asg, catalog_Segments_f1_d_0_0.alts, catalog_Segments_f1_d_0_0.g N N⟩
def catalog_Segments_f1_d_0_0.lam (N : Nat) : Pcs := pcs []
theorem catalog_Segments_f1_d_0_0.pok (N : Nat) : (catalog_Segments_f1_d_0_0.lam N).Ok Try.prog (catalog_Segments_f1_d_0_0.C N) catalog_Segments_f1_d_0_0.code := pcsOk_nil
theorem catalog_Segments_f1_d_0_0.ev (N n : Nat) (x : Sh.den catalog_Segments_f1_d_0_0.ins) : evC (catalog_Segments_f1_d_0_0.C N) catalog_Segments_f1_d_0_0.code (catalog_Segments_f1_d_0_0.lam N) ((catalog_Segments_f1_d_0_0.P N).canon 1000 x) (loopK (catalog_Segments_f1_d_0_0.P N) (catalog_Segments_f1_d_0_0.g N n)) = catalog_Segments_f1_d_0_0.g N (n + 1) x := by kernel_rfl
theorem catalog_Segments_f1_d_0_0.ok (N : Nat) : ((catalog_Segments_f1_d_0_0.P N).pc (catalog_Segments_f1_d_0.C N)).Ok Try.prog (catalog_Segments_f1_d_0.C N) (.loop catalog_Segments_f1_d_0_0.code) := loop_ok (F := catalog_Segments_f1_d_0_0.P N) (n0 := 1000) (N := N) (catalog_Segments_f1_d_0.cok N) mix (catalog_Segments_f1_d_0_0.pok N) (catalog_Segments_f1_d_0_0.g N) (fun x => by rfl) rfl (fun n x y h => (catalog_Segments_f1_d_0_0.ev N n x).trans h)
def catalog_Segments_f1_d_0.alts : List Alt := [⟨.ret, [], (.cons (.upd 3 4 (.cons (.val .bool) .nil)) (.cons (.upd 0 1000003 (.cons (.val (.int .i64)) (.cons (.junk) (.cons (.junk) (.cons (.junk) (.cons (.keep 0 1) (.cons (.keep 0 2) (.cons (.ref 0) .nil)))))))) .nil))⟩, ⟨(.exit 0), [], (.cons (.upd 3 4 (.cons (.val .bool) .nil)) (.cons (.upd 0 1000003 (.cons (.val (.int .i64)) (.cons (.junk) (.cons (.junk) (.cons (.junk) (.cons (.keep 0 1) (.cons (.keep 0 2) (.cons (.ref 0) .nil)))))))) .nil))⟩]
def catalog_Segments_f1_d_0.go (N : Nat) : Nat → Int → Int → Int → Int → (List ((List UInt8) × (List ((List UInt8) × (Int × Bool))))) → (List ((List UInt8) × (Int × ((List Int) × ((List Int) × (Int × Int)))))) → (List Bool) → Bool → Int → Int → Int → (List ((List UInt8) × (List ((List UInt8) × (Int × Bool))))) → (List ((List UInt8) × (Int × ((List Int) × ((List Int) × (Int × Int)))))) → Int → Int → Option (((Bool × Unit) × (Int × Unit × Unit × Unit × Unit × Unit × Unit × Unit) × Unit) ⊕ ((Bool × Unit) × (Int × Unit × Unit × Unit × Unit × Unit × Unit × Unit) × Unit))
  | 0, _, _, _, _, _, _, _, _, _, _, _, _, _, _, _ => none
  | fuel + 1, yield, nodes, segments, k, tables, projs, yield1, yield2, nodes1, segments1, k1, tables1, projs1, t7, t8 =>
    bif decide (t8 < t7) then
      obind (catalog_Segments_f1_d_0_0.go N N yield nodes segments k tables projs yield1 yield2 t8 segments1 (0 : Int)) fun y => match y with
      | .inl ((v, _), (v1, _, _, _, _, _, _, _), _) =>
          some (.inl ((v, ()), (v1, (), (), (), (), (), (), ()), ()))
      | .inr ((v2, _), (v3, _, _, _, _, _, _, _), _) =>
          catalog_Segments_f1_d_0.go N fuel v3 nodes segments k tables projs yield1 v2 nodes1 segments1 k1 tables1 projs1 t7 (IntKind.i64.wrap (t8 + (1 : Int)))
    else some (.inr ((yield2, ()), (yield, (), (), (), (), (), (), ()), ()))
def catalog_Segments_f1_d_0.g (N n : Nat) (x : Sh.den catalog_Segments_f1_d_0.ins) : Option (altsDen catalog_Segments_f1_d_0.alts) := catalog_Segments_f1_d_0.go N n x.1.1 x.1.2.2.2.2.1.1 x.1.2.2.2.2.1.2.1 x.1.2.2.2.2.1.2.2.1 x.1.2.2.2.2.1.2.2.2.1 x.1.2.2.2.2.1.2.2.2.2.1 x.1.2.2.2.2.2.1.1 x.1.2.2.2.2.2.2.1.1 x.2.1.1 x.2.1.2.1 x.2.1.2.2.1 x.2.1.2.2.2.1 x.2.1.2.2.2.2.1 x.2.2.1 x.2.2.2.1
def catalog_Segments_f1_d_0.P (N : Nat) : Ps := ⟨catalog_Segments_f1_d_0.ts, catalog_Segments_f1_d_0.ins, catalog_Segments_f1_d_0.asg, catalog_Segments_f1_d_0.alts, catalog_Segments_f1_d_0.g N N⟩
def catalog_Segments_f1_d_0.lam (N : Nat) : Pcs := pcs [([true, true, false, false, true, true, false], (catalog_Segments_f1_d_0_0.P N).pc (catalog_Segments_f1_d_0.C N))]
theorem catalog_Segments_f1_d_0.pok (N : Nat) : (catalog_Segments_f1_d_0.lam N).Ok Try.prog (catalog_Segments_f1_d_0.C N) catalog_Segments_f1_d_0.code := pcsOk_cons (c1 := .loop catalog_Segments_f1_d_0_0.code) (by kernel_rfl) (catalog_Segments_f1_d_0_0.ok N) (pcsOk_nil)
theorem catalog_Segments_f1_d_0.ev (N n : Nat) (x : Sh.den catalog_Segments_f1_d_0.ins) : evC (catalog_Segments_f1_d_0.C N) catalog_Segments_f1_d_0.code (catalog_Segments_f1_d_0.lam N) ((catalog_Segments_f1_d_0.P N).canon 1000 x) (loopK (catalog_Segments_f1_d_0.P N) (catalog_Segments_f1_d_0.g N n)) = catalog_Segments_f1_d_0.g N (n + 1) x := by kernel_rfl
theorem catalog_Segments_f1_d_0.ok (N : Nat) : ((catalog_Segments_f1_d_0.P N).pc (catalog_Segments_f1_d.C N)).Ok Try.prog (catalog_Segments_f1_d.C N) (.loop catalog_Segments_f1_d_0.code) := loop_ok (F := catalog_Segments_f1_d_0.P N) (n0 := 1000) (N := N) (catalog_Segments_f1_d.cok N) mix (catalog_Segments_f1_d_0.pok N) (catalog_Segments_f1_d_0.g N) (fun x => by rfl) rfl (fun n x y h => (catalog_Segments_f1_d_0.ev N n x).trans h)
def catalog_Segments_f1_d.outs : Sh := (.cons (.upd 3 4 (.cons (.val .bool) .nil)) (.cons (.upd 0 1000003 (.cons (.val (.int .i64)) (.cons (.junk) (.cons (.junk) (.cons (.junk) (.cons (.keep 0 1) (.cons (.keep 0 2) (.cons (.ref 0) .nil)))))))) .nil))
def catalog_Segments_f1_d.run (N : Nat) (yield : Int) (nodes : Int) (segments : Int) (k : Int) (tables : (List ((List UInt8) × (List ((List UInt8) × (Int × Bool)))))) (projs : (List ((List UInt8) × (Int × ((List Int) × ((List Int) × (Int × Int))))))) (yield1 : (List Bool)) (yield2 : Bool) (nodes1 : Int) (segments1 : Int) (k1 : Int) (tables1 : (List ((List UInt8) × (List ((List UInt8) × (Int × Bool)))))) (projs1 : (List ((List UInt8) × (Int × ((List Int) × ((List Int) × (Int × Int))))))) : Option ((Bool × Unit) × (Int × Unit × Unit × Unit × Unit × Unit × Unit × Unit) × Unit) :=
  obind (catalog_Segments_f1_d_0.go N N yield nodes segments k tables projs yield1 yield2 nodes1 segments1 k1 tables1 projs1 (projs1.length : Int) (0 : Int)) fun y => match y with
  | .inl ((v, _), (v1, _, _, _, _, _, _, _), _) =>
      some ((v, ()), (v1, (), (), (), (), (), (), ()), ())
  | .inr ((v2, _), (v3, _, _, _, _, _, _, _), _) =>
      some ((v2, ()), (v3, (), (), (), (), (), (), ()), ())
def catalog_Segments_f1_d.fn (N : Nat) (x : Sh.den catalog_Segments_f1_d.ins) : Option (Sh.den catalog_Segments_f1_d.outs) := catalog_Segments_f1_d.run N x.1.1 x.1.2.2.2.2.1.1 x.1.2.2.2.2.1.2.1 x.1.2.2.2.2.1.2.2.1 x.1.2.2.2.2.1.2.2.2.1 x.1.2.2.2.2.1.2.2.2.2.1 x.1.2.2.2.2.2.1.1 x.1.2.2.2.2.2.2.1.1 x.2.1.1 x.2.1.2.1 x.2.1.2.2.1 x.2.1.2.2.2.1 x.2.1.2.2.2.2.1
def catalog_Segments_f1_d.S (N : Nat) : Fs := ⟨catalog_Segments_f1_d.ins, catalog_Segments_f1_d.outs, catalog_Segments_f1_d.fn N⟩
def catalog_Segments_f1_d.lam (N : Nat) : Pcs := pcs [([true, false], (catalog_Segments_f1_d_0.P N).pc (catalog_Segments_f1_d.C N))]
theorem catalog_Segments_f1_d.pok (N : Nat) : (catalog_Segments_f1_d.lam N).Ok Try.prog (catalog_Segments_f1_d.C N) catalog_Segments_f1_d.code := pcsOk_cons (c1 := .loop catalog_Segments_f1_d_0.code) (by kernel_rfl) (catalog_Segments_f1_d_0.ok N) (pcsOk_nil)
theorem catalog_Segments_f1_d.ev (N : Nat) (x : Sh.den catalog_Segments_f1_d.ins) : evC (catalog_Segments_f1_d.C N) catalog_Segments_f1_d.code (catalog_Segments_f1_d.lam N) ⟨envOf 0 (bld (fun k => k) catalog_Segments_f1_d.ins x 0).1, (bld (fun k => k) catalog_Segments_f1_d.ins x 0).2.1, 1000⟩ (endF U catalog_Segments_f1_d.outs Try.f62.results.toList []) = catalog_Segments_f1_d.fn N x := by kernel_rfl
theorem catalog_Segments_f1_d.ok (N : Nat) : (catalog_Segments_f1_d.S N).con.Ok Try.prog 62 := fn_ok (F := catalog_Segments_f1_d.S N) (n0 := 1000) Try.func62 (by kernel_rfl) (show Try.f62.body = some catalog_Segments_f1_d.code by rfl) mix (catalog_Segments_f1_d.cok N) (fun _ => rfl) (fun _ => rfl) (catalog_Segments_f1_d.pok N) (fun x y h => (catalog_Segments_f1_d.ev N x).trans h)
/-- hayloft/catalog.Covered -/
def catalog_Covered_b.ins : Sh := (.cons (.val (.pair (.int .i64) (.pair (.int .i64) (.pair (.int .i64) (.pair (.slice (.pair .str (.slice (.pair .str (.pair (.int .i64) .bool))))) (.slice (.pair .str (.pair (.int .i64) (.pair (.slice (.int .i64)) (.pair (.slice (.int .i64)) (.pair (.int .i64) (.int .i64)))))))))))) (.cons (.val (.slice .bool)) .nil))
def catalog_Covered_b.C (N : Nat) : Ctx := ⟨U, 15, fun _ => true, gam [(37, (catalog_Segments.S N).con), (62, (catalog_Segments_f1_d.S N).con)], gamY []⟩
theorem catalog_Covered_b.cok (N : Nat) : (catalog_Covered_b.C N).Ok Try.prog := ⟨U_ok, GamOk.cons (catalog_Segments.ok N) (GamOk.cons (catalog_Segments_f1_d.ok N) (GamOk.nil)), GamYOk.nil⟩
def catalog_Covered_b.code : Code := Try.f20.body.getD .skip
def catalog_Covered_b.outs : Sh := (.cons (.val .bool) .nil)
def catalog_Covered_b.run (N : Nat) (c : (Int × (Int × (Int × ((List ((List UInt8) × (List ((List UInt8) × (Int × Bool))))) × (List ((List UInt8) × (Int × ((List Int) × ((List Int) × (Int × Int))))))))))) (live : (List Bool)) : Option (Bool × Unit) :=
  obind (catalog_Segments.run N c) fun (((nodes, segments, k, tables, projs, _), _), _) =>
    obind (catalog_Segments_f1_d.run N (0 : Int) c.1 c.2.1 c.2.2.1 c.2.2.2.1 c.2.2.2.2 live false nodes segments k tables projs) fun ((v, _), (v1, _, _, _, _, _, _, _), _) =>
      bif decide (v1 = (0 : Int)) then
        some (true, ())
      else
        bif decide (v1 = (1 : Int)) then
          some (v, ())
        else none
def catalog_Covered_b.fn (N : Nat) (x : Sh.den catalog_Covered_b.ins) : Option (Sh.den catalog_Covered_b.outs) := catalog_Covered_b.run N x.1 x.2.1
def catalog_Covered_b.S (N : Nat) : Fs := ⟨catalog_Covered_b.ins, catalog_Covered_b.outs, catalog_Covered_b.fn N⟩
def catalog_Covered_b.lam (N : Nat) : Pcs := pcs [([true, false, true, false], rfPc (catalog_Covered_b.C N) 1000003 (.tmp 7) [2, 3, 4] [.normal, .ret])]
theorem catalog_Covered_b.pok (N : Nat) : (catalog_Covered_b.lam N).Ok Try.prog (catalog_Covered_b.C N) catalog_Covered_b.code := pcsOk_cons (c1 := .rangeFunc (.tmp 7) site3.ps site3.assign site3.body) (by kernel_rfl) (rf_ok (k := 3) (fun _ => rfl) (catalog_Covered_b.cok N)) (pcsOk_nil)
theorem catalog_Covered_b.ev (N : Nat) (x : Sh.den catalog_Covered_b.ins) : evC (catalog_Covered_b.C N) catalog_Covered_b.code (catalog_Covered_b.lam N) ⟨envOf 0 (bld (fun k => k) catalog_Covered_b.ins x 0).1, (bld (fun k => k) catalog_Covered_b.ins x 0).2.1, 1000⟩ (endF U catalog_Covered_b.outs Try.f20.results.toList []) = catalog_Covered_b.fn N x := by kernel_rfl
theorem catalog_Covered_b.ok (N : Nat) : (catalog_Covered_b.S N).con.Ok Try.prog 20 := fn_ok (F := catalog_Covered_b.S N) (n0 := 1000) Try.func20 (by kernel_rfl) (show Try.f20.body = some catalog_Covered_b.code by rfl) mix (catalog_Covered_b.cok N) (fun _ => rfl) (fun _ => rfl) (catalog_Covered_b.pok N) (fun x y h => (catalog_Covered_b.ev N x).trans h)
/-- hayloft/hayloftref13.Covered -/
def ref_Covered.ins : Sh := (.cons (.val (.pair (.int .i64) (.pair (.int .i64) (.pair (.int .i64) (.pair (.slice (.pair .str (.slice (.pair .str (.pair (.int .i64) .bool))))) (.slice (.pair .str (.pair (.int .i64) (.pair (.slice (.int .i64)) (.pair (.slice (.int .i64)) (.pair (.int .i64) (.int .i64)))))))))))) (.cons (.val (.slice .bool)) .nil))
def ref_Covered.C (N : Nat) : Ctx := ⟨U, 51, fun _ => true, gam [(16, (ref_Segments.S N).con), (19, (ref_Nodes.S N).con)], gamY []⟩
theorem ref_Covered.cok (N : Nat) : (ref_Covered.C N).Ok Try.prog := ⟨U_ok, GamOk.cons (ref_Segments.ok N) (GamOk.cons (ref_Nodes.ok N) (GamOk.nil)), GamYOk.nil⟩
def ref_Covered.code : Code := Try.f21.body.getD .skip
def ref_Covered_0.ins : Sh := (.cons (.val (.slice .bool)) (.cons (.rbox 25 (.cons (.val (.int .i64)) (.cons (.val (.int .i64)) (.cons (.val (.int .i64)) (.cons (.val (.slice (.pair .str (.slice (.pair .str (.pair (.int .i64) .bool)))))) (.cons (.val (.slice (.pair .str (.pair (.int .i64) (.pair (.slice (.int .i64)) (.pair (.slice (.int .i64)) (.pair (.int .i64) (.int .i64)))))))) .nil)))))) (.cons (.rown 31 (.pair (.int .i64) (.int .i64))) (.cons (.val (.int .i64)) .nil))))
def ref_Covered_0.ts : List Tmp := [1, 2, 5, 6]
def ref_Covered_0.asg : List Tmp := [4, 6, 7, 8, 9, 12, 13, 14, 15, 16, 17, 18, 19, 20, 21, 22, 23, 24, 25, 26, 27, 28, 29, 30, 31, 32, 33, 34, 35, 36, 37, 38, 39, 40, 41, 42, 43, 44, 45, 46, 47, 48, 49, 50]
def ref_Covered_0.C (N : Nat) : Ctx := { ref_Covered.C N with may := fun t => ref_Covered_0.asg.any (Nat.beq t) }
def ref_Covered_0.code : Code := loopBody (sub ref_Covered.code [true, true, false, true, false])
theorem ref_Covered_0.cok (N : Nat) : (ref_Covered_0.C N).Ok Try.prog := ⟨(ref_Covered.cok N).U, (ref_Covered.cok N).Γ, (ref_Covered.cok N).Y⟩
def ref_Covered_0_0.ins : Sh := (.cons (.val (.slice .bool)) (.cons (.val .bool) (.cons (.rown 3 (.int .i64)) (.cons (.val (.int .i64)) .nil))))
def ref_Covered_0_0.ts : List Tmp := [1, 7, 8, 9]
def ref_Covered_0_0.asg : List Tmp := [7, 9, 24, 25, 26, 27, 28, 29, 30, 31, 32, 33, 34, 35, 36, 37, 38, 39, 40, 41, 42, 43, 44, 45, 46, 47, 48]
def ref_Covered_0_0.C (N : Nat) : Ctx := { ref_Covered_0.C N with may := fun t => ref_Covered_0_0.asg.any (Nat.beq t) }
def ref_Covered_0_0.code : Code := loopBody (sub ref_Covered_0.code [true, false, false, true, true, false, true, false])
theorem ref_Covered_0_0.cok (N : Nat) : (ref_Covered_0_0.C N).Ok Try.prog := ⟨(ref_Covered_0.cok N).U, (ref_Covered_0.cok N).Γ, (ref_Covered_0.cok N).Y⟩
def ref_Covered_0_0.alts : List Alt := [⟨(.exit 2), [7], (.cons (.val .bool) .nil)⟩]
def ref_Covered_0_0.go (N : Nat) : Nat → (List Bool) → Bool → (List Int) → Int → Option ((Bool × Unit))
  | 0, _, _, _, _ => none
  | fuel + 1, live, some_, l, k =>
    bif decide (k < (l.length : Int)) then
      bif some_ then
        ref_Covered_0_0.go N fuel live true l (IntKind.i64.wrap (k + (1 : Int)))
      else
        bif inB k l.length then
          bif decide (k.toNat < l.length) then
            bif decide ((l.getD k.toNat (0 : Int)) < (live.length : Int)) then
              bif inB k l.length then
                bif decide (k.toNat < l.length) then
                  bif inB (l.getD k.toNat (0 : Int)) live.length then
                    ref_Covered_0_0.go N fuel live (live.getD (l.getD k.toNat (0 : Int)).toNat false) l (IntKind.i64.wrap (k + (1 : Int)))
                  else none
                else none
              else none
            else ref_Covered_0_0.go N fuel live false l (IntKind.i64.wrap (k + (1 : Int)))
          else none
        else none
    else some (some_, ())
def ref_Covered_0_0.g (N n : Nat) (x : Sh.den ref_Covered_0_0.ins) : Option (altsDen ref_Covered_0_0.alts) := ref_Covered_0_0.go N n x.1 x.2.1 x.2.2.1 x.2.2.2.1
def ref_Covered_0_0.P (N : Nat) : Ps := ⟨ref_Covered_0_0.ts, ref_Covered_0_0.ins, ref_Covered_0_0.asg, ref_Covered_0_0.alts, ref_Covered_0_0.g N N⟩
def ref_Covered_0_0.lam (N : Nat) : Pcs := pcs []
theorem ref_Covered_0_0.pok (N : Nat) : (ref_Covered_0_0.lam N).Ok Try.prog (ref_Covered_0_0.C N) ref_Covered_0_0.code := pcsOk_nil
theorem ref_Covered_0_0.ev (N n : Nat) (x : Sh.den ref_Covered_0_0.ins) : evC (ref_Covered_0_0.C N) ref_Covered_0_0.code (ref_Covered_0_0.lam N) ((ref_Covered_0_0.P N).canon 1000 x) (loopK (ref_Covered_0_0.P N) (ref_Covered_0_0.g N n)) = ref_Covered_0_0.g N (n + 1) x := by kernel_rfl
theorem ref_Covered_0_0.ok (N : Nat) : ((ref_Covered_0_0.P N).pc (ref_Covered_0.C N)).Ok Try.prog (ref_Covered_0.C N) (.loop ref_Covered_0_0.code) := loop_ok (F := ref_Covered_0_0.P N) (n0 := 1000) (N := N) (ref_Covered_0.cok N) mix (ref_Covered_0_0.pok N) (ref_Covered_0_0.g N) (fun x => by rfl) rfl (fun n x y h => (ref_Covered_0_0.ev N n x).trans h)
def ref_Covered_0.alts : List Alt := [⟨.ret, [4], (.cons (.val .bool) .nil)⟩, ⟨(.exit 0), [], .nil⟩]
def ref_Covered_0.go (N : Nat) : Nat → (List Bool) → Int → Int → Int → (List ((List UInt8) × (List ((List UInt8) × (Int × Bool))))) → (List ((List UInt8) × (Int × ((List Int) × ((List Int) × (Int × Int)))))) → (List (Int × Int)) → Int → Option ((Bool × Unit) ⊕ Unit)
  | 0, _, _, _, _, _, _, _, _ => none
  | fuel + 1, live, nodes, segments, k, tables, projs, all, i =>
    bif decide (i < (all.length : Int)) then
      bif inB i all.length then
        bif decide (i.toNat < all.length) then
          obind (ref_Nodes.run N (nodes, segments, k, tables, projs) (all.getD i.toNat ((0 : Int), (0 : Int)))) fun (l, _) =>
            obind (ref_Covered_0_0.go N N live false l (0 : Int)) fun (some_, _) =>
              bif !some_ then
                some (.inl (false, ()))
              else ref_Covered_0.go N fuel live nodes segments k tables projs all (IntKind.i64.wrap (i + (1 : Int)))
        else none
      else none
    else some (.inr ())
def ref_Covered_0.g (N n : Nat) (x : Sh.den ref_Covered_0.ins) : Option (altsDen ref_Covered_0.alts) := ref_Covered_0.go N n x.1 x.2.1.1 x.2.1.2.1 x.2.1.2.2.1 x.2.1.2.2.2.1 x.2.1.2.2.2.2.1 x.2.2.1 x.2.2.2.1
def ref_Covered_0.P (N : Nat) : Ps := ⟨ref_Covered_0.ts, ref_Covered_0.ins, ref_Covered_0.asg, ref_Covered_0.alts, ref_Covered_0.g N N⟩
def ref_Covered_0.lam (N : Nat) : Pcs := pcs [([true, false, false, true, true, false, true, false], (ref_Covered_0_0.P N).pc (ref_Covered_0.C N))]
theorem ref_Covered_0.pok (N : Nat) : (ref_Covered_0.lam N).Ok Try.prog (ref_Covered_0.C N) ref_Covered_0.code := pcsOk_cons (c1 := .loop ref_Covered_0_0.code) (by kernel_rfl) (ref_Covered_0_0.ok N) (pcsOk_nil)
theorem ref_Covered_0.ev (N n : Nat) (x : Sh.den ref_Covered_0.ins) : evC (ref_Covered_0.C N) ref_Covered_0.code (ref_Covered_0.lam N) ((ref_Covered_0.P N).canon 1000 x) (loopK (ref_Covered_0.P N) (ref_Covered_0.g N n)) = ref_Covered_0.g N (n + 1) x := by kernel_rfl
theorem ref_Covered_0.ok (N : Nat) : ((ref_Covered_0.P N).pc (ref_Covered.C N)).Ok Try.prog (ref_Covered.C N) (.loop ref_Covered_0.code) := loop_ok (F := ref_Covered_0.P N) (n0 := 1000) (N := N) (ref_Covered.cok N) mix (ref_Covered_0.pok N) (ref_Covered_0.g N) (fun x => by rfl) rfl (fun n x y h => (ref_Covered_0.ev N n x).trans h)
def ref_Covered.outs : Sh := (.cons (.val .bool) .nil)
def ref_Covered.run (N : Nat) (c : (Int × (Int × (Int × ((List ((List UInt8) × (List ((List UInt8) × (Int × Bool))))) × (List ((List UInt8) × (Int × ((List Int) × ((List Int) × (Int × Int))))))))))) (live : (List Bool)) : Option (Bool × Unit) :=
  obind (ref_Segments.run N c) fun (l, _) =>
    obind (ref_Covered_0.go N N live c.1 c.2.1 c.2.2.1 c.2.2.2.1 c.2.2.2.2 l (0 : Int)) fun y => match y with
    | .inl (t4, _) =>
        some (t4, ())
    | .inr (_) =>
        some (true, ())
def ref_Covered.fn (N : Nat) (x : Sh.den ref_Covered.ins) : Option (Sh.den ref_Covered.outs) := ref_Covered.run N x.1 x.2.1
def ref_Covered.S (N : Nat) : Fs := ⟨ref_Covered.ins, ref_Covered.outs, ref_Covered.fn N⟩
def ref_Covered.lam (N : Nat) : Pcs := pcs [([true, true, false, true, false], (ref_Covered_0.P N).pc (ref_Covered.C N))]
theorem ref_Covered.pok (N : Nat) : (ref_Covered.lam N).Ok Try.prog (ref_Covered.C N) ref_Covered.code := pcsOk_cons (c1 := .loop ref_Covered_0.code) (by kernel_rfl) (ref_Covered_0.ok N) (pcsOk_nil)
theorem ref_Covered.ev (N : Nat) (x : Sh.den ref_Covered.ins) : evC (ref_Covered.C N) ref_Covered.code (ref_Covered.lam N) ⟨envOf 0 (bld (fun k => k) ref_Covered.ins x 0).1, (bld (fun k => k) ref_Covered.ins x 0).2.1, 1000⟩ (endF U ref_Covered.outs Try.f21.results.toList []) = ref_Covered.fn N x := by kernel_rfl
theorem ref_Covered.ok (N : Nat) : (ref_Covered.S N).con.Ok Try.prog 21 := fn_ok (F := ref_Covered.S N) (n0 := 1000) Try.func21 (by kernel_rfl) (show Try.f21.body = some ref_Covered.code by rfl) mix (ref_Covered.cok N) (fun _ => rfl) (fun _ => rfl) (ref_Covered.pok N) (fun x y h => (ref_Covered.ev N x).trans h)
/-- hayloft/hayloftlaw13.CatalogLies -/
def law_CatalogLies.ins : Sh := (.cons (.val (.pair (.int .i64) (.pair (.int .i64) (.pair (.int .i64) (.pair (.slice (.pair .str (.slice (.pair .str (.pair (.int .i64) .bool))))) (.slice (.pair .str (.pair (.int .i64) (.pair (.slice (.int .i64)) (.pair (.slice (.int .i64)) (.pair (.int .i64) (.int .i64)))))))))))) (.cons (.val (.pair (.int .i64) (.int .i64))) (.cons (.val (.slice .bool)) .nil)))
def law_CatalogLies.C (N : Nat) : Ctx := ⟨U, 60, fun _ => true, gam [(11, (ref_Check.S N).con), (9, (law_alive.S N).con), (12, (law_segments.S N).con), (14, (catalog_Of.S N).con), (15, (ref_Of.S N).con), (13, (ref_SameSegments.S N).con), (16, (ref_Segments.S N).con), (18, (catalog_Nodes.S N).con), (19, (ref_Nodes.S N).con), (17, (ref_SameInts.S N).con), (20, (catalog_Covered_b.S N).con), (21, (ref_Covered.S N).con)], gamY []⟩
theorem law_CatalogLies.cok (N : Nat) : (law_CatalogLies.C N).Ok Try.prog := ⟨U_ok, GamOk.cons (ref_Check.ok N) (GamOk.cons (law_alive.ok N) (GamOk.cons (law_segments.ok N) (GamOk.cons (catalog_Of.ok N) (GamOk.cons (ref_Of.ok N) (GamOk.cons (ref_SameSegments.ok N) (GamOk.cons (ref_Segments.ok N) (GamOk.cons (catalog_Nodes.ok N) (GamOk.cons (ref_Nodes.ok N) (GamOk.cons (ref_SameInts.ok N) (GamOk.cons (catalog_Covered_b.ok N) (GamOk.cons (ref_Covered.ok N) (GamOk.nil)))))))))))), GamYOk.nil⟩
def law_CatalogLies.code : Code := Try.f4.body.getD .skip
def law_CatalogLies_0.ins : Sh := (.cons (.rbox 25 (.cons (.val (.int .i64)) (.cons (.val (.int .i64)) (.cons (.val (.int .i64)) (.cons (.val (.slice (.pair .str (.slice (.pair .str (.pair (.int .i64) .bool)))))) (.cons (.val (.slice (.pair .str (.pair (.int .i64) (.pair (.slice (.int .i64)) (.pair (.slice (.int .i64)) (.pair (.int .i64) (.int .i64)))))))) .nil)))))) (.cons (.val (.int .i64)) .nil))
def law_CatalogLies_0.ts : List Tmp := [3, 9]
def law_CatalogLies_0.asg : List Tmp := [6, 9, 21, 22, 23, 24, 25, 26, 27, 28, 29, 30, 31, 32, 33, 34]
def law_CatalogLies_0.C (N : Nat) : Ctx := { law_CatalogLies.C N with may := fun t => law_CatalogLies_0.asg.any (Nat.beq t) }
def law_CatalogLies_0.code : Code := loopBody (sub law_CatalogLies.code [true, true, true, true, false, true, false])
theorem law_CatalogLies_0.cok (N : Nat) : (law_CatalogLies_0.C N).Ok Try.prog := ⟨(law_CatalogLies.cok N).U, (law_CatalogLies.cok N).Γ, (law_CatalogLies.cok N).Y⟩
def law_CatalogLies_0.alts : List Alt := [⟨.ret, [6], (.cons (.val .bool) .nil)⟩, ⟨(.exit 0), [], .nil⟩]
def law_CatalogLies_0.go (N : Nat) : Nat → Int → Int → Int → (List ((List UInt8) × (List ((List UInt8) × (Int × Bool))))) → (List ((List UInt8) × (Int × ((List Int) × ((List Int) × (Int × Int)))))) → Int → Option ((Bool × Unit) ⊕ Unit)
  | 0, _, _, _, _, _, _ => none
  | fuel + 1, nodes, segments, k, tables, projs, node =>
    bif decide (node ≤ nodes) then
      obind (catalog_Of.run N (nodes, segments, k, tables, projs) node) fun (l, _) =>
        obind (ref_Of.run N (nodes, segments, k, tables, projs) node) fun (l1, _) =>
          obind (ref_SameSegments.run N l l1) fun (b, _) =>
            bif !b then
              some (.inl (false, ()))
            else law_CatalogLies_0.go N fuel nodes segments k tables projs (IntKind.i64.wrap (node + (1 : Int)))
    else some (.inr ())
def law_CatalogLies_0.g (N n : Nat) (x : Sh.den law_CatalogLies_0.ins) : Option (altsDen law_CatalogLies_0.alts) := law_CatalogLies_0.go N n x.1.1 x.1.2.1 x.1.2.2.1 x.1.2.2.2.1 x.1.2.2.2.2.1 x.2.1
def law_CatalogLies_0.P (N : Nat) : Ps := ⟨law_CatalogLies_0.ts, law_CatalogLies_0.ins, law_CatalogLies_0.asg, law_CatalogLies_0.alts, law_CatalogLies_0.g N N⟩
def law_CatalogLies_0.lam (N : Nat) : Pcs := pcs []
theorem law_CatalogLies_0.pok (N : Nat) : (law_CatalogLies_0.lam N).Ok Try.prog (law_CatalogLies_0.C N) law_CatalogLies_0.code := pcsOk_nil
theorem law_CatalogLies_0.ev (N n : Nat) (x : Sh.den law_CatalogLies_0.ins) : evC (law_CatalogLies_0.C N) law_CatalogLies_0.code (law_CatalogLies_0.lam N) ((law_CatalogLies_0.P N).canon 1000 x) (loopK (law_CatalogLies_0.P N) (law_CatalogLies_0.g N n)) = law_CatalogLies_0.g N (n + 1) x := by kernel_rfl
theorem law_CatalogLies_0.ok (N : Nat) : ((law_CatalogLies_0.P N).pc (law_CatalogLies.C N)).Ok Try.prog (law_CatalogLies.C N) (.loop law_CatalogLies_0.code) := loop_ok (F := law_CatalogLies_0.P N) (n0 := 1000) (N := N) (law_CatalogLies.cok N) mix (law_CatalogLies_0.pok N) (law_CatalogLies_0.g N) (fun x => by rfl) rfl (fun n x y h => (law_CatalogLies_0.ev N n x).trans h)
def law_CatalogLies.outs : Sh := (.cons (.val .bool) .nil)
def law_CatalogLies.run (N : Nat) (c : (Int × (Int × (Int × ((List ((List UInt8) × (List ((List UInt8) × (Int × Bool))))) × (List ((List UInt8) × (Int × ((List Int) × ((List Int) × (Int × Int))))))))))) (at_ : (Int × Int)) (live : (List Bool)) : Option (Bool × Unit) :=
  obind (ref_Check.run N c) fun (n_, _) =>
    bif !(decide (n_ = (0 : Int))) then
      obind (law_alive.run N) fun (b, _) =>
        some (b, ())
    else
      obind (law_segments.run N c) fun (l, b1, _) =>
        bif !b1 then
          some (false, ())
        else
          obind (law_CatalogLies_0.go N N c.1 c.2.1 c.2.2.1 c.2.2.2.1 c.2.2.2.2 (-1 : Int)) fun y => match y with
          | .inl (t6, _) =>
              some (t6, ())
          | .inr (_) =>
              obind (law_alive.run N) fun (b2, _) =>
                bif b2 then
                  obind (ref_Segments.run N c) fun (l1, _) =>
                    obind (ref_SameSegments.run N l l1) fun (b3, _) =>
                      bif b3 then
                        obind (catalog_Nodes.run N c at_) fun (l2, _) =>
                          obind (ref_Nodes.run N c at_) fun (l3, _) =>
                            obind (ref_SameInts.run N l2 l3) fun (b4, _) =>
                              bif b4 then
                                obind (catalog_Covered_b.run N c live) fun (b5, _) =>
                                  obind (ref_Covered.run N c live) fun (b6, _) =>
                                    some (b5 == b6, ())
                              else some (false, ())
                      else some (false, ())
                else some (false, ())
def law_CatalogLies.fn (N : Nat) (x : Sh.den law_CatalogLies.ins) : Option (Sh.den law_CatalogLies.outs) := law_CatalogLies.run N x.1 x.2.1 x.2.2.1
def law_CatalogLies.S (N : Nat) : Fs := ⟨law_CatalogLies.ins, law_CatalogLies.outs, law_CatalogLies.fn N⟩
def law_CatalogLies.lam (N : Nat) : Pcs := pcs [([true, true, true, true, false, true, false], (law_CatalogLies_0.P N).pc (law_CatalogLies.C N))]
theorem law_CatalogLies.pok (N : Nat) : (law_CatalogLies.lam N).Ok Try.prog (law_CatalogLies.C N) law_CatalogLies.code := pcsOk_cons (c1 := .loop law_CatalogLies_0.code) (by kernel_rfl) (law_CatalogLies_0.ok N) (pcsOk_nil)
theorem law_CatalogLies.ev (N : Nat) (x : Sh.den law_CatalogLies.ins) : evC (law_CatalogLies.C N) law_CatalogLies.code (law_CatalogLies.lam N) ⟨envOf 0 (bld (fun k => k) law_CatalogLies.ins x 0).1, (bld (fun k => k) law_CatalogLies.ins x 0).2.1, 1000⟩ (endF U law_CatalogLies.outs Try.f4.results.toList []) = law_CatalogLies.fn N x := by kernel_rfl
theorem law_CatalogLies.ok (N : Nat) : (law_CatalogLies.S N).con.Ok Try.prog 4 := fn_ok (F := law_CatalogLies.S N) (n0 := 1000) Try.func4 (by kernel_rfl) (show Try.f4.body = some law_CatalogLies.code by rfl) mix (law_CatalogLies.cok N) (fun _ => rfl) (fun _ => rfl) (law_CatalogLies.pok N) (fun x y h => (law_CatalogLies.ev N x).trans h)
/-- hayloft/hayloftlaw13.CatalogSafe -/
def law_CatalogSafe.ins : Sh := (.cons (.val (.pair (.int .i64) (.pair (.int .i64) (.pair (.int .i64) (.pair (.slice (.pair .str (.slice (.pair .str (.pair (.int .i64) .bool))))) (.slice (.pair .str (.pair (.int .i64) (.pair (.slice (.int .i64)) (.pair (.slice (.int .i64)) (.pair (.int .i64) (.int .i64)))))))))))) (.cons (.val (.slice (.int .i64))) .nil))
def law_CatalogSafe.C (N : Nat) : Ctx := ⟨U, 106, fun _ => true, gam [(11, (ref_Check.S N).con), (9, (law_alive.S N).con), (12, (law_segments.S N).con), (18, (catalog_Nodes.S N).con), (22, (ref_In.S N).con), (20, (catalog_Covered.S N).con)], gamY []⟩
theorem law_CatalogSafe.cok (N : Nat) : (law_CatalogSafe.C N).Ok Try.prog := ⟨U_ok, GamOk.cons (ref_Check.ok N) (GamOk.cons (law_alive.ok N) (GamOk.cons (law_segments.ok N) (GamOk.cons (catalog_Nodes.ok N) (GamOk.cons (ref_In.ok N) (GamOk.cons (catalog_Covered.ok N) (GamOk.nil)))))), GamYOk.nil⟩
def law_CatalogSafe.code : Code := Try.f5.body.getD .skip
def law_CatalogSafe_0.ins : Sh := (.cons (.rbox 25 (.cons (.val (.int .i64)) (.cons (.val (.int .i64)) (.cons (.val (.int .i64)) (.cons (.val (.slice (.pair .str (.slice (.pair .str (.pair (.int .i64) .bool)))))) (.cons (.val (.slice (.pair .str (.pair (.int .i64) (.pair (.slice (.int .i64)) (.pair (.slice (.int .i64)) (.pair (.int .i64) (.int .i64)))))))) .nil)))))) (.cons (.rown 31 (.pair (.int .i64) (.int .i64))) (.cons (.val (.int .i64)) (.cons (.val (.int .i64)) .nil))))
def law_CatalogSafe_0.ts : List Tmp := [2, 25, 26, 27]
def law_CatalogSafe_0.asg : List Tmp := [4, 8, 9, 10, 27, 28, 29, 30, 31, 32, 33, 34, 35, 36, 37, 38, 39, 40, 41, 42, 43, 44, 45, 46, 47, 48, 49, 50, 51, 52, 53, 54, 55, 56, 57, 58, 59, 60, 61, 62, 63, 64, 65, 66, 67, 68, 69, 70]
def law_CatalogSafe_0.C (N : Nat) : Ctx := { law_CatalogSafe.C N with may := fun t => law_CatalogSafe_0.asg.any (Nat.beq t) }
def law_CatalogSafe_0.code : Code := loopBody (sub law_CatalogSafe.code [true, true, true, true, false, true, false])
theorem law_CatalogSafe_0.cok (N : Nat) : (law_CatalogSafe_0.C N).Ok Try.prog := ⟨(law_CatalogSafe.cok N).U, (law_CatalogSafe.cok N).Γ, (law_CatalogSafe.cok N).Y⟩
def law_CatalogSafe_0_0.ins : Sh := (.cons (.rbox 25 (.cons (.val (.int .i64)) (.cons (.val (.int .i64)) (.cons (.val (.int .i64)) (.cons (.val (.slice (.pair .str (.slice (.pair .str (.pair (.int .i64) .bool)))))) (.cons (.val (.slice (.pair .str (.pair (.int .i64) (.pair (.slice (.int .i64)) (.pair (.slice (.int .i64)) (.pair (.int .i64) (.int .i64)))))))) .nil)))))) (.cons (.val (.slice (.int .i64))) (.cons (.val (.int .i64)) (.cons (.val (.int .i64)) .nil))))
def law_CatalogSafe_0_0.ts : List Tmp := [2, 9, 35, 36]
def law_CatalogSafe_0_0.asg : List Tmp := [4, 10, 36, 37, 38, 39, 40, 41, 42, 43, 44, 45, 46, 47, 48, 49, 50, 51, 52, 53, 54, 55, 56, 57, 58, 59, 60, 61, 62, 63]
def law_CatalogSafe_0_0.C (N : Nat) : Ctx := { law_CatalogSafe_0.C N with may := fun t => law_CatalogSafe_0_0.asg.any (Nat.beq t) }
def law_CatalogSafe_0_0.code : Code := loopBody (sub law_CatalogSafe_0.code [true, true, false, false, true, true, false, true, false])
theorem law_CatalogSafe_0_0.cok (N : Nat) : (law_CatalogSafe_0_0.C N).Ok Try.prog := ⟨(law_CatalogSafe_0.cok N).U, (law_CatalogSafe_0.cok N).Γ, (law_CatalogSafe_0.cok N).Y⟩
def law_CatalogSafe_0_0.alts : List Alt := [⟨.ret, [4], (.cons (.val .bool) .nil)⟩, ⟨(.exit 2), [], .nil⟩]
def law_CatalogSafe_0_0.go (N : Nat) : Nat → Int → Int → Int → (List ((List UInt8) × (List ((List UInt8) × (Int × Bool))))) → (List ((List UInt8) × (Int × ((List Int) × ((List Int) × (Int × Int)))))) → (List Int) → Int → Int → Option ((Bool × Unit) ⊕ Unit)
  | 0, _, _, _, _, _, _, _, _ => none
  | fuel + 1, nodes, segments, k, tables, projs, l, t35, t36 =>
    bif decide (t36 < t35) then
      bif inB t36 l.length then
        bif decide ((l.getD t36.toNat (0 : Int)) < (0 : Int)) then
          some (.inl (false, ()))
        else
          bif inB t36 l.length then
            bif decide ((l.getD t36.toNat (0 : Int)) ≥ nodes) then
              some (.inl (false, ()))
            else
              bif okB (0 : Int) t36 l.length then
                bif inB t36 l.length then
                  obind (ref_In.run N (l.take t36.toNat) (l.getD t36.toNat (0 : Int))) fun (b, _) =>
                    bif b then
                      some (.inl (false, ()))
                    else law_CatalogSafe_0_0.go N fuel nodes segments k tables projs l t35 (IntKind.i64.wrap (t36 + (1 : Int)))
                else none
              else none
          else none
      else none
    else some (.inr ())
def law_CatalogSafe_0_0.g (N n : Nat) (x : Sh.den law_CatalogSafe_0_0.ins) : Option (altsDen law_CatalogSafe_0_0.alts) := law_CatalogSafe_0_0.go N n x.1.1 x.1.2.1 x.1.2.2.1 x.1.2.2.2.1 x.1.2.2.2.2.1 x.2.1 x.2.2.1 x.2.2.2.1
def law_CatalogSafe_0_0.P (N : Nat) : Ps := ⟨law_CatalogSafe_0_0.ts, law_CatalogSafe_0_0.ins, law_CatalogSafe_0_0.asg, law_CatalogSafe_0_0.alts, law_CatalogSafe_0_0.g N N⟩
def law_CatalogSafe_0_0.lam (N : Nat) : Pcs := pcs []
theorem law_CatalogSafe_0_0.pok (N : Nat) : (law_CatalogSafe_0_0.lam N).Ok Try.prog (law_CatalogSafe_0_0.C N) law_CatalogSafe_0_0.code := pcsOk_nil
theorem law_CatalogSafe_0_0.ev (N n : Nat) (x : Sh.den law_CatalogSafe_0_0.ins) : evC (law_CatalogSafe_0_0.C N) law_CatalogSafe_0_0.code (law_CatalogSafe_0_0.lam N) ((law_CatalogSafe_0_0.P N).canon 1000 x) (loopK (law_CatalogSafe_0_0.P N) (law_CatalogSafe_0_0.g N n)) = law_CatalogSafe_0_0.g N (n + 1) x := by kernel_rfl
theorem law_CatalogSafe_0_0.ok (N : Nat) : ((law_CatalogSafe_0_0.P N).pc (law_CatalogSafe_0.C N)).Ok Try.prog (law_CatalogSafe_0.C N) (.loop law_CatalogSafe_0_0.code) := loop_ok (F := law_CatalogSafe_0_0.P N) (n0 := 1000) (N := N) (law_CatalogSafe_0.cok N) mix (law_CatalogSafe_0_0.pok N) (law_CatalogSafe_0_0.g N) (fun x => by rfl) rfl (fun n x y h => (law_CatalogSafe_0_0.ev N n x).trans h)
def law_CatalogSafe_0.alts : List Alt := [⟨.ret, [4], (.cons (.val .bool) .nil)⟩, ⟨(.exit 0), [], .nil⟩]
def law_CatalogSafe_0.go (N : Nat) : Nat → Int → Int → Int → (List ((List UInt8) × (List ((List UInt8) × (Int × Bool))))) → (List ((List UInt8) × (Int × ((List Int) × ((List Int) × (Int × Int)))))) → (List (Int × Int)) → Int → Int → Option ((Bool × Unit) ⊕ Unit)
  | 0, _, _, _, _, _, _, _, _ => none
  | fuel + 1, nodes, segments, k, tables, projs, t25, t26, t27 =>
    bif decide (t27 < t26) then
      bif inB t27 t25.length then
        bif decide (t27.toNat < t25.length) then
          obind (catalog_Nodes.run N (nodes, segments, k, tables, projs) (t25.getD t27.toNat ((0 : Int), (0 : Int)))) fun (l, _) =>
            obind (law_CatalogSafe_0_0.go N N nodes segments k tables projs l (l.length : Int) (0 : Int)) fun y => match y with
            | .inl (t4, _) =>
                some (.inl (t4, ()))
            | .inr (_) =>
                bif !(decide ((l.length : Int) = (IntKind.i64.wrap (k + (1 : Int))))) then
                  some (.inl (false, ()))
                else law_CatalogSafe_0.go N fuel nodes segments k tables projs t25 t26 (IntKind.i64.wrap (t27 + (1 : Int)))
        else none
      else none
    else some (.inr ())
def law_CatalogSafe_0.g (N n : Nat) (x : Sh.den law_CatalogSafe_0.ins) : Option (altsDen law_CatalogSafe_0.alts) := law_CatalogSafe_0.go N n x.1.1 x.1.2.1 x.1.2.2.1 x.1.2.2.2.1 x.1.2.2.2.2.1 x.2.1 x.2.2.1 x.2.2.2.1
def law_CatalogSafe_0.P (N : Nat) : Ps := ⟨law_CatalogSafe_0.ts, law_CatalogSafe_0.ins, law_CatalogSafe_0.asg, law_CatalogSafe_0.alts, law_CatalogSafe_0.g N N⟩
def law_CatalogSafe_0.lam (N : Nat) : Pcs := pcs [([true, true, false, false, true, true, false, true, false], (law_CatalogSafe_0_0.P N).pc (law_CatalogSafe_0.C N))]
theorem law_CatalogSafe_0.pok (N : Nat) : (law_CatalogSafe_0.lam N).Ok Try.prog (law_CatalogSafe_0.C N) law_CatalogSafe_0.code := pcsOk_cons (c1 := .loop law_CatalogSafe_0_0.code) (by kernel_rfl) (law_CatalogSafe_0_0.ok N) (pcsOk_nil)
theorem law_CatalogSafe_0.ev (N n : Nat) (x : Sh.den law_CatalogSafe_0.ins) : evC (law_CatalogSafe_0.C N) law_CatalogSafe_0.code (law_CatalogSafe_0.lam N) ((law_CatalogSafe_0.P N).canon 1000 x) (loopK (law_CatalogSafe_0.P N) (law_CatalogSafe_0.g N n)) = law_CatalogSafe_0.g N (n + 1) x := by kernel_rfl
theorem law_CatalogSafe_0.ok (N : Nat) : ((law_CatalogSafe_0.P N).pc (law_CatalogSafe.C N)).Ok Try.prog (law_CatalogSafe.C N) (.loop law_CatalogSafe_0.code) := loop_ok (F := law_CatalogSafe_0.P N) (n0 := 1000) (N := N) (law_CatalogSafe.cok N) mix (law_CatalogSafe_0.pok N) (law_CatalogSafe_0.g N) (fun x => by rfl) rfl (fun n x y h => (law_CatalogSafe_0.ev N n x).trans h)
def law_CatalogSafe_1.ins : Sh := (.cons (.val (.slice (.int .i64))) (.cons (.own 4 .bool) (.cons (.val (.int .i64)) (.cons (.val (.int .i64)) (.cons (.val (.int .i64)) .nil)))))
def law_CatalogSafe_1.ts : List Tmp := [1, 11, 12, 75, 76]
def law_CatalogSafe_1.asg : List Tmp := [12, 13, 76, 77, 78, 79, 80, 81, 82, 83, 84, 85, 86, 87, 88, 89, 90, 91, 92, 93]
def law_CatalogSafe_1.C (N : Nat) : Ctx := { law_CatalogSafe.C N with may := fun t => law_CatalogSafe_1.asg.any (Nat.beq t) }
def law_CatalogSafe_1.code : Code := loopBody (sub law_CatalogSafe.code [true, true, true, true, true, true, true, false, true, false])
theorem law_CatalogSafe_1.cok (N : Nat) : (law_CatalogSafe_1.C N).Ok Try.prog := ⟨(law_CatalogSafe.cok N).U, (law_CatalogSafe.cok N).Γ, (law_CatalogSafe.cok N).Y⟩
def law_CatalogSafe_1.alts : List Alt := [⟨(.exit 4), [12], (.cons (.updr 0 4 .bool) (.cons (.val (.int .i64)) .nil))⟩]
def law_CatalogSafe_1.go (N : Nat) : Nat → (List Int) → (List Bool) → Int → Int → Int → Option (((List Bool) × Int × Unit))
  | 0, _, _, _, _, _ => none
  | fuel + 1, gone, live, away, t75, t76 =>
    bif decide (t76 < t75) then
      obind (ref_In.run N gone t76) fun (b, _) =>
        bif inB t76 live.length then
          bif decide (t76.toNat < live.length) then
            bif inB t76 (live.set t76.toNat (!b)).length then
              bif decide (t76.toNat < (live.set t76.toNat (!b)).length) then
                bif !((live.set t76.toNat (!b)).getD t76.toNat false) then
                  law_CatalogSafe_1.go N fuel gone (live.set t76.toNat (!b)) (IntKind.i64.wrap (away + (1 : Int))) t75 (IntKind.i64.wrap (t76 + (1 : Int)))
                else law_CatalogSafe_1.go N fuel gone (live.set t76.toNat (!b)) away t75 (IntKind.i64.wrap (t76 + (1 : Int)))
              else none
            else none
          else none
        else none
    else some (live, away, ())
def law_CatalogSafe_1.g (N n : Nat) (x : Sh.den law_CatalogSafe_1.ins) : Option (altsDen law_CatalogSafe_1.alts) := law_CatalogSafe_1.go N n x.1 x.2.1 x.2.2.1 x.2.2.2.1 x.2.2.2.2.1
def law_CatalogSafe_1.P (N : Nat) : Ps := ⟨law_CatalogSafe_1.ts, law_CatalogSafe_1.ins, law_CatalogSafe_1.asg, law_CatalogSafe_1.alts, law_CatalogSafe_1.g N N⟩
def law_CatalogSafe_1.lam (N : Nat) : Pcs := pcs []
theorem law_CatalogSafe_1.pok (N : Nat) : (law_CatalogSafe_1.lam N).Ok Try.prog (law_CatalogSafe_1.C N) law_CatalogSafe_1.code := pcsOk_nil
theorem law_CatalogSafe_1.ev (N n : Nat) (x : Sh.den law_CatalogSafe_1.ins) : evC (law_CatalogSafe_1.C N) law_CatalogSafe_1.code (law_CatalogSafe_1.lam N) ((law_CatalogSafe_1.P N).canon 1000 x) (loopK (law_CatalogSafe_1.P N) (law_CatalogSafe_1.g N n)) = law_CatalogSafe_1.g N (n + 1) x := by kernel_rfl
theorem law_CatalogSafe_1.ok (N : Nat) : ((law_CatalogSafe_1.P N).pc (law_CatalogSafe.C N)).Ok Try.prog (law_CatalogSafe.C N) (.loop law_CatalogSafe_1.code) := loop_ok (F := law_CatalogSafe_1.P N) (n0 := 1000) (N := N) (law_CatalogSafe.cok N) mix (law_CatalogSafe_1.pok N) (law_CatalogSafe_1.g N) (fun x => by rfl) rfl (fun n x y h => (law_CatalogSafe_1.ev N n x).trans h)
def law_CatalogSafe.outs : Sh := (.cons (.val .bool) .nil)
def law_CatalogSafe.run (N : Nat) (c : (Int × (Int × (Int × ((List ((List UInt8) × (List ((List UInt8) × (Int × Bool))))) × (List ((List UInt8) × (Int × ((List Int) × ((List Int) × (Int × Int))))))))))) (gone : (List Int)) : Option (Bool × Unit) :=
  obind (ref_Check.run N c) fun (n_, _) =>
    bif !(decide (n_ = (0 : Int))) then
      obind (law_alive.run N) fun (b, _) =>
        some (b, ())
    else
      obind (law_segments.run N c) fun (l, b1, _) =>
        bif !b1 then
          some (false, ())
        else
          obind (law_CatalogSafe_0.go N N c.1 c.2.1 c.2.2.1 c.2.2.2.1 c.2.2.2.2 l (l.length : Int) (0 : Int)) fun y => match y with
          | .inl (t4, _) =>
              some (t4, ())
          | .inr (_) =>
              bif ((decide ((0 : Int) ≤ c.1)) && (decide (c.1 ≤ c.1))) && (room c.1.toNat 1) then
                obind (law_CatalogSafe_1.go N N gone (List.replicate c.1.toNat false) (0 : Int) ((List.replicate c.1.toNat false).length : Int) (0 : Int)) fun (v, away, _) =>
                  obind (law_alive.run N) fun (b2, _) =>
                    bif b2 then
                      bif decide (away > c.2.2.1) then
                        some (true, ())
                      else
                        obind (catalog_Covered.run N c v) fun (b3, _) =>
                          some (b3, ())
                    else some (false, ())
              else none
def law_CatalogSafe.fn (N : Nat) (x : Sh.den law_CatalogSafe.ins) : Option (Sh.den law_CatalogSafe.outs) := law_CatalogSafe.run N x.1 x.2.1
def law_CatalogSafe.S (N : Nat) : Fs := ⟨law_CatalogSafe.ins, law_CatalogSafe.outs, law_CatalogSafe.fn N⟩
def law_CatalogSafe.lam (N : Nat) : Pcs := pcs [([true, true, true, true, false, true, false], (law_CatalogSafe_0.P N).pc (law_CatalogSafe.C N)), ([true, true, true, true, true, true, true, false, true, false], (law_CatalogSafe_1.P N).pc (law_CatalogSafe.C N))]
theorem law_CatalogSafe.pok (N : Nat) : (law_CatalogSafe.lam N).Ok Try.prog (law_CatalogSafe.C N) law_CatalogSafe.code := pcsOk_cons (c1 := .loop law_CatalogSafe_0.code) (by kernel_rfl) (law_CatalogSafe_0.ok N) (pcsOk_cons (c1 := .loop law_CatalogSafe_1.code) (by kernel_rfl) (law_CatalogSafe_1.ok N) (pcsOk_nil))
theorem law_CatalogSafe.ev (N : Nat) (x : Sh.den law_CatalogSafe.ins) : evC (law_CatalogSafe.C N) law_CatalogSafe.code (law_CatalogSafe.lam N) ⟨envOf 0 (bld (fun k => k) law_CatalogSafe.ins x 0).1, (bld (fun k => k) law_CatalogSafe.ins x 0).2.1, 1000⟩ (endF U law_CatalogSafe.outs Try.f5.results.toList []) = law_CatalogSafe.fn N x := by kernel_rfl
theorem law_CatalogSafe.ok (N : Nat) : (law_CatalogSafe.S N).con.Ok Try.prog 5 := fn_ok (F := law_CatalogSafe.S N) (n0 := 1000) Try.func5 (by kernel_rfl) (show Try.f5.body = some law_CatalogSafe.code by rfl) mix (law_CatalogSafe.cok N) (fun _ => rfl) (fun _ => rfl) (law_CatalogSafe.pok N) (fun x y h => (law_CatalogSafe.ev N x).trans h)
/-- hayloft/hayloftlaw13.CatalogHomes -/
def law_CatalogHomes.ins : Sh := (.cons (.val (.pair (.int .i64) (.pair (.int .i64) (.pair (.int .i64) (.pair (.slice (.pair .str (.slice (.pair .str (.pair (.int .i64) .bool))))) (.slice (.pair .str (.pair (.int .i64) (.pair (.slice (.int .i64)) (.pair (.slice (.int .i64)) (.pair (.int .i64) (.int .i64)))))))))))) .nil)
def law_CatalogHomes.C (N : Nat) : Ctx := ⟨U, 84, fun _ => true, gam [(11, (ref_Check.S N).con), (9, (law_alive.S N).con), (12, (law_segments.S N).con), (14, (catalog_Of.S N).con), (18, (catalog_Nodes.S N).con), (22, (ref_In_b.S N).con)], gamY []⟩
theorem law_CatalogHomes.cok (N : Nat) : (law_CatalogHomes.C N).Ok Try.prog := ⟨U_ok, GamOk.cons (ref_Check.ok N) (GamOk.cons (law_alive.ok N) (GamOk.cons (law_segments.ok N) (GamOk.cons (catalog_Of.ok N) (GamOk.cons (catalog_Nodes.ok N) (GamOk.cons (ref_In_b.ok N) (GamOk.nil)))))), GamYOk.nil⟩
def law_CatalogHomes.code : Code := Try.f6.body.getD .skip
def law_CatalogHomes_0.ins : Sh := (.cons (.rbox 25 (.cons (.val (.int .i64)) (.cons (.val (.int .i64)) (.cons (.val (.int .i64)) (.cons (.val (.slice (.pair .str (.slice (.pair .str (.pair (.int .i64) .bool)))))) (.cons (.val (.slice (.pair .str (.pair (.int .i64) (.pair (.slice (.int .i64)) (.pair (.slice (.int .i64)) (.pair (.int .i64) (.int .i64)))))))) .nil)))))) (.cons (.val (.int .i64)) (.cons (.rown 31 (.pair (.int .i64) (.int .i64))) (.cons (.val (.int .i64)) (.cons (.val (.int .i64)) .nil)))))
def law_CatalogHomes_0.ts : List Tmp := [1, 3, 4, 23, 24]
def law_CatalogHomes_0.asg : List Tmp := [2, 3, 6, 7, 8, 10, 24, 25, 26, 27, 28, 29, 30, 31, 32, 33, 34, 35, 36, 37, 38, 39, 40, 41, 42, 43, 44, 45, 46, 47, 48, 49, 50, 51, 52, 53, 54, 55, 56, 57, 58, 59, 60, 61, 62, 63, 64, 65, 66, 67, 68]
def law_CatalogHomes_0.C (N : Nat) : Ctx := { law_CatalogHomes.C N with may := fun t => law_CatalogHomes_0.asg.any (Nat.beq t) }
def law_CatalogHomes_0.code : Code := loopBody (sub law_CatalogHomes.code [true, true, true, true, true, false, true, false])
theorem law_CatalogHomes_0.cok (N : Nat) : (law_CatalogHomes_0.C N).Ok Try.prog := ⟨(law_CatalogHomes.cok N).U, (law_CatalogHomes.cok N).Γ, (law_CatalogHomes.cok N).Y⟩
def law_CatalogHomes_0_0.ins : Sh := (.cons (.rbox 25 (.cons (.val (.int .i64)) (.cons (.val (.int .i64)) (.cons (.val (.int .i64)) (.cons (.val (.slice (.pair .str (.slice (.pair .str (.pair (.int .i64) .bool)))))) (.cons (.val (.slice (.pair .str (.pair (.int .i64) (.pair (.slice (.int .i64)) (.pair (.slice (.int .i64)) (.pair (.int .i64) (.int .i64)))))))) .nil)))))) (.cons (.val (.int .i64)) (.cons (.rown 31 (.pair (.int .i64) (.int .i64))) (.cons (.val (.int .i64)) (.cons (.rown 31 (.pair (.int .i64) (.int .i64))) (.cons (.val (.int .i64)) (.cons (.val (.int .i64)) .nil)))))))
def law_CatalogHomes_0_0.ts : List Tmp := [1, 6, 7, 8, 34, 35, 36]
def law_CatalogHomes_0_0.asg : List Tmp := [2, 8, 10, 36, 37, 38, 39, 40, 41, 42, 43, 44, 45, 46, 47, 48, 49, 50, 51, 52, 53, 54, 55, 56, 57, 58, 59]
def law_CatalogHomes_0_0.C (N : Nat) : Ctx := { law_CatalogHomes_0.C N with may := fun t => law_CatalogHomes_0_0.asg.any (Nat.beq t) }
def law_CatalogHomes_0_0.code : Code := loopBody (sub law_CatalogHomes_0.code [true, true, false, false, true, true, true, true, false, true, false])
theorem law_CatalogHomes_0_0.cok (N : Nat) : (law_CatalogHomes_0_0.C N).Ok Try.prog := ⟨(law_CatalogHomes_0.cok N).U, (law_CatalogHomes_0.cok N).Γ, (law_CatalogHomes_0.cok N).Y⟩
def law_CatalogHomes_0_0.alts : List Alt := [⟨.ret, [2], (.cons (.val .bool) .nil)⟩, ⟨(.exit 2), [8], (.cons (.val (.int .i64)) .nil)⟩]
def law_CatalogHomes_0_0.go (N : Nat) : Nat → Int → Int → Int → (List ((List UInt8) × (List ((List UInt8) × (Int × Bool))))) → (List ((List UInt8) × (Int × ((List Int) × ((List Int) × (Int × Int)))))) → Int → (List (Int × Int)) → Int → (List (Int × Int)) → Int → Int → Option ((Bool × Unit) ⊕ (Int × Unit))
  | 0, _, _, _, _, _, _, _, _, _, _, _ => none
  | fuel + 1, nodes, segments, k, tables, projs, node, mine, n_, t34, t35, t36 =>
    bif decide (t36 < t35) then
      bif inB t36 t34.length then
        bif decide (t36.toNat < t34.length) then
          obind (catalog_Nodes.run N (nodes, segments, k, tables, projs) (t34.getD t36.toNat ((0 : Int), (0 : Int)))) fun (l, _) =>
            obind (ref_In_b.run N l node) fun (b, _) =>
              bif b then
                bif decide (n_ ≥ (mine.length : Int)) then
                  some (.inl (false, ()))
                else
                  bif inB n_ mine.length then
                    bif decide (n_.toNat < mine.length) then
                      bif !((decide ((mine.getD n_.toNat ((0 : Int), (0 : Int))).1 = (t34.getD t36.toNat ((0 : Int), (0 : Int))).1)) && ((decide ((mine.getD n_.toNat ((0 : Int), (0 : Int))).2 = (t34.getD t36.toNat ((0 : Int), (0 : Int))).2)) && true)) then
                        some (.inl (false, ()))
                      else law_CatalogHomes_0_0.go N fuel nodes segments k tables projs node mine (IntKind.i64.wrap (n_ + (1 : Int))) t34 t35 (IntKind.i64.wrap (t36 + (1 : Int)))
                    else none
                  else none
              else law_CatalogHomes_0_0.go N fuel nodes segments k tables projs node mine n_ t34 t35 (IntKind.i64.wrap (t36 + (1 : Int)))
        else none
      else none
    else some (.inr (n_, ()))
def law_CatalogHomes_0_0.g (N n : Nat) (x : Sh.den law_CatalogHomes_0_0.ins) : Option (altsDen law_CatalogHomes_0_0.alts) := law_CatalogHomes_0_0.go N n x.1.1 x.1.2.1 x.1.2.2.1 x.1.2.2.2.1 x.1.2.2.2.2.1 x.2.1 x.2.2.1 x.2.2.2.1 x.2.2.2.2.1 x.2.2.2.2.2.1 x.2.2.2.2.2.2.1
def law_CatalogHomes_0_0.P (N : Nat) : Ps := ⟨law_CatalogHomes_0_0.ts, law_CatalogHomes_0_0.ins, law_CatalogHomes_0_0.asg, law_CatalogHomes_0_0.alts, law_CatalogHomes_0_0.g N N⟩
def law_CatalogHomes_0_0.lam (N : Nat) : Pcs := pcs []
theorem law_CatalogHomes_0_0.pok (N : Nat) : (law_CatalogHomes_0_0.lam N).Ok Try.prog (law_CatalogHomes_0_0.C N) law_CatalogHomes_0_0.code := pcsOk_nil
theorem law_CatalogHomes_0_0.ev (N n : Nat) (x : Sh.den law_CatalogHomes_0_0.ins) : evC (law_CatalogHomes_0_0.C N) law_CatalogHomes_0_0.code (law_CatalogHomes_0_0.lam N) ((law_CatalogHomes_0_0.P N).canon 1000 x) (loopK (law_CatalogHomes_0_0.P N) (law_CatalogHomes_0_0.g N n)) = law_CatalogHomes_0_0.g N (n + 1) x := by kernel_rfl
theorem law_CatalogHomes_0_0.ok (N : Nat) : ((law_CatalogHomes_0_0.P N).pc (law_CatalogHomes_0.C N)).Ok Try.prog (law_CatalogHomes_0.C N) (.loop law_CatalogHomes_0_0.code) := loop_ok (F := law_CatalogHomes_0_0.P N) (n0 := 1000) (N := N) (law_CatalogHomes_0.cok N) mix (law_CatalogHomes_0_0.pok N) (law_CatalogHomes_0_0.g N) (fun x => by rfl) rfl (fun n x y h => (law_CatalogHomes_0_0.ev N n x).trans h)
def law_CatalogHomes_0.alts : List Alt := [⟨.ret, [2], (.cons (.val .bool) .nil)⟩, ⟨(.exit 0), [3], (.cons (.val (.int .i64)) .nil)⟩]
def law_CatalogHomes_0.go (N : Nat) : Nat → Int → Int → Int → (List ((List UInt8) × (List ((List UInt8) × (Int × Bool))))) → (List ((List UInt8) × (Int × ((List Int) × ((List Int) × (Int × Int)))))) → Int → (List (Int × Int)) → Int → Int → Option ((Bool × Unit) ⊕ (Int × Unit))
  | 0, _, _, _, _, _, _, _, _, _ => none
  | fuel + 1, nodes, segments, k, tables, projs, copies, all, t23, t24 =>
    bif decide (t24 < t23) then
      obind (catalog_Of.run N (nodes, segments, k, tables, projs) t24) fun (l, _) =>
        obind (law_CatalogHomes_0_0.go N N nodes segments k tables projs t24 l (0 : Int) all (all.length : Int) (0 : Int)) fun y => match y with
        | .inl (t2, _) =>
            some (.inl (t2, ()))
        | .inr (n_, _) =>
            bif !(decide (n_ = (l.length : Int))) then
              some (.inl (false, ()))
            else
              bif decide (n_ = (0 : Int)) then
                some (.inl (false, ()))
              else law_CatalogHomes_0.go N fuel nodes segments k tables projs (IntKind.i64.wrap (copies + (l.length : Int))) all t23 (IntKind.i64.wrap (t24 + (1 : Int)))
    else some (.inr (copies, ()))
def law_CatalogHomes_0.g (N n : Nat) (x : Sh.den law_CatalogHomes_0.ins) : Option (altsDen law_CatalogHomes_0.alts) := law_CatalogHomes_0.go N n x.1.1 x.1.2.1 x.1.2.2.1 x.1.2.2.2.1 x.1.2.2.2.2.1 x.2.1 x.2.2.1 x.2.2.2.1 x.2.2.2.2.1
def law_CatalogHomes_0.P (N : Nat) : Ps := ⟨law_CatalogHomes_0.ts, law_CatalogHomes_0.ins, law_CatalogHomes_0.asg, law_CatalogHomes_0.alts, law_CatalogHomes_0.g N N⟩
def law_CatalogHomes_0.lam (N : Nat) : Pcs := pcs [([true, true, false, false, true, true, true, true, false, true, false], (law_CatalogHomes_0_0.P N).pc (law_CatalogHomes_0.C N))]
theorem law_CatalogHomes_0.pok (N : Nat) : (law_CatalogHomes_0.lam N).Ok Try.prog (law_CatalogHomes_0.C N) law_CatalogHomes_0.code := pcsOk_cons (c1 := .loop law_CatalogHomes_0_0.code) (by kernel_rfl) (law_CatalogHomes_0_0.ok N) (pcsOk_nil)
theorem law_CatalogHomes_0.ev (N n : Nat) (x : Sh.den law_CatalogHomes_0.ins) : evC (law_CatalogHomes_0.C N) law_CatalogHomes_0.code (law_CatalogHomes_0.lam N) ((law_CatalogHomes_0.P N).canon 1000 x) (loopK (law_CatalogHomes_0.P N) (law_CatalogHomes_0.g N n)) = law_CatalogHomes_0.g N (n + 1) x := by kernel_rfl
theorem law_CatalogHomes_0.ok (N : Nat) : ((law_CatalogHomes_0.P N).pc (law_CatalogHomes.C N)).Ok Try.prog (law_CatalogHomes.C N) (.loop law_CatalogHomes_0.code) := loop_ok (F := law_CatalogHomes_0.P N) (n0 := 1000) (N := N) (law_CatalogHomes.cok N) mix (law_CatalogHomes_0.pok N) (law_CatalogHomes_0.g N) (fun x => by rfl) rfl (fun n x y h => (law_CatalogHomes_0.ev N n x).trans h)
def law_CatalogHomes.outs : Sh := (.cons (.val .bool) .nil)
def law_CatalogHomes.run (N : Nat) (c : (Int × (Int × (Int × ((List ((List UInt8) × (List ((List UInt8) × (Int × Bool))))) × (List ((List UInt8) × (Int × ((List Int) × ((List Int) × (Int × Int))))))))))) : Option (Bool × Unit) :=
  obind (ref_Check.run N c) fun (n_, _) =>
    bif !(decide (n_ = (0 : Int))) then
      obind (law_alive.run N) fun (b, _) =>
        some (b, ())
    else
      obind (law_segments.run N c) fun (l, b1, _) =>
        bif !b1 then
          some (false, ())
        else
          obind (law_CatalogHomes_0.go N N c.1 c.2.1 c.2.2.1 c.2.2.2.1 c.2.2.2.2 (0 : Int) l c.1 (0 : Int)) fun y => match y with
          | .inl (t2, _) =>
              some (t2, ())
          | .inr (copies, _) =>
              obind (law_alive.run N) fun (b2, _) =>
                bif b2 then
                  some (decide (copies = (IntKind.i64.wrap ((IntKind.i64.wrap ((c.2.2.2.2.length : Int) * c.2.1)) * (IntKind.i64.wrap (c.2.2.1 + (1 : Int)))))), ())
                else some (false, ())
def law_CatalogHomes.fn (N : Nat) (x : Sh.den law_CatalogHomes.ins) : Option (Sh.den law_CatalogHomes.outs) := law_CatalogHomes.run N x.1
def law_CatalogHomes.S (N : Nat) : Fs := ⟨law_CatalogHomes.ins, law_CatalogHomes.outs, law_CatalogHomes.fn N⟩
def law_CatalogHomes.lam (N : Nat) : Pcs := pcs [([true, true, true, true, true, false, true, false], (law_CatalogHomes_0.P N).pc (law_CatalogHomes.C N))]
theorem law_CatalogHomes.pok (N : Nat) : (law_CatalogHomes.lam N).Ok Try.prog (law_CatalogHomes.C N) law_CatalogHomes.code := pcsOk_cons (c1 := .loop law_CatalogHomes_0.code) (by kernel_rfl) (law_CatalogHomes_0.ok N) (pcsOk_nil)
theorem law_CatalogHomes.ev (N : Nat) (x : Sh.den law_CatalogHomes.ins) : evC (law_CatalogHomes.C N) law_CatalogHomes.code (law_CatalogHomes.lam N) ⟨envOf 0 (bld (fun k => k) law_CatalogHomes.ins x 0).1, (bld (fun k => k) law_CatalogHomes.ins x 0).2.1, 1000⟩ (endF U law_CatalogHomes.outs Try.f6.results.toList []) = law_CatalogHomes.fn N x := by kernel_rfl
theorem law_CatalogHomes.ok (N : Nat) : (law_CatalogHomes.S N).con.Ok Try.prog 6 := fn_ok (F := law_CatalogHomes.S N) (n0 := 1000) Try.func6 (by kernel_rfl) (show Try.f6.body = some law_CatalogHomes.code by rfl) mix (law_CatalogHomes.cok N) (fun _ => rfl) (fun _ => rfl) (law_CatalogHomes.pok N) (fun x y h => (law_CatalogHomes.ev N x).trans h)
end
end Go.Hay.Ytnaaaldeadjohaa
