/- Functions of the program as functions of Lean, and that they are what the program computes. Conditions: none. -/
import Derived.Test.YtnaaaldeadjohaaU
set_option linter.unusedVariables false
namespace Go.Hay.Ytnaaaldeadjohaa
open Go Go.Hay Go.Proofs
noncomputable section
set_option maxRecDepth 100000
def site0 : Site := siteOf [2, 3, 5] 20 (sub (Try.f14.body.getD .skip) [true, true, false, true, false])
def site1 : Site := siteOf [2, 3, 4] 15 (sub (Try.f20.body.getD .skip) [true, false, true, false])
def site2 : Site := siteOf [5] 22 (sub (Try.f12.body.getD .skip) [true, true, true, true, false, true, false])
def site3 : Site := siteOf [2, 3, 4] 15 (sub (Try.f20.body.getD .skip) [true, false, true, false])
def sites : List Site := [site0, site1, site2, site3]
instance : Sites := ⟨fun k us => loopObj (sites.getD k ⟨#[], .skip, .skip, [], 0⟩) us, fun _ _ _ => loopObj_ne _ _ _⟩
/-- hayloft/catalog.Nodes -/
def catalog_Nodes.ins : Sh := (.cons (.val (.pair (.int .i64) (.pair (.int .i64) (.pair (.int .i64) (.pair (.slice (.pair .str (.slice (.pair .str (.pair (.int .i64) .bool))))) (.slice (.pair .str (.pair (.int .i64) (.pair (.slice (.int .i64)) (.pair (.slice (.int .i64)) (.pair (.int .i64) (.int .i64)))))))))))) (.cons (.val (.pair (.int .i64) (.int .i64))) .nil))
def catalog_Nodes.C (N : Nat) : Ctx := ⟨U, 61, fun _ => true, gam [], gamY []⟩
theorem catalog_Nodes.cok (N : Nat) : (catalog_Nodes.C N).Ok Try.prog := ⟨U_ok, GamOk.nil, GamYOk.nil⟩
def catalog_Nodes.code : Code := Try.f18.body.getD .skip
def catalog_Nodes_0.ins : Sh := (.cons (.rbox 25 (.cons (.val (.int .i64)) (.cons (.val (.int .i64)) (.cons (.val (.int .i64)) (.cons (.val (.slice (.pair .str (.slice (.pair .str (.pair (.int .i64) .bool)))))) (.cons (.val (.slice (.pair .str (.pair (.int .i64) (.pair (.slice (.int .i64)) (.pair (.slice (.int .i64)) (.pair (.int .i64) (.int .i64)))))))) .nil)))))) (.cons (.rbox 31 (.cons (.val (.int .i64)) (.cons (.val (.int .i64)) .nil))) (.cons (.own 3 (.int .i64)) (.cons (.val (.int .i64)) (.cons (.val (.int .i64)) .nil)))))
def catalog_Nodes_0.ts : List Tmp := [2, 3, 5, 37, 38]
def catalog_Nodes_0.asg : List Tmp := [5, 6, 38, 39, 40, 41, 42, 43, 44, 45, 46, 47, 48, 49, 50, 51, 52, 53, 54, 55, 56, 57, 58, 59]
def catalog_Nodes_0.C (N : Nat) : Ctx := { catalog_Nodes.C N with may := fun t => catalog_Nodes_0.asg.any (Nat.beq t) }
def catalog_Nodes_0.code : Code := loopBody (sub catalog_Nodes.code [true, true, true, false, true, false])
theorem catalog_Nodes_0.cok (N : Nat) : (catalog_Nodes_0.C N).Ok Try.prog := ⟨(catalog_Nodes.cok N).U, (catalog_Nodes.cok N).Γ, (catalog_Nodes.cok N).Y⟩
def catalog_Nodes_0.alts : List Alt := [⟨(.exit 0), [5], (.cons (.own 3 (.int .i64)) .nil)⟩]
def catalog_Nodes_0.go (N : Nat) : Nat → Int → Int → Int → (List ((List UInt8) × (List ((List UInt8) × (Int × Bool))))) → (List ((List UInt8) × (Int × ((List Int) × ((List Int) × (Int × Int)))))) → Int → Int → (List Int) → Int → Int → Option (((List Int) × Unit))
  | 0, _, _, _, _, _, _, _, _, _, _ => none
  | fuel + 1, nodes, segments, k, tables, projs, proj, seg, l, t37, t38 =>
    bif decide (t38 < t37) then
      bif inB proj projs.length then
        bif !(decide (nodes = (0 : Int))) then
          bif room (l.length + 1) 8 then
            catalog_Nodes_0.go N fuel nodes segments k tables projs proj seg (l ++ ([(IntKind.i64.wrap ((IntKind.i64.wrap (seg + (projs.getD proj.toNat (([] : List UInt8), (0 : Int), ([] : List Int), ([] : List Int), (0 : Int), (0 : Int))).2.2.2.2.2)) + t38)).tmod nodes] : List Int)) t37 (IntKind.i64.wrap (t38 + (1 : Int)))
          else none
        else none
      else none
    else some (l, ())
def catalog_Nodes_0.g (N n : Nat) (x : Sh.den catalog_Nodes_0.ins) : Option (altsDen catalog_Nodes_0.alts) := catalog_Nodes_0.go N n x.1.1 x.1.2.1 x.1.2.2.1 x.1.2.2.2.1 x.1.2.2.2.2.1 x.2.1.1 x.2.1.2.1 x.2.2.1 x.2.2.2.1 x.2.2.2.2.1
def catalog_Nodes_0.P (N : Nat) : Ps := ⟨catalog_Nodes_0.ts, catalog_Nodes_0.ins, catalog_Nodes_0.asg, catalog_Nodes_0.alts, catalog_Nodes_0.g N N⟩
def catalog_Nodes_0.lam (N : Nat) : Pcs := pcs []
theorem catalog_Nodes_0.pok (N : Nat) : (catalog_Nodes_0.lam N).Ok Try.prog (catalog_Nodes_0.C N) catalog_Nodes_0.code := pcsOk_nil
theorem catalog_Nodes_0.ev (N n : Nat) (x : Sh.den catalog_Nodes_0.ins) : evC (catalog_Nodes_0.C N) catalog_Nodes_0.code (catalog_Nodes_0.lam N) ((catalog_Nodes_0.P N).canon 1000 x) (loopK (catalog_Nodes_0.P N) (catalog_Nodes_0.g N n)) = catalog_Nodes_0.g N (n + 1) x := by kernel_rfl
theorem catalog_Nodes_0.ok (N : Nat) : ((catalog_Nodes_0.P N).pc (catalog_Nodes.C N)).Ok Try.prog (catalog_Nodes.C N) (.loop catalog_Nodes_0.code) := loop_ok (F := catalog_Nodes_0.P N) (n0 := 1000) (N := N) (catalog_Nodes.cok N) mix (catalog_Nodes_0.pok N) (catalog_Nodes_0.g N) (fun x => by rfl) rfl (fun n x y h => (catalog_Nodes_0.ev N n x).trans h)
def catalog_Nodes.outs : Sh := (.cons (.own 3 (.int .i64)) .nil)
def catalog_Nodes.run (N : Nat) (c : (Int × (Int × (Int × ((List ((List UInt8) × (List ((List UInt8) × (Int × Bool))))) × (List ((List UInt8) × (Int × ((List Int) × ((List Int) × (Int × Int))))))))))) (at_ : (Int × Int)) : Option ((List Int) × Unit) :=
  bif decide (at_.1 < (0 : Int)) then
    some (([] : List Int), ())
  else
    bif decide (at_.1 ≥ (c.2.2.2.2.length : Int)) then
      some (([] : List Int), ())
    else
      bif decide (at_.2 < (0 : Int)) then
        some (([] : List Int), ())
      else
        bif decide (at_.2 ≥ c.2.1) then
          some (([] : List Int), ())
        else
          bif decide (c.1 < (1 : Int)) then
            some (([] : List Int), ())
          else
            obind (catalog_Nodes_0.go N N c.1 c.2.1 c.2.2.1 c.2.2.2.1 c.2.2.2.2 at_.1 at_.2 ([] : List Int) (IntKind.i64.wrap (c.2.2.1 + (1 : Int))) (0 : Int)) fun (l, _) =>
              some (l, ())
def catalog_Nodes.fn (N : Nat) (x : Sh.den catalog_Nodes.ins) : Option (Sh.den catalog_Nodes.outs) := catalog_Nodes.run N x.1 x.2.1
def catalog_Nodes.S (N : Nat) : Fs := ⟨catalog_Nodes.ins, catalog_Nodes.outs, catalog_Nodes.fn N⟩
def catalog_Nodes.lam (N : Nat) : Pcs := pcs [([true, true, true, false, true, false], (catalog_Nodes_0.P N).pc (catalog_Nodes.C N))]
theorem catalog_Nodes.pok (N : Nat) : (catalog_Nodes.lam N).Ok Try.prog (catalog_Nodes.C N) catalog_Nodes.code := pcsOk_cons (c1 := .loop catalog_Nodes_0.code) (by kernel_rfl) (catalog_Nodes_0.ok N) (pcsOk_nil)
theorem catalog_Nodes.ev (N : Nat) (x : Sh.den catalog_Nodes.ins) : evC (catalog_Nodes.C N) catalog_Nodes.code (catalog_Nodes.lam N) ⟨envOf 0 (bld (fun k => k) catalog_Nodes.ins x 0).1, (bld (fun k => k) catalog_Nodes.ins x 0).2.1, 1000⟩ (endF U catalog_Nodes.outs Try.f18.results.toList []) = catalog_Nodes.fn N x := by kernel_rfl
theorem catalog_Nodes.ok (N : Nat) : (catalog_Nodes.S N).con.Ok Try.prog 18 := fn_ok (F := catalog_Nodes.S N) (n0 := 1000) Try.func18 (by kernel_rfl) (show Try.f18.body = some catalog_Nodes.code by rfl) mix (catalog_Nodes.cok N) (fun _ => rfl) (fun _ => rfl) (catalog_Nodes.pok N) (fun x y h => (catalog_Nodes.ev N x).trans h)
/-- hayloft/value.named -/
def value_named.ins : Sh := (.cons (.val .str) .nil)
def value_named.C (N : Nat) : Ctx := ⟨U, 11, fun _ => true, gam [], gamY []⟩
theorem value_named.cok (N : Nat) : (value_named.C N).Ok Try.prog := ⟨U_ok, GamOk.nil, GamYOk.nil⟩
def value_named.code : Code := Try.f50.body.getD .skip
def value_named.outs : Sh := (.cons (.val .bool) .nil)
def value_named.run (N : Nat) (s : (List UInt8)) : Option (Bool × Unit) :=
  bif decide ((s.length : Int) ≥ (1 : Int)) then
    some (decide ((s.length : Int) ≤ (64 : Int)), ())
  else some (false, ())
def value_named.fn (N : Nat) (x : Sh.den value_named.ins) : Option (Sh.den value_named.outs) := value_named.run N x.1
def value_named.S (N : Nat) : Fs := ⟨value_named.ins, value_named.outs, value_named.fn N⟩
def value_named.lam (N : Nat) : Pcs := pcs []
theorem value_named.pok (N : Nat) : (value_named.lam N).Ok Try.prog (value_named.C N) value_named.code := pcsOk_nil
theorem value_named.ev (N : Nat) (x : Sh.den value_named.ins) : evC (value_named.C N) value_named.code (value_named.lam N) ⟨envOf 0 (bld (fun k => k) value_named.ins x 0).1, (bld (fun k => k) value_named.ins x 0).2.1, 1000⟩ (endF U value_named.outs Try.f50.results.toList []) = value_named.fn N x := by kernel_rfl
theorem value_named.ok (N : Nat) : (value_named.S N).con.Ok Try.prog 50 := fn_ok (F := value_named.S N) (n0 := 1000) Try.func50 (by kernel_rfl) (show Try.f50.body = some value_named.code by rfl) mix (value_named.cok N) (fun _ => rfl) (fun _ => rfl) (value_named.pok N) (fun x y h => (value_named.ev N x).trans h)
/-- hayloft/value.Table -/
def value_Table.ins : Sh := (.cons (.val (.pair .str (.slice (.pair .str (.pair (.int .i64) .bool))))) .nil)
def value_Table.C (N : Nat) : Ctx := ⟨U, 61, fun _ => true, gam [(50, (value_named.S N).con)], gamY []⟩
theorem value_Table.cok (N : Nat) : (value_Table.C N).Ok Try.prog := ⟨U_ok, GamOk.cons (value_named.ok N) (GamOk.nil), GamYOk.nil⟩
def value_Table.code : Code := Try.f27.body.getD .skip
def value_Table_0.ins : Sh := (.cons (.rbox 79 (.cons (.val .str) (.cons (.val (.slice (.pair .str (.pair (.int .i64) .bool)))) .nil))) (.cons (.val (.slice (.pair .str (.pair (.int .i64) .bool)))) (.cons (.val (.int .i64)) (.cons (.val (.int .i64)) .nil))))
def value_Table_0.ts : List Tmp := [1, 24, 25, 26]
def value_Table_0.asg : List Tmp := [2, 3, 4, 6, 26, 27, 28, 29, 30, 31, 32, 33, 34, 35, 36, 37, 38, 39, 40, 41, 42, 43, 44, 45, 46, 47, 48, 49, 50, 51, 52, 53, 54, 55, 56, 57, 58, 59, 60]
def value_Table_0.C (N : Nat) : Ctx := { value_Table.C N with may := fun t => value_Table_0.asg.any (Nat.beq t) }
def value_Table_0.code : Code := loopBody (sub value_Table.code [true, true, false, true, false])
theorem value_Table_0.cok (N : Nat) : (value_Table_0.C N).Ok Try.prog := ⟨(value_Table.cok N).U, (value_Table.cok N).Γ, (value_Table.cok N).Y⟩
def value_Table_0_0.ins : Sh := (.cons (.rbox 76 (.cons (.val .str) (.cons (.val (.int .i64)) (.cons (.val .bool) .nil)))) (.cons (.val (.slice (.pair .str (.pair (.int .i64) .bool)))) (.cons (.val (.int .i64)) (.cons (.val (.int .i64)) .nil))))
def value_Table_0_0.ts : List Tmp := [4, 48, 49, 50]
def value_Table_0_0.asg : List Tmp := [2, 6, 50, 51, 52, 53, 54, 55, 56, 57, 58, 59]
def value_Table_0_0.C (N : Nat) : Ctx := { value_Table_0.C N with may := fun t => value_Table_0_0.asg.any (Nat.beq t) }
def value_Table_0_0.code : Code := loopBody (sub value_Table_0.code [true, true, false, false, true, true, true, false])
theorem value_Table_0_0.cok (N : Nat) : (value_Table_0_0.C N).Ok Try.prog := ⟨(value_Table_0.cok N).U, (value_Table_0.cok N).Γ, (value_Table_0.cok N).Y⟩
def value_Table_0_0.alts : List Alt := [⟨.ret, [2], (.cons (.val (.int .i64)) .nil)⟩, ⟨(.exit 2), [], .nil⟩]
def value_Table_0_0.go (N : Nat) : Nat → (List UInt8) → Int → Bool → (List ((List UInt8) × (Int × Bool))) → Int → Int → Option ((Int × Unit) ⊕ Unit)
  | 0, _, _, _, _, _, _ => none
  | fuel + 1, name, kind, null, t48, t49, t50 =>
    bif decide (t50 < t49) then
      bif inB t50 t48.length then
        bif decide ((t48.getD t50.toNat (([] : List UInt8), (0 : Int), false)).1 = name) then
          some (.inl ((20 : Int), ()))
        else value_Table_0_0.go N fuel name kind null t48 t49 (IntKind.i64.wrap (t50 + (1 : Int)))
      else none
    else some (.inr ())
def value_Table_0_0.g (N n : Nat) (x : Sh.den value_Table_0_0.ins) : Option (altsDen value_Table_0_0.alts) := value_Table_0_0.go N n x.1.1 x.1.2.1 x.1.2.2.1 x.2.1 x.2.2.1 x.2.2.2.1
def value_Table_0_0.P (N : Nat) : Ps := ⟨value_Table_0_0.ts, value_Table_0_0.ins, value_Table_0_0.asg, value_Table_0_0.alts, value_Table_0_0.g N N⟩
def value_Table_0_0.lam (N : Nat) : Pcs := pcs []
theorem value_Table_0_0.pok (N : Nat) : (value_Table_0_0.lam N).Ok Try.prog (value_Table_0_0.C N) value_Table_0_0.code := pcsOk_nil
theorem value_Table_0_0.ev (N n : Nat) (x : Sh.den value_Table_0_0.ins) : evC (value_Table_0_0.C N) value_Table_0_0.code (value_Table_0_0.lam N) ((value_Table_0_0.P N).canon 1000 x) (loopK (value_Table_0_0.P N) (value_Table_0_0.g N n)) = value_Table_0_0.g N (n + 1) x := by kernel_rfl
theorem value_Table_0_0.ok (N : Nat) : ((value_Table_0_0.P N).pc (value_Table_0.C N)).Ok Try.prog (value_Table_0.C N) (.loop value_Table_0_0.code) := loop_ok (F := value_Table_0_0.P N) (n0 := 1000) (N := N) (value_Table_0.cok N) mix (value_Table_0_0.pok N) (value_Table_0_0.g N) (fun x => by rfl) rfl (fun n x y h => (value_Table_0_0.ev N n x).trans h)
def value_Table_0.alts : List Alt := [⟨.ret, [2], (.cons (.val (.int .i64)) .nil)⟩, ⟨(.exit 0), [], .nil⟩]
def value_Table_0.go (N : Nat) : Nat → (List UInt8) → (List ((List UInt8) × (Int × Bool))) → (List ((List UInt8) × (Int × Bool))) → Int → Int → Option ((Int × Unit) ⊕ Unit)
  | 0, _, _, _, _, _ => none
  | fuel + 1, name, columns, t24, t25, t26 =>
    bif decide (t26 < t25) then
      bif inB t26 t24.length then
        obind (value_named.run N (t24.getD t26.toNat (([] : List UInt8), (0 : Int), false)).1) fun (b, _) =>
          bif !b then
            some (.inl ((20 : Int), ()))
          else
            bif decide ((t24.getD t26.toNat (([] : List UInt8), (0 : Int), false)).2.1 < (1 : Int)) then
              some (.inl ((20 : Int), ()))
            else
              bif decide ((t24.getD t26.toNat (([] : List UInt8), (0 : Int), false)).2.1 > (3 : Int)) then
                some (.inl ((20 : Int), ()))
              else
                bif okB (0 : Int) t26 columns.length then
                  obind (value_Table_0_0.go N N (t24.getD t26.toNat (([] : List UInt8), (0 : Int), false)).1 (t24.getD t26.toNat (([] : List UInt8), (0 : Int), false)).2.1 (t24.getD t26.toNat (([] : List UInt8), (0 : Int), false)).2.2 (columns.take t26.toNat) ((columns.take t26.toNat).length : Int) (0 : Int)) fun y => match y with
                  | .inl (t2, _) =>
                      some (.inl (t2, ()))
                  | .inr (_) =>
                      value_Table_0.go N fuel name columns t24 t25 (IntKind.i64.wrap (t26 + (1 : Int)))
                else none
      else none
    else some (.inr ())
def value_Table_0.g (N n : Nat) (x : Sh.den value_Table_0.ins) : Option (altsDen value_Table_0.alts) := value_Table_0.go N n x.1.1 x.1.2.1 x.2.1 x.2.2.1 x.2.2.2.1
def value_Table_0.P (N : Nat) : Ps := ⟨value_Table_0.ts, value_Table_0.ins, value_Table_0.asg, value_Table_0.alts, value_Table_0.g N N⟩
def value_Table_0.lam (N : Nat) : Pcs := pcs [([true, true, false, false, true, true, true, false], (value_Table_0_0.P N).pc (value_Table_0.C N))]
theorem value_Table_0.pok (N : Nat) : (value_Table_0.lam N).Ok Try.prog (value_Table_0.C N) value_Table_0.code := pcsOk_cons (c1 := .loop value_Table_0_0.code) (by kernel_rfl) (value_Table_0_0.ok N) (pcsOk_nil)
theorem value_Table_0.ev (N n : Nat) (x : Sh.den value_Table_0.ins) : evC (value_Table_0.C N) value_Table_0.code (value_Table_0.lam N) ((value_Table_0.P N).canon 1000 x) (loopK (value_Table_0.P N) (value_Table_0.g N n)) = value_Table_0.g N (n + 1) x := by kernel_rfl
theorem value_Table_0.ok (N : Nat) : ((value_Table_0.P N).pc (value_Table.C N)).Ok Try.prog (value_Table.C N) (.loop value_Table_0.code) := loop_ok (F := value_Table_0.P N) (n0 := 1000) (N := N) (value_Table.cok N) mix (value_Table_0.pok N) (value_Table_0.g N) (fun x => by rfl) rfl (fun n x y h => (value_Table_0.ev N n x).trans h)
def value_Table.outs : Sh := (.cons (.val (.int .i64)) .nil)
def value_Table.run (N : Nat) (t : ((List UInt8) × (List ((List UInt8) × (Int × Bool))))) : Option (Int × Unit) :=
  obind (value_named.run N t.1) fun (b, _) =>
    bif !b then
      some ((20 : Int), ())
    else
      bif decide ((t.2.length : Int) < (1 : Int)) then
        some ((20 : Int), ())
      else
        bif decide ((t.2.length : Int) > (8 : Int)) then
          some ((20 : Int), ())
        else
          obind (value_Table_0.go N N t.1 t.2 t.2 (t.2.length : Int) (0 : Int)) fun y => match y with
          | .inl (t2, _) =>
              some (t2, ())
          | .inr (_) =>
              some ((0 : Int), ())
def value_Table.fn (N : Nat) (x : Sh.den value_Table.ins) : Option (Sh.den value_Table.outs) := value_Table.run N x.1
def value_Table.S (N : Nat) : Fs := ⟨value_Table.ins, value_Table.outs, value_Table.fn N⟩
def value_Table.lam (N : Nat) : Pcs := pcs [([true, true, false, true, false], (value_Table_0.P N).pc (value_Table.C N))]
theorem value_Table.pok (N : Nat) : (value_Table.lam N).Ok Try.prog (value_Table.C N) value_Table.code := pcsOk_cons (c1 := .loop value_Table_0.code) (by kernel_rfl) (value_Table_0.ok N) (pcsOk_nil)
theorem value_Table.ev (N : Nat) (x : Sh.den value_Table.ins) : evC (value_Table.C N) value_Table.code (value_Table.lam N) ⟨envOf 0 (bld (fun k => k) value_Table.ins x 0).1, (bld (fun k => k) value_Table.ins x 0).2.1, 1000⟩ (endF U value_Table.outs Try.f27.results.toList []) = value_Table.fn N x := by kernel_rfl
theorem value_Table.ok (N : Nat) : (value_Table.S N).con.Ok Try.prog 27 := fn_ok (F := value_Table.S N) (n0 := 1000) Try.func27 (by kernel_rfl) (show Try.f27.body = some value_Table.code by rfl) mix (value_Table.cok N) (fun _ => rfl) (fun _ => rfl) (value_Table.pok N) (fun x y h => (value_Table.ev N x).trans h)
/-- hayloft/catalog.Check$1 -/
def catalog_Check_f1.ins : Sh := (.cons (.val (.pair .str (.slice (.pair .str (.pair (.int .i64) .bool))))) (.cons (.rbox 79 (.cons (.val .str) (.cons (.val (.slice (.pair .str (.pair (.int .i64) .bool)))) .nil))) .nil))
def catalog_Check_f1.C (N : Nat) : Ctx := ⟨U, 9, fun _ => true, gam [], gamY []⟩
theorem catalog_Check_f1.cok (N : Nat) : (catalog_Check_f1.C N).Ok Try.prog := ⟨U_ok, GamOk.nil, GamYOk.nil⟩
def catalog_Check_f1.code : Code := Try.f29.body.getD .skip
def catalog_Check_f1.outs : Sh := (.cons (.val .bool) .nil)
def catalog_Check_f1.run (N : Nat) (x : ((List UInt8) × (List ((List UInt8) × (Int × Bool))))) (name : (List UInt8)) (columns : (List ((List UInt8) × (Int × Bool)))) : Option (Bool × Unit) :=
  some (decide (x.1 = name), ())
def catalog_Check_f1.fn (N : Nat) (x : Sh.den catalog_Check_f1.ins) : Option (Sh.den catalog_Check_f1.outs) := catalog_Check_f1.run N x.1 x.2.1.1 x.2.1.2.1
def catalog_Check_f1.S (N : Nat) : Fs := ⟨catalog_Check_f1.ins, catalog_Check_f1.outs, catalog_Check_f1.fn N⟩
def catalog_Check_f1.lam (N : Nat) : Pcs := pcs []
theorem catalog_Check_f1.pok (N : Nat) : (catalog_Check_f1.lam N).Ok Try.prog (catalog_Check_f1.C N) catalog_Check_f1.code := pcsOk_nil
theorem catalog_Check_f1.ev (N : Nat) (x : Sh.den catalog_Check_f1.ins) : evC (catalog_Check_f1.C N) catalog_Check_f1.code (catalog_Check_f1.lam N) ⟨envOf 0 (bld (fun k => k) catalog_Check_f1.ins x 0).1, (bld (fun k => k) catalog_Check_f1.ins x 0).2.1, 1000⟩ (endF U catalog_Check_f1.outs Try.f29.results.toList []) = catalog_Check_f1.fn N x := by kernel_rfl
theorem catalog_Check_f1.ok (N : Nat) : (catalog_Check_f1.S N).con.Ok Try.prog 29 := fn_ok (F := catalog_Check_f1.S N) (n0 := 1000) Try.func29 (by kernel_rfl) (show Try.f29.body = some catalog_Check_f1.code by rfl) mix (catalog_Check_f1.cok N) (fun _ => rfl) (fun _ => rfl) (catalog_Check_f1.pok N) (fun x y h => (catalog_Check_f1.ev N x).trans h)
/-- slices.IndexFunc[[]hayloft/api.Table,hayloft/api.Table] -/
def slices_IndexFunc_api_Table_api_Table.ins : Sh := (.cons (.val (.slice (.pair .str (.slice (.pair .str (.pair (.int .i64) .bool)))))) (.cons (.fn 29 (.cons (.rbox 79 (.cons (.val .str) (.cons (.val (.slice (.pair .str (.pair (.int .i64) .bool)))) .nil))) .nil)) .nil))
def slices_IndexFunc_api_Table_api_Table.C (N : Nat) : Ctx := ⟨U, 19, fun _ => true, gam [(29, (catalog_Check_f1.S N).con)], gamY []⟩
theorem slices_IndexFunc_api_Table_api_Table.cok (N : Nat) : (slices_IndexFunc_api_Table_api_Table.C N).Ok Try.prog := ⟨U_ok, GamOk.cons (catalog_Check_f1.ok N) (GamOk.nil), GamYOk.nil⟩
def slices_IndexFunc_api_Table_api_Table.code : Code := Try.f51.body.getD .skip
def slices_IndexFunc_api_Table_api_Table_0.ins : Sh := (.cons (.val (.slice (.pair .str (.slice (.pair .str (.pair (.int .i64) .bool)))))) (.cons (.fn 29 (.cons (.rbox 79 (.cons (.val .str) (.cons (.val (.slice (.pair .str (.pair (.int .i64) .bool)))) .nil))) .nil)) (.cons (.val (.int .i64)) (.cons (.val (.int .i64)) .nil))))
def slices_IndexFunc_api_Table_api_Table_0.ts : List Tmp := [0, 1, 7, 8]
def slices_IndexFunc_api_Table_api_Table_0.asg : List Tmp := [4, 5, 8, 9, 10, 11, 12, 13, 14, 15, 16, 17, 18]
def slices_IndexFunc_api_Table_api_Table_0.C (N : Nat) : Ctx := { slices_IndexFunc_api_Table_api_Table.C N with may := fun t => slices_IndexFunc_api_Table_api_Table_0.asg.any (Nat.beq t) }
def slices_IndexFunc_api_Table_api_Table_0.code : Code := loopBody (sub slices_IndexFunc_api_Table_api_Table.code [true, false, true, false])
theorem slices_IndexFunc_api_Table_api_Table_0.cok (N : Nat) : (slices_IndexFunc_api_Table_api_Table_0.C N).Ok Try.prog := ⟨(slices_IndexFunc_api_Table_api_Table.cok N).U, (slices_IndexFunc_api_Table_api_Table.cok N).Γ, (slices_IndexFunc_api_Table_api_Table.cok N).Y⟩
def slices_IndexFunc_api_Table_api_Table_0.alts : List Alt := [⟨.ret, [4], (.cons (.val (.int .i64)) .nil)⟩, ⟨(.exit 0), [], .nil⟩]
def slices_IndexFunc_api_Table_api_Table_0.go (N : Nat) : Nat → (List ((List UInt8) × (List ((List UInt8) × (Int × Bool))))) → (List UInt8) → (List ((List UInt8) × (Int × Bool))) → Int → Int → Option ((Int × Unit) ⊕ Unit)
  | 0, _, _, _, _, _ => none
  | fuel + 1, s, name, columns, t7, t8 =>
    bif decide (t8 < t7) then
      bif inB t8 s.length then
        obind (catalog_Check_f1.run N (s.getD t8.toNat (([] : List UInt8), ([] : List ((List UInt8) × (Int × Bool))))) name columns) fun (b, _) =>
          bif b then
            some (.inl (t8, ()))
          else slices_IndexFunc_api_Table_api_Table_0.go N fuel s name columns t7 (IntKind.i64.wrap (t8 + (1 : Int)))
      else none
    else some (.inr ())
def slices_IndexFunc_api_Table_api_Table_0.g (N n : Nat) (x : Sh.den slices_IndexFunc_api_Table_api_Table_0.ins) : Option (altsDen slices_IndexFunc_api_Table_api_Table_0.alts) := slices_IndexFunc_api_Table_api_Table_0.go N n x.1 x.2.1.1.1 x.2.1.1.2.1 x.2.2.1 x.2.2.2.1
def slices_IndexFunc_api_Table_api_Table_0.P (N : Nat) : Ps := ⟨slices_IndexFunc_api_Table_api_Table_0.ts, slices_IndexFunc_api_Table_api_Table_0.ins, slices_IndexFunc_api_Table_api_Table_0.asg, slices_IndexFunc_api_Table_api_Table_0.alts, slices_IndexFunc_api_Table_api_Table_0.g N N⟩
def slices_IndexFunc_api_Table_api_Table_0.lam (N : Nat) : Pcs := pcs []
theorem slices_IndexFunc_api_Table_api_Table_0.pok (N : Nat) : (slices_IndexFunc_api_Table_api_Table_0.lam N).Ok Try.prog (slices_IndexFunc_api_Table_api_Table_0.C N) slices_IndexFunc_api_Table_api_Table_0.code := pcsOk_nil
theorem slices_IndexFunc_api_Table_api_Table_0.ev (N n : Nat) (x : Sh.den slices_IndexFunc_api_Table_api_Table_0.ins) : evC (slices_IndexFunc_api_Table_api_Table_0.C N) slices_IndexFunc_api_Table_api_Table_0.code (slices_IndexFunc_api_Table_api_Table_0.lam N) ((slices_IndexFunc_api_Table_api_Table_0.P N).canon 1000 x) (loopK (slices_IndexFunc_api_Table_api_Table_0.P N) (slices_IndexFunc_api_Table_api_Table_0.g N n)) = slices_IndexFunc_api_Table_api_Table_0.g N (n + 1) x := by kernel_rfl
theorem slices_IndexFunc_api_Table_api_Table_0.ok (N : Nat) : ((slices_IndexFunc_api_Table_api_Table_0.P N).pc (slices_IndexFunc_api_Table_api_Table.C N)).Ok Try.prog (slices_IndexFunc_api_Table_api_Table.C N) (.loop slices_IndexFunc_api_Table_api_Table_0.code) := loop_ok (F := slices_IndexFunc_api_Table_api_Table_0.P N) (n0 := 1000) (N := N) (slices_IndexFunc_api_Table_api_Table.cok N) mix (slices_IndexFunc_api_Table_api_Table_0.pok N) (slices_IndexFunc_api_Table_api_Table_0.g N) (fun x => by rfl) rfl (fun n x y h => (slices_IndexFunc_api_Table_api_Table_0.ev N n x).trans h)
def slices_IndexFunc_api_Table_api_Table.outs : Sh := (.cons (.val (.int .i64)) .nil)
def slices_IndexFunc_api_Table_api_Table.run (N : Nat) (s : (List ((List UInt8) × (List ((List UInt8) × (Int × Bool)))))) (name : (List UInt8)) (columns : (List ((List UInt8) × (Int × Bool)))) : Option (Int × Unit) :=
  obind (slices_IndexFunc_api_Table_api_Table_0.go N N s name columns (s.length : Int) (0 : Int)) fun y => match y with
  | .inl (t4, _) =>
      some (t4, ())
  | .inr (_) =>
      some ((-1 : Int), ())
def slices_IndexFunc_api_Table_api_Table.fn (N : Nat) (x : Sh.den slices_IndexFunc_api_Table_api_Table.ins) : Option (Sh.den slices_IndexFunc_api_Table_api_Table.outs) := slices_IndexFunc_api_Table_api_Table.run N x.1 x.2.1.1.1 x.2.1.1.2.1
def slices_IndexFunc_api_Table_api_Table.S (N : Nat) : Fs := ⟨slices_IndexFunc_api_Table_api_Table.ins, slices_IndexFunc_api_Table_api_Table.outs, slices_IndexFunc_api_Table_api_Table.fn N⟩
def slices_IndexFunc_api_Table_api_Table.lam (N : Nat) : Pcs := pcs [([true, false, true, false], (slices_IndexFunc_api_Table_api_Table_0.P N).pc (slices_IndexFunc_api_Table_api_Table.C N))]
theorem slices_IndexFunc_api_Table_api_Table.pok (N : Nat) : (slices_IndexFunc_api_Table_api_Table.lam N).Ok Try.prog (slices_IndexFunc_api_Table_api_Table.C N) slices_IndexFunc_api_Table_api_Table.code := pcsOk_cons (c1 := .loop slices_IndexFunc_api_Table_api_Table_0.code) (by kernel_rfl) (slices_IndexFunc_api_Table_api_Table_0.ok N) (pcsOk_nil)
theorem slices_IndexFunc_api_Table_api_Table.ev (N : Nat) (x : Sh.den slices_IndexFunc_api_Table_api_Table.ins) : evC (slices_IndexFunc_api_Table_api_Table.C N) slices_IndexFunc_api_Table_api_Table.code (slices_IndexFunc_api_Table_api_Table.lam N) ⟨envOf 0 (bld (fun k => k) slices_IndexFunc_api_Table_api_Table.ins x 0).1, (bld (fun k => k) slices_IndexFunc_api_Table_api_Table.ins x 0).2.1, 1000⟩ (endF U slices_IndexFunc_api_Table_api_Table.outs Try.f51.results.toList []) = slices_IndexFunc_api_Table_api_Table.fn N x := by kernel_rfl
theorem slices_IndexFunc_api_Table_api_Table.ok (N : Nat) : (slices_IndexFunc_api_Table_api_Table.S N).con.Ok Try.prog 51 := fn_ok (F := slices_IndexFunc_api_Table_api_Table.S N) (n0 := 1000) Try.func51 (by kernel_rfl) (show Try.f51.body = some slices_IndexFunc_api_Table_api_Table.code by rfl) mix (slices_IndexFunc_api_Table_api_Table.cok N) (fun _ => rfl) (fun _ => rfl) (slices_IndexFunc_api_Table_api_Table.pok N) (fun x y h => (slices_IndexFunc_api_Table_api_Table.ev N x).trans h)
/-- slices.ContainsFunc[[]hayloft/api.Table,hayloft/api.Table] -/
def slices_ContainsFunc_api_Table_api_Table.ins : Sh := (.cons (.val (.slice (.pair .str (.slice (.pair .str (.pair (.int .i64) .bool)))))) (.cons (.fn 29 (.cons (.rbox 79 (.cons (.val .str) (.cons (.val (.slice (.pair .str (.pair (.int .i64) .bool)))) .nil))) .nil)) .nil))
def slices_ContainsFunc_api_Table_api_Table.C (N : Nat) : Ctx := ⟨U, 9, fun _ => true, gam [(51, (slices_IndexFunc_api_Table_api_Table.S N).con)], gamY []⟩
theorem slices_ContainsFunc_api_Table_api_Table.cok (N : Nat) : (slices_ContainsFunc_api_Table_api_Table.C N).Ok Try.prog := ⟨U_ok, GamOk.cons (slices_IndexFunc_api_Table_api_Table.ok N) (GamOk.nil), GamYOk.nil⟩
def slices_ContainsFunc_api_Table_api_Table.code : Code := Try.f28.body.getD .skip
def slices_ContainsFunc_api_Table_api_Table.outs : Sh := (.cons (.val .bool) .nil)
def slices_ContainsFunc_api_Table_api_Table.run (N : Nat) (s : (List ((List UInt8) × (List ((List UInt8) × (Int × Bool)))))) (name : (List UInt8)) (columns : (List ((List UInt8) × (Int × Bool)))) : Option (Bool × Unit) :=
  obind (slices_IndexFunc_api_Table_api_Table.run N s name columns) fun (n_, _) =>
    some (decide (n_ ≥ (0 : Int)), ())
def slices_ContainsFunc_api_Table_api_Table.fn (N : Nat) (x : Sh.den slices_ContainsFunc_api_Table_api_Table.ins) : Option (Sh.den slices_ContainsFunc_api_Table_api_Table.outs) := slices_ContainsFunc_api_Table_api_Table.run N x.1 x.2.1.1.1 x.2.1.1.2.1
def slices_ContainsFunc_api_Table_api_Table.S (N : Nat) : Fs := ⟨slices_ContainsFunc_api_Table_api_Table.ins, slices_ContainsFunc_api_Table_api_Table.outs, slices_ContainsFunc_api_Table_api_Table.fn N⟩
def slices_ContainsFunc_api_Table_api_Table.lam (N : Nat) : Pcs := pcs []
theorem slices_ContainsFunc_api_Table_api_Table.pok (N : Nat) : (slices_ContainsFunc_api_Table_api_Table.lam N).Ok Try.prog (slices_ContainsFunc_api_Table_api_Table.C N) slices_ContainsFunc_api_Table_api_Table.code := pcsOk_nil
theorem slices_ContainsFunc_api_Table_api_Table.ev (N : Nat) (x : Sh.den slices_ContainsFunc_api_Table_api_Table.ins) : evC (slices_ContainsFunc_api_Table_api_Table.C N) slices_ContainsFunc_api_Table_api_Table.code (slices_ContainsFunc_api_Table_api_Table.lam N) ⟨envOf 0 (bld (fun k => k) slices_ContainsFunc_api_Table_api_Table.ins x 0).1, (bld (fun k => k) slices_ContainsFunc_api_Table_api_Table.ins x 0).2.1, 1000⟩ (endF U slices_ContainsFunc_api_Table_api_Table.outs Try.f28.results.toList []) = slices_ContainsFunc_api_Table_api_Table.fn N x := by kernel_rfl
theorem slices_ContainsFunc_api_Table_api_Table.ok (N : Nat) : (slices_ContainsFunc_api_Table_api_Table.S N).con.Ok Try.prog 28 := fn_ok (F := slices_ContainsFunc_api_Table_api_Table.S N) (n0 := 1000) Try.func28 (by kernel_rfl) (show Try.f28.body = some slices_ContainsFunc_api_Table_api_Table.code by rfl) mix (slices_ContainsFunc_api_Table_api_Table.cok N) (fun _ => rfl) (fun _ => rfl) (slices_ContainsFunc_api_Table_api_Table.pok N) (fun x y h => (slices_ContainsFunc_api_Table_api_Table.ev N x).trans h)
/-- hayloft/catalog.named -/
def catalog_named.ins : Sh := (.cons (.val .str) .nil)
def catalog_named.C (N : Nat) : Ctx := ⟨U, 11, fun _ => true, gam [], gamY []⟩
theorem catalog_named.cok (N : Nat) : (catalog_named.C N).Ok Try.prog := ⟨U_ok, GamOk.nil, GamYOk.nil⟩
def catalog_named.code : Code := Try.f52.body.getD .skip
def catalog_named.outs : Sh := (.cons (.val .bool) .nil)
def catalog_named.run (N : Nat) (s : (List UInt8)) : Option (Bool × Unit) :=
  bif decide ((s.length : Int) ≥ (1 : Int)) then
    some (decide ((s.length : Int) ≤ (64 : Int)), ())
  else some (false, ())
def catalog_named.fn (N : Nat) (x : Sh.den catalog_named.ins) : Option (Sh.den catalog_named.outs) := catalog_named.run N x.1
def catalog_named.S (N : Nat) : Fs := ⟨catalog_named.ins, catalog_named.outs, catalog_named.fn N⟩
def catalog_named.lam (N : Nat) : Pcs := pcs []
theorem catalog_named.pok (N : Nat) : (catalog_named.lam N).Ok Try.prog (catalog_named.C N) catalog_named.code := pcsOk_nil
theorem catalog_named.ev (N : Nat) (x : Sh.den catalog_named.ins) : evC (catalog_named.C N) catalog_named.code (catalog_named.lam N) ⟨envOf 0 (bld (fun k => k) catalog_named.ins x 0).1, (bld (fun k => k) catalog_named.ins x 0).2.1, 1000⟩ (endF U catalog_named.outs Try.f52.results.toList []) = catalog_named.fn N x := by kernel_rfl
theorem catalog_named.ok (N : Nat) : (catalog_named.S N).con.Ok Try.prog 52 := fn_ok (F := catalog_named.S N) (n0 := 1000) Try.func52 (by kernel_rfl) (show Try.f52.body = some catalog_named.code by rfl) mix (catalog_named.cok N) (fun _ => rfl) (fun _ => rfl) (catalog_named.pok N) (fun x y h => (catalog_named.ev N x).trans h)
/-- slices.Index[[]int,int] -/
def slices_Index_int_int.ins : Sh := (.cons (.val (.slice (.int .i64))) (.cons (.val (.int .i64)) .nil))
def slices_Index_int_int.C (N : Nat) : Ctx := ⟨U, 19, fun _ => true, gam [], gamY []⟩
theorem slices_Index_int_int.cok (N : Nat) : (slices_Index_int_int.C N).Ok Try.prog := ⟨U_ok, GamOk.nil, GamYOk.nil⟩
def slices_Index_int_int.code : Code := Try.f63.body.getD .skip
def slices_Index_int_int_0.ins : Sh := (.cons (.val (.slice (.int .i64))) (.cons (.val (.int .i64)) (.cons (.val (.int .i64)) (.cons (.val (.int .i64)) .nil))))
def slices_Index_int_int_0.ts : List Tmp := [0, 1, 7, 8]
def slices_Index_int_int_0.asg : List Tmp := [4, 5, 8, 9, 10, 11, 12, 13, 14, 15, 16, 17, 18]
def slices_Index_int_int_0.C (N : Nat) : Ctx := { slices_Index_int_int.C N with may := fun t => slices_Index_int_int_0.asg.any (Nat.beq t) }
def slices_Index_int_int_0.code : Code := loopBody (sub slices_Index_int_int.code [true, false, true, false])
theorem slices_Index_int_int_0.cok (N : Nat) : (slices_Index_int_int_0.C N).Ok Try.prog := ⟨(slices_Index_int_int.cok N).U, (slices_Index_int_int.cok N).Γ, (slices_Index_int_int.cok N).Y⟩
def slices_Index_int_int_0.alts : List Alt := [⟨.ret, [4], (.cons (.val (.int .i64)) .nil)⟩, ⟨(.exit 0), [], .nil⟩]
def slices_Index_int_int_0.go (N : Nat) : Nat → (List Int) → Int → Int → Int → Option ((Int × Unit) ⊕ Unit)
  | 0, _, _, _, _ => none
  | fuel + 1, s, v, t7, t8 =>
    bif decide (t8 < t7) then
      bif inB t8 s.length then
        bif decide (v = (s.getD t8.toNat (0 : Int))) then
          some (.inl (t8, ()))
        else slices_Index_int_int_0.go N fuel s v t7 (IntKind.i64.wrap (t8 + (1 : Int)))
      else none
    else some (.inr ())
def slices_Index_int_int_0.g (N n : Nat) (x : Sh.den slices_Index_int_int_0.ins) : Option (altsDen slices_Index_int_int_0.alts) := slices_Index_int_int_0.go N n x.1 x.2.1 x.2.2.1 x.2.2.2.1
def slices_Index_int_int_0.P (N : Nat) : Ps := ⟨slices_Index_int_int_0.ts, slices_Index_int_int_0.ins, slices_Index_int_int_0.asg, slices_Index_int_int_0.alts, slices_Index_int_int_0.g N N⟩
def slices_Index_int_int_0.lam (N : Nat) : Pcs := pcs []
theorem slices_Index_int_int_0.pok (N : Nat) : (slices_Index_int_int_0.lam N).Ok Try.prog (slices_Index_int_int_0.C N) slices_Index_int_int_0.code := pcsOk_nil
theorem slices_Index_int_int_0.ev (N n : Nat) (x : Sh.den slices_Index_int_int_0.ins) : evC (slices_Index_int_int_0.C N) slices_Index_int_int_0.code (slices_Index_int_int_0.lam N) ((slices_Index_int_int_0.P N).canon 1000 x) (loopK (slices_Index_int_int_0.P N) (slices_Index_int_int_0.g N n)) = slices_Index_int_int_0.g N (n + 1) x := by kernel_rfl
theorem slices_Index_int_int_0.ok (N : Nat) : ((slices_Index_int_int_0.P N).pc (slices_Index_int_int.C N)).Ok Try.prog (slices_Index_int_int.C N) (.loop slices_Index_int_int_0.code) := loop_ok (F := slices_Index_int_int_0.P N) (n0 := 1000) (N := N) (slices_Index_int_int.cok N) mix (slices_Index_int_int_0.pok N) (slices_Index_int_int_0.g N) (fun x => by rfl) rfl (fun n x y h => (slices_Index_int_int_0.ev N n x).trans h)
def slices_Index_int_int.outs : Sh := (.cons (.val (.int .i64)) .nil)
def slices_Index_int_int.run (N : Nat) (s : (List Int)) (v : Int) : Option (Int × Unit) :=
  obind (slices_Index_int_int_0.go N N s v (s.length : Int) (0 : Int)) fun y => match y with
  | .inl (t4, _) =>
      some (t4, ())
  | .inr (_) =>
      some ((-1 : Int), ())
def slices_Index_int_int.fn (N : Nat) (x : Sh.den slices_Index_int_int.ins) : Option (Sh.den slices_Index_int_int.outs) := slices_Index_int_int.run N x.1 x.2.1
def slices_Index_int_int.S (N : Nat) : Fs := ⟨slices_Index_int_int.ins, slices_Index_int_int.outs, slices_Index_int_int.fn N⟩
def slices_Index_int_int.lam (N : Nat) : Pcs := pcs [([true, false, true, false], (slices_Index_int_int_0.P N).pc (slices_Index_int_int.C N))]
theorem slices_Index_int_int.pok (N : Nat) : (slices_Index_int_int.lam N).Ok Try.prog (slices_Index_int_int.C N) slices_Index_int_int.code := pcsOk_cons (c1 := .loop slices_Index_int_int_0.code) (by kernel_rfl) (slices_Index_int_int_0.ok N) (pcsOk_nil)
theorem slices_Index_int_int.ev (N : Nat) (x : Sh.den slices_Index_int_int.ins) : evC (slices_Index_int_int.C N) slices_Index_int_int.code (slices_Index_int_int.lam N) ⟨envOf 0 (bld (fun k => k) slices_Index_int_int.ins x 0).1, (bld (fun k => k) slices_Index_int_int.ins x 0).2.1, 1000⟩ (endF U slices_Index_int_int.outs Try.f63.results.toList []) = slices_Index_int_int.fn N x := by kernel_rfl
theorem slices_Index_int_int.ok (N : Nat) : (slices_Index_int_int.S N).con.Ok Try.prog 63 := fn_ok (F := slices_Index_int_int.S N) (n0 := 1000) Try.func63 (by kernel_rfl) (show Try.f63.body = some slices_Index_int_int.code by rfl) mix (slices_Index_int_int.cok N) (fun _ => rfl) (fun _ => rfl) (slices_Index_int_int.pok N) (fun x y h => (slices_Index_int_int.ev N x).trans h)
/-- slices.Contains[[]int,int] -/
def slices_Contains_int_int.ins : Sh := (.cons (.val (.slice (.int .i64))) (.cons (.val (.int .i64)) .nil))
def slices_Contains_int_int.C (N : Nat) : Ctx := ⟨U, 9, fun _ => true, gam [(63, (slices_Index_int_int.S N).con)], gamY []⟩
theorem slices_Contains_int_int.cok (N : Nat) : (slices_Contains_int_int.C N).Ok Try.prog := ⟨U_ok, GamOk.cons (slices_Index_int_int.ok N) (GamOk.nil), GamYOk.nil⟩
def slices_Contains_int_int.code : Code := Try.f38.body.getD .skip
def slices_Contains_int_int.outs : Sh := (.cons (.val .bool) .nil)
def slices_Contains_int_int.run (N : Nat) (s : (List Int)) (v : Int) : Option (Bool × Unit) :=
  obind (slices_Index_int_int.run N s v) fun (n_, _) =>
    some (decide (n_ ≥ (0 : Int)), ())
def slices_Contains_int_int.fn (N : Nat) (x : Sh.den slices_Contains_int_int.ins) : Option (Sh.den slices_Contains_int_int.outs) := slices_Contains_int_int.run N x.1 x.2.1
def slices_Contains_int_int.S (N : Nat) : Fs := ⟨slices_Contains_int_int.ins, slices_Contains_int_int.outs, slices_Contains_int_int.fn N⟩
def slices_Contains_int_int.lam (N : Nat) : Pcs := pcs []
theorem slices_Contains_int_int.pok (N : Nat) : (slices_Contains_int_int.lam N).Ok Try.prog (slices_Contains_int_int.C N) slices_Contains_int_int.code := pcsOk_nil
theorem slices_Contains_int_int.ev (N : Nat) (x : Sh.den slices_Contains_int_int.ins) : evC (slices_Contains_int_int.C N) slices_Contains_int_int.code (slices_Contains_int_int.lam N) ⟨envOf 0 (bld (fun k => k) slices_Contains_int_int.ins x 0).1, (bld (fun k => k) slices_Contains_int_int.ins x 0).2.1, 1000⟩ (endF U slices_Contains_int_int.outs Try.f38.results.toList []) = slices_Contains_int_int.fn N x := by kernel_rfl
theorem slices_Contains_int_int.ok (N : Nat) : (slices_Contains_int_int.S N).con.Ok Try.prog 38 := fn_ok (F := slices_Contains_int_int.S N) (n0 := 1000) Try.func38 (by kernel_rfl) (show Try.f38.body = some slices_Contains_int_int.code by rfl) mix (slices_Contains_int_int.cok N) (fun _ => rfl) (fun _ => rfl) (slices_Contains_int_int.pok N) (fun x y h => (slices_Contains_int_int.ev N x).trans h)
/-- hayloft/catalog.unlike -/
def catalog_unlike.ins : Sh := (.cons (.val (.slice (.int .i64))) (.cons (.val (.int .i64)) .nil))
def catalog_unlike.C (N : Nat) : Ctx := ⟨U, 29, fun _ => true, gam [(38, (slices_Contains_int_int.S N).con)], gamY []⟩
theorem catalog_unlike.cok (N : Nat) : (catalog_unlike.C N).Ok Try.prog := ⟨U_ok, GamOk.cons (slices_Contains_int_int.ok N) (GamOk.nil), GamYOk.nil⟩
def catalog_unlike.code : Code := Try.f54.body.getD .skip
def catalog_unlike_0.ins : Sh := (.cons (.val (.slice (.int .i64))) (.cons (.val (.int .i64)) (.cons (.val (.slice (.int .i64))) (.cons (.val (.int .i64)) (.cons (.val (.int .i64)) .nil)))))
def catalog_unlike_0.ts : List Tmp := [0, 1, 7, 8, 9]
def catalog_unlike_0.asg : List Tmp := [4, 5, 6, 9, 10, 11, 12, 13, 14, 15, 16, 17, 18, 19, 20, 21, 22, 23, 24, 25, 26, 27, 28]
def catalog_unlike_0.C (N : Nat) : Ctx := { catalog_unlike.C N with may := fun t => catalog_unlike_0.asg.any (Nat.beq t) }
def catalog_unlike_0.code : Code := loopBody (sub catalog_unlike.code [true, false, true, false])
theorem catalog_unlike_0.cok (N : Nat) : (catalog_unlike_0.C N).Ok Try.prog := ⟨(catalog_unlike.cok N).U, (catalog_unlike.cok N).Γ, (catalog_unlike.cok N).Y⟩
def catalog_unlike_0.alts : List Alt := [⟨.ret, [4], (.cons (.val .bool) .nil)⟩, ⟨(.exit 0), [], .nil⟩]
def catalog_unlike_0.go (N : Nat) : Nat → (List Int) → Int → (List Int) → Int → Int → Option ((Bool × Unit) ⊕ Unit)
  | 0, _, _, _, _, _ => none
  | fuel + 1, l, many, t7, t8, t9 =>
    bif decide (t9 < t8) then
      bif inB t9 t7.length then
        bif decide ((t7.getD t9.toNat (0 : Int)) < (0 : Int)) then
          some (.inl (false, ()))
        else
          bif decide ((t7.getD t9.toNat (0 : Int)) ≥ many) then
            some (.inl (false, ()))
          else
            bif okB (0 : Int) t9 l.length then
              obind (slices_Contains_int_int.run N (l.take t9.toNat) (t7.getD t9.toNat (0 : Int))) fun (b, _) =>
                bif b then
                  some (.inl (false, ()))
                else catalog_unlike_0.go N fuel l many t7 t8 (IntKind.i64.wrap (t9 + (1 : Int)))
            else none
      else none
    else some (.inr ())
def catalog_unlike_0.g (N n : Nat) (x : Sh.den catalog_unlike_0.ins) : Option (altsDen catalog_unlike_0.alts) := catalog_unlike_0.go N n x.1 x.2.1 x.2.2.1 x.2.2.2.1 x.2.2.2.2.1
def catalog_unlike_0.P (N : Nat) : Ps := ⟨catalog_unlike_0.ts, catalog_unlike_0.ins, catalog_unlike_0.asg, catalog_unlike_0.alts, catalog_unlike_0.g N N⟩
def catalog_unlike_0.lam (N : Nat) : Pcs := pcs []
theorem catalog_unlike_0.pok (N : Nat) : (catalog_unlike_0.lam N).Ok Try.prog (catalog_unlike_0.C N) catalog_unlike_0.code := pcsOk_nil
theorem catalog_unlike_0.ev (N n : Nat) (x : Sh.den catalog_unlike_0.ins) : evC (catalog_unlike_0.C N) catalog_unlike_0.code (catalog_unlike_0.lam N) ((catalog_unlike_0.P N).canon 1000 x) (loopK (catalog_unlike_0.P N) (catalog_unlike_0.g N n)) = catalog_unlike_0.g N (n + 1) x := by kernel_rfl
theorem catalog_unlike_0.ok (N : Nat) : ((catalog_unlike_0.P N).pc (catalog_unlike.C N)).Ok Try.prog (catalog_unlike.C N) (.loop catalog_unlike_0.code) := loop_ok (F := catalog_unlike_0.P N) (n0 := 1000) (N := N) (catalog_unlike.cok N) mix (catalog_unlike_0.pok N) (catalog_unlike_0.g N) (fun x => by rfl) rfl (fun n x y h => (catalog_unlike_0.ev N n x).trans h)
def catalog_unlike.outs : Sh := (.cons (.val .bool) .nil)
def catalog_unlike.run (N : Nat) (l : (List Int)) (many : Int) : Option (Bool × Unit) :=
  obind (catalog_unlike_0.go N N l many l (l.length : Int) (0 : Int)) fun y => match y with
  | .inl (t4, _) =>
      some (t4, ())
  | .inr (_) =>
      some (true, ())
def catalog_unlike.fn (N : Nat) (x : Sh.den catalog_unlike.ins) : Option (Sh.den catalog_unlike.outs) := catalog_unlike.run N x.1 x.2.1
def catalog_unlike.S (N : Nat) : Fs := ⟨catalog_unlike.ins, catalog_unlike.outs, catalog_unlike.fn N⟩
def catalog_unlike.lam (N : Nat) : Pcs := pcs [([true, false, true, false], (catalog_unlike_0.P N).pc (catalog_unlike.C N))]
theorem catalog_unlike.pok (N : Nat) : (catalog_unlike.lam N).Ok Try.prog (catalog_unlike.C N) catalog_unlike.code := pcsOk_cons (c1 := .loop catalog_unlike_0.code) (by kernel_rfl) (catalog_unlike_0.ok N) (pcsOk_nil)
theorem catalog_unlike.ev (N : Nat) (x : Sh.den catalog_unlike.ins) : evC (catalog_unlike.C N) catalog_unlike.code (catalog_unlike.lam N) ⟨envOf 0 (bld (fun k => k) catalog_unlike.ins x 0).1, (bld (fun k => k) catalog_unlike.ins x 0).2.1, 1000⟩ (endF U catalog_unlike.outs Try.f54.results.toList []) = catalog_unlike.fn N x := by kernel_rfl
theorem catalog_unlike.ok (N : Nat) : (catalog_unlike.S N).con.Ok Try.prog 54 := fn_ok (F := catalog_unlike.S N) (n0 := 1000) Try.func54 (by kernel_rfl) (show Try.f54.body = some catalog_unlike.code by rfl) mix (catalog_unlike.cok N) (fun _ => rfl) (fun _ => rfl) (catalog_unlike.pok N) (fun x y h => (catalog_unlike.ev N x).trans h)
/-- hayloft/catalog.projection$1 -/
def catalog_projection_f1.ins : Sh := (.cons (.val (.int .i64)) (.cons (.rbox 66 (.cons (.val .str) (.cons (.val (.int .i64)) (.cons (.val (.slice (.int .i64))) (.cons (.val (.slice (.int .i64))) (.cons (.val (.int .i64)) (.cons (.val (.int .i64)) .nil))))))) .nil))
def catalog_projection_f1.C (N : Nat) : Ctx := ⟨U, 8, fun _ => true, gam [(38, (slices_Contains_int_int.S N).con)], gamY []⟩
theorem catalog_projection_f1.cok (N : Nat) : (catalog_projection_f1.C N).Ok Try.prog := ⟨U_ok, GamOk.cons (slices_Contains_int_int.ok N) (GamOk.nil), GamYOk.nil⟩
def catalog_projection_f1.code : Code := Try.f53.body.getD .skip
def catalog_projection_f1.outs : Sh := (.cons (.val .bool) .nil)
def catalog_projection_f1.run (N : Nat) (n_ : Int) (name : (List UInt8)) (table : Int) (columns : (List Int)) (sort : (List Int)) (by_ : Int) (shift : Int) : Option (Bool × Unit) :=
  obind (slices_Contains_int_int.run N columns n_) fun (b, _) =>
    some (b, ())
def catalog_projection_f1.fn (N : Nat) (x : Sh.den catalog_projection_f1.ins) : Option (Sh.den catalog_projection_f1.outs) := catalog_projection_f1.run N x.1 x.2.1.1 x.2.1.2.1 x.2.1.2.2.1 x.2.1.2.2.2.1 x.2.1.2.2.2.2.1 x.2.1.2.2.2.2.2.1
def catalog_projection_f1.S (N : Nat) : Fs := ⟨catalog_projection_f1.ins, catalog_projection_f1.outs, catalog_projection_f1.fn N⟩
def catalog_projection_f1.lam (N : Nat) : Pcs := pcs []
theorem catalog_projection_f1.pok (N : Nat) : (catalog_projection_f1.lam N).Ok Try.prog (catalog_projection_f1.C N) catalog_projection_f1.code := pcsOk_nil
theorem catalog_projection_f1.ev (N : Nat) (x : Sh.den catalog_projection_f1.ins) : evC (catalog_projection_f1.C N) catalog_projection_f1.code (catalog_projection_f1.lam N) ⟨envOf 0 (bld (fun k => k) catalog_projection_f1.ins x 0).1, (bld (fun k => k) catalog_projection_f1.ins x 0).2.1, 1000⟩ (endF U catalog_projection_f1.outs Try.f53.results.toList []) = catalog_projection_f1.fn N x := by kernel_rfl
theorem catalog_projection_f1.ok (N : Nat) : (catalog_projection_f1.S N).con.Ok Try.prog 53 := fn_ok (F := catalog_projection_f1.S N) (n0 := 1000) Try.func53 (by kernel_rfl) (show Try.f53.body = some catalog_projection_f1.code by rfl) mix (catalog_projection_f1.cok N) (fun _ => rfl) (fun _ => rfl) (catalog_projection_f1.pok N) (fun x y h => (catalog_projection_f1.ev N x).trans h)
/-- hayloft/catalog.projection$2 -/
def catalog_projection_f2.ins : Sh := (.cons (.val (.int .i64)) (.cons (.rbox 91 (.cons (.fn 53 (.cons (.rbox 66 (.cons (.val .str) (.cons (.val (.int .i64)) (.cons (.val (.slice (.int .i64))) (.cons (.val (.slice (.int .i64))) (.cons (.val (.int .i64)) (.cons (.val (.int .i64)) .nil))))))) .nil)) .nil)) .nil))
def catalog_projection_f2.C (N : Nat) : Ctx := ⟨U, 8, fun _ => true, gam [(53, (catalog_projection_f1.S N).con)], gamY []⟩
theorem catalog_projection_f2.cok (N : Nat) : (catalog_projection_f2.C N).Ok Try.prog := ⟨U_ok, GamOk.cons (catalog_projection_f1.ok N) (GamOk.nil), GamYOk.nil⟩
def catalog_projection_f2.code : Code := Try.f55.body.getD .skip
def catalog_projection_f2.outs : Sh := (.cons (.val .bool) .nil)
def catalog_projection_f2.run (N : Nat) (n_ : Int) (name : (List UInt8)) (table : Int) (columns : (List Int)) (sort : (List Int)) (by_ : Int) (shift : Int) : Option (Bool × Unit) :=
  obind (catalog_projection_f1.run N n_ name table columns sort by_ shift) fun (b, _) =>
    some (!b, ())
def catalog_projection_f2.fn (N : Nat) (x : Sh.den catalog_projection_f2.ins) : Option (Sh.den catalog_projection_f2.outs) := catalog_projection_f2.run N x.1 x.2.1.1.1.1 x.2.1.1.1.2.1 x.2.1.1.1.2.2.1 x.2.1.1.1.2.2.2.1 x.2.1.1.1.2.2.2.2.1 x.2.1.1.1.2.2.2.2.2.1
def catalog_projection_f2.S (N : Nat) : Fs := ⟨catalog_projection_f2.ins, catalog_projection_f2.outs, catalog_projection_f2.fn N⟩
def catalog_projection_f2.lam (N : Nat) : Pcs := pcs []
theorem catalog_projection_f2.pok (N : Nat) : (catalog_projection_f2.lam N).Ok Try.prog (catalog_projection_f2.C N) catalog_projection_f2.code := pcsOk_nil
theorem catalog_projection_f2.ev (N : Nat) (x : Sh.den catalog_projection_f2.ins) : evC (catalog_projection_f2.C N) catalog_projection_f2.code (catalog_projection_f2.lam N) ⟨envOf 0 (bld (fun k => k) catalog_projection_f2.ins x 0).1, (bld (fun k => k) catalog_projection_f2.ins x 0).2.1, 1000⟩ (endF U catalog_projection_f2.outs Try.f55.results.toList []) = catalog_projection_f2.fn N x := by kernel_rfl
theorem catalog_projection_f2.ok (N : Nat) : (catalog_projection_f2.S N).con.Ok Try.prog 55 := fn_ok (F := catalog_projection_f2.S N) (n0 := 1000) Try.func55 (by kernel_rfl) (show Try.f55.body = some catalog_projection_f2.code by rfl) mix (catalog_projection_f2.cok N) (fun _ => rfl) (fun _ => rfl) (catalog_projection_f2.pok N) (fun x y h => (catalog_projection_f2.ev N x).trans h)
/-- slices.IndexFunc[[]int,int] -/
def slices_IndexFunc_int_int.ins : Sh := (.cons (.val (.slice (.int .i64))) (.cons (.fn 55 (.cons (.rbox 91 (.cons (.fn 53 (.cons (.rbox 66 (.cons (.val .str) (.cons (.val (.int .i64)) (.cons (.val (.slice (.int .i64))) (.cons (.val (.slice (.int .i64))) (.cons (.val (.int .i64)) (.cons (.val (.int .i64)) .nil))))))) .nil)) .nil)) .nil)) .nil))
def slices_IndexFunc_int_int.C (N : Nat) : Ctx := ⟨U, 19, fun _ => true, gam [(55, (catalog_projection_f2.S N).con)], gamY []⟩
theorem slices_IndexFunc_int_int.cok (N : Nat) : (slices_IndexFunc_int_int.C N).Ok Try.prog := ⟨U_ok, GamOk.cons (catalog_projection_f2.ok N) (GamOk.nil), GamYOk.nil⟩
def slices_IndexFunc_int_int.code : Code := Try.f64.body.getD .skip
def slices_IndexFunc_int_int_0.ins : Sh := (.cons (.val (.slice (.int .i64))) (.cons (.fn 55 (.cons (.rbox 91 (.cons (.fn 53 (.cons (.rbox 66 (.cons (.val .str) (.cons (.val (.int .i64)) (.cons (.val (.slice (.int .i64))) (.cons (.val (.slice (.int .i64))) (.cons (.val (.int .i64)) (.cons (.val (.int .i64)) .nil))))))) .nil)) .nil)) .nil)) (.cons (.val (.int .i64)) (.cons (.val (.int .i64)) .nil))))
def slices_IndexFunc_int_int_0.ts : List Tmp := [0, 1, 7, 8]
def slices_IndexFunc_int_int_0.asg : List Tmp := [4, 5, 8, 9, 10, 11, 12, 13, 14, 15, 16, 17, 18]
def slices_IndexFunc_int_int_0.C (N : Nat) : Ctx := { slices_IndexFunc_int_int.C N with may := fun t => slices_IndexFunc_int_int_0.asg.any (Nat.beq t) }
def slices_IndexFunc_int_int_0.code : Code := loopBody (sub slices_IndexFunc_int_int.code [true, false, true, false])
theorem slices_IndexFunc_int_int_0.cok (N : Nat) : (slices_IndexFunc_int_int_0.C N).Ok Try.prog := ⟨(slices_IndexFunc_int_int.cok N).U, (slices_IndexFunc_int_int.cok N).Γ, (slices_IndexFunc_int_int.cok N).Y⟩
def slices_IndexFunc_int_int_0.alts : List Alt := [⟨.ret, [4], (.cons (.val (.int .i64)) .nil)⟩, ⟨(.exit 0), [], .nil⟩]
def slices_IndexFunc_int_int_0.go (N : Nat) : Nat → (List Int) → (List UInt8) → Int → (List Int) → (List Int) → Int → Int → Int → Int → Option ((Int × Unit) ⊕ Unit)
  | 0, _, _, _, _, _, _, _, _, _ => none
  | fuel + 1, s, name, table, columns, sort, by_, shift, t7, t8 =>
    bif decide (t8 < t7) then
      bif inB t8 s.length then
        obind (catalog_projection_f2.run N (s.getD t8.toNat (0 : Int)) name table columns sort by_ shift) fun (b, _) =>
          bif b then
            some (.inl (t8, ()))
          else slices_IndexFunc_int_int_0.go N fuel s name table columns sort by_ shift t7 (IntKind.i64.wrap (t8 + (1 : Int)))
      else none
    else some (.inr ())
def slices_IndexFunc_int_int_0.g (N n : Nat) (x : Sh.den slices_IndexFunc_int_int_0.ins) : Option (altsDen slices_IndexFunc_int_int_0.alts) := slices_IndexFunc_int_int_0.go N n x.1 x.2.1.1.1.1.1 x.2.1.1.1.1.2.1 x.2.1.1.1.1.2.2.1 x.2.1.1.1.1.2.2.2.1 x.2.1.1.1.1.2.2.2.2.1 x.2.1.1.1.1.2.2.2.2.2.1 x.2.2.1 x.2.2.2.1
def slices_IndexFunc_int_int_0.P (N : Nat) : Ps := ⟨slices_IndexFunc_int_int_0.ts, slices_IndexFunc_int_int_0.ins, slices_IndexFunc_int_int_0.asg, slices_IndexFunc_int_int_0.alts, slices_IndexFunc_int_int_0.g N N⟩
def slices_IndexFunc_int_int_0.lam (N : Nat) : Pcs := pcs []
theorem slices_IndexFunc_int_int_0.pok (N : Nat) : (slices_IndexFunc_int_int_0.lam N).Ok Try.prog (slices_IndexFunc_int_int_0.C N) slices_IndexFunc_int_int_0.code := pcsOk_nil
theorem slices_IndexFunc_int_int_0.ev (N n : Nat) (x : Sh.den slices_IndexFunc_int_int_0.ins) : evC (slices_IndexFunc_int_int_0.C N) slices_IndexFunc_int_int_0.code (slices_IndexFunc_int_int_0.lam N) ((slices_IndexFunc_int_int_0.P N).canon 1000 x) (loopK (slices_IndexFunc_int_int_0.P N) (slices_IndexFunc_int_int_0.g N n)) = slices_IndexFunc_int_int_0.g N (n + 1) x := by kernel_rfl
theorem slices_IndexFunc_int_int_0.ok (N : Nat) : ((slices_IndexFunc_int_int_0.P N).pc (slices_IndexFunc_int_int.C N)).Ok Try.prog (slices_IndexFunc_int_int.C N) (.loop slices_IndexFunc_int_int_0.code) := loop_ok (F := slices_IndexFunc_int_int_0.P N) (n0 := 1000) (N := N) (slices_IndexFunc_int_int.cok N) mix (slices_IndexFunc_int_int_0.pok N) (slices_IndexFunc_int_int_0.g N) (fun x => by rfl) rfl (fun n x y h => (slices_IndexFunc_int_int_0.ev N n x).trans h)
def slices_IndexFunc_int_int.outs : Sh := (.cons (.val (.int .i64)) .nil)
def slices_IndexFunc_int_int.run (N : Nat) (s : (List Int)) (name : (List UInt8)) (table : Int) (columns : (List Int)) (sort : (List Int)) (by_ : Int) (shift : Int) : Option (Int × Unit) :=
  obind (slices_IndexFunc_int_int_0.go N N s name table columns sort by_ shift (s.length : Int) (0 : Int)) fun y => match y with
  | .inl (t4, _) =>
      some (t4, ())
  | .inr (_) =>
      some ((-1 : Int), ())
def slices_IndexFunc_int_int.fn (N : Nat) (x : Sh.den slices_IndexFunc_int_int.ins) : Option (Sh.den slices_IndexFunc_int_int.outs) := slices_IndexFunc_int_int.run N x.1 x.2.1.1.1.1.1 x.2.1.1.1.1.2.1 x.2.1.1.1.1.2.2.1 x.2.1.1.1.1.2.2.2.1 x.2.1.1.1.1.2.2.2.2.1 x.2.1.1.1.1.2.2.2.2.2.1
def slices_IndexFunc_int_int.S (N : Nat) : Fs := ⟨slices_IndexFunc_int_int.ins, slices_IndexFunc_int_int.outs, slices_IndexFunc_int_int.fn N⟩
def slices_IndexFunc_int_int.lam (N : Nat) : Pcs := pcs [([true, false, true, false], (slices_IndexFunc_int_int_0.P N).pc (slices_IndexFunc_int_int.C N))]
theorem slices_IndexFunc_int_int.pok (N : Nat) : (slices_IndexFunc_int_int.lam N).Ok Try.prog (slices_IndexFunc_int_int.C N) slices_IndexFunc_int_int.code := pcsOk_cons (c1 := .loop slices_IndexFunc_int_int_0.code) (by kernel_rfl) (slices_IndexFunc_int_int_0.ok N) (pcsOk_nil)
theorem slices_IndexFunc_int_int.ev (N : Nat) (x : Sh.den slices_IndexFunc_int_int.ins) : evC (slices_IndexFunc_int_int.C N) slices_IndexFunc_int_int.code (slices_IndexFunc_int_int.lam N) ⟨envOf 0 (bld (fun k => k) slices_IndexFunc_int_int.ins x 0).1, (bld (fun k => k) slices_IndexFunc_int_int.ins x 0).2.1, 1000⟩ (endF U slices_IndexFunc_int_int.outs Try.f64.results.toList []) = slices_IndexFunc_int_int.fn N x := by kernel_rfl
theorem slices_IndexFunc_int_int.ok (N : Nat) : (slices_IndexFunc_int_int.S N).con.Ok Try.prog 64 := fn_ok (F := slices_IndexFunc_int_int.S N) (n0 := 1000) Try.func64 (by kernel_rfl) (show Try.f64.body = some slices_IndexFunc_int_int.code by rfl) mix (slices_IndexFunc_int_int.cok N) (fun _ => rfl) (fun _ => rfl) (slices_IndexFunc_int_int.pok N) (fun x y h => (slices_IndexFunc_int_int.ev N x).trans h)
/-- slices.ContainsFunc[[]int,int] -/
def slices_ContainsFunc_int_int.ins : Sh := (.cons (.val (.slice (.int .i64))) (.cons (.fn 55 (.cons (.rbox 91 (.cons (.fn 53 (.cons (.rbox 66 (.cons (.val .str) (.cons (.val (.int .i64)) (.cons (.val (.slice (.int .i64))) (.cons (.val (.slice (.int .i64))) (.cons (.val (.int .i64)) (.cons (.val (.int .i64)) .nil))))))) .nil)) .nil)) .nil)) .nil))
def slices_ContainsFunc_int_int.C (N : Nat) : Ctx := ⟨U, 9, fun _ => true, gam [(64, (slices_IndexFunc_int_int.S N).con)], gamY []⟩
theorem slices_ContainsFunc_int_int.cok (N : Nat) : (slices_ContainsFunc_int_int.C N).Ok Try.prog := ⟨U_ok, GamOk.cons (slices_IndexFunc_int_int.ok N) (GamOk.nil), GamYOk.nil⟩
def slices_ContainsFunc_int_int.code : Code := Try.f39.body.getD .skip
def slices_ContainsFunc_int_int.outs : Sh := (.cons (.val .bool) .nil)
def slices_ContainsFunc_int_int.run (N : Nat) (s : (List Int)) (name : (List UInt8)) (table : Int) (columns : (List Int)) (sort : (List Int)) (by_ : Int) (shift : Int) : Option (Bool × Unit) :=
  obind (slices_IndexFunc_int_int.run N s name table columns sort by_ shift) fun (n_, _) =>
    some (decide (n_ ≥ (0 : Int)), ())
def slices_ContainsFunc_int_int.fn (N : Nat) (x : Sh.den slices_ContainsFunc_int_int.ins) : Option (Sh.den slices_ContainsFunc_int_int.outs) := slices_ContainsFunc_int_int.run N x.1 x.2.1.1.1.1.1 x.2.1.1.1.1.2.1 x.2.1.1.1.1.2.2.1 x.2.1.1.1.1.2.2.2.1 x.2.1.1.1.1.2.2.2.2.1 x.2.1.1.1.1.2.2.2.2.2.1
def slices_ContainsFunc_int_int.S (N : Nat) : Fs := ⟨slices_ContainsFunc_int_int.ins, slices_ContainsFunc_int_int.outs, slices_ContainsFunc_int_int.fn N⟩
def slices_ContainsFunc_int_int.lam (N : Nat) : Pcs := pcs []
theorem slices_ContainsFunc_int_int.pok (N : Nat) : (slices_ContainsFunc_int_int.lam N).Ok Try.prog (slices_ContainsFunc_int_int.C N) slices_ContainsFunc_int_int.code := pcsOk_nil
theorem slices_ContainsFunc_int_int.ev (N : Nat) (x : Sh.den slices_ContainsFunc_int_int.ins) : evC (slices_ContainsFunc_int_int.C N) slices_ContainsFunc_int_int.code (slices_ContainsFunc_int_int.lam N) ⟨envOf 0 (bld (fun k => k) slices_ContainsFunc_int_int.ins x 0).1, (bld (fun k => k) slices_ContainsFunc_int_int.ins x 0).2.1, 1000⟩ (endF U slices_ContainsFunc_int_int.outs Try.f39.results.toList []) = slices_ContainsFunc_int_int.fn N x := by kernel_rfl
theorem slices_ContainsFunc_int_int.ok (N : Nat) : (slices_ContainsFunc_int_int.S N).con.Ok Try.prog 39 := fn_ok (F := slices_ContainsFunc_int_int.S N) (n0 := 1000) Try.func39 (by kernel_rfl) (show Try.f39.body = some slices_ContainsFunc_int_int.code by rfl) mix (slices_ContainsFunc_int_int.cok N) (fun _ => rfl) (fun _ => rfl) (slices_ContainsFunc_int_int.pok N) (fun x y h => (slices_ContainsFunc_int_int.ev N x).trans h)
/-- hayloft/catalog.projection -/
def catalog_projection.ins : Sh := (.cons (.val (.pair (.int .i64) (.pair (.int .i64) (.pair (.int .i64) (.pair (.slice (.pair .str (.slice (.pair .str (.pair (.int .i64) .bool))))) (.slice (.pair .str (.pair (.int .i64) (.pair (.slice (.int .i64)) (.pair (.slice (.int .i64)) (.pair (.int .i64) (.int .i64)))))))))))) (.cons (.val (.pair .str (.pair (.int .i64) (.pair (.slice (.int .i64)) (.pair (.slice (.int .i64)) (.pair (.int .i64) (.int .i64))))))) .nil))
def catalog_projection.C (N : Nat) : Ctx := ⟨U, 75, fun _ => true, gam [(52, (catalog_named.S N).con), (54, (catalog_unlike.S N).con), (53, (catalog_projection_f1.S N).con), (39, (slices_ContainsFunc_int_int.S N).con)], gamY []⟩
theorem catalog_projection.cok (N : Nat) : (catalog_projection.C N).Ok Try.prog := ⟨U_ok, GamOk.cons (catalog_named.ok N) (GamOk.cons (catalog_unlike.ok N) (GamOk.cons (catalog_projection_f1.ok N) (GamOk.cons (slices_ContainsFunc_int_int.ok N) (GamOk.nil)))), GamYOk.nil⟩
def catalog_projection.code : Code := Try.f30.body.getD .skip
def catalog_projection.outs : Sh := (.cons (.val .bool) .nil)
def catalog_projection.run (N : Nat) (c : (Int × (Int × (Int × ((List ((List UInt8) × (List ((List UInt8) × (Int × Bool))))) × (List ((List UInt8) × (Int × ((List Int) × ((List Int) × (Int × Int))))))))))) (p : ((List UInt8) × (Int × ((List Int) × ((List Int) × (Int × Int)))))) : Option (Bool × Unit) :=
  obind (catalog_named.run N p.1) fun (b, _) =>
    bif !b then
      some (false, ())
    else
      bif decide (p.2.1 < (0 : Int)) then
        some (false, ())
      else
        bif decide (p.2.1 ≥ (c.2.2.2.1.length : Int)) then
          some (false, ())
        else
          bif decide ((p.2.2.1.length : Int) = (0 : Int)) then
            some (false, ())
          else
            bif decide (p.2.2.2.2.2 < (0 : Int)) then
              some (false, ())
            else
              bif decide (p.2.2.2.2.2 ≥ c.1) then
                some (false, ())
              else
                bif inB p.2.1 c.2.2.2.1.length then
                  obind (catalog_unlike.run N p.2.2.1 ((c.2.2.2.1.getD p.2.1.toNat (([] : List UInt8), ([] : List ((List UInt8) × (Int × Bool))))).2.length : Int)) fun (b1, _) =>
                    bif !b1 then
                      some (false, ())
                    else
                      obind (catalog_unlike.run N p.2.2.2.1 ((c.2.2.2.1.getD p.2.1.toNat (([] : List UInt8), ([] : List ((List UInt8) × (Int × Bool))))).2.length : Int)) fun (b2, _) =>
                        bif !b2 then
                          some (false, ())
                        else
                          obind (catalog_projection_f1.run N p.2.2.2.2.1 p.1 p.2.1 p.2.2.1 p.2.2.2.1 p.2.2.2.2.1 p.2.2.2.2.2) fun (b3, _) =>
                            bif !b3 then
                              some (false, ())
                            else
                              obind (slices_ContainsFunc_int_int.run N p.2.2.2.1 p.1 p.2.1 p.2.2.1 p.2.2.2.1 p.2.2.2.2.1 p.2.2.2.2.2) fun (b4, _) =>
                                some (!b4, ())
                else none
def catalog_projection.fn (N : Nat) (x : Sh.den catalog_projection.ins) : Option (Sh.den catalog_projection.outs) := catalog_projection.run N x.1 x.2.1
def catalog_projection.S (N : Nat) : Fs := ⟨catalog_projection.ins, catalog_projection.outs, catalog_projection.fn N⟩
def catalog_projection.lam (N : Nat) : Pcs := pcs []
theorem catalog_projection.pok (N : Nat) : (catalog_projection.lam N).Ok Try.prog (catalog_projection.C N) catalog_projection.code := pcsOk_nil
theorem catalog_projection.ev (N : Nat) (x : Sh.den catalog_projection.ins) : evC (catalog_projection.C N) catalog_projection.code (catalog_projection.lam N) ⟨envOf 0 (bld (fun k => k) catalog_projection.ins x 0).1, (bld (fun k => k) catalog_projection.ins x 0).2.1, 1000⟩ (endF U catalog_projection.outs Try.f30.results.toList []) = catalog_projection.fn N x := by kernel_rfl
theorem catalog_projection.ok (N : Nat) : (catalog_projection.S N).con.Ok Try.prog 30 := fn_ok (F := catalog_projection.S N) (n0 := 1000) Try.func30 (by kernel_rfl) (show Try.f30.body = some catalog_projection.code by rfl) mix (catalog_projection.cok N) (fun _ => rfl) (fun _ => rfl) (catalog_projection.pok N) (fun x y h => (catalog_projection.ev N x).trans h)
/-- hayloft/catalog.Check$2 -/
def catalog_Check_f2.ins : Sh := (.cons (.val (.pair .str (.pair (.int .i64) (.pair (.slice (.int .i64)) (.pair (.slice (.int .i64)) (.pair (.int .i64) (.int .i64))))))) (.cons (.rbox 66 (.cons (.val .str) (.cons (.val (.int .i64)) (.cons (.val (.slice (.int .i64))) (.cons (.val (.slice (.int .i64))) (.cons (.val (.int .i64)) (.cons (.val (.int .i64)) .nil))))))) .nil))
def catalog_Check_f2.C (N : Nat) : Ctx := ⟨U, 9, fun _ => true, gam [], gamY []⟩
theorem catalog_Check_f2.cok (N : Nat) : (catalog_Check_f2.C N).Ok Try.prog := ⟨U_ok, GamOk.nil, GamYOk.nil⟩
def catalog_Check_f2.code : Code := Try.f32.body.getD .skip
def catalog_Check_f2.outs : Sh := (.cons (.val .bool) .nil)
def catalog_Check_f2.run (N : Nat) (x : ((List UInt8) × (Int × ((List Int) × ((List Int) × (Int × Int)))))) (name : (List UInt8)) (table : Int) (columns : (List Int)) (sort : (List Int)) (by_ : Int) (shift : Int) : Option (Bool × Unit) :=
  some (decide (x.1 = name), ())
def catalog_Check_f2.fn (N : Nat) (x : Sh.den catalog_Check_f2.ins) : Option (Sh.den catalog_Check_f2.outs) := catalog_Check_f2.run N x.1 x.2.1.1 x.2.1.2.1 x.2.1.2.2.1 x.2.1.2.2.2.1 x.2.1.2.2.2.2.1 x.2.1.2.2.2.2.2.1
def catalog_Check_f2.S (N : Nat) : Fs := ⟨catalog_Check_f2.ins, catalog_Check_f2.outs, catalog_Check_f2.fn N⟩
def catalog_Check_f2.lam (N : Nat) : Pcs := pcs []
theorem catalog_Check_f2.pok (N : Nat) : (catalog_Check_f2.lam N).Ok Try.prog (catalog_Check_f2.C N) catalog_Check_f2.code := pcsOk_nil
theorem catalog_Check_f2.ev (N : Nat) (x : Sh.den catalog_Check_f2.ins) : evC (catalog_Check_f2.C N) catalog_Check_f2.code (catalog_Check_f2.lam N) ⟨envOf 0 (bld (fun k => k) catalog_Check_f2.ins x 0).1, (bld (fun k => k) catalog_Check_f2.ins x 0).2.1, 1000⟩ (endF U catalog_Check_f2.outs Try.f32.results.toList []) = catalog_Check_f2.fn N x := by kernel_rfl
theorem catalog_Check_f2.ok (N : Nat) : (catalog_Check_f2.S N).con.Ok Try.prog 32 := fn_ok (F := catalog_Check_f2.S N) (n0 := 1000) Try.func32 (by kernel_rfl) (show Try.f32.body = some catalog_Check_f2.code by rfl) mix (catalog_Check_f2.cok N) (fun _ => rfl) (fun _ => rfl) (catalog_Check_f2.pok N) (fun x y h => (catalog_Check_f2.ev N x).trans h)
/-- slices.IndexFunc[[]hayloft/api.Projection,hayloft/api.Projection] -/
def slices_IndexFunc_api_Projection_api_Projection.ins : Sh := (.cons (.val (.slice (.pair .str (.pair (.int .i64) (.pair (.slice (.int .i64)) (.pair (.slice (.int .i64)) (.pair (.int .i64) (.int .i64)))))))) (.cons (.fn 32 (.cons (.rbox 66 (.cons (.val .str) (.cons (.val (.int .i64)) (.cons (.val (.slice (.int .i64))) (.cons (.val (.slice (.int .i64))) (.cons (.val (.int .i64)) (.cons (.val (.int .i64)) .nil))))))) .nil)) .nil))
def slices_IndexFunc_api_Projection_api_Projection.C (N : Nat) : Ctx := ⟨U, 19, fun _ => true, gam [(32, (catalog_Check_f2.S N).con)], gamY []⟩
theorem slices_IndexFunc_api_Projection_api_Projection.cok (N : Nat) : (slices_IndexFunc_api_Projection_api_Projection.C N).Ok Try.prog := ⟨U_ok, GamOk.cons (catalog_Check_f2.ok N) (GamOk.nil), GamYOk.nil⟩
def slices_IndexFunc_api_Projection_api_Projection.code : Code := Try.f56.body.getD .skip
def slices_IndexFunc_api_Projection_api_Projection_0.ins : Sh := (.cons (.val (.slice (.pair .str (.pair (.int .i64) (.pair (.slice (.int .i64)) (.pair (.slice (.int .i64)) (.pair (.int .i64) (.int .i64)))))))) (.cons (.fn 32 (.cons (.rbox 66 (.cons (.val .str) (.cons (.val (.int .i64)) (.cons (.val (.slice (.int .i64))) (.cons (.val (.slice (.int .i64))) (.cons (.val (.int .i64)) (.cons (.val (.int .i64)) .nil))))))) .nil)) (.cons (.val (.int .i64)) (.cons (.val (.int .i64)) .nil))))
def slices_IndexFunc_api_Projection_api_Projection_0.ts : List Tmp := [0, 1, 7, 8]
def slices_IndexFunc_api_Projection_api_Projection_0.asg : List Tmp := [4, 5, 8, 9, 10, 11, 12, 13, 14, 15, 16, 17, 18]
def slices_IndexFunc_api_Projection_api_Projection_0.C (N : Nat) : Ctx := { slices_IndexFunc_api_Projection_api_Projection.C N with may := fun t => slices_IndexFunc_api_Projection_api_Projection_0.asg.any (Nat.beq t) }
def slices_IndexFunc_api_Projection_api_Projection_0.code : Code := loopBody (sub slices_IndexFunc_api_Projection_api_Projection.code [true, false, true, false])
theorem slices_IndexFunc_api_Projection_api_Projection_0.cok (N : Nat) : (slices_IndexFunc_api_Projection_api_Projection_0.C N).Ok Try.prog := ⟨(slices_IndexFunc_api_Projection_api_Projection.cok N).U, (slices_IndexFunc_api_Projection_api_Projection.cok N).Γ, (slices_IndexFunc_api_Projection_api_Projection.cok N).Y⟩
def slices_IndexFunc_api_Projection_api_Projection_0.alts : List Alt := [⟨.ret, [4], (.cons (.val (.int .i64)) .nil)⟩, ⟨(.exit 0), [], .nil⟩]
def slices_IndexFunc_api_Projection_api_Projection_0.go (N : Nat) : Nat → (List ((List UInt8) × (Int × ((List Int) × ((List Int) × (Int × Int)))))) → (List UInt8) → Int → (List Int) → (List Int) → Int → Int → Int → Int → Option ((Int × Unit) ⊕ Unit)
  | 0, _, _, _, _, _, _, _, _, _ => none
  | fuel + 1, s, name, table, columns, sort, by_, shift, t7, t8 =>
    bif decide (t8 < t7) then
      bif inB t8 s.length then
        obind (catalog_Check_f2.run N (s.getD t8.toNat (([] : List UInt8), (0 : Int), ([] : List Int), ([] : List Int), (0 : Int), (0 : Int))) name table columns sort by_ shift) fun (b, _) =>
          bif b then
            some (.inl (t8, ()))
          else slices_IndexFunc_api_Projection_api_Projection_0.go N fuel s name table columns sort by_ shift t7 (IntKind.i64.wrap (t8 + (1 : Int)))
      else none
    else some (.inr ())
def slices_IndexFunc_api_Projection_api_Projection_0.g (N n : Nat) (x : Sh.den slices_IndexFunc_api_Projection_api_Projection_0.ins) : Option (altsDen slices_IndexFunc_api_Projection_api_Projection_0.alts) := slices_IndexFunc_api_Projection_api_Projection_0.go N n x.1 x.2.1.1.1 x.2.1.1.2.1 x.2.1.1.2.2.1 x.2.1.1.2.2.2.1 x.2.1.1.2.2.2.2.1 x.2.1.1.2.2.2.2.2.1 x.2.2.1 x.2.2.2.1
def slices_IndexFunc_api_Projection_api_Projection_0.P (N : Nat) : Ps := ⟨slices_IndexFunc_api_Projection_api_Projection_0.ts, slices_IndexFunc_api_Projection_api_Projection_0.ins, slices_IndexFunc_api_Projection_api_Projection_0.asg, slices_IndexFunc_api_Projection_api_Projection_0.alts, slices_IndexFunc_api_Projection_api_Projection_0.g N N⟩
def slices_IndexFunc_api_Projection_api_Projection_0.lam (N : Nat) : Pcs := pcs []
theorem slices_IndexFunc_api_Projection_api_Projection_0.pok (N : Nat) : (slices_IndexFunc_api_Projection_api_Projection_0.lam N).Ok Try.prog (slices_IndexFunc_api_Projection_api_Projection_0.C N) slices_IndexFunc_api_Projection_api_Projection_0.code := pcsOk_nil
theorem slices_IndexFunc_api_Projection_api_Projection_0.ev (N n : Nat) (x : Sh.den slices_IndexFunc_api_Projection_api_Projection_0.ins) : evC (slices_IndexFunc_api_Projection_api_Projection_0.C N) slices_IndexFunc_api_Projection_api_Projection_0.code (slices_IndexFunc_api_Projection_api_Projection_0.lam N) ((slices_IndexFunc_api_Projection_api_Projection_0.P N).canon 1000 x) (loopK (slices_IndexFunc_api_Projection_api_Projection_0.P N) (slices_IndexFunc_api_Projection_api_Projection_0.g N n)) = slices_IndexFunc_api_Projection_api_Projection_0.g N (n + 1) x := by kernel_rfl
theorem slices_IndexFunc_api_Projection_api_Projection_0.ok (N : Nat) : ((slices_IndexFunc_api_Projection_api_Projection_0.P N).pc (slices_IndexFunc_api_Projection_api_Projection.C N)).Ok Try.prog (slices_IndexFunc_api_Projection_api_Projection.C N) (.loop slices_IndexFunc_api_Projection_api_Projection_0.code) := loop_ok (F := slices_IndexFunc_api_Projection_api_Projection_0.P N) (n0 := 1000) (N := N) (slices_IndexFunc_api_Projection_api_Projection.cok N) mix (slices_IndexFunc_api_Projection_api_Projection_0.pok N) (slices_IndexFunc_api_Projection_api_Projection_0.g N) (fun x => by rfl) rfl (fun n x y h => (slices_IndexFunc_api_Projection_api_Projection_0.ev N n x).trans h)
def slices_IndexFunc_api_Projection_api_Projection.outs : Sh := (.cons (.val (.int .i64)) .nil)
def slices_IndexFunc_api_Projection_api_Projection.run (N : Nat) (s : (List ((List UInt8) × (Int × ((List Int) × ((List Int) × (Int × Int))))))) (name : (List UInt8)) (table : Int) (columns : (List Int)) (sort : (List Int)) (by_ : Int) (shift : Int) : Option (Int × Unit) :=
  obind (slices_IndexFunc_api_Projection_api_Projection_0.go N N s name table columns sort by_ shift (s.length : Int) (0 : Int)) fun y => match y with
  | .inl (t4, _) =>
      some (t4, ())
  | .inr (_) =>
      some ((-1 : Int), ())
def slices_IndexFunc_api_Projection_api_Projection.fn (N : Nat) (x : Sh.den slices_IndexFunc_api_Projection_api_Projection.ins) : Option (Sh.den slices_IndexFunc_api_Projection_api_Projection.outs) := slices_IndexFunc_api_Projection_api_Projection.run N x.1 x.2.1.1.1 x.2.1.1.2.1 x.2.1.1.2.2.1 x.2.1.1.2.2.2.1 x.2.1.1.2.2.2.2.1 x.2.1.1.2.2.2.2.2.1
def slices_IndexFunc_api_Projection_api_Projection.S (N : Nat) : Fs := ⟨slices_IndexFunc_api_Projection_api_Projection.ins, slices_IndexFunc_api_Projection_api_Projection.outs, slices_IndexFunc_api_Projection_api_Projection.fn N⟩
def slices_IndexFunc_api_Projection_api_Projection.lam (N : Nat) : Pcs := pcs [([true, false, true, false], (slices_IndexFunc_api_Projection_api_Projection_0.P N).pc (slices_IndexFunc_api_Projection_api_Projection.C N))]
theorem slices_IndexFunc_api_Projection_api_Projection.pok (N : Nat) : (slices_IndexFunc_api_Projection_api_Projection.lam N).Ok Try.prog (slices_IndexFunc_api_Projection_api_Projection.C N) slices_IndexFunc_api_Projection_api_Projection.code := pcsOk_cons (c1 := .loop slices_IndexFunc_api_Projection_api_Projection_0.code) (by kernel_rfl) (slices_IndexFunc_api_Projection_api_Projection_0.ok N) (pcsOk_nil)
theorem slices_IndexFunc_api_Projection_api_Projection.ev (N : Nat) (x : Sh.den slices_IndexFunc_api_Projection_api_Projection.ins) : evC (slices_IndexFunc_api_Projection_api_Projection.C N) slices_IndexFunc_api_Projection_api_Projection.code (slices_IndexFunc_api_Projection_api_Projection.lam N) ⟨envOf 0 (bld (fun k => k) slices_IndexFunc_api_Projection_api_Projection.ins x 0).1, (bld (fun k => k) slices_IndexFunc_api_Projection_api_Projection.ins x 0).2.1, 1000⟩ (endF U slices_IndexFunc_api_Projection_api_Projection.outs Try.f56.results.toList []) = slices_IndexFunc_api_Projection_api_Projection.fn N x := by kernel_rfl
theorem slices_IndexFunc_api_Projection_api_Projection.ok (N : Nat) : (slices_IndexFunc_api_Projection_api_Projection.S N).con.Ok Try.prog 56 := fn_ok (F := slices_IndexFunc_api_Projection_api_Projection.S N) (n0 := 1000) Try.func56 (by kernel_rfl) (show Try.f56.body = some slices_IndexFunc_api_Projection_api_Projection.code by rfl) mix (slices_IndexFunc_api_Projection_api_Projection.cok N) (fun _ => rfl) (fun _ => rfl) (slices_IndexFunc_api_Projection_api_Projection.pok N) (fun x y h => (slices_IndexFunc_api_Projection_api_Projection.ev N x).trans h)
/-- slices.ContainsFunc[[]hayloft/api.Projection,hayloft/api.Projection] -/
def slices_ContainsFunc_api_Projection_api_Projection.ins : Sh := (.cons (.val (.slice (.pair .str (.pair (.int .i64) (.pair (.slice (.int .i64)) (.pair (.slice (.int .i64)) (.pair (.int .i64) (.int .i64)))))))) (.cons (.fn 32 (.cons (.rbox 66 (.cons (.val .str) (.cons (.val (.int .i64)) (.cons (.val (.slice (.int .i64))) (.cons (.val (.slice (.int .i64))) (.cons (.val (.int .i64)) (.cons (.val (.int .i64)) .nil))))))) .nil)) .nil))
def slices_ContainsFunc_api_Projection_api_Projection.C (N : Nat) : Ctx := ⟨U, 9, fun _ => true, gam [(56, (slices_IndexFunc_api_Projection_api_Projection.S N).con)], gamY []⟩
theorem slices_ContainsFunc_api_Projection_api_Projection.cok (N : Nat) : (slices_ContainsFunc_api_Projection_api_Projection.C N).Ok Try.prog := ⟨U_ok, GamOk.cons (slices_IndexFunc_api_Projection_api_Projection.ok N) (GamOk.nil), GamYOk.nil⟩
def slices_ContainsFunc_api_Projection_api_Projection.code : Code := Try.f31.body.getD .skip
def slices_ContainsFunc_api_Projection_api_Projection.outs : Sh := (.cons (.val .bool) .nil)
def slices_ContainsFunc_api_Projection_api_Projection.run (N : Nat) (s : (List ((List UInt8) × (Int × ((List Int) × ((List Int) × (Int × Int))))))) (name : (List UInt8)) (table : Int) (columns : (List Int)) (sort : (List Int)) (by_ : Int) (shift : Int) : Option (Bool × Unit) :=
  obind (slices_IndexFunc_api_Projection_api_Projection.run N s name table columns sort by_ shift) fun (n_, _) =>
    some (decide (n_ ≥ (0 : Int)), ())
def slices_ContainsFunc_api_Projection_api_Projection.fn (N : Nat) (x : Sh.den slices_ContainsFunc_api_Projection_api_Projection.ins) : Option (Sh.den slices_ContainsFunc_api_Projection_api_Projection.outs) := slices_ContainsFunc_api_Projection_api_Projection.run N x.1 x.2.1.1.1 x.2.1.1.2.1 x.2.1.1.2.2.1 x.2.1.1.2.2.2.1 x.2.1.1.2.2.2.2.1 x.2.1.1.2.2.2.2.2.1
def slices_ContainsFunc_api_Projection_api_Projection.S (N : Nat) : Fs := ⟨slices_ContainsFunc_api_Projection_api_Projection.ins, slices_ContainsFunc_api_Projection_api_Projection.outs, slices_ContainsFunc_api_Projection_api_Projection.fn N⟩
def slices_ContainsFunc_api_Projection_api_Projection.lam (N : Nat) : Pcs := pcs []
theorem slices_ContainsFunc_api_Projection_api_Projection.pok (N : Nat) : (slices_ContainsFunc_api_Projection_api_Projection.lam N).Ok Try.prog (slices_ContainsFunc_api_Projection_api_Projection.C N) slices_ContainsFunc_api_Projection_api_Projection.code := pcsOk_nil
theorem slices_ContainsFunc_api_Projection_api_Projection.ev (N : Nat) (x : Sh.den slices_ContainsFunc_api_Projection_api_Projection.ins) : evC (slices_ContainsFunc_api_Projection_api_Projection.C N) slices_ContainsFunc_api_Projection_api_Projection.code (slices_ContainsFunc_api_Projection_api_Projection.lam N) ⟨envOf 0 (bld (fun k => k) slices_ContainsFunc_api_Projection_api_Projection.ins x 0).1, (bld (fun k => k) slices_ContainsFunc_api_Projection_api_Projection.ins x 0).2.1, 1000⟩ (endF U slices_ContainsFunc_api_Projection_api_Projection.outs Try.f31.results.toList []) = slices_ContainsFunc_api_Projection_api_Projection.fn N x := by kernel_rfl
theorem slices_ContainsFunc_api_Projection_api_Projection.ok (N : Nat) : (slices_ContainsFunc_api_Projection_api_Projection.S N).con.Ok Try.prog 31 := fn_ok (F := slices_ContainsFunc_api_Projection_api_Projection.S N) (n0 := 1000) Try.func31 (by kernel_rfl) (show Try.f31.body = some slices_ContainsFunc_api_Projection_api_Projection.code by rfl) mix (slices_ContainsFunc_api_Projection_api_Projection.cok N) (fun _ => rfl) (fun _ => rfl) (slices_ContainsFunc_api_Projection_api_Projection.pok N) (fun x y h => (slices_ContainsFunc_api_Projection_api_Projection.ev N x).trans h)
/-- slices.Grow[[]int,int] -/
def slices_Grow_int_int.ins : Sh := (.cons (.nils) (.cons (.val (.int .i64)) .nil))
def slices_Grow_int_int.C (N : Nat) : Ctx := ⟨U, 27, fun _ => true, gam [], gamY []⟩
theorem slices_Grow_int_int.cok (N : Nat) : (slices_Grow_int_int.C N).Ok Try.prog := ⟨U_ok, GamOk.nil, GamYOk.nil⟩
def slices_Grow_int_int.code : Code := Try.f69.body.getD .skip
def slices_Grow_int_int.outs : Sh := (.cons (.own 3 (.int .i64)) .nil)
def slices_Grow_int_int.run (N : Nat) (n_ : Int) : Option ((List Int) × Unit) :=
  bif decide (n_ < (0 : Int)) then
    none
  else
    bif decide ((IntKind.i64.wrap (n_ - (0 : Int))) > (0 : Int)) then
      bif (decide ((0 : Int) ≤ (IntKind.i64.wrap (n_ - (0 : Int))))) && (room (IntKind.i64.wrap (n_ - (0 : Int))).toNat 8) then
        bif okB (0 : Int) (0 : Int) (List.replicate (IntKind.i64.wrap (n_ - (0 : Int))).toNat (0 : Int)).length then
          some ((List.replicate (IntKind.i64.wrap (n_ - (0 : Int))).toNat (0 : Int)).take 0, ())
        else none
      else none
    else some (([] : List Int), ())
def slices_Grow_int_int.fn (N : Nat) (x : Sh.den slices_Grow_int_int.ins) : Option (Sh.den slices_Grow_int_int.outs) := slices_Grow_int_int.run N x.2.1
def slices_Grow_int_int.S (N : Nat) : Fs := ⟨slices_Grow_int_int.ins, slices_Grow_int_int.outs, slices_Grow_int_int.fn N⟩
def slices_Grow_int_int.lam (N : Nat) : Pcs := pcs []
theorem slices_Grow_int_int.pok (N : Nat) : (slices_Grow_int_int.lam N).Ok Try.prog (slices_Grow_int_int.C N) slices_Grow_int_int.code := pcsOk_nil
theorem slices_Grow_int_int.ev (N : Nat) (x : Sh.den slices_Grow_int_int.ins) : evC (slices_Grow_int_int.C N) slices_Grow_int_int.code (slices_Grow_int_int.lam N) ⟨envOf 0 (bld (fun k => k) slices_Grow_int_int.ins x 0).1, (bld (fun k => k) slices_Grow_int_int.ins x 0).2.1, 1000⟩ (endF U slices_Grow_int_int.outs Try.f69.results.toList [4]) = slices_Grow_int_int.fn N x := by kernel_rfl
theorem slices_Grow_int_int.ok (N : Nat) : (slices_Grow_int_int.S N).con.Ok Try.prog 69 := fn_ok (F := slices_Grow_int_int.S N) (n0 := 1000) Try.func69 (by kernel_rfl) (show Try.f69.body = some slices_Grow_int_int.code by rfl) mix (slices_Grow_int_int.cok N) (fun _ => rfl) (fun _ => rfl) (slices_Grow_int_int.pok N) (fun x y h => (slices_Grow_int_int.ev N x).trans h)
/-- slices.Concat[[]int,int] -/
def slices_Concat_int_int.ins : Sh := (.cons (.rown 40 (.slice (.int .i64))) .nil)
def slices_Concat_int_int.C (N : Nat) : Ctx := ⟨U, 36, fun _ => true, gam [(69, (slices_Grow_int_int.S N).con)], gamY []⟩
theorem slices_Concat_int_int.cok (N : Nat) : (slices_Concat_int_int.C N).Ok Try.prog := ⟨U_ok, GamOk.cons (slices_Grow_int_int.ok N) (GamOk.nil), GamYOk.nil⟩
def slices_Concat_int_int.code : Code := Try.f58.body.getD .skip
def slices_Concat_int_int_0.ins : Sh := (.cons (.val (.int .i64)) (.cons (.rown 40 (.slice (.int .i64))) (.cons (.val (.int .i64)) (.cons (.val (.int .i64)) .nil))))
def slices_Concat_int_int_0.ts : List Tmp := [3, 9, 10, 11]
def slices_Concat_int_int_0.asg : List Tmp := [3, 5, 11, 12, 13, 14, 15, 16, 17, 18, 19, 20, 21, 22]
def slices_Concat_int_int_0.C (N : Nat) : Ctx := { slices_Concat_int_int.C N with may := fun t => slices_Concat_int_int_0.asg.any (Nat.beq t) }
def slices_Concat_int_int_0.code : Code := loopBody (sub slices_Concat_int_int.code [true, true, false, true, false])
theorem slices_Concat_int_int_0.cok (N : Nat) : (slices_Concat_int_int_0.C N).Ok Try.prog := ⟨(slices_Concat_int_int.cok N).U, (slices_Concat_int_int.cok N).Γ, (slices_Concat_int_int.cok N).Y⟩
def slices_Concat_int_int_0.alts : List Alt := [⟨(.exit 0), [3], (.cons (.val (.int .i64)) .nil)⟩]
def slices_Concat_int_int_0.go (N : Nat) : Nat → Int → (List (List Int)) → Int → Int → Option ((Int × Unit))
  | 0, _, _, _, _ => none
  | fuel + 1, size, t9, t10, t11 =>
    bif decide (t11 < t10) then
      bif inB t11 t9.length then
        bif decide (t11.toNat < t9.length) then
          bif decide ((IntKind.i64.wrap (size + ((t9.getD t11.toNat ([] : List Int)).length : Int))) < (0 : Int)) then
            none
          else slices_Concat_int_int_0.go N fuel (IntKind.i64.wrap (size + ((t9.getD t11.toNat ([] : List Int)).length : Int))) t9 t10 (IntKind.i64.wrap (t11 + (1 : Int)))
        else none
      else none
    else some (size, ())
def slices_Concat_int_int_0.g (N n : Nat) (x : Sh.den slices_Concat_int_int_0.ins) : Option (altsDen slices_Concat_int_int_0.alts) := slices_Concat_int_int_0.go N n x.1 x.2.1 x.2.2.1 x.2.2.2.1
def slices_Concat_int_int_0.P (N : Nat) : Ps := ⟨slices_Concat_int_int_0.ts, slices_Concat_int_int_0.ins, slices_Concat_int_int_0.asg, slices_Concat_int_int_0.alts, slices_Concat_int_int_0.g N N⟩
def slices_Concat_int_int_0.lam (N : Nat) : Pcs := pcs []
theorem slices_Concat_int_int_0.pok (N : Nat) : (slices_Concat_int_int_0.lam N).Ok Try.prog (slices_Concat_int_int_0.C N) slices_Concat_int_int_0.code := pcsOk_nil
theorem slices_Concat_int_int_0.ev (N n : Nat) (x : Sh.den slices_Concat_int_int_0.ins) : evC (slices_Concat_int_int_0.C N) slices_Concat_int_int_0.code (slices_Concat_int_int_0.lam N) ((slices_Concat_int_int_0.P N).canon 1000 x) (loopK (slices_Concat_int_int_0.P N) (slices_Concat_int_int_0.g N n)) = slices_Concat_int_int_0.g N (n + 1) x := by kernel_rfl
theorem slices_Concat_int_int_0.ok (N : Nat) : ((slices_Concat_int_int_0.P N).pc (slices_Concat_int_int.C N)).Ok Try.prog (slices_Concat_int_int.C N) (.loop slices_Concat_int_int_0.code) := loop_ok (F := slices_Concat_int_int_0.P N) (n0 := 1000) (N := N) (slices_Concat_int_int.cok N) mix (slices_Concat_int_int_0.pok N) (slices_Concat_int_int_0.g N) (fun x => by rfl) rfl (fun n x y h => (slices_Concat_int_int_0.ev N n x).trans h)
def slices_Concat_int_int_1.ins : Sh := (.cons (.own 3 (.int .i64)) (.cons (.rown 40 (.slice (.int .i64))) (.cons (.val (.int .i64)) (.cons (.val (.int .i64)) .nil))))
def slices_Concat_int_int_1.ts : List Tmp := [6, 25, 26, 27]
def slices_Concat_int_int_1.asg : List Tmp := [6, 8, 27, 28, 29, 30, 31, 32, 33, 34]
def slices_Concat_int_int_1.C (N : Nat) : Ctx := { slices_Concat_int_int.C N with may := fun t => slices_Concat_int_int_1.asg.any (Nat.beq t) }
def slices_Concat_int_int_1.code : Code := loopBody (sub slices_Concat_int_int.code [true, true, true, true, false, true, false])
theorem slices_Concat_int_int_1.cok (N : Nat) : (slices_Concat_int_int_1.C N).Ok Try.prog := ⟨(slices_Concat_int_int.cok N).U, (slices_Concat_int_int.cok N).Γ, (slices_Concat_int_int.cok N).Y⟩
def slices_Concat_int_int_1.alts : List Alt := [⟨(.exit 2), [6], (.cons (.own 3 (.int .i64)) .nil)⟩]
def slices_Concat_int_int_1.go (N : Nat) : Nat → (List Int) → (List (List Int)) → Int → Int → Option (((List Int) × Unit))
  | 0, _, _, _, _ => none
  | fuel + 1, newslice, t25, t26, t27 =>
    bif decide (t27 < t26) then
      bif inB t27 t25.length then
        bif decide (t27.toNat < t25.length) then
          bif room (newslice.length + (t25.getD t27.toNat ([] : List Int)).length) 8 then
            slices_Concat_int_int_1.go N fuel (newslice ++ (t25.getD t27.toNat ([] : List Int))) t25 t26 (IntKind.i64.wrap (t27 + (1 : Int)))
          else none
        else none
      else none
    else some (newslice, ())
def slices_Concat_int_int_1.g (N n : Nat) (x : Sh.den slices_Concat_int_int_1.ins) : Option (altsDen slices_Concat_int_int_1.alts) := slices_Concat_int_int_1.go N n x.1 x.2.1 x.2.2.1 x.2.2.2.1
def slices_Concat_int_int_1.P (N : Nat) : Ps := ⟨slices_Concat_int_int_1.ts, slices_Concat_int_int_1.ins, slices_Concat_int_int_1.asg, slices_Concat_int_int_1.alts, slices_Concat_int_int_1.g N N⟩
def slices_Concat_int_int_1.lam (N : Nat) : Pcs := pcs []
theorem slices_Concat_int_int_1.pok (N : Nat) : (slices_Concat_int_int_1.lam N).Ok Try.prog (slices_Concat_int_int_1.C N) slices_Concat_int_int_1.code := pcsOk_nil
theorem slices_Concat_int_int_1.ev (N n : Nat) (x : Sh.den slices_Concat_int_int_1.ins) : evC (slices_Concat_int_int_1.C N) slices_Concat_int_int_1.code (slices_Concat_int_int_1.lam N) ((slices_Concat_int_int_1.P N).canon 1000 x) (loopK (slices_Concat_int_int_1.P N) (slices_Concat_int_int_1.g N n)) = slices_Concat_int_int_1.g N (n + 1) x := by kernel_rfl
theorem slices_Concat_int_int_1.ok (N : Nat) : ((slices_Concat_int_int_1.P N).pc (slices_Concat_int_int.C N)).Ok Try.prog (slices_Concat_int_int.C N) (.loop slices_Concat_int_int_1.code) := loop_ok (F := slices_Concat_int_int_1.P N) (n0 := 1000) (N := N) (slices_Concat_int_int.cok N) mix (slices_Concat_int_int_1.pok N) (slices_Concat_int_int_1.g N) (fun x => by rfl) rfl (fun n x y h => (slices_Concat_int_int_1.ev N n x).trans h)
def slices_Concat_int_int.outs : Sh := (.cons (.own 3 (.int .i64)) .nil)
def slices_Concat_int_int.run (N : Nat) (slices : (List (List Int))) : Option ((List Int) × Unit) :=
  obind (slices_Concat_int_int_0.go N N (0 : Int) slices (slices.length : Int) (0 : Int)) fun (size, _) =>
    obind (slices_Grow_int_int.run N size) fun (l, _) =>
      obind (slices_Concat_int_int_1.go N N l slices (slices.length : Int) (0 : Int)) fun (newslice, _) =>
        some (newslice, ())
def slices_Concat_int_int.fn (N : Nat) (x : Sh.den slices_Concat_int_int.ins) : Option (Sh.den slices_Concat_int_int.outs) := slices_Concat_int_int.run N x.1
def slices_Concat_int_int.S (N : Nat) : Fs := ⟨slices_Concat_int_int.ins, slices_Concat_int_int.outs, slices_Concat_int_int.fn N⟩
def slices_Concat_int_int.lam (N : Nat) : Pcs := pcs [([true, true, false, true, false], (slices_Concat_int_int_0.P N).pc (slices_Concat_int_int.C N)), ([true, true, true, true, false, true, false], (slices_Concat_int_int_1.P N).pc (slices_Concat_int_int.C N))]
theorem slices_Concat_int_int.pok (N : Nat) : (slices_Concat_int_int.lam N).Ok Try.prog (slices_Concat_int_int.C N) slices_Concat_int_int.code := pcsOk_cons (c1 := .loop slices_Concat_int_int_0.code) (by kernel_rfl) (slices_Concat_int_int_0.ok N) (pcsOk_cons (c1 := .loop slices_Concat_int_int_1.code) (by kernel_rfl) (slices_Concat_int_int_1.ok N) (pcsOk_nil))
theorem slices_Concat_int_int.ev (N : Nat) (x : Sh.den slices_Concat_int_int.ins) : evC (slices_Concat_int_int.C N) slices_Concat_int_int.code (slices_Concat_int_int.lam N) ⟨envOf 0 (bld (fun k => k) slices_Concat_int_int.ins x 0).1, (bld (fun k => k) slices_Concat_int_int.ins x 0).2.1, 1000⟩ (endF U slices_Concat_int_int.outs Try.f58.results.toList []) = slices_Concat_int_int.fn N x := by kernel_rfl
theorem slices_Concat_int_int.ok (N : Nat) : (slices_Concat_int_int.S N).con.Ok Try.prog 58 := fn_ok (F := slices_Concat_int_int.S N) (n0 := 1000) Try.func58 (by kernel_rfl) (show Try.f58.body = some slices_Concat_int_int.code by rfl) mix (slices_Concat_int_int.cok N) (fun _ => rfl) (fun _ => rfl) (slices_Concat_int_int.pok N) (fun x y h => (slices_Concat_int_int.ev N x).trans h)
/-- slices.Index[[]int,int] -/
def slices_Index_int_int_b.ins : Sh := (.cons (.rown 3 (.int .i64)) (.cons (.val (.int .i64)) .nil))
def slices_Index_int_int_b.C (N : Nat) : Ctx := ⟨U, 19, fun _ => true, gam [], gamY []⟩
theorem slices_Index_int_int_b.cok (N : Nat) : (slices_Index_int_int_b.C N).Ok Try.prog := ⟨U_ok, GamOk.nil, GamYOk.nil⟩
def slices_Index_int_int_b.code : Code := Try.f63.body.getD .skip
def slices_Index_int_int_b_0.ins : Sh := (.cons (.rown 3 (.int .i64)) (.cons (.val (.int .i64)) (.cons (.val (.int .i64)) (.cons (.val (.int .i64)) .nil))))
def slices_Index_int_int_b_0.ts : List Tmp := [0, 1, 7, 8]
def slices_Index_int_int_b_0.asg : List Tmp := [4, 5, 8, 9, 10, 11, 12, 13, 14, 15, 16, 17, 18]
def slices_Index_int_int_b_0.C (N : Nat) : Ctx := { slices_Index_int_int_b.C N with may := fun t => slices_Index_int_int_b_0.asg.any (Nat.beq t) }
def slices_Index_int_int_b_0.code : Code := loopBody (sub slices_Index_int_int_b.code [true, false, true, false])
theorem slices_Index_int_int_b_0.cok (N : Nat) : (slices_Index_int_int_b_0.C N).Ok Try.prog := ⟨(slices_Index_int_int_b.cok N).U, (slices_Index_int_int_b.cok N).Γ, (slices_Index_int_int_b.cok N).Y⟩
def slices_Index_int_int_b_0.alts : List Alt := [⟨.ret, [4], (.cons (.val (.int .i64)) .nil)⟩, ⟨(.exit 0), [], .nil⟩]
def slices_Index_int_int_b_0.go (N : Nat) : Nat → (List Int) → Int → Int → Int → Option ((Int × Unit) ⊕ Unit)
  | 0, _, _, _, _ => none
  | fuel + 1, s, v, t7, t8 =>
    bif decide (t8 < t7) then
      bif inB t8 s.length then
        bif decide (t8.toNat < s.length) then
          bif decide (v = (s.getD t8.toNat (0 : Int))) then
            some (.inl (t8, ()))
          else slices_Index_int_int_b_0.go N fuel s v t7 (IntKind.i64.wrap (t8 + (1 : Int)))
        else none
      else none
    else some (.inr ())
def slices_Index_int_int_b_0.g (N n : Nat) (x : Sh.den slices_Index_int_int_b_0.ins) : Option (altsDen slices_Index_int_int_b_0.alts) := slices_Index_int_int_b_0.go N n x.1 x.2.1 x.2.2.1 x.2.2.2.1
def slices_Index_int_int_b_0.P (N : Nat) : Ps := ⟨slices_Index_int_int_b_0.ts, slices_Index_int_int_b_0.ins, slices_Index_int_int_b_0.asg, slices_Index_int_int_b_0.alts, slices_Index_int_int_b_0.g N N⟩
def slices_Index_int_int_b_0.lam (N : Nat) : Pcs := pcs []
theorem slices_Index_int_int_b_0.pok (N : Nat) : (slices_Index_int_int_b_0.lam N).Ok Try.prog (slices_Index_int_int_b_0.C N) slices_Index_int_int_b_0.code := pcsOk_nil
theorem slices_Index_int_int_b_0.ev (N n : Nat) (x : Sh.den slices_Index_int_int_b_0.ins) : evC (slices_Index_int_int_b_0.C N) slices_Index_int_int_b_0.code (slices_Index_int_int_b_0.lam N) ((slices_Index_int_int_b_0.P N).canon 1000 x) (loopK (slices_Index_int_int_b_0.P N) (slices_Index_int_int_b_0.g N n)) = slices_Index_int_int_b_0.g N (n + 1) x := by kernel_rfl
theorem slices_Index_int_int_b_0.ok (N : Nat) : ((slices_Index_int_int_b_0.P N).pc (slices_Index_int_int_b.C N)).Ok Try.prog (slices_Index_int_int_b.C N) (.loop slices_Index_int_int_b_0.code) := loop_ok (F := slices_Index_int_int_b_0.P N) (n0 := 1000) (N := N) (slices_Index_int_int_b.cok N) mix (slices_Index_int_int_b_0.pok N) (slices_Index_int_int_b_0.g N) (fun x => by rfl) rfl (fun n x y h => (slices_Index_int_int_b_0.ev N n x).trans h)
def slices_Index_int_int_b.outs : Sh := (.cons (.val (.int .i64)) .nil)
def slices_Index_int_int_b.run (N : Nat) (s : (List Int)) (v : Int) : Option (Int × Unit) :=
  obind (slices_Index_int_int_b_0.go N N s v (s.length : Int) (0 : Int)) fun y => match y with
  | .inl (t4, _) =>
      some (t4, ())
  | .inr (_) =>
      some ((-1 : Int), ())
def slices_Index_int_int_b.fn (N : Nat) (x : Sh.den slices_Index_int_int_b.ins) : Option (Sh.den slices_Index_int_int_b.outs) := slices_Index_int_int_b.run N x.1 x.2.1
def slices_Index_int_int_b.S (N : Nat) : Fs := ⟨slices_Index_int_int_b.ins, slices_Index_int_int_b.outs, slices_Index_int_int_b.fn N⟩
def slices_Index_int_int_b.lam (N : Nat) : Pcs := pcs [([true, false, true, false], (slices_Index_int_int_b_0.P N).pc (slices_Index_int_int_b.C N))]
theorem slices_Index_int_int_b.pok (N : Nat) : (slices_Index_int_int_b.lam N).Ok Try.prog (slices_Index_int_int_b.C N) slices_Index_int_int_b.code := pcsOk_cons (c1 := .loop slices_Index_int_int_b_0.code) (by kernel_rfl) (slices_Index_int_int_b_0.ok N) (pcsOk_nil)
theorem slices_Index_int_int_b.ev (N : Nat) (x : Sh.den slices_Index_int_int_b.ins) : evC (slices_Index_int_int_b.C N) slices_Index_int_int_b.code (slices_Index_int_int_b.lam N) ⟨envOf 0 (bld (fun k => k) slices_Index_int_int_b.ins x 0).1, (bld (fun k => k) slices_Index_int_int_b.ins x 0).2.1, 1000⟩ (endF U slices_Index_int_int_b.outs Try.f63.results.toList []) = slices_Index_int_int_b.fn N x := by kernel_rfl
theorem slices_Index_int_int_b.ok (N : Nat) : (slices_Index_int_int_b.S N).con.Ok Try.prog 63 := fn_ok (F := slices_Index_int_int_b.S N) (n0 := 1000) Try.func63 (by kernel_rfl) (show Try.f63.body = some slices_Index_int_int_b.code by rfl) mix (slices_Index_int_int_b.cok N) (fun _ => rfl) (fun _ => rfl) (slices_Index_int_int_b.pok N) (fun x y h => (slices_Index_int_int_b.ev N x).trans h)
/-- slices.Contains[[]int,int] -/
def slices_Contains_int_int_b.ins : Sh := (.cons (.rown 3 (.int .i64)) (.cons (.val (.int .i64)) .nil))
def slices_Contains_int_int_b.C (N : Nat) : Ctx := ⟨U, 9, fun _ => true, gam [(63, (slices_Index_int_int_b.S N).con)], gamY []⟩
theorem slices_Contains_int_int_b.cok (N : Nat) : (slices_Contains_int_int_b.C N).Ok Try.prog := ⟨U_ok, GamOk.cons (slices_Index_int_int_b.ok N) (GamOk.nil), GamYOk.nil⟩
def slices_Contains_int_int_b.code : Code := Try.f38.body.getD .skip
def slices_Contains_int_int_b.outs : Sh := (.cons (.val .bool) .nil)
def slices_Contains_int_int_b.run (N : Nat) (s : (List Int)) (v : Int) : Option (Bool × Unit) :=
  obind (slices_Index_int_int_b.run N s v) fun (n_, _) =>
    some (decide (n_ ≥ (0 : Int)), ())
def slices_Contains_int_int_b.fn (N : Nat) (x : Sh.den slices_Contains_int_int_b.ins) : Option (Sh.den slices_Contains_int_int_b.outs) := slices_Contains_int_int_b.run N x.1 x.2.1
def slices_Contains_int_int_b.S (N : Nat) : Fs := ⟨slices_Contains_int_int_b.ins, slices_Contains_int_int_b.outs, slices_Contains_int_int_b.fn N⟩
def slices_Contains_int_int_b.lam (N : Nat) : Pcs := pcs []
theorem slices_Contains_int_int_b.pok (N : Nat) : (slices_Contains_int_int_b.lam N).Ok Try.prog (slices_Contains_int_int_b.C N) slices_Contains_int_int_b.code := pcsOk_nil
theorem slices_Contains_int_int_b.ev (N : Nat) (x : Sh.den slices_Contains_int_int_b.ins) : evC (slices_Contains_int_int_b.C N) slices_Contains_int_int_b.code (slices_Contains_int_int_b.lam N) ⟨envOf 0 (bld (fun k => k) slices_Contains_int_int_b.ins x 0).1, (bld (fun k => k) slices_Contains_int_int_b.ins x 0).2.1, 1000⟩ (endF U slices_Contains_int_int_b.outs Try.f38.results.toList []) = slices_Contains_int_int_b.fn N x := by kernel_rfl
theorem slices_Contains_int_int_b.ok (N : Nat) : (slices_Contains_int_int_b.S N).con.Ok Try.prog 38 := fn_ok (F := slices_Contains_int_int_b.S N) (n0 := 1000) Try.func38 (by kernel_rfl) (show Try.f38.body = some slices_Contains_int_int_b.code by rfl) mix (slices_Contains_int_int_b.cok N) (fun _ => rfl) (fun _ => rfl) (slices_Contains_int_int_b.pok N) (fun x y h => (slices_Contains_int_int_b.ev N x).trans h)
/-- hayloft/catalog.covers -/
def catalog_covers.ins : Sh := (.cons (.val (.pair .str (.slice (.pair .str (.pair (.int .i64) .bool))))) (.cons (.rown 3 (.int .i64)) .nil))
def catalog_covers.C (N : Nat) : Ctx := ⟨U, 17, fun _ => true, gam [(38, (slices_Contains_int_int_b.S N).con)], gamY []⟩
theorem catalog_covers.cok (N : Nat) : (catalog_covers.C N).Ok Try.prog := ⟨U_ok, GamOk.cons (slices_Contains_int_int_b.ok N) (GamOk.nil), GamYOk.nil⟩
def catalog_covers.code : Code := Try.f57.body.getD .skip
def catalog_covers_0.ins : Sh := (.cons (.rown 3 (.int .i64)) (.cons (.val (.int .i64)) (.cons (.val (.int .i64)) .nil)))
def catalog_covers_0.ts : List Tmp := [1, 8, 9]
def catalog_covers_0.asg : List Tmp := [4, 5, 9, 10, 11, 12, 13, 14, 15, 16]
def catalog_covers_0.C (N : Nat) : Ctx := { catalog_covers.C N with may := fun t => catalog_covers_0.asg.any (Nat.beq t) }
def catalog_covers_0.code : Code := loopBody (sub catalog_covers.code [true, false, true, false])
theorem catalog_covers_0.cok (N : Nat) : (catalog_covers_0.C N).Ok Try.prog := ⟨(catalog_covers.cok N).U, (catalog_covers.cok N).Γ, (catalog_covers.cok N).Y⟩
def catalog_covers_0.alts : List Alt := [⟨.ret, [4], (.cons (.val .bool) .nil)⟩, ⟨(.exit 0), [], .nil⟩]
def catalog_covers_0.go (N : Nat) : Nat → (List Int) → Int → Int → Option ((Bool × Unit) ⊕ Unit)
  | 0, _, _, _ => none
  | fuel + 1, l, t8, t9 =>
    bif decide (t9 < t8) then
      obind (slices_Contains_int_int_b.run N l t9) fun (b, _) =>
        bif !b then
          some (.inl (false, ()))
        else catalog_covers_0.go N fuel l t8 (IntKind.i64.wrap (t9 + (1 : Int)))
    else some (.inr ())
def catalog_covers_0.g (N n : Nat) (x : Sh.den catalog_covers_0.ins) : Option (altsDen catalog_covers_0.alts) := catalog_covers_0.go N n x.1 x.2.1 x.2.2.1
def catalog_covers_0.P (N : Nat) : Ps := ⟨catalog_covers_0.ts, catalog_covers_0.ins, catalog_covers_0.asg, catalog_covers_0.alts, catalog_covers_0.g N N⟩
def catalog_covers_0.lam (N : Nat) : Pcs := pcs []
theorem catalog_covers_0.pok (N : Nat) : (catalog_covers_0.lam N).Ok Try.prog (catalog_covers_0.C N) catalog_covers_0.code := pcsOk_nil
theorem catalog_covers_0.ev (N n : Nat) (x : Sh.den catalog_covers_0.ins) : evC (catalog_covers_0.C N) catalog_covers_0.code (catalog_covers_0.lam N) ((catalog_covers_0.P N).canon 1000 x) (loopK (catalog_covers_0.P N) (catalog_covers_0.g N n)) = catalog_covers_0.g N (n + 1) x := by kernel_rfl
theorem catalog_covers_0.ok (N : Nat) : ((catalog_covers_0.P N).pc (catalog_covers.C N)).Ok Try.prog (catalog_covers.C N) (.loop catalog_covers_0.code) := loop_ok (F := catalog_covers_0.P N) (n0 := 1000) (N := N) (catalog_covers.cok N) mix (catalog_covers_0.pok N) (catalog_covers_0.g N) (fun x => by rfl) rfl (fun n x y h => (catalog_covers_0.ev N n x).trans h)
def catalog_covers.outs : Sh := (.cons (.val .bool) .nil)
def catalog_covers.run (N : Nat) (t : ((List UInt8) × (List ((List UInt8) × (Int × Bool))))) (l : (List Int)) : Option (Bool × Unit) :=
  obind (catalog_covers_0.go N N l (t.2.length : Int) (0 : Int)) fun y => match y with
  | .inl (t4, _) =>
      some (t4, ())
  | .inr (_) =>
      some (true, ())
def catalog_covers.fn (N : Nat) (x : Sh.den catalog_covers.ins) : Option (Sh.den catalog_covers.outs) := catalog_covers.run N x.1 x.2.1
def catalog_covers.S (N : Nat) : Fs := ⟨catalog_covers.ins, catalog_covers.outs, catalog_covers.fn N⟩
def catalog_covers.lam (N : Nat) : Pcs := pcs [([true, false, true, false], (catalog_covers_0.P N).pc (catalog_covers.C N))]
theorem catalog_covers.pok (N : Nat) : (catalog_covers.lam N).Ok Try.prog (catalog_covers.C N) catalog_covers.code := pcsOk_cons (c1 := .loop catalog_covers_0.code) (by kernel_rfl) (catalog_covers_0.ok N) (pcsOk_nil)
theorem catalog_covers.ev (N : Nat) (x : Sh.den catalog_covers.ins) : evC (catalog_covers.C N) catalog_covers.code (catalog_covers.lam N) ⟨envOf 0 (bld (fun k => k) catalog_covers.ins x 0).1, (bld (fun k => k) catalog_covers.ins x 0).2.1, 1000⟩ (endF U catalog_covers.outs Try.f57.results.toList []) = catalog_covers.fn N x := by kernel_rfl
theorem catalog_covers.ok (N : Nat) : (catalog_covers.S N).con.Ok Try.prog 57 := fn_ok (F := catalog_covers.S N) (n0 := 1000) Try.func57 (by kernel_rfl) (show Try.f57.body = some catalog_covers.code by rfl) mix (catalog_covers.cok N) (fun _ => rfl) (fun _ => rfl) (catalog_covers.pok N) (fun x y h => (catalog_covers.ev N x).trans h)
/-- hayloft/catalog.covered -/
def catalog_covered.ins : Sh := (.cons (.val (.pair (.int .i64) (.pair (.int .i64) (.pair (.int .i64) (.pair (.slice (.pair .str (.slice (.pair .str (.pair (.int .i64) .bool))))) (.slice (.pair .str (.pair (.int .i64) (.pair (.slice (.int .i64)) (.pair (.slice (.int .i64)) (.pair (.int .i64) (.int .i64)))))))))))) (.cons (.val (.int .i64)) .nil))
def catalog_covered.C (N : Nat) : Ctx := ⟨U, 49, fun _ => true, gam [(58, (slices_Concat_int_int.S N).con), (57, (catalog_covers.S N).con)], gamY []⟩
theorem catalog_covered.cok (N : Nat) : (catalog_covered.C N).Ok Try.prog := ⟨U_ok, GamOk.cons (slices_Concat_int_int.ok N) (GamOk.cons (catalog_covers.ok N) (GamOk.nil)), GamYOk.nil⟩
def catalog_covered.code : Code := Try.f33.body.getD .skip
def catalog_covered_0.ins : Sh := (.cons (.val (.int .i64)) (.cons (.rbox 25 (.cons (.val (.int .i64)) (.cons (.val (.int .i64)) (.cons (.val (.int .i64)) (.cons (.val (.slice (.pair .str (.slice (.pair .str (.pair (.int .i64) .bool)))))) (.cons (.val (.slice (.pair .str (.pair (.int .i64) (.pair (.slice (.int .i64)) (.pair (.slice (.int .i64)) (.pair (.int .i64) (.int .i64)))))))) .nil)))))) (.cons (.val (.slice (.pair .str (.pair (.int .i64) (.pair (.slice (.int .i64)) (.pair (.slice (.int .i64)) (.pair (.int .i64) (.int .i64)))))))) (.cons (.val (.int .i64)) (.cons (.val (.int .i64)) .nil)))))
def catalog_covered_0.ts : List Tmp := [1, 2, 10, 11, 12]
def catalog_covered_0.asg : List Tmp := [4, 6, 8, 12, 13, 14, 15, 16, 17, 18, 19, 20, 21, 22, 23, 24, 25, 26, 27, 28, 29, 30, 31, 32, 33, 34, 35, 36, 37, 38, 39, 40, 41, 42, 43, 44, 45, 46, 47, 48]
def catalog_covered_0.C (N : Nat) : Ctx := { catalog_covered.C N with may := fun t => catalog_covered_0.asg.any (Nat.beq t) }
def catalog_covered_0.code : Code := loopBody (sub catalog_covered.code [true, false, true, false])
theorem catalog_covered_0.cok (N : Nat) : (catalog_covered_0.C N).Ok Try.prog := ⟨(catalog_covered.cok N).U, (catalog_covered.cok N).Γ, (catalog_covered.cok N).Y⟩
def catalog_covered_0_0.ins : Sh := (.cons (.val (.int .i64)) (.cons (.rbox 25 (.cons (.val (.int .i64)) (.cons (.val (.int .i64)) (.cons (.val (.int .i64)) (.cons (.val (.slice (.pair .str (.slice (.pair .str (.pair (.int .i64) .bool)))))) (.cons (.val (.slice (.pair .str (.pair (.int .i64) (.pair (.slice (.int .i64)) (.pair (.slice (.int .i64)) (.pair (.int .i64) (.int .i64)))))))) .nil)))))) (.cons (.rbox 66 (.cons (.val .str) (.cons (.val (.int .i64)) (.cons (.val (.slice (.int .i64))) (.cons (.val (.slice (.int .i64))) (.cons (.val (.int .i64)) (.cons (.val (.int .i64)) .nil))))))) (.cons (.val (.slice (.pair .str (.pair (.int .i64) (.pair (.slice (.int .i64)) (.pair (.slice (.int .i64)) (.pair (.int .i64) (.int .i64)))))))) (.cons (.val (.int .i64)) (.cons (.val (.int .i64)) .nil))))))
def catalog_covered_0_0.ts : List Tmp := [1, 2, 6, 17, 18, 19]
def catalog_covered_0_0.asg : List Tmp := [4, 8, 19, 20, 21, 22, 23, 24, 25, 26, 27, 28, 29, 30, 31, 32, 33, 34, 35, 36, 37, 38, 39, 40, 41, 42, 43, 44, 45, 46, 47]
def catalog_covered_0_0.C (N : Nat) : Ctx := { catalog_covered_0.C N with may := fun t => catalog_covered_0_0.asg.any (Nat.beq t) }
def catalog_covered_0_0.code : Code := loopBody (sub catalog_covered_0.code [true, true, false, false, true, true, false])
theorem catalog_covered_0_0.cok (N : Nat) : (catalog_covered_0_0.C N).Ok Try.prog := ⟨(catalog_covered_0.cok N).U, (catalog_covered_0.cok N).Γ, (catalog_covered_0.cok N).Y⟩
def catalog_covered_0_0.alts : List Alt := [⟨.ret, [4], (.cons (.val .bool) .nil)⟩, ⟨(.exit 2), [], .nil⟩]
def catalog_covered_0_0.go (N : Nat) : Nat → Int → Int → Int → Int → (List ((List UInt8) × (List ((List UInt8) × (Int × Bool))))) → (List ((List UInt8) × (Int × ((List Int) × ((List Int) × (Int × Int)))))) → (List UInt8) → Int → (List Int) → (List Int) → Int → Int → (List ((List UInt8) × (Int × ((List Int) × ((List Int) × (Int × Int)))))) → Int → Int → Option ((Bool × Unit) ⊕ Unit)
  | 0, _, _, _, _, _, _, _, _, _, _, _, _, _, _, _ => none
  | fuel + 1, table, nodes, segments, k, tables, projs, name, table1, columns, sort, by_, shift, t17, t18, t19 =>
    bif decide (t19 < t18) then
      bif inB t19 t17.length then
        bif decide (table1 = table) then
          bif decide ((t17.getD t19.toNat (([] : List UInt8), (0 : Int), ([] : List Int), ([] : List Int), (0 : Int), (0 : Int))).2.1 = table) then
            bif inB table tables.length then
              obind (slices_Concat_int_int.run N ([columns, (t17.getD t19.toNat (([] : List UInt8), (0 : Int), ([] : List Int), ([] : List Int), (0 : Int), (0 : Int))).2.2.1] : List (List Int))) fun (l, _) =>
                obind (catalog_covers.run N (tables.getD table.toNat (([] : List UInt8), ([] : List ((List UInt8) × (Int × Bool))))) l) fun (b, _) =>
                  bif b then
                    some (.inl (true, ()))
                  else catalog_covered_0_0.go N fuel table nodes segments k tables projs name table1 columns sort by_ shift t17 t18 (IntKind.i64.wrap (t19 + (1 : Int)))
            else none
          else catalog_covered_0_0.go N fuel table nodes segments k tables projs name table1 columns sort by_ shift t17 t18 (IntKind.i64.wrap (t19 + (1 : Int)))
        else catalog_covered_0_0.go N fuel table nodes segments k tables projs name table1 columns sort by_ shift t17 t18 (IntKind.i64.wrap (t19 + (1 : Int)))
      else none
    else some (.inr ())
def catalog_covered_0_0.g (N n : Nat) (x : Sh.den catalog_covered_0_0.ins) : Option (altsDen catalog_covered_0_0.alts) := catalog_covered_0_0.go N n x.1 x.2.1.1 x.2.1.2.1 x.2.1.2.2.1 x.2.1.2.2.2.1 x.2.1.2.2.2.2.1 x.2.2.1.1 x.2.2.1.2.1 x.2.2.1.2.2.1 x.2.2.1.2.2.2.1 x.2.2.1.2.2.2.2.1 x.2.2.1.2.2.2.2.2.1 x.2.2.2.1 x.2.2.2.2.1 x.2.2.2.2.2.1
def catalog_covered_0_0.P (N : Nat) : Ps := ⟨catalog_covered_0_0.ts, catalog_covered_0_0.ins, catalog_covered_0_0.asg, catalog_covered_0_0.alts, catalog_covered_0_0.g N N⟩
def catalog_covered_0_0.lam (N : Nat) : Pcs := pcs []
theorem catalog_covered_0_0.pok (N : Nat) : (catalog_covered_0_0.lam N).Ok Try.prog (catalog_covered_0_0.C N) catalog_covered_0_0.code := pcsOk_nil
theorem catalog_covered_0_0.ev (N n : Nat) (x : Sh.den catalog_covered_0_0.ins) : evC (catalog_covered_0_0.C N) catalog_covered_0_0.code (catalog_covered_0_0.lam N) ((catalog_covered_0_0.P N).canon 1000 x) (loopK (catalog_covered_0_0.P N) (catalog_covered_0_0.g N n)) = catalog_covered_0_0.g N (n + 1) x := by kernel_rfl
theorem catalog_covered_0_0.ok (N : Nat) : ((catalog_covered_0_0.P N).pc (catalog_covered_0.C N)).Ok Try.prog (catalog_covered_0.C N) (.loop catalog_covered_0_0.code) := loop_ok (F := catalog_covered_0_0.P N) (n0 := 1000) (N := N) (catalog_covered_0.cok N) mix (catalog_covered_0_0.pok N) (catalog_covered_0_0.g N) (fun x => by rfl) rfl (fun n x y h => (catalog_covered_0_0.ev N n x).trans h)
def catalog_covered_0.alts : List Alt := [⟨.ret, [4], (.cons (.val .bool) .nil)⟩, ⟨(.exit 0), [], .nil⟩]
def catalog_covered_0.go (N : Nat) : Nat → Int → Int → Int → Int → (List ((List UInt8) × (List ((List UInt8) × (Int × Bool))))) → (List ((List UInt8) × (Int × ((List Int) × ((List Int) × (Int × Int)))))) → (List ((List UInt8) × (Int × ((List Int) × ((List Int) × (Int × Int)))))) → Int → Int → Option ((Bool × Unit) ⊕ Unit)
  | 0, _, _, _, _, _, _, _, _, _ => none
  | fuel + 1, table, nodes, segments, k, tables, projs, t10, t11, t12 =>
    bif decide (t12 < t11) then
      bif inB t12 t10.length then
        obind (catalog_covered_0_0.go N N table nodes segments k tables projs (t10.getD t12.toNat (([] : List UInt8), (0 : Int), ([] : List Int), ([] : List Int), (0 : Int), (0 : Int))).1 (t10.getD t12.toNat (([] : List UInt8), (0 : Int), ([] : List Int), ([] : List Int), (0 : Int), (0 : Int))).2.1 (t10.getD t12.toNat (([] : List UInt8), (0 : Int), ([] : List Int), ([] : List Int), (0 : Int), (0 : Int))).2.2.1 (t10.getD t12.toNat (([] : List UInt8), (0 : Int), ([] : List Int), ([] : List Int), (0 : Int), (0 : Int))).2.2.2.1 (t10.getD t12.toNat (([] : List UInt8), (0 : Int), ([] : List Int), ([] : List Int), (0 : Int), (0 : Int))).2.2.2.2.1 (t10.getD t12.toNat (([] : List UInt8), (0 : Int), ([] : List Int), ([] : List Int), (0 : Int), (0 : Int))).2.2.2.2.2 projs (projs.length : Int) (0 : Int)) fun y => match y with
        | .inl (t4, _) =>
            some (.inl (t4, ()))
        | .inr (_) =>
            catalog_covered_0.go N fuel table nodes segments k tables projs t10 t11 (IntKind.i64.wrap (t12 + (1 : Int)))
      else none
    else some (.inr ())
def catalog_covered_0.g (N n : Nat) (x : Sh.den catalog_covered_0.ins) : Option (altsDen catalog_covered_0.alts) := catalog_covered_0.go N n x.1 x.2.1.1 x.2.1.2.1 x.2.1.2.2.1 x.2.1.2.2.2.1 x.2.1.2.2.2.2.1 x.2.2.1 x.2.2.2.1 x.2.2.2.2.1
def catalog_covered_0.P (N : Nat) : Ps := ⟨catalog_covered_0.ts, catalog_covered_0.ins, catalog_covered_0.asg, catalog_covered_0.alts, catalog_covered_0.g N N⟩
def catalog_covered_0.lam (N : Nat) : Pcs := pcs [([true, true, false, false, true, true, false], (catalog_covered_0_0.P N).pc (catalog_covered_0.C N))]
theorem catalog_covered_0.pok (N : Nat) : (catalog_covered_0.lam N).Ok Try.prog (catalog_covered_0.C N) catalog_covered_0.code := pcsOk_cons (c1 := .loop catalog_covered_0_0.code) (by kernel_rfl) (catalog_covered_0_0.ok N) (pcsOk_nil)
theorem catalog_covered_0.ev (N n : Nat) (x : Sh.den catalog_covered_0.ins) : evC (catalog_covered_0.C N) catalog_covered_0.code (catalog_covered_0.lam N) ((catalog_covered_0.P N).canon 1000 x) (loopK (catalog_covered_0.P N) (catalog_covered_0.g N n)) = catalog_covered_0.g N (n + 1) x := by kernel_rfl
theorem catalog_covered_0.ok (N : Nat) : ((catalog_covered_0.P N).pc (catalog_covered.C N)).Ok Try.prog (catalog_covered.C N) (.loop catalog_covered_0.code) := loop_ok (F := catalog_covered_0.P N) (n0 := 1000) (N := N) (catalog_covered.cok N) mix (catalog_covered_0.pok N) (catalog_covered_0.g N) (fun x => by rfl) rfl (fun n x y h => (catalog_covered_0.ev N n x).trans h)
def catalog_covered.outs : Sh := (.cons (.val .bool) .nil)
def catalog_covered.run (N : Nat) (c : (Int × (Int × (Int × ((List ((List UInt8) × (List ((List UInt8) × (Int × Bool))))) × (List ((List UInt8) × (Int × ((List Int) × ((List Int) × (Int × Int))))))))))) (table : Int) : Option (Bool × Unit) :=
  obind (catalog_covered_0.go N N table c.1 c.2.1 c.2.2.1 c.2.2.2.1 c.2.2.2.2 c.2.2.2.2 (c.2.2.2.2.length : Int) (0 : Int)) fun y => match y with
  | .inl (t4, _) =>
      some (t4, ())
  | .inr (_) =>
      some (false, ())
def catalog_covered.fn (N : Nat) (x : Sh.den catalog_covered.ins) : Option (Sh.den catalog_covered.outs) := catalog_covered.run N x.1 x.2.1
def catalog_covered.S (N : Nat) : Fs := ⟨catalog_covered.ins, catalog_covered.outs, catalog_covered.fn N⟩
def catalog_covered.lam (N : Nat) : Pcs := pcs [([true, false, true, false], (catalog_covered_0.P N).pc (catalog_covered.C N))]
theorem catalog_covered.pok (N : Nat) : (catalog_covered.lam N).Ok Try.prog (catalog_covered.C N) catalog_covered.code := pcsOk_cons (c1 := .loop catalog_covered_0.code) (by kernel_rfl) (catalog_covered_0.ok N) (pcsOk_nil)
theorem catalog_covered.ev (N : Nat) (x : Sh.den catalog_covered.ins) : evC (catalog_covered.C N) catalog_covered.code (catalog_covered.lam N) ⟨envOf 0 (bld (fun k => k) catalog_covered.ins x 0).1, (bld (fun k => k) catalog_covered.ins x 0).2.1, 1000⟩ (endF U catalog_covered.outs Try.f33.results.toList []) = catalog_covered.fn N x := by kernel_rfl
theorem catalog_covered.ok (N : Nat) : (catalog_covered.S N).con.Ok Try.prog 33 := fn_ok (F := catalog_covered.S N) (n0 := 1000) Try.func33 (by kernel_rfl) (show Try.f33.body = some catalog_covered.code by rfl) mix (catalog_covered.cok N) (fun _ => rfl) (fun _ => rfl) (catalog_covered.pok N) (fun x y h => (catalog_covered.ev N x).trans h)
/-- hayloft/catalog.Segments -/
def catalog_Segments.ins : Sh := (.cons (.val (.pair (.int .i64) (.pair (.int .i64) (.pair (.int .i64) (.pair (.slice (.pair .str (.slice (.pair .str (.pair (.int .i64) .bool))))) (.slice (.pair .str (.pair (.int .i64) (.pair (.slice (.int .i64)) (.pair (.slice (.int .i64)) (.pair (.int .i64) (.int .i64)))))))))))) .nil)
def catalog_Segments.C (N : Nat) : Ctx := ⟨U, 4, fun _ => true, gam [], gamY []⟩
theorem catalog_Segments.cok (N : Nat) : (catalog_Segments.C N).Ok Try.prog := ⟨U_ok, GamOk.nil, GamYOk.nil⟩
def catalog_Segments.code : Code := Try.f37.body.getD .skip
def catalog_Segments.outs : Sh := (.cons (.fn 62 (.cons (.box 25 (.cons (.val (.int .i64)) (.cons (.val (.int .i64)) (.cons (.val (.int .i64)) (.cons (.val (.slice (.pair .str (.slice (.pair .str (.pair (.int .i64) .bool)))))) (.cons (.val (.slice (.pair .str (.pair (.int .i64) (.pair (.slice (.int .i64)) (.pair (.slice (.int .i64)) (.pair (.int .i64) (.int .i64)))))))) .nil)))))) .nil)) .nil)
def catalog_Segments.run (N : Nat) (c : (Int × (Int × (Int × ((List ((List UInt8) × (List ((List UInt8) × (Int × Bool))))) × (List ((List UInt8) × (Int × ((List Int) × ((List Int) × (Int × Int))))))))))) : Option (((Int × Int × Int × (List ((List UInt8) × (List ((List UInt8) × (Int × Bool))))) × (List ((List UInt8) × (Int × ((List Int) × ((List Int) × (Int × Int)))))) × Unit) × Unit) × Unit) :=
  some (((c.1, c.2.1, c.2.2.1, c.2.2.2.1, c.2.2.2.2, ()), ()), ())
def catalog_Segments.fn (N : Nat) (x : Sh.den catalog_Segments.ins) : Option (Sh.den catalog_Segments.outs) := catalog_Segments.run N x.1
def catalog_Segments.S (N : Nat) : Fs := ⟨catalog_Segments.ins, catalog_Segments.outs, catalog_Segments.fn N⟩
def catalog_Segments.lam (N : Nat) : Pcs := pcs []
theorem catalog_Segments.pok (N : Nat) : (catalog_Segments.lam N).Ok Try.prog (catalog_Segments.C N) catalog_Segments.code := pcsOk_nil
theorem catalog_Segments.ev (N : Nat) (x : Sh.den catalog_Segments.ins) : evC (catalog_Segments.C N) catalog_Segments.code (catalog_Segments.lam N) ⟨envOf 0 (bld (fun k => k) catalog_Segments.ins x 0).1, (bld (fun k => k) catalog_Segments.ins x 0).2.1, 1000⟩ (endF U catalog_Segments.outs Try.f37.results.toList []) = catalog_Segments.fn N x := by kernel_rfl
theorem catalog_Segments.ok (N : Nat) : (catalog_Segments.S N).con.Ok Try.prog 37 := fn_ok (F := catalog_Segments.S N) (n0 := 1000) Try.func37 (by kernel_rfl) (show Try.f37.body = some catalog_Segments.code by rfl) mix (catalog_Segments.cok N) (fun _ => rfl) (fun _ => rfl) (catalog_Segments.pok N) (fun x y h => (catalog_Segments.ev N x).trans h)
def Y0.ins : Sh := (.cons (.rbox 25 (.cons (.val (.int .i64)) (.cons (.val (.int .i64)) (.cons (.val (.int .i64)) (.cons (.val (.slice (.pair .str (.slice (.pair .str (.pair (.int .i64) .bool)))))) (.cons (.val (.slice (.pair .str (.pair (.int .i64) (.pair (.slice (.int .i64)) (.pair (.slice (.int .i64)) (.pair (.int .i64) (.int .i64)))))))) .nil)))))) (.cons (.rbox 3 (.cons (.val (.int .i64)) .nil)) (.cons (.box 33 (.cons (.own 31 (.pair (.int .i64) (.int .i64))) .nil)) (.cons (.agg (.cons (.val (.int .i64)) (.cons (.val (.int .i64)) .nil))) .nil))))
def Y0.C (N : Nat) : Ctx := ⟨U, 20, fun _ => true, gam [(18, (catalog_Nodes.S N).con), (38, (slices_Contains_int_int_b.S N).con)], gamY []⟩
theorem Y0.cok (N : Nat) : (Y0.C N).Ok Try.prog := ⟨U_ok, GamOk.cons (catalog_Nodes.ok N) (GamOk.cons (slices_Contains_int_int_b.ok N) (GamOk.nil)), GamYOk.nil⟩
def Y0.code : Code := site0.body
def Y0.alts : List Alt := [⟨.normal, [], (.cons (.upd 2 33 (.cons (.own 31 (.pair (.int .i64) (.int .i64))) .nil)) .nil)⟩]
def Y0.run (N : Nat) (nodes : Int) (segments : Int) (k : Int) (tables : (List ((List UInt8) × (List ((List UInt8) × (Int × Bool)))))) (projs : (List ((List UInt8) × (Int × ((List Int) × ((List Int) × (Int × Int))))))) (node : Int) (l : (List (Int × Int))) (t9 : Int) (t91 : Int) : Option ((((List (Int × Int)) × Unit) × Unit)) :=
  obind (catalog_Nodes.run N (nodes, segments, k, tables, projs) (t9, t91)) fun (l1, _) =>
    obind (slices_Contains_int_int_b.run N l1 node) fun (b, _) =>
      bif b then
        bif room (l.length + 1) 16 then
          some ((l ++ ([(t9, t91)] : List (Int × Int)), ()), ())
        else none
      else some ((l, ()), ())
def Y0.fn (N : Nat) (x : Sh.den Y0.ins) : Option (altsDen Y0.alts) := Y0.run N x.1.1 x.1.2.1 x.1.2.2.1 x.1.2.2.2.1 x.1.2.2.2.2.1 x.2.1.1 x.2.2.1.1 x.2.2.2.1.1 x.2.2.2.1.2.1
def Y0.F (N : Nat) : Ys := ⟨[2, 3, 5], [9], Y0.ins, Y0.alts, Y0.fn N⟩
def Y0.yc (N : Nat) : Yc := (Y0.F N).yc
def Y0.lam (N : Nat) : Pcs := pcs []
theorem Y0.pok (N : Nat) : (Y0.lam N).Ok Try.prog (Y0.C N) site0.body := pcsOk_nil
theorem Y0.ev (N : Nat) (x : Sh.den Y0.ins) : evC (Y0.C N) site0.assign (pcs []) ⟨addT [2, 3, 5, 9] (bld (fun k => k) Y0.ins x 0).1 [], (bld (fun k => k) Y0.ins x 0).2.1, 1000⟩ (thenC fun s => evC (Y0.C N) site0.body (Y0.lam N) s (altK Y0.alts)) = Y0.fn N x := by kernel_rfl
theorem Y0.ok (N : Nat) : (Y0.yc N).Ok Try.prog 1000000 := ys_ok (σ := site0) (k := 0) (C := Y0.C N) (F := Y0.F N) (n0 := 1000) (fun _ => rfl) (Y0.cok N) mix (fun _ => rfl) (show site0.ps.toList = [9] by kernel_rfl) (show site0.ts = [2, 3, 5] by kernel_rfl) (show site0.nt = 20 by kernel_rfl) rfl rfl rfl rfl rfl pcsOk_nil (Y0.pok N) (fun x y h => (Y0.ev N x).trans h)
/-- hayloft/catalog.Segments$1 -/
def catalog_Segments_f1.ins : Sh := (.cons (.box 1000000 (.cons (.val (.int .i64)) (.cons (.junk) (.cons (.junk) (.cons (.junk) (.cons (.rbox 25 (.cons (.val (.int .i64)) (.cons (.val (.int .i64)) (.cons (.val (.int .i64)) (.cons (.val (.slice (.pair .str (.slice (.pair .str (.pair (.int .i64) .bool)))))) (.cons (.val (.slice (.pair .str (.pair (.int .i64) (.pair (.slice (.int .i64)) (.pair (.slice (.int .i64)) (.pair (.int .i64) (.int .i64)))))))) .nil)))))) (.cons (.rbox 3 (.cons (.val (.int .i64)) .nil)) (.cons (.box 33 (.cons (.own 31 (.pair (.int .i64) (.int .i64))) .nil)) .nil)))))))) (.cons (.rbox 25 (.cons (.val (.int .i64)) (.cons (.val (.int .i64)) (.cons (.val (.int .i64)) (.cons (.val (.slice (.pair .str (.slice (.pair .str (.pair (.int .i64) .bool)))))) (.cons (.val (.slice (.pair .str (.pair (.int .i64) (.pair (.slice (.int .i64)) (.pair (.slice (.int .i64)) (.pair (.int .i64) (.int .i64)))))))) .nil)))))) .nil))
def catalog_Segments_f1.C (N : Nat) : Ctx := ⟨U, 24, fun _ => true, gam [], gamY [(1000000, Y0.yc N)]⟩
theorem catalog_Segments_f1.cok (N : Nat) : (catalog_Segments_f1.C N).Ok Try.prog := ⟨U_ok, GamOk.nil, GamYOk.cons (Y0.ok N) (GamYOk.nil)⟩
def catalog_Segments_f1.code : Code := Try.f62.body.getD .skip
def catalog_Segments_f1_0.ins : Sh := (.cons (.box 1000000 (.cons (.val (.int .i64)) (.cons (.junk) (.cons (.junk) (.cons (.junk) (.cons (.rbox 25 (.cons (.val (.int .i64)) (.cons (.val (.int .i64)) (.cons (.val (.int .i64)) (.cons (.val (.slice (.pair .str (.slice (.pair .str (.pair (.int .i64) .bool)))))) (.cons (.val (.slice (.pair .str (.pair (.int .i64) (.pair (.slice (.int .i64)) (.pair (.slice (.int .i64)) (.pair (.int .i64) (.int .i64)))))))) .nil)))))) (.cons (.rbox 3 (.cons (.val (.int .i64)) .nil)) (.cons (.box 33 (.cons (.own 31 (.pair (.int .i64) (.int .i64))) .nil)) .nil)))))))) (.cons (.rbox 25 (.cons (.val (.int .i64)) (.cons (.val (.int .i64)) (.cons (.val (.int .i64)) (.cons (.val (.slice (.pair .str (.slice (.pair .str (.pair (.int .i64) .bool)))))) (.cons (.val (.slice (.pair .str (.pair (.int .i64) (.pair (.slice (.int .i64)) (.pair (.slice (.int .i64)) (.pair (.int .i64) (.int .i64)))))))) .nil)))))) (.cons (.val (.int .i64)) (.cons (.val (.int .i64)) .nil))))
def catalog_Segments_f1_0.ts : List Tmp := [0, 1, 7, 8]
def catalog_Segments_f1_0.asg : List Tmp := [3, 4, 8, 9, 10, 11, 12, 13, 14, 15, 16, 17, 18, 19, 20, 21, 22, 23]
def catalog_Segments_f1_0.C (N : Nat) : Ctx := { catalog_Segments_f1.C N with may := fun t => catalog_Segments_f1_0.asg.any (Nat.beq t) }
def catalog_Segments_f1_0.code : Code := loopBody (sub catalog_Segments_f1.code [true, false])
theorem catalog_Segments_f1_0.cok (N : Nat) : (catalog_Segments_f1_0.C N).Ok Try.prog := ⟨(catalog_Segments_f1.cok N).U, (catalog_Segments_f1.cok N).Γ, (catalog_Segments_f1.cok N).Y⟩
def catalog_Segments_f1_0_0.ins : Sh := (.cons (.box 1000000 (.cons (.val (.int .i64)) (.cons (.junk) (.cons (.junk) (.cons (.junk) (.cons (.rbox 25 (.cons (.val (.int .i64)) (.cons (.val (.int .i64)) (.cons (.val (.int .i64)) (.cons (.val (.slice (.pair .str (.slice (.pair .str (.pair (.int .i64) .bool)))))) (.cons (.val (.slice (.pair .str (.pair (.int .i64) (.pair (.slice (.int .i64)) (.pair (.slice (.int .i64)) (.pair (.int .i64) (.int .i64)))))))) .nil)))))) (.cons (.rbox 3 (.cons (.val (.int .i64)) .nil)) (.cons (.box 33 (.cons (.own 31 (.pair (.int .i64) (.int .i64))) .nil)) .nil)))))))) (.cons (.val (.int .i64)) (.cons (.val (.int .i64)) (.cons (.val (.int .i64)) .nil))))
def catalog_Segments_f1_0_0.ts : List Tmp := [0, 3, 12, 13]
def catalog_Segments_f1_0_0.asg : List Tmp := [4, 13, 14, 15, 16, 17, 18, 19, 20, 21, 22]
def catalog_Segments_f1_0_0.C (N : Nat) : Ctx := { catalog_Segments_f1_0.C N with may := fun t => catalog_Segments_f1_0_0.asg.any (Nat.beq t) }
def catalog_Segments_f1_0_0.code : Code := loopBody (sub catalog_Segments_f1_0.code [true, true, false, false, true, true, false])
theorem catalog_Segments_f1_0_0.cok (N : Nat) : (catalog_Segments_f1_0_0.C N).Ok Try.prog := ⟨(catalog_Segments_f1_0.cok N).U, (catalog_Segments_f1_0.cok N).Γ, (catalog_Segments_f1_0.cok N).Y⟩
def catalog_Segments_f1_0_0.alts : List Alt := [⟨(.exit 2), [], (.cons (.upd 3 33 (.cons (.own 31 (.pair (.int .i64) (.int .i64))) .nil)) (.cons (.upd 0 1000000 (.cons (.val (.int .i64)) (.cons (.junk) (.cons (.junk) (.cons (.junk) (.cons (.keep 0 1) (.cons (.keep 0 2) (.cons (.ref 0) .nil)))))))) .nil))⟩]
def catalog_Segments_f1_0_0.go (N : Nat) : Nat → Int → Int → Int → Int → (List ((List UInt8) × (List ((List UInt8) × (Int × Bool))))) → (List ((List UInt8) × (Int × ((List Int) × ((List Int) × (Int × Int)))))) → Int → (List (Int × Int)) → Int → Int → Int → Option ((((List (Int × Int)) × Unit) × (Int × Unit × Unit × Unit × Unit × Unit × Unit × Unit) × Unit))
  | 0, _, _, _, _, _, _, _, _, _, _, _ => none
  | fuel + 1, yield, nodes, segments, k, tables, projs, yield1, yield2, p, t12, t13 =>
    bif decide (t13 < t12) then
      bif decide (yield = (0 : Int)) then
        obind (Y0.run N nodes segments k tables projs yield1 yield2 p t13) fun ((v, _), _) =>
          catalog_Segments_f1_0_0.go N fuel (0 : Int) nodes segments k tables projs yield1 v p t12 (IntKind.i64.wrap (t13 + (1 : Int)))
      else none
    else some ((yield2, ()), (yield, (), (), (), (), (), (), ()), ())
def catalog_Segments_f1_0_0.g (N n : Nat) (x : Sh.den catalog_Segments_f1_0_0.ins) : Option (altsDen catalog_Segments_f1_0_0.alts) := catalog_Segments_f1_0_0.go N n x.1.1 x.1.2.2.2.2.1.1 x.1.2.2.2.2.1.2.1 x.1.2.2.2.2.1.2.2.1 x.1.2.2.2.2.1.2.2.2.1 x.1.2.2.2.2.1.2.2.2.2.1 x.1.2.2.2.2.2.1.1 x.1.2.2.2.2.2.2.1.1 x.2.1 x.2.2.1 x.2.2.2.1
def catalog_Segments_f1_0_0.P (N : Nat) : Ps := ⟨catalog_Segments_f1_0_0.ts, catalog_Segments_f1_0_0.ins, catalog_Segments_f1_0_0.asg, catalog_Segments_f1_0_0.alts, catalog_Segments_f1_0_0.g N N⟩
def catalog_Segments_f1_0_0.lam (N : Nat) : Pcs := pcs []
theorem catalog_Segments_f1_0_0.pok (N : Nat) : (catalog_Segments_f1_0_0.lam N).Ok Try.prog (catalog_Segments_f1_0_0.C N) catalog_Segments_f1_0_0.code := pcsOk_nil
theorem catalog_Segments_f1_0_0.ev (N n : Nat) (x : Sh.den catalog_Segments_f1_0_0.ins) : evC (catalog_Segments_f1_0_0.C N) catalog_Segments_f1_0_0.code (catalog_Segments_f1_0_0.lam N) ((catalog_Segments_f1_0_0.P N).canon 1000 x) (loopK (catalog_Segments_f1_0_0.P N) (catalog_Segments_f1_0_0.g N n)) = catalog_Segments_f1_0_0.g N (n + 1) x := by kernel_rfl
theorem catalog_Segments_f1_0_0.ok (N : Nat) : ((catalog_Segments_f1_0_0.P N).pc (catalog_Segments_f1_0.C N)).Ok Try.prog (catalog_Segments_f1_0.C N) (.loop catalog_Segments_f1_0_0.code) := loop_ok (F := catalog_Segments_f1_0_0.P N) (n0 := 1000) (N := N) (catalog_Segments_f1_0.cok N) mix (catalog_Segments_f1_0_0.pok N) (catalog_Segments_f1_0_0.g N) (fun x => by rfl) rfl (fun n x y h => (catalog_Segments_f1_0_0.ev N n x).trans h)
def catalog_Segments_f1_0.alts : List Alt := [⟨(.exit 0), [], (.cons (.upd 3 33 (.cons (.own 31 (.pair (.int .i64) (.int .i64))) .nil)) (.cons (.upd 0 1000000 (.cons (.val (.int .i64)) (.cons (.junk) (.cons (.junk) (.cons (.junk) (.cons (.keep 0 1) (.cons (.keep 0 2) (.cons (.ref 0) .nil)))))))) .nil))⟩]
def catalog_Segments_f1_0.go (N : Nat) : Nat → Int → Int → Int → Int → (List ((List UInt8) × (List ((List UInt8) × (Int × Bool))))) → (List ((List UInt8) × (Int × ((List Int) × ((List Int) × (Int × Int)))))) → Int → (List (Int × Int)) → Int → Int → Int → (List ((List UInt8) × (List ((List UInt8) × (Int × Bool))))) → (List ((List UInt8) × (Int × ((List Int) × ((List Int) × (Int × Int)))))) → Int → Int → Option ((((List (Int × Int)) × Unit) × (Int × Unit × Unit × Unit × Unit × Unit × Unit × Unit) × Unit))
  | 0, _, _, _, _, _, _, _, _, _, _, _, _, _, _, _ => none
  | fuel + 1, yield, nodes, segments, k, tables, projs, yield1, yield2, nodes1, segments1, k1, tables1, projs1, t7, t8 =>
    bif decide (t8 < t7) then
      obind (catalog_Segments_f1_0_0.go N N yield nodes segments k tables projs yield1 yield2 t8 segments1 (0 : Int)) fun ((v, _), (v1, _, _, _, _, _, _, _), _) =>
        catalog_Segments_f1_0.go N fuel v1 nodes segments k tables projs yield1 v nodes1 segments1 k1 tables1 projs1 t7 (IntKind.i64.wrap (t8 + (1 : Int)))
    else some ((yield2, ()), (yield, (), (), (), (), (), (), ()), ())
def catalog_Segments_f1_0.g (N n : Nat) (x : Sh.den catalog_Segments_f1_0.ins) : Option (altsDen catalog_Segments_f1_0.alts) := catalog_Segments_f1_0.go N n x.1.1 x.1.2.2.2.2.1.1 x.1.2.2.2.2.1.2.1 x.1.2.2.2.2.1.2.2.1 x.1.2.2.2.2.1.2.2.2.1 x.1.2.2.2.2.1.2.2.2.2.1 x.1.2.2.2.2.2.1.1 x.1.2.2.2.2.2.2.1.1 x.2.1.1 x.2.1.2.1 x.2.1.2.2.1 x.2.1.2.2.2.1 x.2.1.2.2.2.2.1 x.2.2.1 x.2.2.2.1
def catalog_Segments_f1_0.P (N : Nat) : Ps := ⟨catalog_Segments_f1_0.ts, catalog_Segments_f1_0.ins, catalog_Segments_f1_0.asg, catalog_Segments_f1_0.alts, catalog_Segments_f1_0.g N N⟩
def catalog_Segments_f1_0.lam (N : Nat) : Pcs := pcs [([true, true, false, false, true, true, false], (catalog_Segments_f1_0_0.P N).pc (catalog_Segments_f1_0.C N))]
theorem catalog_Segments_f1_0.pok (N : Nat) : (catalog_Segments_f1_0.lam N).Ok Try.prog (catalog_Segments_f1_0.C N) catalog_Segments_f1_0.code := pcsOk_cons (c1 := .loop catalog_Segments_f1_0_0.code) (by kernel_rfl) (catalog_Segments_f1_0_0.ok N) (pcsOk_nil)
theorem catalog_Segments_f1_0.ev (N n : Nat) (x : Sh.den catalog_Segments_f1_0.ins) : evC (catalog_Segments_f1_0.C N) catalog_Segments_f1_0.code (catalog_Segments_f1_0.lam N) ((catalog_Segments_f1_0.P N).canon 1000 x) (loopK (catalog_Segments_f1_0.P N) (catalog_Segments_f1_0.g N n)) = catalog_Segments_f1_0.g N (n + 1) x := by kernel_rfl
theorem catalog_Segments_f1_0.ok (N : Nat) : ((catalog_Segments_f1_0.P N).pc (catalog_Segments_f1.C N)).Ok Try.prog (catalog_Segments_f1.C N) (.loop catalog_Segments_f1_0.code) := loop_ok (F := catalog_Segments_f1_0.P N) (n0 := 1000) (N := N) (catalog_Segments_f1.cok N) mix (catalog_Segments_f1_0.pok N) (catalog_Segments_f1_0.g N) (fun x => by rfl) rfl (fun n x y h => (catalog_Segments_f1_0.ev N n x).trans h)
def catalog_Segments_f1.outs : Sh := (.cons (.upd 3 33 (.cons (.own 31 (.pair (.int .i64) (.int .i64))) .nil)) (.cons (.upd 0 1000000 (.cons (.val (.int .i64)) (.cons (.junk) (.cons (.junk) (.cons (.junk) (.cons (.keep 0 1) (.cons (.keep 0 2) (.cons (.ref 0) .nil)))))))) .nil))
def catalog_Segments_f1.run (N : Nat) (yield : Int) (nodes : Int) (segments : Int) (k : Int) (tables : (List ((List UInt8) × (List ((List UInt8) × (Int × Bool)))))) (projs : (List ((List UInt8) × (Int × ((List Int) × ((List Int) × (Int × Int))))))) (yield1 : Int) (yield2 : (List (Int × Int))) (nodes1 : Int) (segments1 : Int) (k1 : Int) (tables1 : (List ((List UInt8) × (List ((List UInt8) × (Int × Bool)))))) (projs1 : (List ((List UInt8) × (Int × ((List Int) × ((List Int) × (Int × Int))))))) : Option (((List (Int × Int)) × Unit) × (Int × Unit × Unit × Unit × Unit × Unit × Unit × Unit) × Unit) :=
  obind (catalog_Segments_f1_0.go N N yield nodes segments k tables projs yield1 yield2 nodes1 segments1 k1 tables1 projs1 (projs1.length : Int) (0 : Int)) fun ((v, _), (v1, _, _, _, _, _, _, _), _) =>
    some ((v, ()), (v1, (), (), (), (), (), (), ()), ())
def catalog_Segments_f1.fn (N : Nat) (x : Sh.den catalog_Segments_f1.ins) : Option (Sh.den catalog_Segments_f1.outs) := catalog_Segments_f1.run N x.1.1 x.1.2.2.2.2.1.1 x.1.2.2.2.2.1.2.1 x.1.2.2.2.2.1.2.2.1 x.1.2.2.2.2.1.2.2.2.1 x.1.2.2.2.2.1.2.2.2.2.1 x.1.2.2.2.2.2.1.1 x.1.2.2.2.2.2.2.1.1 x.2.1.1 x.2.1.2.1 x.2.1.2.2.1 x.2.1.2.2.2.1 x.2.1.2.2.2.2.1
def catalog_Segments_f1.S (N : Nat) : Fs := ⟨catalog_Segments_f1.ins, catalog_Segments_f1.outs, catalog_Segments_f1.fn N⟩
def catalog_Segments_f1.lam (N : Nat) : Pcs := pcs [([true, false], (catalog_Segments_f1_0.P N).pc (catalog_Segments_f1.C N))]
theorem catalog_Segments_f1.pok (N : Nat) : (catalog_Segments_f1.lam N).Ok Try.prog (catalog_Segments_f1.C N) catalog_Segments_f1.code := pcsOk_cons (c1 := .loop catalog_Segments_f1_0.code) (by kernel_rfl) (catalog_Segments_f1_0.ok N) (pcsOk_nil)
theorem catalog_Segments_f1.ev (N : Nat) (x : Sh.den catalog_Segments_f1.ins) : evC (catalog_Segments_f1.C N) catalog_Segments_f1.code (catalog_Segments_f1.lam N) ⟨envOf 0 (bld (fun k => k) catalog_Segments_f1.ins x 0).1, (bld (fun k => k) catalog_Segments_f1.ins x 0).2.1, 1000⟩ (endF U catalog_Segments_f1.outs Try.f62.results.toList []) = catalog_Segments_f1.fn N x := by kernel_rfl
theorem catalog_Segments_f1.ok (N : Nat) : (catalog_Segments_f1.S N).con.Ok Try.prog 62 := fn_ok (F := catalog_Segments_f1.S N) (n0 := 1000) Try.func62 (by kernel_rfl) (show Try.f62.body = some catalog_Segments_f1.code by rfl) mix (catalog_Segments_f1.cok N) (fun _ => rfl) (fun _ => rfl) (catalog_Segments_f1.pok N) (fun x y h => (catalog_Segments_f1.ev N x).trans h)
/-- hayloft/catalog.Of -/
def catalog_Of.ins : Sh := (.cons (.val (.pair (.int .i64) (.pair (.int .i64) (.pair (.int .i64) (.pair (.slice (.pair .str (.slice (.pair .str (.pair (.int .i64) .bool))))) (.slice (.pair .str (.pair (.int .i64) (.pair (.slice (.int .i64)) (.pair (.slice (.int .i64)) (.pair (.int .i64) (.int .i64)))))))))))) (.cons (.val (.int .i64)) .nil))
def catalog_Of.C (N : Nat) : Ctx := ⟨U, 20, fun _ => true, gam [(37, (catalog_Segments.S N).con), (62, (catalog_Segments_f1.S N).con)], gamY []⟩
theorem catalog_Of.cok (N : Nat) : (catalog_Of.C N).Ok Try.prog := ⟨U_ok, GamOk.cons (catalog_Segments.ok N) (GamOk.cons (catalog_Segments_f1.ok N) (GamOk.nil)), GamYOk.nil⟩
def catalog_Of.code : Code := Try.f14.body.getD .skip
def catalog_Of.outs : Sh := (.cons (.own 31 (.pair (.int .i64) (.int .i64))) .nil)
def catalog_Of.run (N : Nat) (c : (Int × (Int × (Int × ((List ((List UInt8) × (List ((List UInt8) × (Int × Bool))))) × (List ((List UInt8) × (Int × ((List Int) × ((List Int) × (Int × Int))))))))))) (node : Int) : Option ((List (Int × Int)) × Unit) :=
  obind (catalog_Segments.run N c) fun (((nodes, segments, k, tables, projs, _), _), _) =>
    obind (catalog_Segments_f1.run N (0 : Int) c.1 c.2.1 c.2.2.1 c.2.2.2.1 c.2.2.2.2 node ([] : List (Int × Int)) nodes segments k tables projs) fun ((v, _), (v1, _, _, _, _, _, _, _), _) =>
      bif decide (v1 = (0 : Int)) then
        some (v, ())
      else none
def catalog_Of.fn (N : Nat) (x : Sh.den catalog_Of.ins) : Option (Sh.den catalog_Of.outs) := catalog_Of.run N x.1 x.2.1
def catalog_Of.S (N : Nat) : Fs := ⟨catalog_Of.ins, catalog_Of.outs, catalog_Of.fn N⟩
def catalog_Of.lam (N : Nat) : Pcs := pcs [([true, true, false, true, false], rfPc (catalog_Of.C N) 1000000 (.tmp 8) [2, 3, 5] [.normal])]
theorem catalog_Of.pok (N : Nat) : (catalog_Of.lam N).Ok Try.prog (catalog_Of.C N) catalog_Of.code := pcsOk_cons (c1 := .rangeFunc (.tmp 8) site0.ps site0.assign site0.body) (by kernel_rfl) (rf_ok (k := 0) (fun _ => rfl) (catalog_Of.cok N)) (pcsOk_nil)
theorem catalog_Of.ev (N : Nat) (x : Sh.den catalog_Of.ins) : evC (catalog_Of.C N) catalog_Of.code (catalog_Of.lam N) ⟨envOf 0 (bld (fun k => k) catalog_Of.ins x 0).1, (bld (fun k => k) catalog_Of.ins x 0).2.1, 1000⟩ (endF U catalog_Of.outs Try.f14.results.toList []) = catalog_Of.fn N x := by kernel_rfl
theorem catalog_Of.ok (N : Nat) : (catalog_Of.S N).con.Ok Try.prog 14 := fn_ok (F := catalog_Of.S N) (n0 := 1000) Try.func14 (by kernel_rfl) (show Try.f14.body = some catalog_Of.code by rfl) mix (catalog_Of.cok N) (fun _ => rfl) (fun _ => rfl) (catalog_Of.pok N) (fun x y h => (catalog_Of.ev N x).trans h)
/-- hayloft/catalog.Check -/
def catalog_Check.ins : Sh := (.cons (.val (.pair (.int .i64) (.pair (.int .i64) (.pair (.int .i64) (.pair (.slice (.pair .str (.slice (.pair .str (.pair (.int .i64) .bool))))) (.slice (.pair .str (.pair (.int .i64) (.pair (.slice (.int .i64)) (.pair (.slice (.int .i64)) (.pair (.int .i64) (.int .i64)))))))))))) .nil)
def catalog_Check.C (N : Nat) : Ctx := ⟨U, 116, fun _ => true, gam [(27, (value_Table.S N).con), (28, (slices_ContainsFunc_api_Table_api_Table.S N).con), (30, (catalog_projection.S N).con), (31, (slices_ContainsFunc_api_Projection_api_Projection.S N).con), (33, (catalog_covered.S N).con), (14, (catalog_Of.S N).con)], gamY []⟩
theorem catalog_Check.cok (N : Nat) : (catalog_Check.C N).Ok Try.prog := ⟨U_ok, GamOk.cons (value_Table.ok N) (GamOk.cons (slices_ContainsFunc_api_Table_api_Table.ok N) (GamOk.cons (catalog_projection.ok N) (GamOk.cons (slices_ContainsFunc_api_Projection_api_Projection.ok N) (GamOk.cons (catalog_covered.ok N) (GamOk.cons (catalog_Of.ok N) (GamOk.nil)))))), GamYOk.nil⟩
def catalog_Check.code : Code := Try.f10.body.getD .skip
def catalog_Check_0.ins : Sh := (.cons (.rbox 25 (.cons (.val (.int .i64)) (.cons (.val (.int .i64)) (.cons (.val (.int .i64)) (.cons (.val (.slice (.pair .str (.slice (.pair .str (.pair (.int .i64) .bool)))))) (.cons (.val (.slice (.pair .str (.pair (.int .i64) (.pair (.slice (.int .i64)) (.pair (.slice (.int .i64)) (.pair (.int .i64) (.int .i64)))))))) .nil)))))) (.cons (.val (.slice (.pair .str (.slice (.pair .str (.pair (.int .i64) .bool)))))) (.cons (.val (.int .i64)) (.cons (.val (.int .i64)) .nil))))
def catalog_Check_0.ts : List Tmp := [1, 50, 51, 52]
def catalog_Check_0.asg : List Tmp := [2, 3, 4, 52, 53, 54, 55, 56, 57, 58, 59, 60, 61, 62, 63, 64, 65, 66, 67, 68]
def catalog_Check_0.C (N : Nat) : Ctx := { catalog_Check.C N with may := fun t => catalog_Check_0.asg.any (Nat.beq t) }
def catalog_Check_0.code : Code := loopBody (sub catalog_Check.code [true, true, true, false, true, false])
theorem catalog_Check_0.cok (N : Nat) : (catalog_Check_0.C N).Ok Try.prog := ⟨(catalog_Check.cok N).U, (catalog_Check.cok N).Γ, (catalog_Check.cok N).Y⟩
def catalog_Check_0.alts : List Alt := [⟨.ret, [2], (.cons (.val (.int .i64)) .nil)⟩, ⟨(.exit 0), [], .nil⟩]
def catalog_Check_0.go (N : Nat) : Nat → Int → Int → Int → (List ((List UInt8) × (List ((List UInt8) × (Int × Bool))))) → (List ((List UInt8) × (Int × ((List Int) × ((List Int) × (Int × Int)))))) → (List ((List UInt8) × (List ((List UInt8) × (Int × Bool))))) → Int → Int → Option ((Int × Unit) ⊕ Unit)
  | 0, _, _, _, _, _, _, _, _ => none
  | fuel + 1, nodes, segments, k, tables, projs, t50, t51, t52 =>
    bif decide (t52 < t51) then
      bif inB t52 t50.length then
        obind (value_Table.run N (t50.getD t52.toNat (([] : List UInt8), ([] : List ((List UInt8) × (Int × Bool)))))) fun (n_, _) =>
          bif !(decide (n_ = (0 : Int))) then
            some (.inl ((130 : Int), ()))
          else
            bif okB (0 : Int) t52 tables.length then
              obind (slices_ContainsFunc_api_Table_api_Table.run N (tables.take t52.toNat) (t50.getD t52.toNat (([] : List UInt8), ([] : List ((List UInt8) × (Int × Bool))))).1 (t50.getD t52.toNat (([] : List UInt8), ([] : List ((List UInt8) × (Int × Bool))))).2) fun (b, _) =>
                bif b then
                  some (.inl ((130 : Int), ()))
                else catalog_Check_0.go N fuel nodes segments k tables projs t50 t51 (IntKind.i64.wrap (t52 + (1 : Int)))
            else none
      else none
    else some (.inr ())
def catalog_Check_0.g (N n : Nat) (x : Sh.den catalog_Check_0.ins) : Option (altsDen catalog_Check_0.alts) := catalog_Check_0.go N n x.1.1 x.1.2.1 x.1.2.2.1 x.1.2.2.2.1 x.1.2.2.2.2.1 x.2.1 x.2.2.1 x.2.2.2.1
def catalog_Check_0.P (N : Nat) : Ps := ⟨catalog_Check_0.ts, catalog_Check_0.ins, catalog_Check_0.asg, catalog_Check_0.alts, catalog_Check_0.g N N⟩
def catalog_Check_0.lam (N : Nat) : Pcs := pcs []
theorem catalog_Check_0.pok (N : Nat) : (catalog_Check_0.lam N).Ok Try.prog (catalog_Check_0.C N) catalog_Check_0.code := pcsOk_nil
theorem catalog_Check_0.ev (N n : Nat) (x : Sh.den catalog_Check_0.ins) : evC (catalog_Check_0.C N) catalog_Check_0.code (catalog_Check_0.lam N) ((catalog_Check_0.P N).canon 1000 x) (loopK (catalog_Check_0.P N) (catalog_Check_0.g N n)) = catalog_Check_0.g N (n + 1) x := by kernel_rfl
theorem catalog_Check_0.ok (N : Nat) : ((catalog_Check_0.P N).pc (catalog_Check.C N)).Ok Try.prog (catalog_Check.C N) (.loop catalog_Check_0.code) := loop_ok (F := catalog_Check_0.P N) (n0 := 1000) (N := N) (catalog_Check.cok N) mix (catalog_Check_0.pok N) (catalog_Check_0.g N) (fun x => by rfl) rfl (fun n x y h => (catalog_Check_0.ev N n x).trans h)
def catalog_Check_1.ins : Sh := (.cons (.rbox 25 (.cons (.val (.int .i64)) (.cons (.val (.int .i64)) (.cons (.val (.int .i64)) (.cons (.val (.slice (.pair .str (.slice (.pair .str (.pair (.int .i64) .bool)))))) (.cons (.val (.slice (.pair .str (.pair (.int .i64) (.pair (.slice (.int .i64)) (.pair (.slice (.int .i64)) (.pair (.int .i64) (.int .i64)))))))) .nil)))))) (.cons (.val (.slice (.pair .str (.pair (.int .i64) (.pair (.slice (.int .i64)) (.pair (.slice (.int .i64)) (.pair (.int .i64) (.int .i64)))))))) (.cons (.val (.int .i64)) (.cons (.val (.int .i64)) .nil))))
def catalog_Check_1.ts : List Tmp := [1, 74, 75, 76]
def catalog_Check_1.asg : List Tmp := [2, 5, 6, 76, 77, 78, 79, 80, 81, 82, 83, 84, 85, 86, 87, 88, 89, 90, 91, 92, 93]
def catalog_Check_1.C (N : Nat) : Ctx := { catalog_Check.C N with may := fun t => catalog_Check_1.asg.any (Nat.beq t) }
def catalog_Check_1.code : Code := loopBody (sub catalog_Check.code [true, true, true, true, true, false, true, false])
theorem catalog_Check_1.cok (N : Nat) : (catalog_Check_1.C N).Ok Try.prog := ⟨(catalog_Check.cok N).U, (catalog_Check.cok N).Γ, (catalog_Check.cok N).Y⟩
def catalog_Check_1.alts : List Alt := [⟨.ret, [2], (.cons (.val (.int .i64)) .nil)⟩, ⟨(.exit 2), [], .nil⟩]
def catalog_Check_1.go (N : Nat) : Nat → Int → Int → Int → (List ((List UInt8) × (List ((List UInt8) × (Int × Bool))))) → (List ((List UInt8) × (Int × ((List Int) × ((List Int) × (Int × Int)))))) → (List ((List UInt8) × (Int × ((List Int) × ((List Int) × (Int × Int)))))) → Int → Int → Option ((Int × Unit) ⊕ Unit)
  | 0, _, _, _, _, _, _, _, _ => none
  | fuel + 1, nodes, segments, k, tables, projs, t74, t75, t76 =>
    bif decide (t76 < t75) then
      bif inB t76 t74.length then
        obind (catalog_projection.run N (nodes, segments, k, tables, projs) (t74.getD t76.toNat (([] : List UInt8), (0 : Int), ([] : List Int), ([] : List Int), (0 : Int), (0 : Int)))) fun (b, _) =>
          bif !b then
            some (.inl ((131 : Int), ()))
          else
            bif okB (0 : Int) t76 projs.length then
              obind (slices_ContainsFunc_api_Projection_api_Projection.run N (projs.take t76.toNat) (t74.getD t76.toNat (([] : List UInt8), (0 : Int), ([] : List Int), ([] : List Int), (0 : Int), (0 : Int))).1 (t74.getD t76.toNat (([] : List UInt8), (0 : Int), ([] : List Int), ([] : List Int), (0 : Int), (0 : Int))).2.1 (t74.getD t76.toNat (([] : List UInt8), (0 : Int), ([] : List Int), ([] : List Int), (0 : Int), (0 : Int))).2.2.1 (t74.getD t76.toNat (([] : List UInt8), (0 : Int), ([] : List Int), ([] : List Int), (0 : Int), (0 : Int))).2.2.2.1 (t74.getD t76.toNat (([] : List UInt8), (0 : Int), ([] : List Int), ([] : List Int), (0 : Int), (0 : Int))).2.2.2.2.1 (t74.getD t76.toNat (([] : List UInt8), (0 : Int), ([] : List Int), ([] : List Int), (0 : Int), (0 : Int))).2.2.2.2.2) fun (b1, _) =>
                bif b1 then
                  some (.inl ((131 : Int), ()))
                else catalog_Check_1.go N fuel nodes segments k tables projs t74 t75 (IntKind.i64.wrap (t76 + (1 : Int)))
            else none
      else none
    else some (.inr ())
def catalog_Check_1.g (N n : Nat) (x : Sh.den catalog_Check_1.ins) : Option (altsDen catalog_Check_1.alts) := catalog_Check_1.go N n x.1.1 x.1.2.1 x.1.2.2.1 x.1.2.2.2.1 x.1.2.2.2.2.1 x.2.1 x.2.2.1 x.2.2.2.1
def catalog_Check_1.P (N : Nat) : Ps := ⟨catalog_Check_1.ts, catalog_Check_1.ins, catalog_Check_1.asg, catalog_Check_1.alts, catalog_Check_1.g N N⟩
def catalog_Check_1.lam (N : Nat) : Pcs := pcs []
theorem catalog_Check_1.pok (N : Nat) : (catalog_Check_1.lam N).Ok Try.prog (catalog_Check_1.C N) catalog_Check_1.code := pcsOk_nil
theorem catalog_Check_1.ev (N n : Nat) (x : Sh.den catalog_Check_1.ins) : evC (catalog_Check_1.C N) catalog_Check_1.code (catalog_Check_1.lam N) ((catalog_Check_1.P N).canon 1000 x) (loopK (catalog_Check_1.P N) (catalog_Check_1.g N n)) = catalog_Check_1.g N (n + 1) x := by kernel_rfl
theorem catalog_Check_1.ok (N : Nat) : ((catalog_Check_1.P N).pc (catalog_Check.C N)).Ok Try.prog (catalog_Check.C N) (.loop catalog_Check_1.code) := loop_ok (F := catalog_Check_1.P N) (n0 := 1000) (N := N) (catalog_Check.cok N) mix (catalog_Check_1.pok N) (catalog_Check_1.g N) (fun x => by rfl) rfl (fun n x y h => (catalog_Check_1.ev N n x).trans h)
def catalog_Check_2.ins : Sh := (.cons (.rbox 25 (.cons (.val (.int .i64)) (.cons (.val (.int .i64)) (.cons (.val (.int .i64)) (.cons (.val (.slice (.pair .str (.slice (.pair .str (.pair (.int .i64) .bool)))))) (.cons (.val (.slice (.pair .str (.pair (.int .i64) (.pair (.slice (.int .i64)) (.pair (.slice (.int .i64)) (.pair (.int .i64) (.int .i64)))))))) .nil)))))) (.cons (.val (.int .i64)) (.cons (.val (.int .i64)) .nil)))
def catalog_Check_2.ts : List Tmp := [1, 96, 97]
def catalog_Check_2.asg : List Tmp := [2, 7, 97, 98, 99, 100, 101, 102, 103, 104]
def catalog_Check_2.C (N : Nat) : Ctx := { catalog_Check.C N with may := fun t => catalog_Check_2.asg.any (Nat.beq t) }
def catalog_Check_2.code : Code := loopBody (sub catalog_Check.code [true, true, true, true, true, true, false, true, false])
theorem catalog_Check_2.cok (N : Nat) : (catalog_Check_2.C N).Ok Try.prog := ⟨(catalog_Check.cok N).U, (catalog_Check.cok N).Γ, (catalog_Check.cok N).Y⟩
def catalog_Check_2.alts : List Alt := [⟨.ret, [2], (.cons (.val (.int .i64)) .nil)⟩, ⟨(.exit 4), [], .nil⟩]
def catalog_Check_2.go (N : Nat) : Nat → Int → Int → Int → (List ((List UInt8) × (List ((List UInt8) × (Int × Bool))))) → (List ((List UInt8) × (Int × ((List Int) × ((List Int) × (Int × Int)))))) → Int → Int → Option ((Int × Unit) ⊕ Unit)
  | 0, _, _, _, _, _, _, _ => none
  | fuel + 1, nodes, segments, k, tables, projs, t96, t97 =>
    bif decide (t97 < t96) then
      obind (catalog_covered.run N (nodes, segments, k, tables, projs) t97) fun (b, _) =>
        bif !b then
          some (.inl ((132 : Int), ()))
        else catalog_Check_2.go N fuel nodes segments k tables projs t96 (IntKind.i64.wrap (t97 + (1 : Int)))
    else some (.inr ())
def catalog_Check_2.g (N n : Nat) (x : Sh.den catalog_Check_2.ins) : Option (altsDen catalog_Check_2.alts) := catalog_Check_2.go N n x.1.1 x.1.2.1 x.1.2.2.1 x.1.2.2.2.1 x.1.2.2.2.2.1 x.2.1 x.2.2.1
def catalog_Check_2.P (N : Nat) : Ps := ⟨catalog_Check_2.ts, catalog_Check_2.ins, catalog_Check_2.asg, catalog_Check_2.alts, catalog_Check_2.g N N⟩
def catalog_Check_2.lam (N : Nat) : Pcs := pcs []
theorem catalog_Check_2.pok (N : Nat) : (catalog_Check_2.lam N).Ok Try.prog (catalog_Check_2.C N) catalog_Check_2.code := pcsOk_nil
theorem catalog_Check_2.ev (N n : Nat) (x : Sh.den catalog_Check_2.ins) : evC (catalog_Check_2.C N) catalog_Check_2.code (catalog_Check_2.lam N) ((catalog_Check_2.P N).canon 1000 x) (loopK (catalog_Check_2.P N) (catalog_Check_2.g N n)) = catalog_Check_2.g N (n + 1) x := by kernel_rfl
theorem catalog_Check_2.ok (N : Nat) : ((catalog_Check_2.P N).pc (catalog_Check.C N)).Ok Try.prog (catalog_Check.C N) (.loop catalog_Check_2.code) := loop_ok (F := catalog_Check_2.P N) (n0 := 1000) (N := N) (catalog_Check.cok N) mix (catalog_Check_2.pok N) (catalog_Check_2.g N) (fun x => by rfl) rfl (fun n x y h => (catalog_Check_2.ev N n x).trans h)
def catalog_Check_3.ins : Sh := (.cons (.rbox 25 (.cons (.val (.int .i64)) (.cons (.val (.int .i64)) (.cons (.val (.int .i64)) (.cons (.val (.slice (.pair .str (.slice (.pair .str (.pair (.int .i64) .bool)))))) (.cons (.val (.slice (.pair .str (.pair (.int .i64) (.pair (.slice (.int .i64)) (.pair (.slice (.int .i64)) (.pair (.int .i64) (.int .i64)))))))) .nil)))))) (.cons (.val (.int .i64)) (.cons (.val (.int .i64)) .nil)))
def catalog_Check_3.ts : List Tmp := [1, 106, 107]
def catalog_Check_3.asg : List Tmp := [2, 8, 107, 108, 109, 110, 111, 112, 113, 114, 115]
def catalog_Check_3.C (N : Nat) : Ctx := { catalog_Check.C N with may := fun t => catalog_Check_3.asg.any (Nat.beq t) }
def catalog_Check_3.code : Code := loopBody (sub catalog_Check.code [true, true, true, true, true, true, true, false, true, false])
theorem catalog_Check_3.cok (N : Nat) : (catalog_Check_3.C N).Ok Try.prog := ⟨(catalog_Check.cok N).U, (catalog_Check.cok N).Γ, (catalog_Check.cok N).Y⟩
def catalog_Check_3.alts : List Alt := [⟨.ret, [2], (.cons (.val (.int .i64)) .nil)⟩, ⟨(.exit 6), [], .nil⟩]
def catalog_Check_3.go (N : Nat) : Nat → Int → Int → Int → (List ((List UInt8) × (List ((List UInt8) × (Int × Bool))))) → (List ((List UInt8) × (Int × ((List Int) × ((List Int) × (Int × Int)))))) → Int → Int → Option ((Int × Unit) ⊕ Unit)
  | 0, _, _, _, _, _, _, _ => none
  | fuel + 1, nodes, segments, k, tables, projs, t106, t107 =>
    bif decide (t107 < t106) then
      obind (catalog_Of.run N (nodes, segments, k, tables, projs) t107) fun (l, _) =>
        bif decide ((l.length : Int) = (0 : Int)) then
          some (.inl ((133 : Int), ()))
        else catalog_Check_3.go N fuel nodes segments k tables projs t106 (IntKind.i64.wrap (t107 + (1 : Int)))
    else some (.inr ())
def catalog_Check_3.g (N n : Nat) (x : Sh.den catalog_Check_3.ins) : Option (altsDen catalog_Check_3.alts) := catalog_Check_3.go N n x.1.1 x.1.2.1 x.1.2.2.1 x.1.2.2.2.1 x.1.2.2.2.2.1 x.2.1 x.2.2.1
def catalog_Check_3.P (N : Nat) : Ps := ⟨catalog_Check_3.ts, catalog_Check_3.ins, catalog_Check_3.asg, catalog_Check_3.alts, catalog_Check_3.g N N⟩
def catalog_Check_3.lam (N : Nat) : Pcs := pcs []
theorem catalog_Check_3.pok (N : Nat) : (catalog_Check_3.lam N).Ok Try.prog (catalog_Check_3.C N) catalog_Check_3.code := pcsOk_nil
theorem catalog_Check_3.ev (N n : Nat) (x : Sh.den catalog_Check_3.ins) : evC (catalog_Check_3.C N) catalog_Check_3.code (catalog_Check_3.lam N) ((catalog_Check_3.P N).canon 1000 x) (loopK (catalog_Check_3.P N) (catalog_Check_3.g N n)) = catalog_Check_3.g N (n + 1) x := by kernel_rfl
theorem catalog_Check_3.ok (N : Nat) : ((catalog_Check_3.P N).pc (catalog_Check.C N)).Ok Try.prog (catalog_Check.C N) (.loop catalog_Check_3.code) := loop_ok (F := catalog_Check_3.P N) (n0 := 1000) (N := N) (catalog_Check.cok N) mix (catalog_Check_3.pok N) (catalog_Check_3.g N) (fun x => by rfl) rfl (fun n x y h => (catalog_Check_3.ev N n x).trans h)
def catalog_Check.outs : Sh := (.cons (.val (.int .i64)) .nil)
def catalog_Check.run (N : Nat) (c : (Int × (Int × (Int × ((List ((List UInt8) × (List ((List UInt8) × (Int × Bool))))) × (List ((List UInt8) × (Int × ((List Int) × ((List Int) × (Int × Int))))))))))) : Option (Int × Unit) :=
  bif decide (c.1 < (1 : Int)) then
    some ((133 : Int), ())
  else
    bif decide (c.1 > (8 : Int)) then
      some ((133 : Int), ())
    else
      bif decide (c.2.2.1 < (0 : Int)) then
        some ((133 : Int), ())
      else
        bif decide (c.2.2.1 ≥ c.1) then
          some ((133 : Int), ())
        else
          bif decide (c.2.1 < (1 : Int)) then
            some ((133 : Int), ())
          else
            bif decide (c.2.1 > (8 : Int)) then
              some ((133 : Int), ())
            else
              bif decide ((c.2.2.2.1.length : Int) < (1 : Int)) then
                some ((130 : Int), ())
              else
                bif decide ((c.2.2.2.1.length : Int) > (4 : Int)) then
                  some ((130 : Int), ())
                else
                  obind (catalog_Check_0.go N N c.1 c.2.1 c.2.2.1 c.2.2.2.1 c.2.2.2.2 c.2.2.2.1 (c.2.2.2.1.length : Int) (0 : Int)) fun y => match y with
                  | .inl (t2, _) =>
                      some (t2, ())
                  | .inr (_) =>
                      bif decide ((c.2.2.2.2.length : Int) > (8 : Int)) then
                        some ((131 : Int), ())
                      else
                        obind (catalog_Check_1.go N N c.1 c.2.1 c.2.2.1 c.2.2.2.1 c.2.2.2.2 c.2.2.2.2 (c.2.2.2.2.length : Int) (0 : Int)) fun y => match y with
                        | .inl (t21, _) =>
                            some (t21, ())
                        | .inr (_) =>
                            obind (catalog_Check_2.go N N c.1 c.2.1 c.2.2.1 c.2.2.2.1 c.2.2.2.2 (c.2.2.2.1.length : Int) (0 : Int)) fun y => match y with
                            | .inl (t22, _) =>
                                some (t22, ())
                            | .inr (_) =>
                                obind (catalog_Check_3.go N N c.1 c.2.1 c.2.2.1 c.2.2.2.1 c.2.2.2.2 c.1 (0 : Int)) fun y => match y with
                                | .inl (t23, _) =>
                                    some (t23, ())
                                | .inr (_) =>
                                    some ((0 : Int), ())
def catalog_Check.fn (N : Nat) (x : Sh.den catalog_Check.ins) : Option (Sh.den catalog_Check.outs) := catalog_Check.run N x.1
def catalog_Check.S (N : Nat) : Fs := ⟨catalog_Check.ins, catalog_Check.outs, catalog_Check.fn N⟩
def catalog_Check.lam (N : Nat) : Pcs := pcs [([true, true, true, false, true, false], (catalog_Check_0.P N).pc (catalog_Check.C N)), ([true, true, true, true, true, false, true, false], (catalog_Check_1.P N).pc (catalog_Check.C N)), ([true, true, true, true, true, true, false, true, false], (catalog_Check_2.P N).pc (catalog_Check.C N)), ([true, true, true, true, true, true, true, false, true, false], (catalog_Check_3.P N).pc (catalog_Check.C N))]
theorem catalog_Check.pok (N : Nat) : (catalog_Check.lam N).Ok Try.prog (catalog_Check.C N) catalog_Check.code := pcsOk_cons (c1 := .loop catalog_Check_0.code) (by kernel_rfl) (catalog_Check_0.ok N) (pcsOk_cons (c1 := .loop catalog_Check_1.code) (by kernel_rfl) (catalog_Check_1.ok N) (pcsOk_cons (c1 := .loop catalog_Check_2.code) (by kernel_rfl) (catalog_Check_2.ok N) (pcsOk_cons (c1 := .loop catalog_Check_3.code) (by kernel_rfl) (catalog_Check_3.ok N) (pcsOk_nil))))
theorem catalog_Check.ev (N : Nat) (x : Sh.den catalog_Check.ins) : evC (catalog_Check.C N) catalog_Check.code (catalog_Check.lam N) ⟨envOf 0 (bld (fun k => k) catalog_Check.ins x 0).1, (bld (fun k => k) catalog_Check.ins x 0).2.1, 1000⟩ (endF U catalog_Check.outs Try.f10.results.toList []) = catalog_Check.fn N x := by kernel_rfl
theorem catalog_Check.ok (N : Nat) : (catalog_Check.S N).con.Ok Try.prog 10 := fn_ok (F := catalog_Check.S N) (n0 := 1000) Try.func10 (by kernel_rfl) (show Try.f10.body = some catalog_Check.code by rfl) mix (catalog_Check.cok N) (fun _ => rfl) (fun _ => rfl) (catalog_Check.pok N) (fun x y h => (catalog_Check.ev N x).trans h)
/-- hayloft/catalog.Covered$1 -/
def catalog_Covered_f1.ins : Sh := (.cons (.val (.int .i64)) (.cons (.rbox 32 (.cons (.rown 4 .bool) .nil)) .nil))
def catalog_Covered_f1.C (N : Nat) : Ctx := ⟨U, 14, fun _ => true, gam [], gamY []⟩
theorem catalog_Covered_f1.cok (N : Nat) : (catalog_Covered_f1.C N).Ok Try.prog := ⟨U_ok, GamOk.nil, GamYOk.nil⟩
def catalog_Covered_f1.code : Code := Try.f40.body.getD .skip
def catalog_Covered_f1.outs : Sh := (.cons (.val .bool) .nil)
def catalog_Covered_f1.run (N : Nat) (n_ : Int) (t1 : (List Bool)) : Option (Bool × Unit) :=
  bif decide (n_ < (t1.length : Int)) then
    bif inB n_ t1.length then
      bif decide (n_.toNat < t1.length) then
        some (t1.getD n_.toNat false, ())
      else none
    else none
  else some (false, ())
def catalog_Covered_f1.fn (N : Nat) (x : Sh.den catalog_Covered_f1.ins) : Option (Sh.den catalog_Covered_f1.outs) := catalog_Covered_f1.run N x.1 x.2.1.1
def catalog_Covered_f1.S (N : Nat) : Fs := ⟨catalog_Covered_f1.ins, catalog_Covered_f1.outs, catalog_Covered_f1.fn N⟩
def catalog_Covered_f1.lam (N : Nat) : Pcs := pcs []
theorem catalog_Covered_f1.pok (N : Nat) : (catalog_Covered_f1.lam N).Ok Try.prog (catalog_Covered_f1.C N) catalog_Covered_f1.code := pcsOk_nil
theorem catalog_Covered_f1.ev (N : Nat) (x : Sh.den catalog_Covered_f1.ins) : evC (catalog_Covered_f1.C N) catalog_Covered_f1.code (catalog_Covered_f1.lam N) ⟨envOf 0 (bld (fun k => k) catalog_Covered_f1.ins x 0).1, (bld (fun k => k) catalog_Covered_f1.ins x 0).2.1, 1000⟩ (endF U catalog_Covered_f1.outs Try.f40.results.toList []) = catalog_Covered_f1.fn N x := by kernel_rfl
theorem catalog_Covered_f1.ok (N : Nat) : (catalog_Covered_f1.S N).con.Ok Try.prog 40 := fn_ok (F := catalog_Covered_f1.S N) (n0 := 1000) Try.func40 (by kernel_rfl) (show Try.f40.body = some catalog_Covered_f1.code by rfl) mix (catalog_Covered_f1.cok N) (fun _ => rfl) (fun _ => rfl) (catalog_Covered_f1.pok N) (fun x y h => (catalog_Covered_f1.ev N x).trans h)
/-- slices.IndexFunc[[]int,int] -/
def slices_IndexFunc_int_int_b.ins : Sh := (.cons (.rown 3 (.int .i64)) (.cons (.fn 40 (.cons (.rbox 32 (.cons (.rown 4 .bool) .nil)) .nil)) .nil))
def slices_IndexFunc_int_int_b.C (N : Nat) : Ctx := ⟨U, 19, fun _ => true, gam [(40, (catalog_Covered_f1.S N).con)], gamY []⟩
theorem slices_IndexFunc_int_int_b.cok (N : Nat) : (slices_IndexFunc_int_int_b.C N).Ok Try.prog := ⟨U_ok, GamOk.cons (catalog_Covered_f1.ok N) (GamOk.nil), GamYOk.nil⟩
def slices_IndexFunc_int_int_b.code : Code := Try.f64.body.getD .skip
def slices_IndexFunc_int_int_b_0.ins : Sh := (.cons (.rown 3 (.int .i64)) (.cons (.fn 40 (.cons (.rbox 32 (.cons (.rown 4 .bool) .nil)) .nil)) (.cons (.val (.int .i64)) (.cons (.val (.int .i64)) .nil))))
def slices_IndexFunc_int_int_b_0.ts : List Tmp := [0, 1, 7, 8]
def slices_IndexFunc_int_int_b_0.asg : List Tmp := [4, 5, 8, 9, 10, 11, 12, 13, 14, 15, 16, 17, 18]
def slices_IndexFunc_int_int_b_0.C (N : Nat) : Ctx := { slices_IndexFunc_int_int_b.C N with may := fun t => slices_IndexFunc_int_int_b_0.asg.any (Nat.beq t) }
def slices_IndexFunc_int_int_b_0.code : Code := loopBody (sub slices_IndexFunc_int_int_b.code [true, false, true, false])
theorem slices_IndexFunc_int_int_b_0.cok (N : Nat) : (slices_IndexFunc_int_int_b_0.C N).Ok Try.prog := ⟨(slices_IndexFunc_int_int_b.cok N).U, (slices_IndexFunc_int_int_b.cok N).Γ, (slices_IndexFunc_int_int_b.cok N).Y⟩
def slices_IndexFunc_int_int_b_0.alts : List Alt := [⟨.ret, [4], (.cons (.val (.int .i64)) .nil)⟩, ⟨(.exit 0), [], .nil⟩]
def slices_IndexFunc_int_int_b_0.go (N : Nat) : Nat → (List Int) → (List Bool) → Int → Int → Option ((Int × Unit) ⊕ Unit)
  | 0, _, _, _, _ => none
  | fuel + 1, s, f, t7, t8 =>
    bif decide (t8 < t7) then
      bif inB t8 s.length then
        bif decide (t8.toNat < s.length) then
          obind (catalog_Covered_f1.run N (s.getD t8.toNat (0 : Int)) f) fun (b, _) =>
            bif b then
              some (.inl (t8, ()))
            else slices_IndexFunc_int_int_b_0.go N fuel s f t7 (IntKind.i64.wrap (t8 + (1 : Int)))
        else none
      else none
    else some (.inr ())
def slices_IndexFunc_int_int_b_0.g (N n : Nat) (x : Sh.den slices_IndexFunc_int_int_b_0.ins) : Option (altsDen slices_IndexFunc_int_int_b_0.alts) := slices_IndexFunc_int_int_b_0.go N n x.1 x.2.1.1.1 x.2.2.1 x.2.2.2.1
def slices_IndexFunc_int_int_b_0.P (N : Nat) : Ps := ⟨slices_IndexFunc_int_int_b_0.ts, slices_IndexFunc_int_int_b_0.ins, slices_IndexFunc_int_int_b_0.asg, slices_IndexFunc_int_int_b_0.alts, slices_IndexFunc_int_int_b_0.g N N⟩
def slices_IndexFunc_int_int_b_0.lam (N : Nat) : Pcs := pcs []
theorem slices_IndexFunc_int_int_b_0.pok (N : Nat) : (slices_IndexFunc_int_int_b_0.lam N).Ok Try.prog (slices_IndexFunc_int_int_b_0.C N) slices_IndexFunc_int_int_b_0.code := pcsOk_nil
theorem slices_IndexFunc_int_int_b_0.ev (N n : Nat) (x : Sh.den slices_IndexFunc_int_int_b_0.ins) : evC (slices_IndexFunc_int_int_b_0.C N) slices_IndexFunc_int_int_b_0.code (slices_IndexFunc_int_int_b_0.lam N) ((slices_IndexFunc_int_int_b_0.P N).canon 1000 x) (loopK (slices_IndexFunc_int_int_b_0.P N) (slices_IndexFunc_int_int_b_0.g N n)) = slices_IndexFunc_int_int_b_0.g N (n + 1) x := by kernel_rfl
theorem slices_IndexFunc_int_int_b_0.ok (N : Nat) : ((slices_IndexFunc_int_int_b_0.P N).pc (slices_IndexFunc_int_int_b.C N)).Ok Try.prog (slices_IndexFunc_int_int_b.C N) (.loop slices_IndexFunc_int_int_b_0.code) := loop_ok (F := slices_IndexFunc_int_int_b_0.P N) (n0 := 1000) (N := N) (slices_IndexFunc_int_int_b.cok N) mix (slices_IndexFunc_int_int_b_0.pok N) (slices_IndexFunc_int_int_b_0.g N) (fun x => by rfl) rfl (fun n x y h => (slices_IndexFunc_int_int_b_0.ev N n x).trans h)
def slices_IndexFunc_int_int_b.outs : Sh := (.cons (.val (.int .i64)) .nil)
def slices_IndexFunc_int_int_b.run (N : Nat) (s : (List Int)) (f : (List Bool)) : Option (Int × Unit) :=
  obind (slices_IndexFunc_int_int_b_0.go N N s f (s.length : Int) (0 : Int)) fun y => match y with
  | .inl (t4, _) =>
      some (t4, ())
  | .inr (_) =>
      some ((-1 : Int), ())
def slices_IndexFunc_int_int_b.fn (N : Nat) (x : Sh.den slices_IndexFunc_int_int_b.ins) : Option (Sh.den slices_IndexFunc_int_int_b.outs) := slices_IndexFunc_int_int_b.run N x.1 x.2.1.1.1
def slices_IndexFunc_int_int_b.S (N : Nat) : Fs := ⟨slices_IndexFunc_int_int_b.ins, slices_IndexFunc_int_int_b.outs, slices_IndexFunc_int_int_b.fn N⟩
def slices_IndexFunc_int_int_b.lam (N : Nat) : Pcs := pcs [([true, false, true, false], (slices_IndexFunc_int_int_b_0.P N).pc (slices_IndexFunc_int_int_b.C N))]
theorem slices_IndexFunc_int_int_b.pok (N : Nat) : (slices_IndexFunc_int_int_b.lam N).Ok Try.prog (slices_IndexFunc_int_int_b.C N) slices_IndexFunc_int_int_b.code := pcsOk_cons (c1 := .loop slices_IndexFunc_int_int_b_0.code) (by kernel_rfl) (slices_IndexFunc_int_int_b_0.ok N) (pcsOk_nil)
theorem slices_IndexFunc_int_int_b.ev (N : Nat) (x : Sh.den slices_IndexFunc_int_int_b.ins) : evC (slices_IndexFunc_int_int_b.C N) slices_IndexFunc_int_int_b.code (slices_IndexFunc_int_int_b.lam N) ⟨envOf 0 (bld (fun k => k) slices_IndexFunc_int_int_b.ins x 0).1, (bld (fun k => k) slices_IndexFunc_int_int_b.ins x 0).2.1, 1000⟩ (endF U slices_IndexFunc_int_int_b.outs Try.f64.results.toList []) = slices_IndexFunc_int_int_b.fn N x := by kernel_rfl
theorem slices_IndexFunc_int_int_b.ok (N : Nat) : (slices_IndexFunc_int_int_b.S N).con.Ok Try.prog 64 := fn_ok (F := slices_IndexFunc_int_int_b.S N) (n0 := 1000) Try.func64 (by kernel_rfl) (show Try.f64.body = some slices_IndexFunc_int_int_b.code by rfl) mix (slices_IndexFunc_int_int_b.cok N) (fun _ => rfl) (fun _ => rfl) (slices_IndexFunc_int_int_b.pok N) (fun x y h => (slices_IndexFunc_int_int_b.ev N x).trans h)
/-- slices.ContainsFunc[[]int,int] -/
def slices_ContainsFunc_int_int_b.ins : Sh := (.cons (.rown 3 (.int .i64)) (.cons (.fn 40 (.cons (.rbox 32 (.cons (.rown 4 .bool) .nil)) .nil)) .nil))
def slices_ContainsFunc_int_int_b.C (N : Nat) : Ctx := ⟨U, 9, fun _ => true, gam [(64, (slices_IndexFunc_int_int_b.S N).con)], gamY []⟩
theorem slices_ContainsFunc_int_int_b.cok (N : Nat) : (slices_ContainsFunc_int_int_b.C N).Ok Try.prog := ⟨U_ok, GamOk.cons (slices_IndexFunc_int_int_b.ok N) (GamOk.nil), GamYOk.nil⟩
def slices_ContainsFunc_int_int_b.code : Code := Try.f39.body.getD .skip
def slices_ContainsFunc_int_int_b.outs : Sh := (.cons (.val .bool) .nil)
def slices_ContainsFunc_int_int_b.run (N : Nat) (s : (List Int)) (f : (List Bool)) : Option (Bool × Unit) :=
  obind (slices_IndexFunc_int_int_b.run N s f) fun (n_, _) =>
    some (decide (n_ ≥ (0 : Int)), ())
def slices_ContainsFunc_int_int_b.fn (N : Nat) (x : Sh.den slices_ContainsFunc_int_int_b.ins) : Option (Sh.den slices_ContainsFunc_int_int_b.outs) := slices_ContainsFunc_int_int_b.run N x.1 x.2.1.1.1
def slices_ContainsFunc_int_int_b.S (N : Nat) : Fs := ⟨slices_ContainsFunc_int_int_b.ins, slices_ContainsFunc_int_int_b.outs, slices_ContainsFunc_int_int_b.fn N⟩
def slices_ContainsFunc_int_int_b.lam (N : Nat) : Pcs := pcs []
theorem slices_ContainsFunc_int_int_b.pok (N : Nat) : (slices_ContainsFunc_int_int_b.lam N).Ok Try.prog (slices_ContainsFunc_int_int_b.C N) slices_ContainsFunc_int_int_b.code := pcsOk_nil
theorem slices_ContainsFunc_int_int_b.ev (N : Nat) (x : Sh.den slices_ContainsFunc_int_int_b.ins) : evC (slices_ContainsFunc_int_int_b.C N) slices_ContainsFunc_int_int_b.code (slices_ContainsFunc_int_int_b.lam N) ⟨envOf 0 (bld (fun k => k) slices_ContainsFunc_int_int_b.ins x 0).1, (bld (fun k => k) slices_ContainsFunc_int_int_b.ins x 0).2.1, 1000⟩ (endF U slices_ContainsFunc_int_int_b.outs Try.f39.results.toList []) = slices_ContainsFunc_int_int_b.fn N x := by kernel_rfl
theorem slices_ContainsFunc_int_int_b.ok (N : Nat) : (slices_ContainsFunc_int_int_b.S N).con.Ok Try.prog 39 := fn_ok (F := slices_ContainsFunc_int_int_b.S N) (n0 := 1000) Try.func39 (by kernel_rfl) (show Try.f39.body = some slices_ContainsFunc_int_int_b.code by rfl) mix (slices_ContainsFunc_int_int_b.cok N) (fun _ => rfl) (fun _ => rfl) (slices_ContainsFunc_int_int_b.pok N) (fun x y h => (slices_ContainsFunc_int_int_b.ev N x).trans h)
def Y1.ins : Sh := (.cons (.rbox 25 (.cons (.val (.int .i64)) (.cons (.val (.int .i64)) (.cons (.val (.int .i64)) (.cons (.val (.slice (.pair .str (.slice (.pair .str (.pair (.int .i64) .bool)))))) (.cons (.val (.slice (.pair .str (.pair (.int .i64) (.pair (.slice (.int .i64)) (.pair (.slice (.int .i64)) (.pair (.int .i64) (.int .i64)))))))) .nil)))))) (.cons (.rbox 32 (.cons (.rown 4 .bool) .nil)) (.cons (.box 4 (.cons (.val .bool) .nil)) (.cons (.agg (.cons (.val (.int .i64)) (.cons (.val (.int .i64)) .nil))) .nil))))
def Y1.C (N : Nat) : Ctx := ⟨U, 15, fun _ => true, gam [(18, (catalog_Nodes.S N).con), (39, (slices_ContainsFunc_int_int_b.S N).con)], gamY []⟩
theorem Y1.cok (N : Nat) : (Y1.C N).Ok Try.prog := ⟨U_ok, GamOk.cons (catalog_Nodes.ok N) (GamOk.cons (slices_ContainsFunc_int_int_b.ok N) (GamOk.nil)), GamYOk.nil⟩
def Y1.code : Code := site1.body
def Y1.alts : List Alt := [⟨.normal, [], (.cons (.upd 3 4 (.cons (.val .bool) .nil)) .nil)⟩, ⟨.ret, [], (.cons (.upd 3 4 (.cons (.val .bool) .nil)) .nil)⟩]
def Y1.run (N : Nat) (nodes : Int) (segments : Int) (k : Int) (tables : (List ((List UInt8) × (List ((List UInt8) × (Int × Bool)))))) (projs : (List ((List UInt8) × (Int × ((List Int) × ((List Int) × (Int × Int))))))) (live : (List Bool)) (t4 : Bool) (t8 : Int) (t81 : Int) : Option (((Bool × Unit) × Unit) ⊕ ((Bool × Unit) × Unit)) :=
  obind (catalog_Nodes.run N (nodes, segments, k, tables, projs) (t8, t81)) fun (l, _) =>
    obind (slices_ContainsFunc_int_int_b.run N l live) fun (b, _) =>
      bif !b then
        some (.inr ((false, ()), ()))
      else some (.inl ((t4, ()), ()))
def Y1.fn (N : Nat) (x : Sh.den Y1.ins) : Option (altsDen Y1.alts) := Y1.run N x.1.1 x.1.2.1 x.1.2.2.1 x.1.2.2.2.1 x.1.2.2.2.2.1 x.2.1.1 x.2.2.1.1 x.2.2.2.1.1 x.2.2.2.1.2.1
def Y1.F (N : Nat) : Ys := ⟨[2, 3, 4], [8], Y1.ins, Y1.alts, Y1.fn N⟩
def Y1.yc (N : Nat) : Yc := (Y1.F N).yc
def Y1.lam (N : Nat) : Pcs := pcs []
theorem Y1.pok (N : Nat) : (Y1.lam N).Ok Try.prog (Y1.C N) site1.body := pcsOk_nil
theorem Y1.ev (N : Nat) (x : Sh.den Y1.ins) : evC (Y1.C N) site1.assign (pcs []) ⟨addT [2, 3, 4, 8] (bld (fun k => k) Y1.ins x 0).1 [], (bld (fun k => k) Y1.ins x 0).2.1, 1000⟩ (thenC fun s => evC (Y1.C N) site1.body (Y1.lam N) s (altK Y1.alts)) = Y1.fn N x := by kernel_rfl
theorem Y1.ok (N : Nat) : (Y1.yc N).Ok Try.prog 1000001 := ys_ok (σ := site1) (k := 1) (C := Y1.C N) (F := Y1.F N) (n0 := 1000) (fun _ => rfl) (Y1.cok N) mix (fun _ => rfl) (show site1.ps.toList = [8] by kernel_rfl) (show site1.ts = [2, 3, 4] by kernel_rfl) (show site1.nt = 15 by kernel_rfl) rfl rfl rfl rfl rfl pcsOk_nil (Y1.pok N) (fun x y h => (Y1.ev N x).trans h)
/-- hayloft/catalog.Segments$1 -/
def catalog_Segments_f1_b.ins : Sh := (.cons (.box 1000001 (.cons (.val (.int .i64)) (.cons (.junk) (.cons (.junk) (.cons (.junk) (.cons (.rbox 25 (.cons (.val (.int .i64)) (.cons (.val (.int .i64)) (.cons (.val (.int .i64)) (.cons (.val (.slice (.pair .str (.slice (.pair .str (.pair (.int .i64) .bool)))))) (.cons (.val (.slice (.pair .str (.pair (.int .i64) (.pair (.slice (.int .i64)) (.pair (.slice (.int .i64)) (.pair (.int .i64) (.int .i64)))))))) .nil)))))) (.cons (.rbox 32 (.cons (.rown 4 .bool) .nil)) (.cons (.box 4 (.cons (.val .bool) .nil)) .nil)))))))) (.cons (.rbox 25 (.cons (.val (.int .i64)) (.cons (.val (.int .i64)) (.cons (.val (.int .i64)) (.cons (.val (.slice (.pair .str (.slice (.pair .str (.pair (.int .i64) .bool)))))) (.cons (.val (.slice (.pair .str (.pair (.int .i64) (.pair (.slice (.int .i64)) (.pair (.slice (.int .i64)) (.pair (.int .i64) (.int .i64)))))))) .nil)))))) .nil))
def catalog_Segments_f1_b.C (N : Nat) : Ctx := ⟨U, 24, fun _ => true, gam [], gamY [(1000001, Y1.yc N)]⟩
theorem catalog_Segments_f1_b.cok (N : Nat) : (catalog_Segments_f1_b.C N).Ok Try.prog := ⟨U_ok, GamOk.nil, GamYOk.cons (Y1.ok N) (GamYOk.nil)⟩
def catalog_Segments_f1_b.code : Code := Try.f62.body.getD .skip
def catalog_Segments_f1_b_0.ins : Sh := (.cons (.box 1000001 (.cons (.val (.int .i64)) (.cons (.junk) (.cons (.junk) (.cons (.junk) (.cons (.rbox 25 (.cons (.val (.int .i64)) (.cons (.val (.int .i64)) (.cons (.val (.int .i64)) (.cons (.val (.slice (.pair .str (.slice (.pair .str (.pair (.int .i64) .bool)))))) (.cons (.val (.slice (.pair .str (.pair (.int .i64) (.pair (.slice (.int .i64)) (.pair (.slice (.int .i64)) (.pair (.int .i64) (.int .i64)))))))) .nil)))))) (.cons (.rbox 32 (.cons (.rown 4 .bool) .nil)) (.cons (.box 4 (.cons (.val .bool) .nil)) .nil)))))))) (.cons (.rbox 25 (.cons (.val (.int .i64)) (.cons (.val (.int .i64)) (.cons (.val (.int .i64)) (.cons (.val (.slice (.pair .str (.slice (.pair .str (.pair (.int .i64) .bool)))))) (.cons (.val (.slice (.pair .str (.pair (.int .i64) (.pair (.slice (.int .i64)) (.pair (.slice (.int .i64)) (.pair (.int .i64) (.int .i64)))))))) .nil)))))) (.cons (.val (.int .i64)) (.cons (.val (.int .i64)) .nil))))
def catalog_Segments_f1_b_0.ts : List Tmp := [0, 1, 7, 8]
def catalog_Segments_f1_b_0.asg : List Tmp := [3, 4, 8, 9, 10, 11, 12, 13, 14, 15, 16, 17, 18, 19, 20, 21, 22, 23]
def catalog_Segments_f1_b_0.C (N : Nat) : Ctx := { catalog_Segments_f1_b.C N with may := fun t => catalog_Segments_f1_b_0.asg.any (Nat.beq t) }
def catalog_Segments_f1_b_0.code : Code := loopBody (sub catalog_Segments_f1_b.code [true, false])
theorem catalog_Segments_f1_b_0.cok (N : Nat) : (catalog_Segments_f1_b_0.C N).Ok Try.prog := ⟨(catalog_Segments_f1_b.cok N).U, (catalog_Segments_f1_b.cok N).Γ, (catalog_Segments_f1_b.cok N).Y⟩
def catalog_Segments_f1_b_0_0.ins : Sh := (.cons (.box 1000001 (.cons (.val (.int .i64)) (.cons (.junk) (.cons (.junk) (.cons (.junk) (.cons (.rbox 25 (.cons (.val (.int .i64)) (.cons (.val (.int .i64)) (.cons (.val (.int .i64)) (.cons (.val (.slice (.pair .str (.slice (.pair .str (.pair (.int .i64) .bool)))))) (.cons (.val (.slice (.pair .str (.pair (.int .i64) (.pair (.slice (.int .i64)) (.pair (.slice (.int .i64)) (.pair (.int .i64) (.int .i64)))))))) .nil)))))) (.cons (.rbox 32 (.cons (.rown 4 .bool) .nil)) (.cons (.box 4 (.cons (.val .bool) .nil)) .nil)))))))) (.cons (.val (.int .i64)) (.cons (.val (.int .i64)) (.cons (.val (.int .i64)) .nil))))
def catalog_Segments_f1_b_0_0.ts : List Tmp := [0, 3, 12, 13]
def catalog_Segments_f1_b_0_0.asg : List Tmp := [4, 13, 14, 15, 16, 17, 18, 19, 20, 21, 22]
def catalog_Segments_f1_b_0_0.C (N : Nat) : Ctx := { catalog_Segments_f1_b_0.C N with may := fun t => catalog_Segments_f1_b_0_0.asg.any (Nat.beq t) }
def catalog_Segments_f1_b_0_0.code : Code := loopBody (sub catalog_Segments_f1_b_0.code [true, true, false, false, true, true, false])
theorem catalog_Segments_f1_b_0_0.cok (N : Nat) : (catalog_Segments_f1_b_0_0.C N).Ok Try.prog := ⟨(catalog_Segments_f1_b_0.cok N).U, (catalog_Segments_f1_b_0.cok N).Γ, (catalog_Segments_f1_b_0.cok N).Y⟩
def catalog_Segments_f1_b_0_0.alts : List Alt := [⟨.ret, [], (.cons (.upd 4 4 (.cons (.val .bool) .nil)) (.cons (.upd 0 1000001 (.cons (.val (.int .i64)) (.cons (.junk) (.cons (.junk) (.cons (.junk) (.cons (.keep 0 1) (.cons (.keep 0 2) (.cons (.ref 0) .nil)))))))) .nil))⟩, ⟨(.exit 2), [], (.cons (.upd 4 4 (.cons (.val .bool) .nil)) (.cons (.upd 0 1000001 (.cons (.val (.int .i64)) (.cons (.junk) (.cons (.junk) (.cons (.junk) (.cons (.keep 0 1) (.cons (.keep 0 2) (.cons (.ref 0) .nil)))))))) .nil))⟩]
def catalog_Segments_f1_b_0_0.go (N : Nat) : Nat → Int → Int → Int → Int → (List ((List UInt8) × (List ((List UInt8) × (Int × Bool))))) → (List ((List UInt8) × (Int × ((List Int) × ((List Int) × (Int × Int)))))) → (List Bool) → Bool → Int → Int → Int → Option (((Bool × Unit) × (Int × Unit × Unit × Unit × Unit × Unit × Unit × Unit) × Unit) ⊕ ((Bool × Unit) × (Int × Unit × Unit × Unit × Unit × Unit × Unit × Unit) × Unit))
  | 0, _, _, _, _, _, _, _, _, _, _, _ => none
  | fuel + 1, yield, nodes, segments, k, tables, projs, yield1, yield2, p, t12, t13 =>
    bif decide (t13 < t12) then
      bif decide (yield = (0 : Int)) then
        obind (Y1.run N nodes segments k tables projs yield1 yield2 p t13) fun y => match y with
        | .inl ((v, _), _) =>
            catalog_Segments_f1_b_0_0.go N fuel (0 : Int) nodes segments k tables projs yield1 v p t12 (IntKind.i64.wrap (t13 + (1 : Int)))
        | .inr ((v1, _), _) =>
            some (.inl ((v1, ()), ((1 : Int), (), (), (), (), (), (), ()), ()))
      else none
    else some (.inr ((yield2, ()), (yield, (), (), (), (), (), (), ()), ()))
def catalog_Segments_f1_b_0_0.g (N n : Nat) (x : Sh.den catalog_Segments_f1_b_0_0.ins) : Option (altsDen catalog_Segments_f1_b_0_0.alts) := catalog_Segments_f1_b_0_0.go N n x.1.1 x.1.2.2.2.2.1.1 x.1.2.2.2.2.1.2.1 x.1.2.2.2.2.1.2.2.1 x.1.2.2.2.2.1.2.2.2.1 x.1.2.2.2.2.1.2.2.2.2.1 x.1.2.2.2.2.2.1.1 x.1.2.2.2.2.2.2.1.1 x.2.1 x.2.2.1 x.2.2.2.1
def catalog_Segments_f1_b_0_0.P (N : Nat) : Ps := ⟨catalog_Segments_f1_b_0_0.ts, catalog_Segments_f1_b_0_0.ins, catalog_Segments_f1_b_0_0.asg, catalog_Segments_f1_b_0_0.alts, catalog_Segments_f1_b_0_0.g N N⟩
def catalog_Segments_f1_b_0_0.lam (N : Nat) : Pcs := pcs []
theorem catalog_Segments_f1_b_0_0.pok (N : Nat) : (catalog_Segments_f1_b_0_0.lam N).Ok Try.prog (catalog_Segments_f1_b_0_0.C N) catalog_Segments_f1_b_0_0.code := pcsOk_nil
theorem catalog_Segments_f1_b_0_0.ev (N n : Nat) (x : Sh.den catalog_Segments_f1_b_0_0.ins) : evC (catalog_Segments_f1_b_0_0.C N) catalog_Segments_f1_b_0_0.code (catalog_Segments_f1_b_0_0.lam N) ((catalog_Segments_f1_b_0_0.P N).canon 1000 x) (loopK (catalog_Segments_f1_b_0_0.P N) (catalog_Segments_f1_b_0_0.g N n)) = catalog_Segments_f1_b_0_0.g N (n + 1) x := by kernel_rfl
theorem catalog_Segments_f1_b_0_0.ok (N : Nat) : ((catalog_Segments_f1_b_0_0.P N).pc (catalog_Segments_f1_b_0.C N)).Ok Try.prog (catalog_Segments_f1_b_0.C N) (.loop catalog_Segments_f1_b_0_0.code) := loop_ok (F := catalog_Segments_f1_b_0_0.P N) (n0 := 1000) (N := N) (catalog_Segments_f1_b_0.cok N) mix (catalog_Segments_f1_b_0_0.pok N) (catalog_Segments_f1_b_0_0.g N) (fun x => by rfl) rfl (fun n x y h => (catalog_Segments_f1_b_0_0.ev N n x).trans h)
def catalog_Segments_f1_b_0.alts : List Alt := [⟨.ret, [], (.cons (.upd 4 4 (.cons (.val .bool) .nil)) (.cons (.upd 0 1000001 (.cons (.val (.int .i64)) (.cons (.junk) (.cons (.junk) (.cons (.junk) (.cons (.keep 0 1) (.cons (.keep 0 2) (.cons (.ref 0) .nil)))))))) .nil))⟩, ⟨(.exit 0), [], (.cons (.upd 4 4 (.cons (.val .bool) .nil)) (.cons (.upd 0 1000001 (.cons (.val (.int .i64)) (.cons (.junk) (.cons (.junk) (.cons (.junk) (.cons (.keep 0 1) (.cons (.keep 0 2) (.cons (.ref 0) .nil)))))))) .nil))⟩]
def catalog_Segments_f1_b_0.go (N : Nat) : Nat → Int → Int → Int → Int → (List ((List UInt8) × (List ((List UInt8) × (Int × Bool))))) → (List ((List UInt8) × (Int × ((List Int) × ((List Int) × (Int × Int)))))) → (List Bool) → Bool → Int → Int → Int → (List ((List UInt8) × (List ((List UInt8) × (Int × Bool))))) → (List ((List UInt8) × (Int × ((List Int) × ((List Int) × (Int × Int)))))) → Int → Int → Option (((Bool × Unit) × (Int × Unit × Unit × Unit × Unit × Unit × Unit × Unit) × Unit) ⊕ ((Bool × Unit) × (Int × Unit × Unit × Unit × Unit × Unit × Unit × Unit) × Unit))
  | 0, _, _, _, _, _, _, _, _, _, _, _, _, _, _, _ => none
  | fuel + 1, yield, nodes, segments, k, tables, projs, yield1, yield2, nodes1, segments1, k1, tables1, projs1, t7, t8 =>
    bif decide (t8 < t7) then
      obind (catalog_Segments_f1_b_0_0.go N N yield nodes segments k tables projs yield1 yield2 t8 segments1 (0 : Int)) fun y => match y with
      | .inl ((v, _), (v1, _, _, _, _, _, _, _), _) =>
          some (.inl ((v, ()), (v1, (), (), (), (), (), (), ()), ()))
      | .inr ((v2, _), (v3, _, _, _, _, _, _, _), _) =>
          catalog_Segments_f1_b_0.go N fuel v3 nodes segments k tables projs yield1 v2 nodes1 segments1 k1 tables1 projs1 t7 (IntKind.i64.wrap (t8 + (1 : Int)))
    else some (.inr ((yield2, ()), (yield, (), (), (), (), (), (), ()), ()))
def catalog_Segments_f1_b_0.g (N n : Nat) (x : Sh.den catalog_Segments_f1_b_0.ins) : Option (altsDen catalog_Segments_f1_b_0.alts) := catalog_Segments_f1_b_0.go N n x.1.1 x.1.2.2.2.2.1.1 x.1.2.2.2.2.1.2.1 x.1.2.2.2.2.1.2.2.1 x.1.2.2.2.2.1.2.2.2.1 x.1.2.2.2.2.1.2.2.2.2.1 x.1.2.2.2.2.2.1.1 x.1.2.2.2.2.2.2.1.1 x.2.1.1 x.2.1.2.1 x.2.1.2.2.1 x.2.1.2.2.2.1 x.2.1.2.2.2.2.1 x.2.2.1 x.2.2.2.1
def catalog_Segments_f1_b_0.P (N : Nat) : Ps := ⟨catalog_Segments_f1_b_0.ts, catalog_Segments_f1_b_0.ins, catalog_Segments_f1_b_0.asg, catalog_Segments_f1_b_0.alts, catalog_Segments_f1_b_0.g N N⟩
def catalog_Segments_f1_b_0.lam (N : Nat) : Pcs := pcs [([true, true, false, false, true, true, false], (catalog_Segments_f1_b_0_0.P N).pc (catalog_Segments_f1_b_0.C N))]
theorem catalog_Segments_f1_b_0.pok (N : Nat) : (catalog_Segments_f1_b_0.lam N).Ok Try.prog (catalog_Segments_f1_b_0.C N) catalog_Segments_f1_b_0.code := pcsOk_cons (c1 := .loop catalog_Segments_f1_b_0_0.code) (by kernel_rfl) (catalog_Segments_f1_b_0_0.ok N) (pcsOk_nil)
theorem catalog_Segments_f1_b_0.ev (N n : Nat) (x : Sh.den catalog_Segments_f1_b_0.ins) : evC (catalog_Segments_f1_b_0.C N) catalog_Segments_f1_b_0.code (catalog_Segments_f1_b_0.lam N) ((catalog_Segments_f1_b_0.P N).canon 1000 x) (loopK (catalog_Segments_f1_b_0.P N) (catalog_Segments_f1_b_0.g N n)) = catalog_Segments_f1_b_0.g N (n + 1) x := by kernel_rfl
theorem catalog_Segments_f1_b_0.ok (N : Nat) : ((catalog_Segments_f1_b_0.P N).pc (catalog_Segments_f1_b.C N)).Ok Try.prog (catalog_Segments_f1_b.C N) (.loop catalog_Segments_f1_b_0.code) := loop_ok (F := catalog_Segments_f1_b_0.P N) (n0 := 1000) (N := N) (catalog_Segments_f1_b.cok N) mix (catalog_Segments_f1_b_0.pok N) (catalog_Segments_f1_b_0.g N) (fun x => by rfl) rfl (fun n x y h => (catalog_Segments_f1_b_0.ev N n x).trans h)
def catalog_Segments_f1_b.outs : Sh := (.cons (.upd 4 4 (.cons (.val .bool) .nil)) (.cons (.upd 0 1000001 (.cons (.val (.int .i64)) (.cons (.junk) (.cons (.junk) (.cons (.junk) (.cons (.keep 0 1) (.cons (.keep 0 2) (.cons (.ref 0) .nil)))))))) .nil))
def catalog_Segments_f1_b.run (N : Nat) (yield : Int) (nodes : Int) (segments : Int) (k : Int) (tables : (List ((List UInt8) × (List ((List UInt8) × (Int × Bool)))))) (projs : (List ((List UInt8) × (Int × ((List Int) × ((List Int) × (Int × Int))))))) (yield1 : (List Bool)) (yield2 : Bool) (nodes1 : Int) (segments1 : Int) (k1 : Int) (tables1 : (List ((List UInt8) × (List ((List UInt8) × (Int × Bool)))))) (projs1 : (List ((List UInt8) × (Int × ((List Int) × ((List Int) × (Int × Int))))))) : Option ((Bool × Unit) × (Int × Unit × Unit × Unit × Unit × Unit × Unit × Unit) × Unit) :=
  obind (catalog_Segments_f1_b_0.go N N yield nodes segments k tables projs yield1 yield2 nodes1 segments1 k1 tables1 projs1 (projs1.length : Int) (0 : Int)) fun y => match y with
  | .inl ((v, _), (v1, _, _, _, _, _, _, _), _) =>
      some ((v, ()), (v1, (), (), (), (), (), (), ()), ())
  | .inr ((v2, _), (v3, _, _, _, _, _, _, _), _) =>
      some ((v2, ()), (v3, (), (), (), (), (), (), ()), ())
def catalog_Segments_f1_b.fn (N : Nat) (x : Sh.den catalog_Segments_f1_b.ins) : Option (Sh.den catalog_Segments_f1_b.outs) := catalog_Segments_f1_b.run N x.1.1 x.1.2.2.2.2.1.1 x.1.2.2.2.2.1.2.1 x.1.2.2.2.2.1.2.2.1 x.1.2.2.2.2.1.2.2.2.1 x.1.2.2.2.2.1.2.2.2.2.1 x.1.2.2.2.2.2.1.1 x.1.2.2.2.2.2.2.1.1 x.2.1.1 x.2.1.2.1 x.2.1.2.2.1 x.2.1.2.2.2.1 x.2.1.2.2.2.2.1
def catalog_Segments_f1_b.S (N : Nat) : Fs := ⟨catalog_Segments_f1_b.ins, catalog_Segments_f1_b.outs, catalog_Segments_f1_b.fn N⟩
def catalog_Segments_f1_b.lam (N : Nat) : Pcs := pcs [([true, false], (catalog_Segments_f1_b_0.P N).pc (catalog_Segments_f1_b.C N))]
theorem catalog_Segments_f1_b.pok (N : Nat) : (catalog_Segments_f1_b.lam N).Ok Try.prog (catalog_Segments_f1_b.C N) catalog_Segments_f1_b.code := pcsOk_cons (c1 := .loop catalog_Segments_f1_b_0.code) (by kernel_rfl) (catalog_Segments_f1_b_0.ok N) (pcsOk_nil)
theorem catalog_Segments_f1_b.ev (N : Nat) (x : Sh.den catalog_Segments_f1_b.ins) : evC (catalog_Segments_f1_b.C N) catalog_Segments_f1_b.code (catalog_Segments_f1_b.lam N) ⟨envOf 0 (bld (fun k => k) catalog_Segments_f1_b.ins x 0).1, (bld (fun k => k) catalog_Segments_f1_b.ins x 0).2.1, 1000⟩ (endF U catalog_Segments_f1_b.outs Try.f62.results.toList []) = catalog_Segments_f1_b.fn N x := by kernel_rfl
theorem catalog_Segments_f1_b.ok (N : Nat) : (catalog_Segments_f1_b.S N).con.Ok Try.prog 62 := fn_ok (F := catalog_Segments_f1_b.S N) (n0 := 1000) Try.func62 (by kernel_rfl) (show Try.f62.body = some catalog_Segments_f1_b.code by rfl) mix (catalog_Segments_f1_b.cok N) (fun _ => rfl) (fun _ => rfl) (catalog_Segments_f1_b.pok N) (fun x y h => (catalog_Segments_f1_b.ev N x).trans h)
/-- hayloft/catalog.Covered -/
def catalog_Covered.ins : Sh := (.cons (.val (.pair (.int .i64) (.pair (.int .i64) (.pair (.int .i64) (.pair (.slice (.pair .str (.slice (.pair .str (.pair (.int .i64) .bool))))) (.slice (.pair .str (.pair (.int .i64) (.pair (.slice (.int .i64)) (.pair (.slice (.int .i64)) (.pair (.int .i64) (.int .i64)))))))))))) (.cons (.rown 4 .bool) .nil))
def catalog_Covered.C (N : Nat) : Ctx := ⟨U, 15, fun _ => true, gam [(37, (catalog_Segments.S N).con), (62, (catalog_Segments_f1_b.S N).con)], gamY []⟩
theorem catalog_Covered.cok (N : Nat) : (catalog_Covered.C N).Ok Try.prog := ⟨U_ok, GamOk.cons (catalog_Segments.ok N) (GamOk.cons (catalog_Segments_f1_b.ok N) (GamOk.nil)), GamYOk.nil⟩
def catalog_Covered.code : Code := Try.f20.body.getD .skip
def catalog_Covered.outs : Sh := (.cons (.val .bool) .nil)
def catalog_Covered.run (N : Nat) (c : (Int × (Int × (Int × ((List ((List UInt8) × (List ((List UInt8) × (Int × Bool))))) × (List ((List UInt8) × (Int × ((List Int) × ((List Int) × (Int × Int))))))))))) (live : (List Bool)) : Option (Bool × Unit) :=
  obind (catalog_Segments.run N c) fun (((nodes, segments, k, tables, projs, _), _), _) =>
    obind (catalog_Segments_f1_b.run N (0 : Int) c.1 c.2.1 c.2.2.1 c.2.2.2.1 c.2.2.2.2 live false nodes segments k tables projs) fun ((v, _), (v1, _, _, _, _, _, _, _), _) =>
      bif decide (v1 = (0 : Int)) then
        some (true, ())
      else
        bif decide (v1 = (1 : Int)) then
          some (v, ())
        else none
def catalog_Covered.fn (N : Nat) (x : Sh.den catalog_Covered.ins) : Option (Sh.den catalog_Covered.outs) := catalog_Covered.run N x.1 x.2.1
def catalog_Covered.S (N : Nat) : Fs := ⟨catalog_Covered.ins, catalog_Covered.outs, catalog_Covered.fn N⟩
def catalog_Covered.lam (N : Nat) : Pcs := pcs [([true, false, true, false], rfPc (catalog_Covered.C N) 1000001 (.tmp 7) [2, 3, 4] [.normal, .ret])]
theorem catalog_Covered.pok (N : Nat) : (catalog_Covered.lam N).Ok Try.prog (catalog_Covered.C N) catalog_Covered.code := pcsOk_cons (c1 := .rangeFunc (.tmp 7) site1.ps site1.assign site1.body) (by kernel_rfl) (rf_ok (k := 1) (fun _ => rfl) (catalog_Covered.cok N)) (pcsOk_nil)
theorem catalog_Covered.ev (N : Nat) (x : Sh.den catalog_Covered.ins) : evC (catalog_Covered.C N) catalog_Covered.code (catalog_Covered.lam N) ⟨envOf 0 (bld (fun k => k) catalog_Covered.ins x 0).1, (bld (fun k => k) catalog_Covered.ins x 0).2.1, 1000⟩ (endF U catalog_Covered.outs Try.f20.results.toList []) = catalog_Covered.fn N x := by kernel_rfl
theorem catalog_Covered.ok (N : Nat) : (catalog_Covered.S N).con.Ok Try.prog 20 := fn_ok (F := catalog_Covered.S N) (n0 := 1000) Try.func20 (by kernel_rfl) (show Try.f20.body = some catalog_Covered.code by rfl) mix (catalog_Covered.cok N) (fun _ => rfl) (fun _ => rfl) (catalog_Covered.pok N) (fun x y h => (catalog_Covered.ev N x).trans h)
/-- hayloft/hayloftlaw13.alive -/
def law_alive.ins : Sh := .nil
def law_alive.C (N : Nat) : Ctx := ⟨U, 39, fun _ => true, gam [(18, (catalog_Nodes.S N).con), (10, (catalog_Check.S N).con), (20, (catalog_Covered.S N).con)], gamY []⟩
theorem law_alive.cok (N : Nat) : (law_alive.C N).Ok Try.prog := ⟨U_ok, GamOk.cons (catalog_Nodes.ok N) (GamOk.cons (catalog_Check.ok N) (GamOk.cons (catalog_Covered.ok N) (GamOk.nil))), GamYOk.nil⟩
def law_alive.code : Code := Try.f9.body.getD .skip
def law_alive.outs : Sh := (.cons (.val .bool) .nil)
def law_alive.run (N : Nat)  : Option (Bool × Unit) :=
  obind (catalog_Nodes.run N ((3 : Int), (2 : Int), (1 : Int), ([(([(116 : UInt8)] : List UInt8), ([(([(97 : UInt8)] : List UInt8), (2 : Int), false)] : List ((List UInt8) × (Int × Bool))))] : List ((List UInt8) × (List ((List UInt8) × (Int × Bool))))), ([(([(112 : UInt8)] : List UInt8), (0 : Int), ([(0 : Int)] : List Int), ([] : List Int), (0 : Int), (2 : Int))] : List ((List UInt8) × (Int × ((List Int) × ((List Int) × (Int × Int))))))) ((0 : Int), (1 : Int))) fun (l, _) =>
    obind (catalog_Check.run N ((3 : Int), (2 : Int), (1 : Int), ([(([(116 : UInt8)] : List UInt8), ([(([(97 : UInt8)] : List UInt8), (2 : Int), false)] : List ((List UInt8) × (Int × Bool))))] : List ((List UInt8) × (List ((List UInt8) × (Int × Bool))))), ([(([(112 : UInt8)] : List UInt8), (0 : Int), ([(0 : Int)] : List Int), ([] : List Int), (0 : Int), (2 : Int))] : List ((List UInt8) × (Int × ((List Int) × ((List Int) × (Int × Int)))))))) fun (n_, _) =>
      bif decide (n_ = (0 : Int)) then
        bif decide ((l.length : Int) = (2 : Int)) then
          bif inB (0 : Int) l.length then
            bif decide (0 < l.length) then
              bif decide ((l.getD 0 (0 : Int)) = (0 : Int)) then
                bif inB (1 : Int) l.length then
                  bif decide (1 < l.length) then
                    bif decide ((l.getD 1 (0 : Int)) = (1 : Int)) then
                      obind (catalog_Covered.run N ((3 : Int), (2 : Int), (1 : Int), ([(([(116 : UInt8)] : List UInt8), ([(([(97 : UInt8)] : List UInt8), (2 : Int), false)] : List ((List UInt8) × (Int × Bool))))] : List ((List UInt8) × (List ((List UInt8) × (Int × Bool))))), ([(([(112 : UInt8)] : List UInt8), (0 : Int), ([(0 : Int)] : List Int), ([] : List Int), (0 : Int), (2 : Int))] : List ((List UInt8) × (Int × ((List Int) × ((List Int) × (Int × Int))))))) ([true, false, false] : List Bool)) fun (b, _) =>
                        some (b, ())
                    else some (false, ())
                  else none
                else none
              else some (false, ())
            else none
          else none
        else some (false, ())
      else some (false, ())
def law_alive.fn (N : Nat) (x : Sh.den law_alive.ins) : Option (Sh.den law_alive.outs) := law_alive.run N 
def law_alive.S (N : Nat) : Fs := ⟨law_alive.ins, law_alive.outs, law_alive.fn N⟩
def law_alive.lam (N : Nat) : Pcs := pcs []
theorem law_alive.pok (N : Nat) : (law_alive.lam N).Ok Try.prog (law_alive.C N) law_alive.code := pcsOk_nil
theorem law_alive.ev (N : Nat) (x : Sh.den law_alive.ins) : evC (law_alive.C N) law_alive.code (law_alive.lam N) ⟨envOf 0 (bld (fun k => k) law_alive.ins x 0).1, (bld (fun k => k) law_alive.ins x 0).2.1, 1000⟩ (endF U law_alive.outs Try.f9.results.toList []) = law_alive.fn N x := by kernel_rfl
theorem law_alive.ok (N : Nat) : (law_alive.S N).con.Ok Try.prog 9 := fn_ok (F := law_alive.S N) (n0 := 1000) Try.func9 (by kernel_rfl) (show Try.f9.body = some law_alive.code by rfl) mix (law_alive.cok N) (fun _ => rfl) (fun _ => rfl) (law_alive.pok N) (fun x y h => (law_alive.ev N x).trans h)
/-- hayloft/hayloftref02.named -/
def ref_named.ins : Sh := (.cons (.val .str) .nil)
def ref_named.C (N : Nat) : Ctx := ⟨U, 11, fun _ => true, gam [], gamY []⟩
theorem ref_named.cok (N : Nat) : (ref_named.C N).Ok Try.prog := ⟨U_ok, GamOk.nil, GamYOk.nil⟩
def ref_named.code : Code := Try.f59.body.getD .skip
def ref_named.outs : Sh := (.cons (.val .bool) .nil)
def ref_named.run (N : Nat) (s : (List UInt8)) : Option (Bool × Unit) :=
  bif decide ((s.length : Int) > (0 : Int)) then
    some (decide ((s.length : Int) ≤ (64 : Int)), ())
  else some (false, ())
def ref_named.fn (N : Nat) (x : Sh.den ref_named.ins) : Option (Sh.den ref_named.outs) := ref_named.run N x.1
def ref_named.S (N : Nat) : Fs := ⟨ref_named.ins, ref_named.outs, ref_named.fn N⟩
def ref_named.lam (N : Nat) : Pcs := pcs []
theorem ref_named.pok (N : Nat) : (ref_named.lam N).Ok Try.prog (ref_named.C N) ref_named.code := pcsOk_nil
theorem ref_named.ev (N : Nat) (x : Sh.den ref_named.ins) : evC (ref_named.C N) ref_named.code (ref_named.lam N) ⟨envOf 0 (bld (fun k => k) ref_named.ins x 0).1, (bld (fun k => k) ref_named.ins x 0).2.1, 1000⟩ (endF U ref_named.outs Try.f59.results.toList []) = ref_named.fn N x := by kernel_rfl
theorem ref_named.ok (N : Nat) : (ref_named.S N).con.Ok Try.prog 59 := fn_ok (F := ref_named.S N) (n0 := 1000) Try.func59 (by kernel_rfl) (show Try.f59.body = some ref_named.code by rfl) mix (ref_named.cok N) (fun _ => rfl) (fun _ => rfl) (ref_named.pok N) (fun x y h => (ref_named.ev N x).trans h)
/-- hayloft/hayloftref02.Table -/
def ref_Table.ins : Sh := (.cons (.val (.pair .str (.slice (.pair .str (.pair (.int .i64) .bool))))) .nil)
def ref_Table.C (N : Nat) : Ctx := ⟨U, 75, fun _ => true, gam [(59, (ref_named.S N).con)], gamY []⟩
theorem ref_Table.cok (N : Nat) : (ref_Table.C N).Ok Try.prog := ⟨U_ok, GamOk.cons (ref_named.ok N) (GamOk.nil), GamYOk.nil⟩
def ref_Table.code : Code := Try.f34.body.getD .skip
def ref_Table_0.ins : Sh := (.cons (.rbox 79 (.cons (.val .str) (.cons (.val (.slice (.pair .str (.pair (.int .i64) .bool)))) .nil))) (.cons (.val (.int .i64)) .nil))
def ref_Table_0.ts : List Tmp := [1, 4]
def ref_Table_0.asg : List Tmp := [2, 3, 4, 5, 23, 24, 25, 26, 27, 28, 29, 30, 31, 32, 33, 34, 35, 36, 37, 38, 39, 40, 41, 42, 43, 44, 45, 46, 47, 48, 49, 50, 51, 52, 53, 54, 55, 56, 57, 58, 59, 60, 61, 62, 63, 64, 65, 66, 67, 68, 69, 70, 71, 72, 73, 74]
def ref_Table_0.C (N : Nat) : Ctx := { ref_Table.C N with may := fun t => ref_Table_0.asg.any (Nat.beq t) }
def ref_Table_0.code : Code := loopBody (sub ref_Table.code [true, true, true, false, true, false])
theorem ref_Table_0.cok (N : Nat) : (ref_Table_0.C N).Ok Try.prog := ⟨(ref_Table.cok N).U, (ref_Table.cok N).Γ, (ref_Table.cok N).Y⟩
def ref_Table_0_0.ins : Sh := (.cons (.rbox 79 (.cons (.val .str) (.cons (.val (.slice (.pair .str (.pair (.int .i64) .bool)))) .nil))) (.cons (.val (.int .i64)) (.cons (.val (.int .i64)) .nil)))
def ref_Table_0_0.ts : List Tmp := [1, 4, 5]
def ref_Table_0_0.asg : List Tmp := [2, 5, 57, 58, 59, 60, 61, 62, 63, 64, 65, 66, 67, 68, 69, 70, 71, 72, 73, 74]
def ref_Table_0_0.C (N : Nat) : Ctx := { ref_Table_0.C N with may := fun t => ref_Table_0_0.asg.any (Nat.beq t) }
def ref_Table_0_0.code : Code := loopBody (sub ref_Table_0.code [true, false, false, true, true, true, false])
theorem ref_Table_0_0.cok (N : Nat) : (ref_Table_0_0.C N).Ok Try.prog := ⟨(ref_Table_0.cok N).U, (ref_Table_0.cok N).Γ, (ref_Table_0.cok N).Y⟩
def ref_Table_0_0.alts : List Alt := [⟨.ret, [2], (.cons (.val (.int .i64)) .nil)⟩, ⟨(.exit 2), [], .nil⟩]
def ref_Table_0_0.go (N : Nat) : Nat → (List UInt8) → (List ((List UInt8) × (Int × Bool))) → Int → Int → Option ((Int × Unit) ⊕ Unit)
  | 0, _, _, _, _ => none
  | fuel + 1, name, columns, i, k =>
    bif decide (k < i) then
      bif inB k columns.length then
        bif inB i columns.length then
          bif decide ((columns.getD k.toNat (([] : List UInt8), (0 : Int), false)).1 = (columns.getD i.toNat (([] : List UInt8), (0 : Int), false)).1) then
            some (.inl ((20 : Int), ()))
          else ref_Table_0_0.go N fuel name columns i (IntKind.i64.wrap (k + (1 : Int)))
        else none
      else none
    else some (.inr ())
def ref_Table_0_0.g (N n : Nat) (x : Sh.den ref_Table_0_0.ins) : Option (altsDen ref_Table_0_0.alts) := ref_Table_0_0.go N n x.1.1 x.1.2.1 x.2.1 x.2.2.1
def ref_Table_0_0.P (N : Nat) : Ps := ⟨ref_Table_0_0.ts, ref_Table_0_0.ins, ref_Table_0_0.asg, ref_Table_0_0.alts, ref_Table_0_0.g N N⟩
def ref_Table_0_0.lam (N : Nat) : Pcs := pcs []
theorem ref_Table_0_0.pok (N : Nat) : (ref_Table_0_0.lam N).Ok Try.prog (ref_Table_0_0.C N) ref_Table_0_0.code := pcsOk_nil
theorem ref_Table_0_0.ev (N n : Nat) (x : Sh.den ref_Table_0_0.ins) : evC (ref_Table_0_0.C N) ref_Table_0_0.code (ref_Table_0_0.lam N) ((ref_Table_0_0.P N).canon 1000 x) (loopK (ref_Table_0_0.P N) (ref_Table_0_0.g N n)) = ref_Table_0_0.g N (n + 1) x := by kernel_rfl
theorem ref_Table_0_0.ok (N : Nat) : ((ref_Table_0_0.P N).pc (ref_Table_0.C N)).Ok Try.prog (ref_Table_0.C N) (.loop ref_Table_0_0.code) := loop_ok (F := ref_Table_0_0.P N) (n0 := 1000) (N := N) (ref_Table_0.cok N) mix (ref_Table_0_0.pok N) (ref_Table_0_0.g N) (fun x => by rfl) rfl (fun n x y h => (ref_Table_0_0.ev N n x).trans h)
def ref_Table_0.alts : List Alt := [⟨.ret, [2], (.cons (.val (.int .i64)) .nil)⟩, ⟨(.exit 0), [], .nil⟩]
def ref_Table_0.go (N : Nat) : Nat → (List UInt8) → (List ((List UInt8) × (Int × Bool))) → Int → Option ((Int × Unit) ⊕ Unit)
  | 0, _, _, _ => none
  | fuel + 1, name, columns, i =>
    bif decide (i < (columns.length : Int)) then
      bif inB i columns.length then
        obind (ref_named.run N (columns.getD i.toNat (([] : List UInt8), (0 : Int), false)).1) fun (b, _) =>
          bif !b then
            some (.inl ((20 : Int), ()))
          else
            bif inB i columns.length then
              bif decide ((columns.getD i.toNat (([] : List UInt8), (0 : Int), false)).2.1 < (1 : Int)) then
                some (.inl ((20 : Int), ()))
              else
                bif inB i columns.length then
                  bif decide ((columns.getD i.toNat (([] : List UInt8), (0 : Int), false)).2.1 > (3 : Int)) then
                    some (.inl ((20 : Int), ()))
                  else
                    obind (ref_Table_0_0.go N N name columns i (0 : Int)) fun y => match y with
                    | .inl (t2, _) =>
                        some (.inl (t2, ()))
                    | .inr (_) =>
                        ref_Table_0.go N fuel name columns (IntKind.i64.wrap (i + (1 : Int)))
                else none
            else none
      else none
    else some (.inr ())
def ref_Table_0.g (N n : Nat) (x : Sh.den ref_Table_0.ins) : Option (altsDen ref_Table_0.alts) := ref_Table_0.go N n x.1.1 x.1.2.1 x.2.1
def ref_Table_0.P (N : Nat) : Ps := ⟨ref_Table_0.ts, ref_Table_0.ins, ref_Table_0.asg, ref_Table_0.alts, ref_Table_0.g N N⟩
def ref_Table_0.lam (N : Nat) : Pcs := pcs [([true, false, false, true, true, true, false], (ref_Table_0_0.P N).pc (ref_Table_0.C N))]
theorem ref_Table_0.pok (N : Nat) : (ref_Table_0.lam N).Ok Try.prog (ref_Table_0.C N) ref_Table_0.code := pcsOk_cons (c1 := .loop ref_Table_0_0.code) (by kernel_rfl) (ref_Table_0_0.ok N) (pcsOk_nil)
theorem ref_Table_0.ev (N n : Nat) (x : Sh.den ref_Table_0.ins) : evC (ref_Table_0.C N) ref_Table_0.code (ref_Table_0.lam N) ((ref_Table_0.P N).canon 1000 x) (loopK (ref_Table_0.P N) (ref_Table_0.g N n)) = ref_Table_0.g N (n + 1) x := by kernel_rfl
theorem ref_Table_0.ok (N : Nat) : ((ref_Table_0.P N).pc (ref_Table.C N)).Ok Try.prog (ref_Table.C N) (.loop ref_Table_0.code) := loop_ok (F := ref_Table_0.P N) (n0 := 1000) (N := N) (ref_Table.cok N) mix (ref_Table_0.pok N) (ref_Table_0.g N) (fun x => by rfl) rfl (fun n x y h => (ref_Table_0.ev N n x).trans h)
def ref_Table.outs : Sh := (.cons (.val (.int .i64)) .nil)
def ref_Table.run (N : Nat) (t : ((List UInt8) × (List ((List UInt8) × (Int × Bool))))) : Option (Int × Unit) :=
  obind (ref_named.run N t.1) fun (b, _) =>
    bif !b then
      some ((20 : Int), ())
    else
      bif decide ((t.2.length : Int) = (0 : Int)) then
        some ((20 : Int), ())
      else
        bif decide ((t.2.length : Int) > (8 : Int)) then
          some ((20 : Int), ())
        else
          obind (ref_Table_0.go N N t.1 t.2 (0 : Int)) fun y => match y with
          | .inl (t2, _) =>
              some (t2, ())
          | .inr (_) =>
              some ((0 : Int), ())
def ref_Table.fn (N : Nat) (x : Sh.den ref_Table.ins) : Option (Sh.den ref_Table.outs) := ref_Table.run N x.1
def ref_Table.S (N : Nat) : Fs := ⟨ref_Table.ins, ref_Table.outs, ref_Table.fn N⟩
def ref_Table.lam (N : Nat) : Pcs := pcs [([true, true, true, false, true, false], (ref_Table_0.P N).pc (ref_Table.C N))]
theorem ref_Table.pok (N : Nat) : (ref_Table.lam N).Ok Try.prog (ref_Table.C N) ref_Table.code := pcsOk_cons (c1 := .loop ref_Table_0.code) (by kernel_rfl) (ref_Table_0.ok N) (pcsOk_nil)
theorem ref_Table.ev (N : Nat) (x : Sh.den ref_Table.ins) : evC (ref_Table.C N) ref_Table.code (ref_Table.lam N) ⟨envOf 0 (bld (fun k => k) ref_Table.ins x 0).1, (bld (fun k => k) ref_Table.ins x 0).2.1, 1000⟩ (endF U ref_Table.outs Try.f34.results.toList []) = ref_Table.fn N x := by kernel_rfl
theorem ref_Table.ok (N : Nat) : (ref_Table.S N).con.Ok Try.prog 34 := fn_ok (F := ref_Table.S N) (n0 := 1000) Try.func34 (by kernel_rfl) (show Try.f34.body = some ref_Table.code by rfl) mix (ref_Table.cok N) (fun _ => rfl) (fun _ => rfl) (ref_Table.pok N) (fun x y h => (ref_Table.ev N x).trans h)
/-- hayloft/hayloftref13.In -/
def ref_In.ins : Sh := (.cons (.val (.slice (.int .i64))) (.cons (.val (.int .i64)) .nil))
def ref_In.C (N : Nat) : Ctx := ⟨U, 18, fun _ => true, gam [], gamY []⟩
theorem ref_In.cok (N : Nat) : (ref_In.C N).Ok Try.prog := ⟨U_ok, GamOk.nil, GamYOk.nil⟩
def ref_In.code : Code := Try.f22.body.getD .skip
def ref_In_0.ins : Sh := (.cons (.val (.slice (.int .i64))) (.cons (.val (.int .i64)) (.cons (.val (.int .i64)) .nil)))
def ref_In_0.ts : List Tmp := [0, 1, 5]
def ref_In_0.asg : List Tmp := [4, 5, 6, 7, 8, 9, 10, 11, 12, 13, 14, 15, 16, 17]
def ref_In_0.C (N : Nat) : Ctx := { ref_In.C N with may := fun t => ref_In_0.asg.any (Nat.beq t) }
def ref_In_0.code : Code := loopBody (sub ref_In.code [true, false, true, false])
theorem ref_In_0.cok (N : Nat) : (ref_In_0.C N).Ok Try.prog := ⟨(ref_In.cok N).U, (ref_In.cok N).Γ, (ref_In.cok N).Y⟩
def ref_In_0.alts : List Alt := [⟨.ret, [4], (.cons (.val .bool) .nil)⟩, ⟨(.exit 0), [], .nil⟩]
def ref_In_0.go (N : Nat) : Nat → (List Int) → Int → Int → Option ((Bool × Unit) ⊕ Unit)
  | 0, _, _, _ => none
  | fuel + 1, l, n_, i =>
    bif decide (i < (l.length : Int)) then
      bif inB i l.length then
        bif decide ((l.getD i.toNat (0 : Int)) = n_) then
          some (.inl (true, ()))
        else ref_In_0.go N fuel l n_ (IntKind.i64.wrap (i + (1 : Int)))
      else none
    else some (.inr ())
def ref_In_0.g (N n : Nat) (x : Sh.den ref_In_0.ins) : Option (altsDen ref_In_0.alts) := ref_In_0.go N n x.1 x.2.1 x.2.2.1
def ref_In_0.P (N : Nat) : Ps := ⟨ref_In_0.ts, ref_In_0.ins, ref_In_0.asg, ref_In_0.alts, ref_In_0.g N N⟩
def ref_In_0.lam (N : Nat) : Pcs := pcs []
theorem ref_In_0.pok (N : Nat) : (ref_In_0.lam N).Ok Try.prog (ref_In_0.C N) ref_In_0.code := pcsOk_nil
theorem ref_In_0.ev (N n : Nat) (x : Sh.den ref_In_0.ins) : evC (ref_In_0.C N) ref_In_0.code (ref_In_0.lam N) ((ref_In_0.P N).canon 1000 x) (loopK (ref_In_0.P N) (ref_In_0.g N n)) = ref_In_0.g N (n + 1) x := by kernel_rfl
theorem ref_In_0.ok (N : Nat) : ((ref_In_0.P N).pc (ref_In.C N)).Ok Try.prog (ref_In.C N) (.loop ref_In_0.code) := loop_ok (F := ref_In_0.P N) (n0 := 1000) (N := N) (ref_In.cok N) mix (ref_In_0.pok N) (ref_In_0.g N) (fun x => by rfl) rfl (fun n x y h => (ref_In_0.ev N n x).trans h)
def ref_In.outs : Sh := (.cons (.val .bool) .nil)
def ref_In.run (N : Nat) (l : (List Int)) (n_ : Int) : Option (Bool × Unit) :=
  obind (ref_In_0.go N N l n_ (0 : Int)) fun y => match y with
  | .inl (t4, _) =>
      some (t4, ())
  | .inr (_) =>
      some (false, ())
def ref_In.fn (N : Nat) (x : Sh.den ref_In.ins) : Option (Sh.den ref_In.outs) := ref_In.run N x.1 x.2.1
def ref_In.S (N : Nat) : Fs := ⟨ref_In.ins, ref_In.outs, ref_In.fn N⟩
def ref_In.lam (N : Nat) : Pcs := pcs [([true, false, true, false], (ref_In_0.P N).pc (ref_In.C N))]
theorem ref_In.pok (N : Nat) : (ref_In.lam N).Ok Try.prog (ref_In.C N) ref_In.code := pcsOk_cons (c1 := .loop ref_In_0.code) (by kernel_rfl) (ref_In_0.ok N) (pcsOk_nil)
theorem ref_In.ev (N : Nat) (x : Sh.den ref_In.ins) : evC (ref_In.C N) ref_In.code (ref_In.lam N) ⟨envOf 0 (bld (fun k => k) ref_In.ins x 0).1, (bld (fun k => k) ref_In.ins x 0).2.1, 1000⟩ (endF U ref_In.outs Try.f22.results.toList []) = ref_In.fn N x := by kernel_rfl
theorem ref_In.ok (N : Nat) : (ref_In.S N).con.Ok Try.prog 22 := fn_ok (F := ref_In.S N) (n0 := 1000) Try.func22 (by kernel_rfl) (show Try.f22.body = some ref_In.code by rfl) mix (ref_In.cok N) (fun _ => rfl) (fun _ => rfl) (ref_In.pok N) (fun x y h => (ref_In.ev N x).trans h)
/-- hayloft/hayloftref13.places -/
def ref_places.ins : Sh := (.cons (.val (.slice (.int .i64))) (.cons (.val (.int .i64)) .nil))
def ref_places.C (N : Nat) : Ctx := ⟨U, 37, fun _ => true, gam [(22, (ref_In.S N).con)], gamY []⟩
theorem ref_places.cok (N : Nat) : (ref_places.C N).Ok Try.prog := ⟨U_ok, GamOk.cons (ref_In.ok N) (GamOk.nil), GamYOk.nil⟩
def ref_places.code : Code := Try.f60.body.getD .skip
def ref_places_0.ins : Sh := (.cons (.val (.slice (.int .i64))) (.cons (.val (.int .i64)) (.cons (.val (.int .i64)) .nil)))
def ref_places_0.ts : List Tmp := [0, 1, 5]
def ref_places_0.asg : List Tmp := [4, 5, 6, 7, 8, 9, 10, 11, 12, 13, 14, 15, 16, 17, 18, 19, 20, 21, 22, 23, 24, 25, 26, 27, 28, 29, 30, 31, 32, 33, 34, 35, 36]
def ref_places_0.C (N : Nat) : Ctx := { ref_places.C N with may := fun t => ref_places_0.asg.any (Nat.beq t) }
def ref_places_0.code : Code := loopBody (sub ref_places.code [true, false, true, false])
theorem ref_places_0.cok (N : Nat) : (ref_places_0.C N).Ok Try.prog := ⟨(ref_places.cok N).U, (ref_places.cok N).Γ, (ref_places.cok N).Y⟩
def ref_places_0.alts : List Alt := [⟨.ret, [4], (.cons (.val .bool) .nil)⟩, ⟨(.exit 0), [], .nil⟩]
def ref_places_0.go (N : Nat) : Nat → (List Int) → Int → Int → Option ((Bool × Unit) ⊕ Unit)
  | 0, _, _, _ => none
  | fuel + 1, l, many, i =>
    bif decide (i < (l.length : Int)) then
      bif okB (0 : Int) i l.length then
        bif inB i l.length then
          obind (ref_In.run N (l.take i.toNat) (l.getD i.toNat (0 : Int))) fun (b, _) =>
            bif inB i l.length then
              bif decide ((l.getD i.toNat (0 : Int)) < (0 : Int)) then
                some (.inl (false, ()))
              else
                bif inB i l.length then
                  bif decide ((l.getD i.toNat (0 : Int)) ≥ many) then
                    some (.inl (false, ()))
                  else
                    bif b then
                      some (.inl (false, ()))
                    else ref_places_0.go N fuel l many (IntKind.i64.wrap (i + (1 : Int)))
                else none
            else none
        else none
      else none
    else some (.inr ())
def ref_places_0.g (N n : Nat) (x : Sh.den ref_places_0.ins) : Option (altsDen ref_places_0.alts) := ref_places_0.go N n x.1 x.2.1 x.2.2.1
def ref_places_0.P (N : Nat) : Ps := ⟨ref_places_0.ts, ref_places_0.ins, ref_places_0.asg, ref_places_0.alts, ref_places_0.g N N⟩
def ref_places_0.lam (N : Nat) : Pcs := pcs []
theorem ref_places_0.pok (N : Nat) : (ref_places_0.lam N).Ok Try.prog (ref_places_0.C N) ref_places_0.code := pcsOk_nil
theorem ref_places_0.ev (N n : Nat) (x : Sh.den ref_places_0.ins) : evC (ref_places_0.C N) ref_places_0.code (ref_places_0.lam N) ((ref_places_0.P N).canon 1000 x) (loopK (ref_places_0.P N) (ref_places_0.g N n)) = ref_places_0.g N (n + 1) x := by kernel_rfl
theorem ref_places_0.ok (N : Nat) : ((ref_places_0.P N).pc (ref_places.C N)).Ok Try.prog (ref_places.C N) (.loop ref_places_0.code) := loop_ok (F := ref_places_0.P N) (n0 := 1000) (N := N) (ref_places.cok N) mix (ref_places_0.pok N) (ref_places_0.g N) (fun x => by rfl) rfl (fun n x y h => (ref_places_0.ev N n x).trans h)
def ref_places.outs : Sh := (.cons (.val .bool) .nil)
def ref_places.run (N : Nat) (l : (List Int)) (many : Int) : Option (Bool × Unit) :=
  obind (ref_places_0.go N N l many (0 : Int)) fun y => match y with
  | .inl (t4, _) =>
      some (t4, ())
  | .inr (_) =>
      some (true, ())
def ref_places.fn (N : Nat) (x : Sh.den ref_places.ins) : Option (Sh.den ref_places.outs) := ref_places.run N x.1 x.2.1
def ref_places.S (N : Nat) : Fs := ⟨ref_places.ins, ref_places.outs, ref_places.fn N⟩
def ref_places.lam (N : Nat) : Pcs := pcs [([true, false, true, false], (ref_places_0.P N).pc (ref_places.C N))]
theorem ref_places.pok (N : Nat) : (ref_places.lam N).Ok Try.prog (ref_places.C N) ref_places.code := pcsOk_cons (c1 := .loop ref_places_0.code) (by kernel_rfl) (ref_places_0.ok N) (pcsOk_nil)
theorem ref_places.ev (N : Nat) (x : Sh.den ref_places.ins) : evC (ref_places.C N) ref_places.code (ref_places.lam N) ⟨envOf 0 (bld (fun k => k) ref_places.ins x 0).1, (bld (fun k => k) ref_places.ins x 0).2.1, 1000⟩ (endF U ref_places.outs Try.f60.results.toList []) = ref_places.fn N x := by kernel_rfl
theorem ref_places.ok (N : Nat) : (ref_places.S N).con.Ok Try.prog 60 := fn_ok (F := ref_places.S N) (n0 := 1000) Try.func60 (by kernel_rfl) (show Try.f60.body = some ref_places.code by rfl) mix (ref_places.cok N) (fun _ => rfl) (fun _ => rfl) (ref_places.pok N) (fun x y h => (ref_places.ev N x).trans h)
/-- hayloft/hayloftref13.projection -/
def ref_projection.ins : Sh := (.cons (.val (.pair (.int .i64) (.pair (.int .i64) (.pair (.int .i64) (.pair (.slice (.pair .str (.slice (.pair .str (.pair (.int .i64) .bool))))) (.slice (.pair .str (.pair (.int .i64) (.pair (.slice (.int .i64)) (.pair (.slice (.int .i64)) (.pair (.int .i64) (.int .i64)))))))))))) (.cons (.val (.pair .str (.pair (.int .i64) (.pair (.slice (.int .i64)) (.pair (.slice (.int .i64)) (.pair (.int .i64) (.int .i64))))))) .nil))
def ref_projection.C (N : Nat) : Ctx := ⟨U, 97, fun _ => true, gam [(60, (ref_places.S N).con), (22, (ref_In.S N).con)], gamY []⟩
theorem ref_projection.cok (N : Nat) : (ref_projection.C N).Ok Try.prog := ⟨U_ok, GamOk.cons (ref_places.ok N) (GamOk.cons (ref_In.ok N) (GamOk.nil)), GamYOk.nil⟩
def ref_projection.code : Code := Try.f35.body.getD .skip
def ref_projection_0.ins : Sh := (.cons (.rbox 66 (.cons (.val .str) (.cons (.val (.int .i64)) (.cons (.val (.slice (.int .i64))) (.cons (.val (.slice (.int .i64))) (.cons (.val (.int .i64)) (.cons (.val (.int .i64)) .nil))))))) (.cons (.val (.int .i64)) .nil))
def ref_projection_0.ts : List Tmp := [3, 9]
def ref_projection_0.asg : List Tmp := [4, 9, 10, 61, 62, 63, 64, 65, 66, 67, 68, 69, 70, 71, 72, 73, 74, 75, 76, 77]
def ref_projection_0.C (N : Nat) : Ctx := { ref_projection.C N with may := fun t => ref_projection_0.asg.any (Nat.beq t) }
def ref_projection_0.code : Code := loopBody (sub ref_projection.code [true, true, true, true, true, true, false, true, false])
theorem ref_projection_0.cok (N : Nat) : (ref_projection_0.C N).Ok Try.prog := ⟨(ref_projection.cok N).U, (ref_projection.cok N).Γ, (ref_projection.cok N).Y⟩
def ref_projection_0.alts : List Alt := [⟨.ret, [4], (.cons (.val .bool) .nil)⟩, ⟨(.exit 0), [], .nil⟩]
def ref_projection_0.go (N : Nat) : Nat → (List UInt8) → Int → (List Int) → (List Int) → Int → Int → Int → Option ((Bool × Unit) ⊕ Unit)
  | 0, _, _, _, _, _, _, _ => none
  | fuel + 1, name, table, columns, sort, by_, shift, i =>
    bif decide (i < (sort.length : Int)) then
      bif inB i sort.length then
        obind (ref_In.run N columns (sort.getD i.toNat (0 : Int))) fun (b, _) =>
          bif !b then
            some (.inl (false, ()))
          else ref_projection_0.go N fuel name table columns sort by_ shift (IntKind.i64.wrap (i + (1 : Int)))
      else none
    else some (.inr ())
def ref_projection_0.g (N n : Nat) (x : Sh.den ref_projection_0.ins) : Option (altsDen ref_projection_0.alts) := ref_projection_0.go N n x.1.1 x.1.2.1 x.1.2.2.1 x.1.2.2.2.1 x.1.2.2.2.2.1 x.1.2.2.2.2.2.1 x.2.1
def ref_projection_0.P (N : Nat) : Ps := ⟨ref_projection_0.ts, ref_projection_0.ins, ref_projection_0.asg, ref_projection_0.alts, ref_projection_0.g N N⟩
def ref_projection_0.lam (N : Nat) : Pcs := pcs []
theorem ref_projection_0.pok (N : Nat) : (ref_projection_0.lam N).Ok Try.prog (ref_projection_0.C N) ref_projection_0.code := pcsOk_nil
theorem ref_projection_0.ev (N n : Nat) (x : Sh.den ref_projection_0.ins) : evC (ref_projection_0.C N) ref_projection_0.code (ref_projection_0.lam N) ((ref_projection_0.P N).canon 1000 x) (loopK (ref_projection_0.P N) (ref_projection_0.g N n)) = ref_projection_0.g N (n + 1) x := by kernel_rfl
theorem ref_projection_0.ok (N : Nat) : ((ref_projection_0.P N).pc (ref_projection.C N)).Ok Try.prog (ref_projection.C N) (.loop ref_projection_0.code) := loop_ok (F := ref_projection_0.P N) (n0 := 1000) (N := N) (ref_projection.cok N) mix (ref_projection_0.pok N) (ref_projection_0.g N) (fun x => by rfl) rfl (fun n x y h => (ref_projection_0.ev N n x).trans h)
def ref_projection.outs : Sh := (.cons (.val .bool) .nil)
def ref_projection.run (N : Nat) (c : (Int × (Int × (Int × ((List ((List UInt8) × (List ((List UInt8) × (Int × Bool))))) × (List ((List UInt8) × (Int × ((List Int) × ((List Int) × (Int × Int))))))))))) (p : ((List UInt8) × (Int × ((List Int) × ((List Int) × (Int × Int)))))) : Option (Bool × Unit) :=
  bif decide ((p.1.length : Int) = (0 : Int)) then
    some (false, ())
  else
    bif decide ((p.1.length : Int) > (64 : Int)) then
      some (false, ())
    else
      bif decide (p.2.1 < (0 : Int)) then
        some (false, ())
      else
        bif decide (p.2.1 ≥ (c.2.2.2.1.length : Int)) then
          some (false, ())
        else
          bif decide ((p.2.2.1.length : Int) = (0 : Int)) then
            some (false, ())
          else
            bif inB p.2.1 c.2.2.2.1.length then
              obind (ref_places.run N p.2.2.1 ((c.2.2.2.1.getD p.2.1.toNat (([] : List UInt8), ([] : List ((List UInt8) × (Int × Bool))))).2.length : Int)) fun (b, _) =>
                obind (ref_places.run N p.2.2.2.1 ((c.2.2.2.1.getD p.2.1.toNat (([] : List UInt8), ([] : List ((List UInt8) × (Int × Bool))))).2.length : Int)) fun (b1, _) =>
                  obind (ref_In.run N p.2.2.1 p.2.2.2.2.1) fun (b2, _) =>
                    obind (ref_projection_0.go N N p.1 p.2.1 p.2.2.1 p.2.2.2.1 p.2.2.2.2.1 p.2.2.2.2.2 (0 : Int)) fun y => match y with
                    | .inl (t4, _) =>
                        some (t4, ())
                    | .inr (_) =>
                        bif b then
                          bif b1 then
                            bif b2 then
                              bif decide (p.2.2.2.2.2 ≥ (0 : Int)) then
                                some (decide (p.2.2.2.2.2 < c.1), ())
                              else some (false, ())
                            else some (false, ())
                          else some (false, ())
                        else some (false, ())
            else none
def ref_projection.fn (N : Nat) (x : Sh.den ref_projection.ins) : Option (Sh.den ref_projection.outs) := ref_projection.run N x.1 x.2.1
def ref_projection.S (N : Nat) : Fs := ⟨ref_projection.ins, ref_projection.outs, ref_projection.fn N⟩
def ref_projection.lam (N : Nat) : Pcs := pcs [([true, true, true, true, true, true, false, true, false], (ref_projection_0.P N).pc (ref_projection.C N))]
theorem ref_projection.pok (N : Nat) : (ref_projection.lam N).Ok Try.prog (ref_projection.C N) ref_projection.code := pcsOk_cons (c1 := .loop ref_projection_0.code) (by kernel_rfl) (ref_projection_0.ok N) (pcsOk_nil)
theorem ref_projection.ev (N : Nat) (x : Sh.den ref_projection.ins) : evC (ref_projection.C N) ref_projection.code (ref_projection.lam N) ⟨envOf 0 (bld (fun k => k) ref_projection.ins x 0).1, (bld (fun k => k) ref_projection.ins x 0).2.1, 1000⟩ (endF U ref_projection.outs Try.f35.results.toList []) = ref_projection.fn N x := by kernel_rfl
theorem ref_projection.ok (N : Nat) : (ref_projection.S N).con.Ok Try.prog 35 := fn_ok (F := ref_projection.S N) (n0 := 1000) Try.func35 (by kernel_rfl) (show Try.f35.body = some ref_projection.code by rfl) mix (ref_projection.cok N) (fun _ => rfl) (fun _ => rfl) (ref_projection.pok N) (fun x y h => (ref_projection.ev N x).trans h)
/-- hayloft/hayloftref13.All -/
def ref_All.ins : Sh := (.cons (.val (.pair .str (.slice (.pair .str (.pair (.int .i64) .bool))))) (.cons (.val (.pair .str (.pair (.int .i64) (.pair (.slice (.int .i64)) (.pair (.slice (.int .i64)) (.pair (.int .i64) (.int .i64))))))) (.cons (.val (.pair .str (.pair (.int .i64) (.pair (.slice (.int .i64)) (.pair (.slice (.int .i64)) (.pair (.int .i64) (.int .i64))))))) .nil)))
def ref_All.C (N : Nat) : Ctx := ⟨U, 31, fun _ => true, gam [(22, (ref_In.S N).con)], gamY []⟩
theorem ref_All.cok (N : Nat) : (ref_All.C N).Ok Try.prog := ⟨U_ok, GamOk.cons (ref_In.ok N) (GamOk.nil), GamYOk.nil⟩
def ref_All.code : Code := Try.f61.body.getD .skip
def ref_All_0.ins : Sh := (.cons (.rbox 79 (.cons (.val .str) (.cons (.val (.slice (.pair .str (.pair (.int .i64) .bool)))) .nil))) (.cons (.rbox 66 (.cons (.val .str) (.cons (.val (.int .i64)) (.cons (.val (.slice (.int .i64))) (.cons (.val (.slice (.int .i64))) (.cons (.val (.int .i64)) (.cons (.val (.int .i64)) .nil))))))) (.cons (.rbox 66 (.cons (.val .str) (.cons (.val (.int .i64)) (.cons (.val (.slice (.int .i64))) (.cons (.val (.slice (.int .i64))) (.cons (.val (.int .i64)) (.cons (.val (.int .i64)) .nil))))))) (.cons (.val (.int .i64)) .nil))))
def ref_All_0.ts : List Tmp := [3, 4, 5, 7]
def ref_All_0.asg : List Tmp := [6, 7, 8, 9, 10, 11, 12, 13, 14, 15, 16, 17, 18, 19, 20, 21, 22, 23, 24, 25, 26, 27, 28, 29, 30]
def ref_All_0.C (N : Nat) : Ctx := { ref_All.C N with may := fun t => ref_All_0.asg.any (Nat.beq t) }
def ref_All_0.code : Code := loopBody (sub ref_All.code [true, false, true, false])
theorem ref_All_0.cok (N : Nat) : (ref_All_0.C N).Ok Try.prog := ⟨(ref_All.cok N).U, (ref_All.cok N).Γ, (ref_All.cok N).Y⟩
def ref_All_0.alts : List Alt := [⟨.ret, [6], (.cons (.val .bool) .nil)⟩, ⟨(.exit 0), [], .nil⟩]
def ref_All_0.go (N : Nat) : Nat → (List UInt8) → (List ((List UInt8) × (Int × Bool))) → (List UInt8) → Int → (List Int) → (List Int) → Int → Int → (List UInt8) → Int → (List Int) → (List Int) → Int → Int → Int → Option ((Bool × Unit) ⊕ Unit)
  | 0, _, _, _, _, _, _, _, _, _, _, _, _, _, _, _ => none
  | fuel + 1, name, columns, name1, table, columns1, sort, by_, shift, name2, table1, columns2, sort1, by1, shift1, n_ =>
    bif decide (n_ < (columns.length : Int)) then
      obind (ref_In.run N columns1 n_) fun (b, _) =>
        obind (ref_In.run N columns2 n_) fun (b1, _) =>
          bif !b then
            bif !b1 then
              some (.inl (false, ()))
            else ref_All_0.go N fuel name columns name1 table columns1 sort by_ shift name2 table1 columns2 sort1 by1 shift1 (IntKind.i64.wrap (n_ + (1 : Int)))
          else ref_All_0.go N fuel name columns name1 table columns1 sort by_ shift name2 table1 columns2 sort1 by1 shift1 (IntKind.i64.wrap (n_ + (1 : Int)))
    else some (.inr ())
def ref_All_0.g (N n : Nat) (x : Sh.den ref_All_0.ins) : Option (altsDen ref_All_0.alts) := ref_All_0.go N n x.1.1 x.1.2.1 x.2.1.1 x.2.1.2.1 x.2.1.2.2.1 x.2.1.2.2.2.1 x.2.1.2.2.2.2.1 x.2.1.2.2.2.2.2.1 x.2.2.1.1 x.2.2.1.2.1 x.2.2.1.2.2.1 x.2.2.1.2.2.2.1 x.2.2.1.2.2.2.2.1 x.2.2.1.2.2.2.2.2.1 x.2.2.2.1
def ref_All_0.P (N : Nat) : Ps := ⟨ref_All_0.ts, ref_All_0.ins, ref_All_0.asg, ref_All_0.alts, ref_All_0.g N N⟩
def ref_All_0.lam (N : Nat) : Pcs := pcs []
theorem ref_All_0.pok (N : Nat) : (ref_All_0.lam N).Ok Try.prog (ref_All_0.C N) ref_All_0.code := pcsOk_nil
theorem ref_All_0.ev (N n : Nat) (x : Sh.den ref_All_0.ins) : evC (ref_All_0.C N) ref_All_0.code (ref_All_0.lam N) ((ref_All_0.P N).canon 1000 x) (loopK (ref_All_0.P N) (ref_All_0.g N n)) = ref_All_0.g N (n + 1) x := by kernel_rfl
theorem ref_All_0.ok (N : Nat) : ((ref_All_0.P N).pc (ref_All.C N)).Ok Try.prog (ref_All.C N) (.loop ref_All_0.code) := loop_ok (F := ref_All_0.P N) (n0 := 1000) (N := N) (ref_All.cok N) mix (ref_All_0.pok N) (ref_All_0.g N) (fun x => by rfl) rfl (fun n x y h => (ref_All_0.ev N n x).trans h)
def ref_All.outs : Sh := (.cons (.val .bool) .nil)
def ref_All.run (N : Nat) (t : ((List UInt8) × (List ((List UInt8) × (Int × Bool))))) (p : ((List UInt8) × (Int × ((List Int) × ((List Int) × (Int × Int)))))) (q : ((List UInt8) × (Int × ((List Int) × ((List Int) × (Int × Int)))))) : Option (Bool × Unit) :=
  obind (ref_All_0.go N N t.1 t.2 p.1 p.2.1 p.2.2.1 p.2.2.2.1 p.2.2.2.2.1 p.2.2.2.2.2 q.1 q.2.1 q.2.2.1 q.2.2.2.1 q.2.2.2.2.1 q.2.2.2.2.2 (0 : Int)) fun y => match y with
  | .inl (t6, _) =>
      some (t6, ())
  | .inr (_) =>
      some (true, ())
def ref_All.fn (N : Nat) (x : Sh.den ref_All.ins) : Option (Sh.den ref_All.outs) := ref_All.run N x.1 x.2.1 x.2.2.1
def ref_All.S (N : Nat) : Fs := ⟨ref_All.ins, ref_All.outs, ref_All.fn N⟩
def ref_All.lam (N : Nat) : Pcs := pcs [([true, false, true, false], (ref_All_0.P N).pc (ref_All.C N))]
theorem ref_All.pok (N : Nat) : (ref_All.lam N).Ok Try.prog (ref_All.C N) ref_All.code := pcsOk_cons (c1 := .loop ref_All_0.code) (by kernel_rfl) (ref_All_0.ok N) (pcsOk_nil)
theorem ref_All.ev (N : Nat) (x : Sh.den ref_All.ins) : evC (ref_All.C N) ref_All.code (ref_All.lam N) ⟨envOf 0 (bld (fun k => k) ref_All.ins x 0).1, (bld (fun k => k) ref_All.ins x 0).2.1, 1000⟩ (endF U ref_All.outs Try.f61.results.toList []) = ref_All.fn N x := by kernel_rfl
theorem ref_All.ok (N : Nat) : (ref_All.S N).con.Ok Try.prog 61 := fn_ok (F := ref_All.S N) (n0 := 1000) Try.func61 (by kernel_rfl) (show Try.f61.body = some ref_All.code by rfl) mix (ref_All.cok N) (fun _ => rfl) (fun _ => rfl) (ref_All.pok N) (fun x y h => (ref_All.ev N x).trans h)
/-- hayloft/hayloftref13.covered -/
def ref_covered.ins : Sh := (.cons (.val (.pair (.int .i64) (.pair (.int .i64) (.pair (.int .i64) (.pair (.slice (.pair .str (.slice (.pair .str (.pair (.int .i64) .bool))))) (.slice (.pair .str (.pair (.int .i64) (.pair (.slice (.int .i64)) (.pair (.slice (.int .i64)) (.pair (.int .i64) (.int .i64)))))))))))) (.cons (.val (.int .i64)) .nil))
def ref_covered.C (N : Nat) : Ctx := ⟨U, 57, fun _ => true, gam [(61, (ref_All.S N).con)], gamY []⟩
theorem ref_covered.cok (N : Nat) : (ref_covered.C N).Ok Try.prog := ⟨U_ok, GamOk.cons (ref_All.ok N) (GamOk.nil), GamYOk.nil⟩
def ref_covered.code : Code := Try.f36.body.getD .skip
def ref_covered_0.ins : Sh := (.cons (.val (.int .i64)) (.cons (.rbox 25 (.cons (.val (.int .i64)) (.cons (.val (.int .i64)) (.cons (.val (.int .i64)) (.cons (.val (.slice (.pair .str (.slice (.pair .str (.pair (.int .i64) .bool)))))) (.cons (.val (.slice (.pair .str (.pair (.int .i64) (.pair (.slice (.int .i64)) (.pair (.slice (.int .i64)) (.pair (.int .i64) (.int .i64)))))))) .nil)))))) (.cons (.val (.int .i64)) .nil)))
def ref_covered_0.ts : List Tmp := [1, 2, 5]
def ref_covered_0.asg : List Tmp := [4, 5, 6, 7, 8, 9, 10, 11, 12, 13, 14, 15, 16, 17, 18, 19, 20, 21, 22, 23, 24, 25, 26, 27, 28, 29, 30, 31, 32, 33, 34, 35, 36, 37, 38, 39, 40, 41, 42, 43, 44, 45, 46, 47, 48, 49, 50, 51, 52, 53, 54, 55, 56]
def ref_covered_0.C (N : Nat) : Ctx := { ref_covered.C N with may := fun t => ref_covered_0.asg.any (Nat.beq t) }
def ref_covered_0.code : Code := loopBody (sub ref_covered.code [true, false, true, false])
theorem ref_covered_0.cok (N : Nat) : (ref_covered_0.C N).Ok Try.prog := ⟨(ref_covered.cok N).U, (ref_covered.cok N).Γ, (ref_covered.cok N).Y⟩
def ref_covered_0_0.ins : Sh := (.cons (.val (.int .i64)) (.cons (.rbox 25 (.cons (.val (.int .i64)) (.cons (.val (.int .i64)) (.cons (.val (.int .i64)) (.cons (.val (.slice (.pair .str (.slice (.pair .str (.pair (.int .i64) .bool)))))) (.cons (.val (.slice (.pair .str (.pair (.int .i64) (.pair (.slice (.int .i64)) (.pair (.slice (.int .i64)) (.pair (.int .i64) (.int .i64)))))))) .nil)))))) (.cons (.val (.int .i64)) (.cons (.val (.int .i64)) .nil))))
def ref_covered_0_0.ts : List Tmp := [1, 2, 5, 6]
def ref_covered_0_0.asg : List Tmp := [4, 6, 7, 15, 16, 17, 18, 19, 20, 21, 22, 23, 24, 25, 26, 27, 28, 29, 30, 31, 32, 33, 34, 35, 36, 37, 38, 39, 40, 41, 42, 43, 44, 45, 46, 47, 48, 49, 50, 51, 52, 53, 54, 55, 56]
def ref_covered_0_0.C (N : Nat) : Ctx := { ref_covered_0.C N with may := fun t => ref_covered_0_0.asg.any (Nat.beq t) }
def ref_covered_0_0.code : Code := loopBody (sub ref_covered_0.code [true, false, false, true, false])
theorem ref_covered_0_0.cok (N : Nat) : (ref_covered_0_0.C N).Ok Try.prog := ⟨(ref_covered_0.cok N).U, (ref_covered_0.cok N).Γ, (ref_covered_0.cok N).Y⟩
def ref_covered_0_0_0.ins : Sh := (.cons (.val (.int .i64)) (.cons (.rbox 25 (.cons (.val (.int .i64)) (.cons (.val (.int .i64)) (.cons (.val (.int .i64)) (.cons (.val (.slice (.pair .str (.slice (.pair .str (.pair (.int .i64) .bool)))))) (.cons (.val (.slice (.pair .str (.pair (.int .i64) (.pair (.slice (.int .i64)) (.pair (.slice (.int .i64)) (.pair (.int .i64) (.int .i64)))))))) .nil)))))) (.cons (.val (.int .i64)) (.cons (.val (.int .i64)) .nil))))
def ref_covered_0_0_0.ts : List Tmp := [1, 2, 5, 6]
def ref_covered_0_0_0.asg : List Tmp := [22, 23, 24, 25, 26, 27, 28, 29, 30, 31, 32, 33, 34, 35, 36, 37, 38, 39]
def ref_covered_0_0_0.C (N : Nat) : Ctx := { ref_covered_0_0.C N with may := fun t => ref_covered_0_0_0.asg.any (Nat.beq t) }
def ref_covered_0_0_0.code : Code := (sub ref_covered_0_0.code [true, false, false, false]).getD .skip
theorem ref_covered_0_0_0.cok (N : Nat) : (ref_covered_0_0_0.C N).Ok Try.prog := ⟨(ref_covered_0_0.cok N).U, (ref_covered_0_0.cok N).Γ, (ref_covered_0_0.cok N).Y⟩
def ref_covered_0_0_0.alts : List Alt := [⟨.normal, [39], (.cons (.val .bool) .nil)⟩]
def ref_covered_0_0_0.run (N : Nat) (table : Int) (nodes : Int) (segments : Int) (k : Int) (tables : (List ((List UInt8) × (List ((List UInt8) × (Int × Bool)))))) (projs : (List ((List UInt8) × (Int × ((List Int) × ((List Int) × (Int × Int))))))) (i : Int) (k1 : Int) : Option ((Bool × Unit)) :=
  bif inB i projs.length then
    bif decide ((projs.getD i.toNat (([] : List UInt8), (0 : Int), ([] : List Int), ([] : List Int), (0 : Int), (0 : Int))).2.1 = table) then
      bif inB k1 projs.length then
        some (decide ((projs.getD k1.toNat (([] : List UInt8), (0 : Int), ([] : List Int), ([] : List Int), (0 : Int), (0 : Int))).2.1 = table), ())
      else none
    else some (false, ())
  else none
def ref_covered_0_0_0.fn (N : Nat) (x : Sh.den ref_covered_0_0_0.ins) : Option (altsDen ref_covered_0_0_0.alts) := ref_covered_0_0_0.run N x.1 x.2.1.1 x.2.1.2.1 x.2.1.2.2.1 x.2.1.2.2.2.1 x.2.1.2.2.2.2.1 x.2.2.1 x.2.2.2.1
def ref_covered_0_0_0.P (N : Nat) : Ps := ⟨ref_covered_0_0_0.ts, ref_covered_0_0_0.ins, ref_covered_0_0_0.asg, ref_covered_0_0_0.alts, ref_covered_0_0_0.fn N⟩
def ref_covered_0_0_0.lam (N : Nat) : Pcs := pcs []
theorem ref_covered_0_0_0.pok (N : Nat) : (ref_covered_0_0_0.lam N).Ok Try.prog (ref_covered_0_0_0.C N) ref_covered_0_0_0.code := pcsOk_nil
theorem ref_covered_0_0_0.ev (N : Nat) (x : Sh.den ref_covered_0_0_0.ins) : evC (ref_covered_0_0_0.C N) ref_covered_0_0_0.code (ref_covered_0_0_0.lam N) ((ref_covered_0_0_0.P N).canon 1000 x) (altK (ref_covered_0_0_0.P N).alts) = ref_covered_0_0_0.fn N x := by kernel_rfl
theorem ref_covered_0_0_0.ok (N : Nat) : ((ref_covered_0_0_0.P N).pc (ref_covered_0_0.C N)).Ok Try.prog (ref_covered_0_0.C N) ref_covered_0_0_0.code := ps_ok (F := ref_covered_0_0_0.P N) (n0 := 1000) (ref_covered_0_0.cok N) mix (ref_covered_0_0_0.pok N) (fun x y h => (ref_covered_0_0_0.ev N x).trans h)
def ref_covered_0_0.alts : List Alt := [⟨.ret, [4], (.cons (.val .bool) .nil)⟩, ⟨(.exit 2), [], .nil⟩]
def ref_covered_0_0.go (N : Nat) : Nat → Int → Int → Int → Int → (List ((List UInt8) × (List ((List UInt8) × (Int × Bool))))) → (List ((List UInt8) × (Int × ((List Int) × ((List Int) × (Int × Int)))))) → Int → Int → Option ((Bool × Unit) ⊕ Unit)
  | 0, _, _, _, _, _, _, _, _ => none
  | fuel + 1, table, nodes, segments, k, tables, projs, i, k1 =>
    bif decide (k1 < (projs.length : Int)) then
      obind (ref_covered_0_0_0.run N table nodes segments k tables projs i k1) fun (t39, _) =>
        bif t39 then
          bif inB table tables.length then
            bif inB i projs.length then
              bif inB k1 projs.length then
                obind (ref_All.run N (tables.getD table.toNat (([] : List UInt8), ([] : List ((List UInt8) × (Int × Bool))))) (projs.getD i.toNat (([] : List UInt8), (0 : Int), ([] : List Int), ([] : List Int), (0 : Int), (0 : Int))) (projs.getD k1.toNat (([] : List UInt8), (0 : Int), ([] : List Int), ([] : List Int), (0 : Int), (0 : Int)))) fun (b, _) =>
                  bif b then
                    some (.inl (true, ()))
                  else ref_covered_0_0.go N fuel table nodes segments k tables projs i (IntKind.i64.wrap (k1 + (1 : Int)))
              else none
            else none
          else none
        else ref_covered_0_0.go N fuel table nodes segments k tables projs i (IntKind.i64.wrap (k1 + (1 : Int)))
    else some (.inr ())
def ref_covered_0_0.g (N n : Nat) (x : Sh.den ref_covered_0_0.ins) : Option (altsDen ref_covered_0_0.alts) := ref_covered_0_0.go N n x.1 x.2.1.1 x.2.1.2.1 x.2.1.2.2.1 x.2.1.2.2.2.1 x.2.1.2.2.2.2.1 x.2.2.1 x.2.2.2.1
def ref_covered_0_0.P (N : Nat) : Ps := ⟨ref_covered_0_0.ts, ref_covered_0_0.ins, ref_covered_0_0.asg, ref_covered_0_0.alts, ref_covered_0_0.g N N⟩
def ref_covered_0_0.lam (N : Nat) : Pcs := pcs [([true, false, false, false], (ref_covered_0_0_0.P N).pc (ref_covered_0_0.C N))]
theorem ref_covered_0_0.pok (N : Nat) : (ref_covered_0_0.lam N).Ok Try.prog (ref_covered_0_0.C N) ref_covered_0_0.code := pcsOk_cons (c1 := ref_covered_0_0_0.code) (by kernel_rfl) (ref_covered_0_0_0.ok N) (pcsOk_nil)
theorem ref_covered_0_0.ev (N n : Nat) (x : Sh.den ref_covered_0_0.ins) : evC (ref_covered_0_0.C N) ref_covered_0_0.code (ref_covered_0_0.lam N) ((ref_covered_0_0.P N).canon 1000 x) (loopK (ref_covered_0_0.P N) (ref_covered_0_0.g N n)) = ref_covered_0_0.g N (n + 1) x := by kernel_rfl
theorem ref_covered_0_0.ok (N : Nat) : ((ref_covered_0_0.P N).pc (ref_covered_0.C N)).Ok Try.prog (ref_covered_0.C N) (.loop ref_covered_0_0.code) := loop_ok (F := ref_covered_0_0.P N) (n0 := 1000) (N := N) (ref_covered_0.cok N) mix (ref_covered_0_0.pok N) (ref_covered_0_0.g N) (fun x => by rfl) rfl (fun n x y h => (ref_covered_0_0.ev N n x).trans h)
def ref_covered_0.alts : List Alt := [⟨.ret, [4], (.cons (.val .bool) .nil)⟩, ⟨(.exit 0), [], .nil⟩]
def ref_covered_0.go (N : Nat) : Nat → Int → Int → Int → Int → (List ((List UInt8) × (List ((List UInt8) × (Int × Bool))))) → (List ((List UInt8) × (Int × ((List Int) × ((List Int) × (Int × Int)))))) → Int → Option ((Bool × Unit) ⊕ Unit)
  | 0, _, _, _, _, _, _, _ => none
  | fuel + 1, table, nodes, segments, k, tables, projs, i =>
    bif decide (i < (projs.length : Int)) then
      obind (ref_covered_0_0.go N N table nodes segments k tables projs i (0 : Int)) fun y => match y with
      | .inl (t4, _) =>
          some (.inl (t4, ()))
      | .inr (_) =>
          ref_covered_0.go N fuel table nodes segments k tables projs (IntKind.i64.wrap (i + (1 : Int)))
    else some (.inr ())
def ref_covered_0.g (N n : Nat) (x : Sh.den ref_covered_0.ins) : Option (altsDen ref_covered_0.alts) := ref_covered_0.go N n x.1 x.2.1.1 x.2.1.2.1 x.2.1.2.2.1 x.2.1.2.2.2.1 x.2.1.2.2.2.2.1 x.2.2.1
def ref_covered_0.P (N : Nat) : Ps := ⟨ref_covered_0.ts, ref_covered_0.ins, ref_covered_0.asg, ref_covered_0.alts, ref_covered_0.g N N⟩
def ref_covered_0.lam (N : Nat) : Pcs := pcs [([true, false, false, true, false], (ref_covered_0_0.P N).pc (ref_covered_0.C N))]
theorem ref_covered_0.pok (N : Nat) : (ref_covered_0.lam N).Ok Try.prog (ref_covered_0.C N) ref_covered_0.code := pcsOk_cons (c1 := .loop ref_covered_0_0.code) (by kernel_rfl) (ref_covered_0_0.ok N) (pcsOk_nil)
theorem ref_covered_0.ev (N n : Nat) (x : Sh.den ref_covered_0.ins) : evC (ref_covered_0.C N) ref_covered_0.code (ref_covered_0.lam N) ((ref_covered_0.P N).canon 1000 x) (loopK (ref_covered_0.P N) (ref_covered_0.g N n)) = ref_covered_0.g N (n + 1) x := by kernel_rfl
theorem ref_covered_0.ok (N : Nat) : ((ref_covered_0.P N).pc (ref_covered.C N)).Ok Try.prog (ref_covered.C N) (.loop ref_covered_0.code) := loop_ok (F := ref_covered_0.P N) (n0 := 1000) (N := N) (ref_covered.cok N) mix (ref_covered_0.pok N) (ref_covered_0.g N) (fun x => by rfl) rfl (fun n x y h => (ref_covered_0.ev N n x).trans h)
def ref_covered.outs : Sh := (.cons (.val .bool) .nil)
def ref_covered.run (N : Nat) (c : (Int × (Int × (Int × ((List ((List UInt8) × (List ((List UInt8) × (Int × Bool))))) × (List ((List UInt8) × (Int × ((List Int) × ((List Int) × (Int × Int))))))))))) (table : Int) : Option (Bool × Unit) :=
  obind (ref_covered_0.go N N table c.1 c.2.1 c.2.2.1 c.2.2.2.1 c.2.2.2.2 (0 : Int)) fun y => match y with
  | .inl (t4, _) =>
      some (t4, ())
  | .inr (_) =>
      some (false, ())
def ref_covered.fn (N : Nat) (x : Sh.den ref_covered.ins) : Option (Sh.den ref_covered.outs) := ref_covered.run N x.1 x.2.1
def ref_covered.S (N : Nat) : Fs := ⟨ref_covered.ins, ref_covered.outs, ref_covered.fn N⟩
def ref_covered.lam (N : Nat) : Pcs := pcs [([true, false, true, false], (ref_covered_0.P N).pc (ref_covered.C N))]
theorem ref_covered.pok (N : Nat) : (ref_covered.lam N).Ok Try.prog (ref_covered.C N) ref_covered.code := pcsOk_cons (c1 := .loop ref_covered_0.code) (by kernel_rfl) (ref_covered_0.ok N) (pcsOk_nil)
theorem ref_covered.ev (N : Nat) (x : Sh.den ref_covered.ins) : evC (ref_covered.C N) ref_covered.code (ref_covered.lam N) ⟨envOf 0 (bld (fun k => k) ref_covered.ins x 0).1, (bld (fun k => k) ref_covered.ins x 0).2.1, 1000⟩ (endF U ref_covered.outs Try.f36.results.toList []) = ref_covered.fn N x := by kernel_rfl
theorem ref_covered.ok (N : Nat) : (ref_covered.S N).con.Ok Try.prog 36 := fn_ok (F := ref_covered.S N) (n0 := 1000) Try.func36 (by kernel_rfl) (show Try.f36.body = some ref_covered.code by rfl) mix (ref_covered.cok N) (fun _ => rfl) (fun _ => rfl) (ref_covered.pok N) (fun x y h => (ref_covered.ev N x).trans h)
/-- hayloft/hayloftref13.Segments -/
def ref_Segments.ins : Sh := (.cons (.val (.pair (.int .i64) (.pair (.int .i64) (.pair (.int .i64) (.pair (.slice (.pair .str (.slice (.pair .str (.pair (.int .i64) .bool))))) (.slice (.pair .str (.pair (.int .i64) (.pair (.slice (.int .i64)) (.pair (.slice (.int .i64)) (.pair (.int .i64) (.int .i64)))))))))))) .nil)
def ref_Segments.C (N : Nat) : Ctx := ⟨U, 26, fun _ => true, gam [], gamY []⟩
theorem ref_Segments.cok (N : Nat) : (ref_Segments.C N).Ok Try.prog := ⟨U_ok, GamOk.nil, GamYOk.nil⟩
def ref_Segments.code : Code := Try.f16.body.getD .skip
def ref_Segments_0.ins : Sh := (.cons (.rbox 25 (.cons (.val (.int .i64)) (.cons (.val (.int .i64)) (.cons (.val (.int .i64)) (.cons (.val (.slice (.pair .str (.slice (.pair .str (.pair (.int .i64) .bool)))))) (.cons (.val (.slice (.pair .str (.pair (.int .i64) (.pair (.slice (.int .i64)) (.pair (.slice (.int .i64)) (.pair (.int .i64) (.int .i64)))))))) .nil)))))) (.cons (.own 31 (.pair (.int .i64) (.int .i64))) (.cons (.val (.int .i64)) .nil)))
def ref_Segments_0.ts : List Tmp := [1, 3, 4]
def ref_Segments_0.asg : List Tmp := [3, 4, 5, 6, 7, 8, 9, 10, 11, 12, 13, 14, 15, 16, 17, 18, 19, 20, 21, 22, 23, 24]
def ref_Segments_0.C (N : Nat) : Ctx := { ref_Segments.C N with may := fun t => ref_Segments_0.asg.any (Nat.beq t) }
def ref_Segments_0.code : Code := loopBody (sub ref_Segments.code [true, true, false, true, false])
theorem ref_Segments_0.cok (N : Nat) : (ref_Segments_0.C N).Ok Try.prog := ⟨(ref_Segments.cok N).U, (ref_Segments.cok N).Γ, (ref_Segments.cok N).Y⟩
def ref_Segments_0_0.ins : Sh := (.cons (.rbox 25 (.cons (.val (.int .i64)) (.cons (.val (.int .i64)) (.cons (.val (.int .i64)) (.cons (.val (.slice (.pair .str (.slice (.pair .str (.pair (.int .i64) .bool)))))) (.cons (.val (.slice (.pair .str (.pair (.int .i64) (.pair (.slice (.int .i64)) (.pair (.slice (.int .i64)) (.pair (.int .i64) (.int .i64)))))))) .nil)))))) (.cons (.own 31 (.pair (.int .i64) (.int .i64))) (.cons (.val (.int .i64)) (.cons (.val (.int .i64)) .nil))))
def ref_Segments_0_0.ts : List Tmp := [1, 3, 4, 5]
def ref_Segments_0_0.asg : List Tmp := [3, 5, 13, 14, 15, 16, 17, 18, 19, 20, 21, 22, 23, 24]
def ref_Segments_0_0.C (N : Nat) : Ctx := { ref_Segments_0.C N with may := fun t => ref_Segments_0_0.asg.any (Nat.beq t) }
def ref_Segments_0_0.code : Code := loopBody (sub ref_Segments_0.code [true, false, false, true, false])
theorem ref_Segments_0_0.cok (N : Nat) : (ref_Segments_0_0.C N).Ok Try.prog := ⟨(ref_Segments_0.cok N).U, (ref_Segments_0.cok N).Γ, (ref_Segments_0.cok N).Y⟩
def ref_Segments_0_0.alts : List Alt := [⟨(.exit 2), [3], (.cons (.own 31 (.pair (.int .i64) (.int .i64))) .nil)⟩]
def ref_Segments_0_0.go (N : Nat) : Nat → Int → Int → Int → (List ((List UInt8) × (List ((List UInt8) × (Int × Bool))))) → (List ((List UInt8) × (Int × ((List Int) × ((List Int) × (Int × Int)))))) → (List (Int × Int)) → Int → Int → Option (((List (Int × Int)) × Unit))
  | 0, _, _, _, _, _, _, _, _ => none
  | fuel + 1, nodes, segments, k, tables, projs, l, p, n_ =>
    bif decide (n_ < segments) then
      bif room (l.length + 1) 16 then
        ref_Segments_0_0.go N fuel nodes segments k tables projs (l ++ ([(p, n_)] : List (Int × Int))) p (IntKind.i64.wrap (n_ + (1 : Int)))
      else none
    else some (l, ())
def ref_Segments_0_0.g (N n : Nat) (x : Sh.den ref_Segments_0_0.ins) : Option (altsDen ref_Segments_0_0.alts) := ref_Segments_0_0.go N n x.1.1 x.1.2.1 x.1.2.2.1 x.1.2.2.2.1 x.1.2.2.2.2.1 x.2.1 x.2.2.1 x.2.2.2.1
def ref_Segments_0_0.P (N : Nat) : Ps := ⟨ref_Segments_0_0.ts, ref_Segments_0_0.ins, ref_Segments_0_0.asg, ref_Segments_0_0.alts, ref_Segments_0_0.g N N⟩
def ref_Segments_0_0.lam (N : Nat) : Pcs := pcs []
theorem ref_Segments_0_0.pok (N : Nat) : (ref_Segments_0_0.lam N).Ok Try.prog (ref_Segments_0_0.C N) ref_Segments_0_0.code := pcsOk_nil
theorem ref_Segments_0_0.ev (N n : Nat) (x : Sh.den ref_Segments_0_0.ins) : evC (ref_Segments_0_0.C N) ref_Segments_0_0.code (ref_Segments_0_0.lam N) ((ref_Segments_0_0.P N).canon 1000 x) (loopK (ref_Segments_0_0.P N) (ref_Segments_0_0.g N n)) = ref_Segments_0_0.g N (n + 1) x := by kernel_rfl
theorem ref_Segments_0_0.ok (N : Nat) : ((ref_Segments_0_0.P N).pc (ref_Segments_0.C N)).Ok Try.prog (ref_Segments_0.C N) (.loop ref_Segments_0_0.code) := loop_ok (F := ref_Segments_0_0.P N) (n0 := 1000) (N := N) (ref_Segments_0.cok N) mix (ref_Segments_0_0.pok N) (ref_Segments_0_0.g N) (fun x => by rfl) rfl (fun n x y h => (ref_Segments_0_0.ev N n x).trans h)
def ref_Segments_0.alts : List Alt := [⟨(.exit 0), [3], (.cons (.own 31 (.pair (.int .i64) (.int .i64))) .nil)⟩]
def ref_Segments_0.go (N : Nat) : Nat → Int → Int → Int → (List ((List UInt8) × (List ((List UInt8) × (Int × Bool))))) → (List ((List UInt8) × (Int × ((List Int) × ((List Int) × (Int × Int)))))) → (List (Int × Int)) → Int → Option (((List (Int × Int)) × Unit))
  | 0, _, _, _, _, _, _, _ => none
  | fuel + 1, nodes, segments, k, tables, projs, l, p =>
    bif decide (p < (projs.length : Int)) then
      obind (ref_Segments_0_0.go N N nodes segments k tables projs l p (0 : Int)) fun (l1, _) =>
        ref_Segments_0.go N fuel nodes segments k tables projs l1 (IntKind.i64.wrap (p + (1 : Int)))
    else some (l, ())
def ref_Segments_0.g (N n : Nat) (x : Sh.den ref_Segments_0.ins) : Option (altsDen ref_Segments_0.alts) := ref_Segments_0.go N n x.1.1 x.1.2.1 x.1.2.2.1 x.1.2.2.2.1 x.1.2.2.2.2.1 x.2.1 x.2.2.1
def ref_Segments_0.P (N : Nat) : Ps := ⟨ref_Segments_0.ts, ref_Segments_0.ins, ref_Segments_0.asg, ref_Segments_0.alts, ref_Segments_0.g N N⟩
def ref_Segments_0.lam (N : Nat) : Pcs := pcs [([true, false, false, true, false], (ref_Segments_0_0.P N).pc (ref_Segments_0.C N))]
theorem ref_Segments_0.pok (N : Nat) : (ref_Segments_0.lam N).Ok Try.prog (ref_Segments_0.C N) ref_Segments_0.code := pcsOk_cons (c1 := .loop ref_Segments_0_0.code) (by kernel_rfl) (ref_Segments_0_0.ok N) (pcsOk_nil)
theorem ref_Segments_0.ev (N n : Nat) (x : Sh.den ref_Segments_0.ins) : evC (ref_Segments_0.C N) ref_Segments_0.code (ref_Segments_0.lam N) ((ref_Segments_0.P N).canon 1000 x) (loopK (ref_Segments_0.P N) (ref_Segments_0.g N n)) = ref_Segments_0.g N (n + 1) x := by kernel_rfl
theorem ref_Segments_0.ok (N : Nat) : ((ref_Segments_0.P N).pc (ref_Segments.C N)).Ok Try.prog (ref_Segments.C N) (.loop ref_Segments_0.code) := loop_ok (F := ref_Segments_0.P N) (n0 := 1000) (N := N) (ref_Segments.cok N) mix (ref_Segments_0.pok N) (ref_Segments_0.g N) (fun x => by rfl) rfl (fun n x y h => (ref_Segments_0.ev N n x).trans h)
def ref_Segments.outs : Sh := (.cons (.own 31 (.pair (.int .i64) (.int .i64))) .nil)
def ref_Segments.run (N : Nat) (c : (Int × (Int × (Int × ((List ((List UInt8) × (List ((List UInt8) × (Int × Bool))))) × (List ((List UInt8) × (Int × ((List Int) × ((List Int) × (Int × Int))))))))))) : Option ((List (Int × Int)) × Unit) :=
  obind (ref_Segments_0.go N N c.1 c.2.1 c.2.2.1 c.2.2.2.1 c.2.2.2.2 ([] : List (Int × Int)) (0 : Int)) fun (l, _) =>
    some (l, ())
def ref_Segments.fn (N : Nat) (x : Sh.den ref_Segments.ins) : Option (Sh.den ref_Segments.outs) := ref_Segments.run N x.1
def ref_Segments.S (N : Nat) : Fs := ⟨ref_Segments.ins, ref_Segments.outs, ref_Segments.fn N⟩
def ref_Segments.lam (N : Nat) : Pcs := pcs [([true, true, false, true, false], (ref_Segments_0.P N).pc (ref_Segments.C N))]
theorem ref_Segments.pok (N : Nat) : (ref_Segments.lam N).Ok Try.prog (ref_Segments.C N) ref_Segments.code := pcsOk_cons (c1 := .loop ref_Segments_0.code) (by kernel_rfl) (ref_Segments_0.ok N) (pcsOk_nil)
theorem ref_Segments.ev (N : Nat) (x : Sh.den ref_Segments.ins) : evC (ref_Segments.C N) ref_Segments.code (ref_Segments.lam N) ⟨envOf 0 (bld (fun k => k) ref_Segments.ins x 0).1, (bld (fun k => k) ref_Segments.ins x 0).2.1, 1000⟩ (endF U ref_Segments.outs Try.f16.results.toList []) = ref_Segments.fn N x := by kernel_rfl
theorem ref_Segments.ok (N : Nat) : (ref_Segments.S N).con.Ok Try.prog 16 := fn_ok (F := ref_Segments.S N) (n0 := 1000) Try.func16 (by kernel_rfl) (show Try.f16.body = some ref_Segments.code by rfl) mix (ref_Segments.cok N) (fun _ => rfl) (fun _ => rfl) (ref_Segments.pok N) (fun x y h => (ref_Segments.ev N x).trans h)
/-- hayloft/hayloftref13.Nodes -/
def ref_Nodes.ins : Sh := (.cons (.val (.pair (.int .i64) (.pair (.int .i64) (.pair (.int .i64) (.pair (.slice (.pair .str (.slice (.pair .str (.pair (.int .i64) .bool))))) (.slice (.pair .str (.pair (.int .i64) (.pair (.slice (.int .i64)) (.pair (.slice (.int .i64)) (.pair (.int .i64) (.int .i64)))))))))))) (.cons (.val (.pair (.int .i64) (.int .i64))) .nil))
def ref_Nodes.C (N : Nat) : Ctx := ⟨U, 55, fun _ => true, gam [], gamY []⟩
theorem ref_Nodes.cok (N : Nat) : (ref_Nodes.C N).Ok Try.prog := ⟨U_ok, GamOk.nil, GamYOk.nil⟩
def ref_Nodes.code : Code := Try.f19.body.getD .skip
def ref_Nodes_0.ins : Sh := (.cons (.rbox 25 (.cons (.val (.int .i64)) (.cons (.val (.int .i64)) (.cons (.val (.int .i64)) (.cons (.val (.slice (.pair .str (.slice (.pair .str (.pair (.int .i64) .bool)))))) (.cons (.val (.slice (.pair .str (.pair (.int .i64) (.pair (.slice (.int .i64)) (.pair (.slice (.int .i64)) (.pair (.int .i64) (.int .i64)))))))) .nil)))))) (.cons (.rbox 31 (.cons (.val (.int .i64)) (.cons (.val (.int .i64)) .nil))) (.cons (.own 3 (.int .i64)) (.cons (.val (.int .i64)) .nil))))
def ref_Nodes_0.ts : List Tmp := [2, 3, 5, 6]
def ref_Nodes_0.asg : List Tmp := [5, 6, 30, 31, 32, 33, 34, 35, 36, 37, 38, 39, 40, 41, 42, 43, 44, 45, 46, 47, 48, 49, 50, 51, 52, 53]
def ref_Nodes_0.C (N : Nat) : Ctx := { ref_Nodes.C N with may := fun t => ref_Nodes_0.asg.any (Nat.beq t) }
def ref_Nodes_0.code : Code := loopBody (sub ref_Nodes.code [true, true, true, false, true, false])
theorem ref_Nodes_0.cok (N : Nat) : (ref_Nodes_0.C N).Ok Try.prog := ⟨(ref_Nodes.cok N).U, (ref_Nodes.cok N).Γ, (ref_Nodes.cok N).Y⟩
def ref_Nodes_0.alts : List Alt := [⟨(.exit 0), [5], (.cons (.own 3 (.int .i64)) .nil)⟩]
def ref_Nodes_0.go (N : Nat) : Nat → Int → Int → Int → (List ((List UInt8) × (List ((List UInt8) × (Int × Bool))))) → (List ((List UInt8) × (Int × ((List Int) × ((List Int) × (Int × Int)))))) → Int → Int → (List Int) → Int → Option (((List Int) × Unit))
  | 0, _, _, _, _, _, _, _, _, _ => none
  | fuel + 1, nodes, segments, k, tables, projs, proj, seg, l, j =>
    bif decide (j ≤ k) then
      bif inB proj projs.length then
        bif !(decide (nodes = (0 : Int))) then
          bif room (l.length + 1) 8 then
            ref_Nodes_0.go N fuel nodes segments k tables projs proj seg (l ++ ([(IntKind.i64.wrap ((IntKind.i64.wrap (seg + (projs.getD proj.toNat (([] : List UInt8), (0 : Int), ([] : List Int), ([] : List Int), (0 : Int), (0 : Int))).2.2.2.2.2)) + j)).tmod nodes] : List Int)) (IntKind.i64.wrap (j + (1 : Int)))
          else none
        else none
      else none
    else some (l, ())
def ref_Nodes_0.g (N n : Nat) (x : Sh.den ref_Nodes_0.ins) : Option (altsDen ref_Nodes_0.alts) := ref_Nodes_0.go N n x.1.1 x.1.2.1 x.1.2.2.1 x.1.2.2.2.1 x.1.2.2.2.2.1 x.2.1.1 x.2.1.2.1 x.2.2.1 x.2.2.2.1
def ref_Nodes_0.P (N : Nat) : Ps := ⟨ref_Nodes_0.ts, ref_Nodes_0.ins, ref_Nodes_0.asg, ref_Nodes_0.alts, ref_Nodes_0.g N N⟩
def ref_Nodes_0.lam (N : Nat) : Pcs := pcs []
theorem ref_Nodes_0.pok (N : Nat) : (ref_Nodes_0.lam N).Ok Try.prog (ref_Nodes_0.C N) ref_Nodes_0.code := pcsOk_nil
theorem ref_Nodes_0.ev (N n : Nat) (x : Sh.den ref_Nodes_0.ins) : evC (ref_Nodes_0.C N) ref_Nodes_0.code (ref_Nodes_0.lam N) ((ref_Nodes_0.P N).canon 1000 x) (loopK (ref_Nodes_0.P N) (ref_Nodes_0.g N n)) = ref_Nodes_0.g N (n + 1) x := by kernel_rfl
theorem ref_Nodes_0.ok (N : Nat) : ((ref_Nodes_0.P N).pc (ref_Nodes.C N)).Ok Try.prog (ref_Nodes.C N) (.loop ref_Nodes_0.code) := loop_ok (F := ref_Nodes_0.P N) (n0 := 1000) (N := N) (ref_Nodes.cok N) mix (ref_Nodes_0.pok N) (ref_Nodes_0.g N) (fun x => by rfl) rfl (fun n x y h => (ref_Nodes_0.ev N n x).trans h)
def ref_Nodes.outs : Sh := (.cons (.own 3 (.int .i64)) .nil)
def ref_Nodes.run (N : Nat) (c : (Int × (Int × (Int × ((List ((List UInt8) × (List ((List UInt8) × (Int × Bool))))) × (List ((List UInt8) × (Int × ((List Int) × ((List Int) × (Int × Int))))))))))) (at_ : (Int × Int)) : Option ((List Int) × Unit) :=
  bif decide (at_.1 < (0 : Int)) then
    some (([] : List Int), ())
  else
    bif decide (at_.1 ≥ (c.2.2.2.2.length : Int)) then
      some (([] : List Int), ())
    else
      bif decide (at_.2 < (0 : Int)) then
        some (([] : List Int), ())
      else
        bif decide (at_.2 ≥ c.2.1) then
          some (([] : List Int), ())
        else
          obind (ref_Nodes_0.go N N c.1 c.2.1 c.2.2.1 c.2.2.2.1 c.2.2.2.2 at_.1 at_.2 ([] : List Int) (0 : Int)) fun (l, _) =>
            some (l, ())
def ref_Nodes.fn (N : Nat) (x : Sh.den ref_Nodes.ins) : Option (Sh.den ref_Nodes.outs) := ref_Nodes.run N x.1 x.2.1
def ref_Nodes.S (N : Nat) : Fs := ⟨ref_Nodes.ins, ref_Nodes.outs, ref_Nodes.fn N⟩
def ref_Nodes.lam (N : Nat) : Pcs := pcs [([true, true, true, false, true, false], (ref_Nodes_0.P N).pc (ref_Nodes.C N))]
theorem ref_Nodes.pok (N : Nat) : (ref_Nodes.lam N).Ok Try.prog (ref_Nodes.C N) ref_Nodes.code := pcsOk_cons (c1 := .loop ref_Nodes_0.code) (by kernel_rfl) (ref_Nodes_0.ok N) (pcsOk_nil)
theorem ref_Nodes.ev (N : Nat) (x : Sh.den ref_Nodes.ins) : evC (ref_Nodes.C N) ref_Nodes.code (ref_Nodes.lam N) ⟨envOf 0 (bld (fun k => k) ref_Nodes.ins x 0).1, (bld (fun k => k) ref_Nodes.ins x 0).2.1, 1000⟩ (endF U ref_Nodes.outs Try.f19.results.toList []) = ref_Nodes.fn N x := by kernel_rfl
end
end Go.Hay.Ytnaaaldeadjohaa
