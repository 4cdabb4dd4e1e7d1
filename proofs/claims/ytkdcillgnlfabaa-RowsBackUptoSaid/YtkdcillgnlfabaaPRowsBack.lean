/- RowsBack gives true for every input of bulk at most 1048576; conditions: none. -/
import Derived.Test.YtkdcillgnlfabaaRows
import Derived.Test.YtkdcillgnlfabaaLh
import Derived.WalkKit
import Derived.ProofKit
import Derived.OpenShut
import Derived.JoinedCond
set_option linter.unusedVariables false
set_option linter.unusedSimpArgs false
namespace Go.Proofs.Ytkdcillgnlfabaa.rowsBack
open Go.ChangeShapes Go.WideShapes Go.ChangeAt Go.RowKit
open Go.Hay Go.Hay.Ytkdcillgnlfabaa

theorem own : ownKnob Try.prog.godebug = none := by kernel_rfl
theorem laidOut : laidOutB Try.prog = true := by kernel_rfl

theorem all_sum {H : Type} : ∀ l : List (DataW H), Rows.uptoBulkAll l = (l.map Rows.uptoBulk).sum
  | [] => by simp [Rows.uptoBulkAll]
  | d :: r => by simp [Rows.uptoBulkAll, all_sum r]
theorem bulk {H : Type} : Bulk (Rows.uptoBulk (H := H)) where
  pos d := by
    cases d with
    | lit x => cases x <;> simp [Rows.uptoBulk]
    | _ => simp [Rows.uptoBulk]
  str l := by simp [Rows.uptoBulk]
  slice l m := by simp only [Rows.uptoBulk, all_sum]; omega
  agg l := by simp only [Rows.uptoBulk, all_sum]; omega

abbrev Ts : List Ty := [(.slice (.pair (.int .i64) (.pair .bool (.pair (.int .i64) .str)))), (.slice .byte)]
theorem few {K : Nat} {s : List V} (h : blk (.slice (.pair (.int .i64) (.pair .bool (.pair (.int .i64) .str)))) s ≤ K) : s.length ≤ K := by
  have h1 := blk_len (T := .pair (.int .i64) (.pair .bool (.pair (.int .i64) .str))) (fun _ => Nat.le_add_right 1 _) s
  omega
theorem fit {s : List V} (h : wfT (.slice (.pair (.int .i64) (.pair .bool (.pair (.int .i64) .str)))) s) : fitsL s := fun v hv => by
  have h1 : fits .i64 v.2.2.1 = true := (h v hv).2.2.1
  exact fits_i64 h1
theorem law (x : (insOf Ts).den) (h : blkAll Ts x ≤ 1048576) (w : wfAll Ts x) : ∃ N, law_RowsBack.fn N x = some (true, ()) := by
  obtain ⟨row, b, u⟩ := x
  have h0 : blk (.slice (.pair (.int .i64) (.pair .bool (.pair (.int .i64) .str)))) row + (blk (.slice .byte) b + 0) ≤ 1048576 := h
  have h1 := few (K := 1048576) (s := row) (by omega)
  have h2 := blk_bytes b
  exact ⟨1048577 + 9, rows_back 1048577 (by omega) row b (fit w.1) (by omega) (by omega) (by omega) (by omega)⟩

set_option maxRecDepth 100000 in
theorem lifted (os : Os) (started : os.Started) (H : Type) (enc : TypeId × Value → H) (F : Stop.Interp) :
    ReturnsInHanded {} Try.checked os 9 .any ((Rows.OpenSpec.upto Rows.rowsBackSpec).pre6 enc Try.prog Try.f9 Rows.rowsBackUptoRow.domain false) (((Rows.OpenSpec.upto Rows.rowsBackSpec).at F).post enc Try.prog Try.f9 false true false false) := by
  refine returnsInHanded_of_cond (C := Try.checked) (s := Rows.OpenSpec.upto Rows.rowsBackSpec) (k := Rows.uptoSmall) rfl own started (by kernel_rfl) Try.func9
    (OpenSpec.witness (enc := enc) (C := Try.checked) (s := Rows.OpenSpec.upto Rows.rowsBackSpec) (k := Rows.uptoSmall) rfl false ⟨#[], #[.slice none 0 0, .slice none 0 0], []⟩ 12 (by kernel_rfl) (by kernel_rfl) (by kernel_rfl)
      (x := ([.nil, .nil], [], [])) (by kernel_rfl) rfl (by kernel_rfl)) ?_
  intro W base args ds gs before hval hW _ hk _
  have hsum : (ds.map Rows.uptoBulk).sum ≤ 1048576 := by
    have h1 : Rows.uptoBulkAll (ds ++ gs) ≤ 1048576 := of_decide_eq_true hk
    rw [all_sum, List.map_append, List.sum_append] at h1
    omega
  exact law_ok (P := Try.prog) (U := U) (s := Rows.rowsBackSpec) (Ts := Ts) U_ok laidOut (by kernel_rfl) (by kernel_rfl) (tb := 4) (by kernel_rfl) Try.underlying4 rfl
    (fun ds h => match ds, h with | [a, b], _ => rfl) bulk (g := law_RowsBack.fn) (fun N => law_RowsBack.ok N) law hval hW hsum

theorem over : Rows.rowsBackUptoRow.holds Try.pinned (Rows.OpenSpec.upto Rows.rowsBackSpec) :=
  OpenClaim.holds_of_cond 9 Try.f9 rfl rfl rfl rfl rfl rfl rfl ⟨rfl, rfl, rfl, rfl, rfl⟩ rfl rfl rfl rfl rfl (by kernel_rfl) Try.func9 (by kernel_rfl)
    (of_decide_eq_true (by kernel_rfl)) (by unfold Func.isWrapper; first | (rw [if_pos (by decide +kernel)]; kernel_rfl) | (rw [if_neg (by decide +kernel)]; exact ⟨rfl, rfl⟩))
    (fun os started H enc _ F => lifted os started H enc F)

theorem proved : Rows.RowsBackUptoSaid :=
  over
#print axioms proved
end Go.Proofs.Ytkdcillgnlfabaa.rowsBack
