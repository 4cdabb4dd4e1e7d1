/- RowsApart gives true for every input of bulk at most 1048576; conditions: none. -/
import Derived.Test.YtkdcillgnlfabaaRows
import Derived.Test.YtkdcillgnlfabaaLi
import Derived.WalkKit
import Derived.ProofKit
import Derived.OpenShut
import Derived.JoinedCond
set_option linter.unusedVariables false
set_option linter.unusedSimpArgs false
namespace Go.Proofs.Ytkdcillgnlfabaa.rowsApart
open Go.ChangeShapes Go.WideShapes Go.ChangeAt Go.RowKit
open Go.Hay Go.Hay.Ytkdcillgnlfabaa

theorem own : ownKnob Try.prog.godebug = none := by kernel_rfl
theorem laidOut : laidOutB Try.prog = true := by kernel_rfl

theorem all_sum {H : Type} : ∀ l : List (DataW H), Rows.uptoBulkAll l = (l.map Rows.uptoBulk).sum
  | [] => by simp [Rows.uptoBulkAll]
  | d :: r => by simp [Rows.uptoBulkAll, all_sum r]
theorem bulk {H : Type} : Bulk (Rows.uptoBulk (H := H)) where
  pos d := by
    cases d with
    | lit x => cases x <;> simp [Rows.uptoBulk]
    | _ => simp [Rows.uptoBulk]
  str l := by simp [Rows.uptoBulk]
  slice l m := by simp only [Rows.uptoBulk, all_sum]; omega
  agg l := by simp only [Rows.uptoBulk, all_sum]; omega

abbrev Ts : List Ty := [(.slice (.pair (.int .i64) (.pair .bool (.pair (.int .i64) .str)))), (.slice (.pair (.int .i64) (.pair .bool (.pair (.int .i64) .str)))), (.int .i64)]
theorem few {K : Nat} {s : List V} (h : blk (.slice (.pair (.int .i64) (.pair .bool (.pair (.int .i64) .str)))) s ≤ K) : s.length ≤ K := by
  have h1 := blk_len (T := .pair (.int .i64) (.pair .bool (.pair (.int .i64) .str))) (fun _ => Nat.le_add_right 1 _) s
  omega
theorem fit {s : List V} (h : wfT (.slice (.pair (.int .i64) (.pair .bool (.pair (.int .i64) .str)))) s) : fitsL s := fun v hv => by
  have h1 : fits .i64 v.2.2.1 = true := (h v hv).2.2.1
  exact fits_i64 h1
theorem law (x : (insOf Ts).den) (h : blkAll Ts x ≤ 1048576) (w : wfAll Ts x) : ∃ N, law_RowsApart.fn N x = some (true, ()) := by
  obtain ⟨a, b, many, u⟩ := x
  have h0 : blk (.slice (.pair (.int .i64) (.pair .bool (.pair (.int .i64) .str)))) a + (blk (.slice (.pair (.int .i64) (.pair .bool (.pair (.int .i64) .str)))) b + (1 + 0)) ≤ 1048576 := h
  have h1 := few (K := 1048576) (s := a) (by omega)
  have h2 := few (K := 1048576) (s := b) (by omega)
  have h3 : fits .i64 many = true := w.2.2.1
  have h4 : -9223372036854775808 ≤ many ∧ many < 9223372036854775808 := by simpa [fits] using h3
  exact ⟨1048577 + 9, rows_apart 1048577 (by omega) a b many (fit w.1) (fit w.2.1) (by omega) (by omega) (by omega) (by omega) h4.2⟩

set_option maxRecDepth 100000 in
theorem lifted (os : Os) (started : os.Started) (H : Type) (enc : TypeId × Value → H) (F : Stop.Interp) :
    ReturnsInHanded {} Try.checked os 7 .any ((Rows.OpenSpec.upto Rows.rowsApartSpec).pre6 enc Try.prog Try.f7 Rows.rowsApartUptoRow.domain false) (((Rows.OpenSpec.upto Rows.rowsApartSpec).at F).post enc Try.prog Try.f7 false true false false) := by
  refine returnsInHanded_of_cond (C := Try.checked) (s := Rows.OpenSpec.upto Rows.rowsApartSpec) (k := Rows.uptoSmall) rfl own started (by kernel_rfl) Try.func7
    (OpenSpec.witness (enc := enc) (C := Try.checked) (s := Rows.OpenSpec.upto Rows.rowsApartSpec) (k := Rows.uptoSmall) rfl false ⟨#[], #[.slice none 0 0, .slice none 0 0, .int .i64 0], []⟩ 12 (by kernel_rfl) (by kernel_rfl) (by kernel_rfl)
      (x := ([.nil, .nil, .lit (.int .i64 0)], [], [])) (by kernel_rfl) rfl (by kernel_rfl)) ?_
  intro W base args ds gs before hval hW _ hk _
  have hsum : (ds.map Rows.uptoBulk).sum ≤ 1048576 := by
    have h1 : Rows.uptoBulkAll (ds ++ gs) ≤ 1048576 := of_decide_eq_true hk
    rw [all_sum, List.map_append, List.sum_append] at h1
    omega
  exact law_ok (P := Try.prog) (U := U) (s := Rows.rowsApartSpec) (Ts := Ts) U_ok laidOut (by kernel_rfl) (by kernel_rfl) (tb := 4) (by kernel_rfl) Try.underlying4 rfl
    (fun ds h => match ds, h with | [a, b, c], _ => rfl) bulk (g := law_RowsApart.fn) (fun N => law_RowsApart.ok N) law hval hW hsum

theorem over : Rows.rowsApartUptoRow.holds Try.pinned (Rows.OpenSpec.upto Rows.rowsApartSpec) :=
  OpenClaim.holds_of_cond 7 Try.f7 rfl rfl rfl rfl rfl rfl rfl ⟨rfl, rfl, rfl, rfl, rfl⟩ rfl rfl rfl rfl rfl (by kernel_rfl) Try.func7 (by kernel_rfl)
    (of_decide_eq_true (by kernel_rfl)) (by unfold Func.isWrapper; first | (rw [if_pos (by decide +kernel)]; kernel_rfl) | (rw [if_neg (by decide +kernel)]; exact ⟨rfl, rfl⟩))
    (fun os started H enc _ F => lifted os started H enc F)

theorem proved : Rows.RowsApartUptoSaid :=
  over
#print axioms proved
end Go.Proofs.Ytkdcillgnlfabaa.rowsApart
