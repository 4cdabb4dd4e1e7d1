/- CatalogSafe gives true for every input of bulk at most 1048576; conditions: none. -/
import Derived.Test.YtnaaaldeadjohaaRows
import Derived.Test.YtnaaaldeadjohaaLg
import Derived.WalkKit
import Derived.ProofKit
import Derived.OpenShut
import Derived.JoinedCond
set_option linter.unusedVariables false
set_option linter.unusedSimpArgs false
namespace Go.Proofs.Ytnaaaldeadjohaa.catalogSafe
open Go.ChangeShapes Go.WideShapes Go.ChangeAt Go.RowKit
open Go.Hay Go.Hay.Ytnaaaldeadjohaa

theorem own : ownKnob Try.prog.godebug = none := by kernel_rfl
theorem laidOut : laidOutB Try.prog = true := by kernel_rfl

theorem all_sum {H : Type} : ∀ l : List (DataW H), Rows.uptoBulkAll l = (l.map Rows.uptoBulk).sum
  | [] => by simp [Rows.uptoBulkAll]
  | d :: r => by simp [Rows.uptoBulkAll, all_sum r]
theorem bulk {H : Type} : Bulk (Rows.uptoBulk (H := H)) where
  pos d := by
    cases d with
    | lit x => cases x <;> simp [Rows.uptoBulk]
    | _ => simp [Rows.uptoBulk]
  str l := by simp [Rows.uptoBulk]
  slice l m := by simp only [Rows.uptoBulk, all_sum]; omega
  agg l := by simp only [Rows.uptoBulk, all_sum]; omega

abbrev Ts : List Ty := [(.pair (.int .i64) (.pair (.int .i64) (.pair (.int .i64) (.pair (.slice (.pair .str (.slice (.pair .str (.pair (.int .i64) .bool))))) (.slice (.pair .str (.pair (.int .i64) (.pair (.slice (.int .i64)) (.pair (.slice (.int .i64)) (.pair (.int .i64) (.int .i64))))))))))), (.slice (.int .i64))]
theorem few {K : Nat} (c : Cat) (h : blk (.pair (.int .i64) (.pair (.int .i64) (.pair (.int .i64) (.pair (.slice (.pair .str (.slice (.pair .str (.pair (.int .i64) .bool))))) (.slice (.pair .str (.pair (.int .i64) (.pair (.slice (.int .i64)) (.pair (.slice (.int .i64)) (.pair (.int .i64) (.int .i64))))))))))) c ≤ K) : small K c := by
  have h0 : 1 + (1 + (1 + (blk (.slice (.pair .str (.slice (.pair .str (.pair (.int .i64) .bool))))) c.2.2.2.1 + blk (.slice (.pair .str (.pair (.int .i64) (.pair (.slice (.int .i64)) (.pair (.slice (.int .i64)) (.pair (.int .i64) (.int .i64))))))) c.2.2.2.2))) ≤ K := h
  have hs : ∀ s : List UInt8, 1 ≤ blk .str s := fun s => by simp [blk]
  have h1 := blk_len (T := (.pair .str (.slice (.pair .str (.pair (.int .i64) .bool))))) (fun t => Nat.le_trans (hs t.1) (Nat.le_add_right _ _)) c.2.2.2.1
  have h2 := blk_len (T := (.pair .str (.pair (.int .i64) (.pair (.slice (.int .i64)) (.pair (.slice (.int .i64)) (.pair (.int .i64) (.int .i64))))))) (fun t => Nat.le_trans (hs t.1) (Nat.le_add_right _ _)) c.2.2.2.2
  refine ⟨by omega, by omega, fun t ht => ?_, fun p hp => ?_⟩
  · have a := blk_mem (T := (.pair .str (.slice (.pair .str (.pair (.int .i64) .bool))))) ht
    have e : blk (.pair .str (.slice (.pair .str (.pair (.int .i64) .bool)))) t = blk .str t.1 + blk (.slice (.pair .str (.pair (.int .i64) .bool))) t.2 := rfl
    have b := blk_len (T := (.pair .str (.pair (.int .i64) .bool))) (fun u => Nat.le_trans (hs u.1) (Nat.le_add_right _ _)) t.2
    omega
  · have a := blk_mem (T := (.pair .str (.pair (.int .i64) (.pair (.slice (.int .i64)) (.pair (.slice (.int .i64)) (.pair (.int .i64) (.int .i64))))))) hp
    have e : blk (.pair .str (.pair (.int .i64) (.pair (.slice (.int .i64)) (.pair (.slice (.int .i64)) (.pair (.int .i64) (.int .i64)))))) p = blk .str p.1 + (1 + (blk (.slice (.int .i64)) p.2.2.1 + (blk (.slice (.int .i64)) p.2.2.2.1 + (1 + 1)))) := rfl
    have b := blk_len (T := .int .i64) (fun _ => Nat.le_refl 1) p.2.2.1
    have d := blk_len (T := .int .i64) (fun _ => Nat.le_refl 1) p.2.2.2.1
    exact ⟨by omega, by omega⟩
theorem law (x : (insOf Ts).den) (h : blkAll Ts x ≤ 1048576) (w : wfAll Ts x) : ∃ N, law_CatalogSafe.fn N x = some (true, ()) := by
  obtain ⟨c, gone, u⟩ := x
  have h0 : blk (.pair (.int .i64) (.pair (.int .i64) (.pair (.int .i64) (.pair (.slice (.pair .str (.slice (.pair .str (.pair (.int .i64) .bool))))) (.slice (.pair .str (.pair (.int .i64) (.pair (.slice (.int .i64)) (.pair (.slice (.int .i64)) (.pair (.int .i64) (.int .i64))))))))))) c + (blk (.slice (.int .i64)) gone + 0) ≤ 1048576 := h
  have h1 := blk_len (T := .int .i64) (fun _ => Nat.le_refl 1) gone
  obtain ⟨a1, a2, a3, a4⟩ := few (K := 1048576) c (by omega)
  exact ⟨2000000000 + 20, catalog_safe 2000000000 (by omega) c gone (Nat.le_trans (Nat.le_of_succ_le h1) (by omega)) ⟨by omega, by omega, fun t ht => Nat.le_trans (a3 t ht) (by omega), fun p hp => ⟨Nat.le_trans (a4 p hp).1 (by omega), Nat.le_trans (a4 p hp).2 (by omega)⟩⟩⟩

set_option maxRecDepth 100000 in
theorem lifted (os : Os) (started : os.Started) (H : Type) (enc : TypeId × Value → H) (F : Stop.Interp) :
    ReturnsInHanded {} Try.checked os 5 .any ((Rows.OpenSpec.upto Rows.catalogSafeSpec).pre6 enc Try.prog Try.f5 Rows.catalogSafeUptoRow.domain false) (((Rows.OpenSpec.upto Rows.catalogSafeSpec).at F).post enc Try.prog Try.f5 false true false false) := by
  refine returnsInHanded_of_cond (C := Try.checked) (s := Rows.OpenSpec.upto Rows.catalogSafeSpec) (k := Rows.uptoSmall) rfl own started (by kernel_rfl) Try.func5
    (OpenSpec.witness (enc := enc) (C := Try.checked) (s := Rows.OpenSpec.upto Rows.catalogSafeSpec) (k := Rows.uptoSmall) rfl false ⟨#[], #[.agg #[.int .i64 0, .int .i64 0, .int .i64 0, .slice none 0 0, .slice none 0 0], .slice none 0 0], []⟩ 12 (by kernel_rfl) (by kernel_rfl) (by kernel_rfl)
      (x := ([.agg [.lit (.int .i64 0), .lit (.int .i64 0), .lit (.int .i64 0), .nil, .nil], .nil], [], [])) (by kernel_rfl) rfl (by kernel_rfl)) ?_
  intro W base args ds gs before hval hW _ hk _
  have hsum : (ds.map Rows.uptoBulk).sum ≤ 1048576 := by
    have h1 : Rows.uptoBulkAll (ds ++ gs) ≤ 1048576 := of_decide_eq_true hk
    rw [all_sum, List.map_append, List.sum_append] at h1
    omega
  exact law_ok (P := Try.prog) (U := U) (s := Rows.catalogSafeSpec) (Ts := Ts) U_ok laidOut (by kernel_rfl) (by kernel_rfl) (tb := 4) (by kernel_rfl) Try.underlying4 rfl
    (fun ds h => match ds, h with | [a, b], _ => rfl) bulk (g := law_CatalogSafe.fn) (fun N => law_CatalogSafe.ok N) law hval hW hsum

theorem over : Rows.catalogSafeUptoRow.holds Try.pinned (Rows.OpenSpec.upto Rows.catalogSafeSpec) :=
  OpenClaim.holds_of_cond 5 Try.f5 rfl rfl rfl rfl rfl rfl rfl ⟨rfl, rfl, rfl, rfl, rfl⟩ rfl rfl rfl rfl rfl (by kernel_rfl) Try.func5 (by kernel_rfl)
    (of_decide_eq_true (by kernel_rfl)) (by unfold Func.isWrapper; first | (rw [if_pos (by decide +kernel)]; kernel_rfl) | (rw [if_neg (by decide +kernel)]; exact ⟨rfl, rfl⟩))
    (fun os started H enc _ F => lifted os started H enc F)

theorem proved : Rows.CatalogSafeUptoSaid :=
  over
#print axioms proved
end Go.Proofs.Ytnaaaldeadjohaa.catalogSafe
