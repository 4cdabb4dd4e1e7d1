/- CodecUnframes gives true for every input of bulk at most 1048576; conditions: none. -/
import Derived.Test.YtebejjfgibkhbaaRows
import Derived.Test.YtebejjfgibkhbaaLi
import Derived.WalkKit
import Derived.ProofKit
import Derived.OpenShut
import Derived.JoinedCond
set_option linter.unusedVariables false
set_option linter.unusedSimpArgs false
namespace Go.Proofs.Ytebejjfgibkhbaa.codecUnframes
open Go.ChangeShapes Go.WideShapes Go.ChangeAt Go.RowKit
open Go.Hay Go.Hay.Ytebejjfgibkhbaa

theorem own : ownKnob Try.prog.godebug = none := by kernel_rfl
theorem laidOut : laidOutB Try.prog = true := by kernel_rfl

theorem all_sum {H : Type} : ∀ l : List (DataW H), Rows.uptoBulkAll l = (l.map Rows.uptoBulk).sum
  | [] => by simp [Rows.uptoBulkAll]
  | d :: r => by simp [Rows.uptoBulkAll, all_sum r]
theorem bulk {H : Type} : Bulk (Rows.uptoBulk (H := H)) where
  pos d := by
    cases d with
    | lit x => cases x <;> simp [Rows.uptoBulk]
    | _ => simp [Rows.uptoBulk]
  str l := by simp [Rows.uptoBulk]
  slice l m := by simp only [Rows.uptoBulk, all_sum]; omega
  agg l := by simp only [Rows.uptoBulk, all_sum]; omega

abbrev Ts : List Ty := [(.slice .byte), (.slice .byte), (.int .i64)]
theorem law (x : (insOf Ts).den) (h : blkAll Ts x ≤ 1048576) (w : wfAll Ts x) : ∃ N, law_CodecUnframes.fn N x = some (true, ()) := by
  obtain ⟨b, more, at_, u⟩ := x
  have h0 : blk (.slice .byte) b + (blk (.slice .byte) more + (1 + 0)) ≤ 1048576 := h
  have h1 := blk_bytes b
  have h2 := blk_bytes more
  have h3 : fits .i64 at_ = true := w.2.2.1
  have h4 : -9223372036854775808 ≤ at_ ∧ at_ < 9223372036854775808 := by simpa [fits] using h3
  exact ⟨16777216 + 20, codec_unframes 16777216 b more at_ (by omega) (by omega) (by omega) (by omega) h4.2⟩

set_option maxRecDepth 100000 in
theorem lifted (os : Os) (started : os.Started) (H : Type) (enc : TypeId × Value → H) (F : Stop.Interp) :
    ReturnsInHanded {} Try.checked os 12 .any ((Rows.OpenSpec.upto Rows.codecUnframesSpec).pre6 enc Try.prog Try.f12 Rows.codecUnframesUptoRow.domain false) (((Rows.OpenSpec.upto Rows.codecUnframesSpec).at F).post enc Try.prog Try.f12 false true false false) := by
  refine returnsInHanded_of_cond (C := Try.checked) (s := Rows.OpenSpec.upto Rows.codecUnframesSpec) (k := Rows.uptoSmall) rfl own started (by kernel_rfl) Try.func12
    (OpenSpec.witness (enc := enc) (C := Try.checked) (s := Rows.OpenSpec.upto Rows.codecUnframesSpec) (k := Rows.uptoSmall) rfl false ⟨#[], #[.slice none 0 0, .slice none 0 0, .int .i64 0], []⟩ 12 (by kernel_rfl) (by kernel_rfl) (by kernel_rfl)
      (x := ([.nil, .nil, .lit (.int .i64 0)], [], [])) (by kernel_rfl) rfl (by kernel_rfl)) ?_
  intro W base args ds gs before hval hW _ hk _
  have hsum : (ds.map Rows.uptoBulk).sum ≤ 1048576 := by
    have h1 : Rows.uptoBulkAll (ds ++ gs) ≤ 1048576 := of_decide_eq_true hk
    rw [all_sum, List.map_append, List.sum_append] at h1
    omega
  exact law_ok (P := Try.prog) (U := U) (s := Rows.codecUnframesSpec) (Ts := Ts) U_ok laidOut (by kernel_rfl) (by kernel_rfl) (tb := 4) (by kernel_rfl) Try.underlying4 rfl
    (fun ds h => match ds, h with | [a, b, c], _ => rfl) bulk (g := law_CodecUnframes.fn) (fun N => law_CodecUnframes.ok N) law hval hW hsum

theorem over : Rows.codecUnframesUptoRow.holds Try.pinned (Rows.OpenSpec.upto Rows.codecUnframesSpec) :=
  OpenClaim.holds_of_cond 12 Try.f12 rfl rfl rfl rfl rfl rfl rfl ⟨rfl, rfl, rfl, rfl, rfl⟩ rfl rfl rfl rfl rfl (by kernel_rfl) Try.func12 (by kernel_rfl)
    (of_decide_eq_true (by kernel_rfl)) (by unfold Func.isWrapper; first | (rw [if_pos (by decide +kernel)]; kernel_rfl) | (rw [if_neg (by decide +kernel)]; exact ⟨rfl, rfl⟩))
    (fun os started H enc _ F => lifted os started H enc F)

theorem proved : Rows.CodecUnframesUptoSaid :=
  over
#print axioms proved
end Go.Proofs.Ytebejjfgibkhbaa.codecUnframes
