/- CodecWrites gives true for every input of bulk at most 1048576; conditions: none. -/
import Derived.Test.YtebejjfgibkhbaaRows
import Derived.Test.YtebejjfgibkhbaaLi
import Derived.WalkKit
import Derived.ProofKit
import Derived.OpenShut
import Derived.JoinedCond
set_option linter.unusedVariables false
set_option linter.unusedSimpArgs false
namespace Go.Proofs.Ytebejjfgibkhbaa.codecWrites
open Go.ChangeShapes Go.WideShapes Go.ChangeAt Go.RowKit
open Go.Hay Go.Hay.Ytebejjfgibkhbaa

theorem own : ownKnob Try.prog.godebug = none := by kernel_rfl
theorem laidOut : laidOutB Try.prog = true := by kernel_rfl

theorem all_sum {H : Type} : ∀ l : List (DataW H), Rows.uptoBulkAll l = (l.map Rows.uptoBulk).sum
  | [] => by simp [Rows.uptoBulkAll]
  | d :: r => by simp [Rows.uptoBulkAll, all_sum r]
theorem bulk {H : Type} : Bulk (Rows.uptoBulk (H := H)) where
  pos d := by
    cases d with
    | lit x => cases x <;> simp [Rows.uptoBulk]
    | _ => simp [Rows.uptoBulk]
  str l := by simp [Rows.uptoBulk]
  slice l m := by simp only [Rows.uptoBulk, all_sum]; omega
  agg l := by simp only [Rows.uptoBulk, all_sum]; omega

abbrev Ts : List Ty := [(.slice (.pair (.int .i64) (.pair (.int .u64) (.pair (.int .u64) (.slice .byte)))))]
theorem totT_blk : ∀ l : List Th, totT l + 9 ≤ 9 * blk (.slice (.pair (.int .i64) (.pair (.int .u64) (.pair (.int .u64) (.slice .byte))))) l
  | [] => by simp [totT, blk]
  | t :: l => by
    have h1 := totT_blk l
    have h2 := blk_bytes t.2.2.2
    have h3 : blk (.slice (.pair (.int .i64) (.pair (.int .u64) (.pair (.int .u64) (.slice .byte))))) (t :: l) = 1 + (1 + (1 + blk (.slice .byte) t.2.2.2)) + blk (.slice (.pair (.int .i64) (.pair (.int .u64) (.pair (.int .u64) (.slice .byte))))) l := by simp [blk]; omega
    rw [totT_cons, h3]; omega
theorem law (x : (insOf Ts).den) (h : blkAll Ts x ≤ 1048576) (w : wfAll Ts x) : ∃ N, law_CodecWrites.fn N x = some (true, ()) := by
  obtain ⟨l, u⟩ := x
  have h0 : blk (.slice (.pair (.int .i64) (.pair (.int .u64) (.pair (.int .u64) (.slice .byte))))) l + 0 ≤ 1048576 := h
  have h2 := blk_len (T := .pair (.int .i64) (.pair (.int .u64) (.pair (.int .u64) (.slice .byte)))) (fun _ => Nat.le_add_right 1 _) l
  have h4 := totT_blk l
  have h3 : ∀ t ∈ l, fitT t ∧ t.2.2.2.length < 16777216 := fun t ht => by
    have a : fits .u64 t.2.1 = true := (w.1 t ht).2.1
    have c : 0 ≤ t.2.1 ∧ t.2.1 < 18446744073709551616 := by simpa [fits] using a
    have d := blk_mem (T := .pair (.int .i64) (.pair (.int .u64) (.pair (.int .u64) (.slice .byte)))) ht
    have e : blk (.pair (.int .i64) (.pair (.int .u64) (.pair (.int .u64) (.slice .byte)))) t = 1 + (1 + (1 + blk (.slice .byte) t.2.2.2)) := rfl
    have f := blk_bytes t.2.2.2
    exact ⟨⟨c.1, c.2, by omega⟩, by omega⟩
  exact ⟨16777216 + 9, codec_writes 16777216 l (by omega) (by omega) h3 (by omega) (by omega)⟩

set_option maxRecDepth 100000 in
theorem lifted (os : Os) (started : os.Started) (H : Type) (enc : TypeId × Value → H) (F : Stop.Interp) :
    ReturnsInHanded {} Try.checked os 4 .any ((Rows.OpenSpec.upto Rows.codecWritesSpec).pre6 enc Try.prog Try.f4 Rows.codecWritesUptoRow.domain false) (((Rows.OpenSpec.upto Rows.codecWritesSpec).at F).post enc Try.prog Try.f4 false true false false) := by
  refine returnsInHanded_of_cond (C := Try.checked) (s := Rows.OpenSpec.upto Rows.codecWritesSpec) (k := Rows.uptoSmall) rfl own started (by kernel_rfl) Try.func4
    (OpenSpec.witness (enc := enc) (C := Try.checked) (s := Rows.OpenSpec.upto Rows.codecWritesSpec) (k := Rows.uptoSmall) rfl false ⟨#[], #[.slice none 0 0], []⟩ 12 (by kernel_rfl) (by kernel_rfl) (by kernel_rfl)
      (x := ([.nil], [], [])) (by kernel_rfl) rfl (by kernel_rfl)) ?_
  intro W base args ds gs before hval hW _ hk _
  have hsum : (ds.map Rows.uptoBulk).sum ≤ 1048576 := by
    have h1 : Rows.uptoBulkAll (ds ++ gs) ≤ 1048576 := of_decide_eq_true hk
    rw [all_sum, List.map_append, List.sum_append] at h1
    omega
  exact law_ok (P := Try.prog) (U := U) (s := Rows.codecWritesSpec) (Ts := Ts) U_ok laidOut (by kernel_rfl) (by kernel_rfl) (tb := 4) (by kernel_rfl) Try.underlying4 rfl
    (fun ds h => match ds, h with | [a], _ => rfl) bulk (g := law_CodecWrites.fn) (fun N => law_CodecWrites.ok N) law hval hW hsum

theorem over : Rows.codecWritesUptoRow.holds Try.pinned (Rows.OpenSpec.upto Rows.codecWritesSpec) :=
  OpenClaim.holds_of_cond 4 Try.f4 rfl rfl rfl rfl rfl rfl rfl ⟨rfl, rfl, rfl, rfl, rfl⟩ rfl rfl rfl rfl rfl (by kernel_rfl) Try.func4 (by kernel_rfl)
    (of_decide_eq_true (by kernel_rfl)) (by unfold Func.isWrapper; first | (rw [if_pos (by decide +kernel)]; kernel_rfl) | (rw [if_neg (by decide +kernel)]; exact ⟨rfl, rfl⟩))
    (fun os started H enc _ F => lifted os started H enc F)

theorem proved : Rows.CodecWritesUptoSaid :=
  over
#print axioms proved
end Go.Proofs.Ytebejjfgibkhbaa.codecWrites
