/- CodecStream gives true for every input of bulk at most 1048576; conditions: none. -/
import Derived.Test.YtebejjfgibkhbaaRows
import Derived.Test.YtebejjfgibkhbaaLh
import Derived.WalkKit
import Derived.ProofKit
import Derived.OpenShut
import Derived.JoinedCond
set_option linter.unusedVariables false
set_option linter.unusedSimpArgs false
namespace Go.Proofs.Ytebejjfgibkhbaa.codecStream
open Go.ChangeShapes Go.WideShapes Go.ChangeAt Go.RowKit
open Go.Hay Go.Hay.Ytebejjfgibkhbaa

theorem own : ownKnob Try.prog.godebug = none := by kernel_rfl
theorem laidOut : laidOutB Try.prog = true := by kernel_rfl

theorem all_sum {H : Type} : ∀ l : List (DataW H), Rows.uptoBulkAll l = (l.map Rows.uptoBulk).sum
  | [] => by simp [Rows.uptoBulkAll]
  | d :: r => by simp [Rows.uptoBulkAll, all_sum r]
theorem bulk {H : Type} : Bulk (Rows.uptoBulk (H := H)) where
  pos d := by
    cases d with
    | lit x => cases x <;> simp [Rows.uptoBulk]
    | _ => simp [Rows.uptoBulk]
  str l := by simp [Rows.uptoBulk]
  slice l m := by simp only [Rows.uptoBulk, all_sum]; omega
  agg l := by simp only [Rows.uptoBulk, all_sum]; omega

abbrev Ts : List Ty := [(.slice (.slice .byte)), (.int .i64)]
theorem F_blk : ∀ l : List (List UInt8), (F l).length + 12 ≤ 12 * blk (.slice (.slice .byte)) l
  | [] => by simp [F, blk]
  | t :: l => by
    have h1 := F_blk l
    have h2 := blk_bytes t
    have h3 : blk (.slice (.slice .byte)) (t :: l) = blk (.slice .byte) t + blk (.slice (.slice .byte)) l := by simp [blk]; omega
    rw [F_cons, List.length_append, frame_len, h3]; omega
theorem law (x : (insOf Ts).den) (h : blkAll Ts x ≤ 1048576) (w : wfAll Ts x) : ∃ N, law_CodecStream.fn N x = some (true, ()) := by
  obtain ⟨l, cut, u⟩ := x
  have h0 : blk (.slice (.slice .byte)) l + (1 + 0) ≤ 1048576 := h
  have h1 := F_blk l
  have h2 := blk_len (T := .slice .byte) (fun t => blk_pos_slice .byte t) l
  have h3 : ∀ t ∈ l, t.length ≤ 16777216 ∧ t.length < 16777216 := fun t ht => by
    have d := blk_mem (T := .slice .byte) ht
    have f := blk_bytes t
    omega
  exact ⟨16777216 + 20, codec_stream 16777216 (by omega) cut l (by omega) (by omega) (by omega) (by omega) h3⟩

set_option maxRecDepth 100000 in
theorem lifted (os : Os) (started : os.Started) (H : Type) (enc : TypeId × Value → H) (F : Stop.Interp) :
    ReturnsInHanded {} Try.checked os 13 .any ((Rows.OpenSpec.upto Rows.codecStreamSpec).pre6 enc Try.prog Try.f13 Rows.codecStreamUptoRow.domain false) (((Rows.OpenSpec.upto Rows.codecStreamSpec).at F).post enc Try.prog Try.f13 false true false false) := by
  refine returnsInHanded_of_cond (C := Try.checked) (s := Rows.OpenSpec.upto Rows.codecStreamSpec) (k := Rows.uptoSmall) rfl own started (by kernel_rfl) Try.func13
    (OpenSpec.witness (enc := enc) (C := Try.checked) (s := Rows.OpenSpec.upto Rows.codecStreamSpec) (k := Rows.uptoSmall) rfl false ⟨#[], #[.slice none 0 0, .int .i64 0], []⟩ 12 (by kernel_rfl) (by kernel_rfl) (by kernel_rfl)
      (x := ([.nil, .lit (.int .i64 0)], [], [])) (by kernel_rfl) rfl (by kernel_rfl)) ?_
  intro W base args ds gs before hval hW _ hk _
  have hsum : (ds.map Rows.uptoBulk).sum ≤ 1048576 := by
    have h1 : Rows.uptoBulkAll (ds ++ gs) ≤ 1048576 := of_decide_eq_true hk
    rw [all_sum, List.map_append, List.sum_append] at h1
    omega
  exact law_ok (P := Try.prog) (U := U) (s := Rows.codecStreamSpec) (Ts := Ts) U_ok laidOut (by kernel_rfl) (by kernel_rfl) (tb := 4) (by kernel_rfl) Try.underlying4 rfl
    (fun ds h => match ds, h with | [a, b], _ => rfl) bulk (g := law_CodecStream.fn) (fun N => law_CodecStream.ok N) law hval hW hsum

theorem over : Rows.codecStreamUptoRow.holds Try.pinned (Rows.OpenSpec.upto Rows.codecStreamSpec) :=
  OpenClaim.holds_of_cond 13 Try.f13 rfl rfl rfl rfl rfl rfl rfl ⟨rfl, rfl, rfl, rfl, rfl⟩ rfl rfl rfl rfl rfl (by kernel_rfl) Try.func13 (by kernel_rfl)
    (of_decide_eq_true (by kernel_rfl)) (by unfold Func.isWrapper; first | (rw [if_pos (by decide +kernel)]; kernel_rfl) | (rw [if_neg (by decide +kernel)]; exact ⟨rfl, rfl⟩))
    (fun os started H enc _ F => lifted os started H enc F)

theorem proved : Rows.CodecStreamUptoSaid :=
  over
#print axioms proved
end Go.Proofs.Ytebejjfgibkhbaa.codecStream
