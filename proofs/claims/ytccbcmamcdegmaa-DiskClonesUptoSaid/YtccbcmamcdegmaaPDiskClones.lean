/- DiskClones gives true for every input of bulk at most 1048576; conditions: none. -/
import Derived.Test.YtccbcmamcdegmaaRows
import Derived.Test.YtccbcmamcdegmaaLg
import Derived.WalkKit
import Derived.ProofKit
import Derived.OpenShut
import Derived.JoinedCond
set_option linter.unusedVariables false
set_option linter.unusedSimpArgs false
namespace Go.Proofs.Ytccbcmamcdegmaa.diskClones
open Go.ChangeShapes Go.WideShapes Go.ChangeAt Go.RowKit
open Go.Hay Go.Hay.Ytccbcmamcdegmaa

theorem own : ownKnob Try.prog.godebug = none := by kernel_rfl
theorem laidOut : laidOutB Try.prog = true := by kernel_rfl

theorem all_sum {H : Type} : ∀ l : List (DataW H), Rows.uptoBulkAll l = (l.map Rows.uptoBulk).sum
  | [] => by simp [Rows.uptoBulkAll]
  | d :: r => by simp [Rows.uptoBulkAll, all_sum r]
theorem bulk {H : Type} : Bulk (Rows.uptoBulk (H := H)) where
  pos d := by
    cases d with
    | lit x => cases x <;> simp [Rows.uptoBulk]
    | _ => simp [Rows.uptoBulk]
  str l := by simp [Rows.uptoBulk]
  slice l m := by simp only [Rows.uptoBulk, all_sum]; omega
  agg l := by simp only [Rows.uptoBulk, all_sum]; omega

abbrev Ts : List Ty := [(.int .i64), (.pair (.slice (.pair (.int .i64) (.pair .str (.pair .str (.pair (.slice .byte) (.pair (.int .i64) (.pair (.int .i64) (.slice (.int .i64))))))))) (.pair (.slice (.pair (.int .i64) (.pair .str (.pair .str (.pair (.slice .byte) (.pair (.int .i64) (.pair (.int .i64) (.slice (.int .i64))))))))) (.slice (.pair (.int .i64) (.pair .str (.pair .str (.pair (.slice .byte) (.pair (.int .i64) (.pair (.int .i64) (.slice (.int .i64))))))))))), (.slice (.int .i64))]
theorem hi64 {n : Int} (h : fits .i64 n = true) : n < 9223372036854775808 := by
  simp only [fits, Bool.and_eq_true, decide_eq_true_eq] at h
  exact h.2
theorem blk_op (o : Go.Hay.Ytccbcmamcdegmaa.Op) : 7 + (o.2.1.length + o.2.2.1.length + o.2.2.2.1.length) ≤ blk (.pair (.int .i64) (.pair .str (.pair .str (.pair (.slice .byte) (.pair (.int .i64) (.pair (.int .i64) (.slice (.int .i64)))))))) o := by
  have e : blk (.pair (.int .i64) (.pair .str (.pair .str (.pair (.slice .byte) (.pair (.int .i64) (.pair (.int .i64) (.slice (.int .i64)))))))) o = 1 + ((o.2.1.length + 1) + ((o.2.2.1.length + 1) + (blk (.slice .byte) o.2.2.2.1 + (1 + (1 + blk (.slice (.int .i64)) o.2.2.2.2.2.2))))) := rfl
  have h1 := blk_bytes o.2.2.2.1
  have h2 := blk_pos_slice (.int .i64) o.2.2.2.2.2.2
  omega
theorem sums : ∀ l : List Go.Hay.Ytccbcmamcdegmaa.Op, costs l + 5 * l.length ≤ (l.map (blk (.pair (.int .i64) (.pair .str (.pair .str (.pair (.slice .byte) (.pair (.int .i64) (.pair (.int .i64) (.slice (.int .i64)))))))))).sum
  | [] => Nat.le_refl _
  | o :: l => by
    have h1 := blk_op o
    have h2 := sums l
    have e : costs (o :: l) = (2 + o.2.2.2.1.length) + costs l := rfl
    simp only [List.map_cons, List.sum_cons, List.length_cons, e]
    omega
theorem few {K : Nat} (l : List Go.Hay.Ytccbcmamcdegmaa.Op) (h : blk (.slice (.pair (.int .i64) (.pair .str (.pair .str (.pair (.slice .byte) (.pair (.int .i64) (.pair (.int .i64) (.slice (.int .i64))))))))) l ≤ K) (hK : K ≤ 1048576) (w : wfT (.slice (.pair (.int .i64) (.pair .str (.pair .str (.pair (.slice .byte) (.pair (.int .i64) (.pair (.int .i64) (.slice (.int .i64))))))))) l) : SB l K ∧ l.length ≤ 262144 := by
  have h1 := sums l
  have e : blk (.slice (.pair (.int .i64) (.pair .str (.pair .str (.pair (.slice .byte) (.pair (.int .i64) (.pair (.int .i64) (.slice (.int .i64))))))))) l = (l.map (blk (.pair (.int .i64) (.pair .str (.pair .str (.pair (.slice .byte) (.pair (.int .i64) (.pair (.int .i64) (.slice (.int .i64)))))))))).sum + 1 := rfl
  have h2 := costs_len l
  refine ⟨⟨fun o ho => ?_, by omega⟩, by omega⟩
  have a := blk_mem (T := (.pair (.int .i64) (.pair .str (.pair .str (.pair (.slice .byte) (.pair (.int .i64) (.pair (.int .i64) (.slice (.int .i64))))))))) ho
  have b := blk_op o
  have wo : wfT (.pair (.int .i64) (.pair .str (.pair .str (.pair (.slice .byte) (.pair (.int .i64) (.pair (.int .i64) (.slice (.int .i64)))))))) o := w o ho
  exact ⟨by omega, by omega, by omega, hi64 wo.2.2.2.2.1⟩
theorem mono_sb {l : List Go.Hay.Ytccbcmamcdegmaa.Op} {K K' : Nat} (h : SB l K) (hk : K ≤ K') : SB l K' := ⟨h.ops, Nat.le_trans h.cost hk⟩
theorem law (x : (insOf Ts).den) (h : blkAll Ts x ≤ 1048576) (w : wfAll Ts x) : ∃ N, law_DiskClones.fn N x = some (true, ()) := by
  obtain ⟨n, ⟨l, one, two⟩, keep, u⟩ := x
  have h0 : 1 + ((blk (.slice (.pair (.int .i64) (.pair .str (.pair .str (.pair (.slice .byte) (.pair (.int .i64) (.pair (.int .i64) (.slice (.int .i64))))))))) l + (blk (.slice (.pair (.int .i64) (.pair .str (.pair .str (.pair (.slice .byte) (.pair (.int .i64) (.pair (.int .i64) (.slice (.int .i64))))))))) one + blk (.slice (.pair (.int .i64) (.pair .str (.pair .str (.pair (.slice .byte) (.pair (.int .i64) (.pair (.int .i64) (.slice (.int .i64))))))))) two)) + (blk (.slice (.int .i64)) keep + 0)) ≤ 1048576 := h
  have hl := (few (K := 1048576) l (by omega) (Nat.le_refl _) w.2.1.1).1
  have h1 := (few (K := 1048576) one (by omega) (Nat.le_refl _) w.2.1.2.1).1
  have h2 := (few (K := 1048576) two (by omega) (Nat.le_refl _) w.2.1.2.2).1
  exact ⟨8796093022208, disk_clones (Nat.le_refl _) n (hi64 w.1) hl h1 h2 (by omega) keep⟩

set_option maxRecDepth 100000 in
theorem lifted (os : Os) (started : os.Started) (H : Type) (enc : TypeId × Value → H) (F : Stop.Interp) :
    ReturnsInHanded {} Try.checked os 10 .any ((Rows.OpenSpec.upto Rows.diskClonesSpec).pre6 enc Try.prog Try.f10 Rows.diskClonesUptoRow.domain false) (((Rows.OpenSpec.upto Rows.diskClonesSpec).at F).post enc Try.prog Try.f10 false true false false) := by
  refine returnsInHanded_of_cond (C := Try.checked) (s := Rows.OpenSpec.upto Rows.diskClonesSpec) (k := Rows.uptoSmall) rfl own started (by kernel_rfl) Try.func10
    (OpenSpec.witness (enc := enc) (C := Try.checked) (s := Rows.OpenSpec.upto Rows.diskClonesSpec) (k := Rows.uptoSmall) rfl false ⟨#[], #[.int .i64 0, .agg #[.slice none 0 0, .slice none 0 0, .slice none 0 0], .slice none 0 0], []⟩ 12 (by kernel_rfl) (by kernel_rfl) (by kernel_rfl)
      (x := ([.lit (.int .i64 0), .agg [.nil, .nil, .nil], .nil], [], [])) (by kernel_rfl) rfl (by kernel_rfl)) ?_
  intro W base args ds gs before hval hW _ hk _
  have hsum : (ds.map Rows.uptoBulk).sum ≤ 1048576 := by
    have h1 : Rows.uptoBulkAll (ds ++ gs) ≤ 1048576 := of_decide_eq_true hk
    rw [all_sum, List.map_append, List.sum_append] at h1
    omega
  exact law_ok (P := Try.prog) (U := U) (s := Rows.diskClonesSpec) (Ts := Ts) U_ok laidOut (by kernel_rfl) (by kernel_rfl) (tb := 4) (by kernel_rfl) Try.underlying4 rfl
    (fun ds h => match ds, h with | [a, b, c], _ => rfl) bulk (g := law_DiskClones.fn) (fun N => law_DiskClones.ok N) law hval hW hsum

theorem over : Rows.diskClonesUptoRow.holds Try.pinned (Rows.OpenSpec.upto Rows.diskClonesSpec) :=
  OpenClaim.holds_of_cond 10 Try.f10 rfl rfl rfl rfl rfl rfl rfl ⟨rfl, rfl, rfl, rfl, rfl⟩ rfl rfl rfl rfl rfl (by kernel_rfl) Try.func10 (by kernel_rfl)
    (of_decide_eq_true (by kernel_rfl)) (by unfold Func.isWrapper; first | (rw [if_pos (by decide +kernel)]; kernel_rfl) | (rw [if_neg (by decide +kernel)]; exact ⟨rfl, rfl⟩))
    (fun os started H enc _ F => lifted os started H enc F)

theorem proved : Rows.DiskClonesUptoSaid :=
  over
#print axioms proved
end Go.Proofs.Ytccbcmamcdegmaa.diskClones
