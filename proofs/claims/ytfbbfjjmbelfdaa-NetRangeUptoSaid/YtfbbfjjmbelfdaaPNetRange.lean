/- NetRange gives true for every input of bulk at most 1048576; conditions: none. -/
import Derived.Test.YtfbbfjjmbelfdaaRows
import Derived.Test.YtfbbfjjmbelfdaaLd
import Derived.WalkKit
import Derived.ProofKit
import Derived.OpenShut
import Derived.JoinedCond
set_option linter.unusedVariables false
set_option linter.unusedSimpArgs false
namespace Go.Proofs.Ytfbbfjjmbelfdaa.netRange
open Go.ChangeShapes Go.WideShapes Go.ChangeAt Go.RowKit
open Go.Hay Go.Hay.Ytfbbfjjmbelfdaa

theorem own : ownKnob Try.prog.godebug = none := by kernel_rfl
theorem laidOut : laidOutB Try.prog = true := by kernel_rfl

theorem all_sum {H : Type} : ∀ l : List (DataW H), Rows.uptoBulkAll l = (l.map Rows.uptoBulk).sum
  | [] => by simp [Rows.uptoBulkAll]
  | d :: r => by simp [Rows.uptoBulkAll, all_sum r]
theorem bulk {H : Type} : Bulk (Rows.uptoBulk (H := H)) where
  pos d := by
    cases d with
    | lit x => cases x <;> simp [Rows.uptoBulk]
    | _ => simp [Rows.uptoBulk]
  str l := by simp [Rows.uptoBulk]
  slice l m := by simp only [Rows.uptoBulk, all_sum]; omega
  agg l := by simp only [Rows.uptoBulk, all_sum]; omega

abbrev Ts : List Ty := [(.int .i64), (.slice (.pair (.int .i64) (.pair (.int .i64) (.pair (.int .i64) (.slice .byte))))), (.int .i64)]
theorem ops_few {K : Nat} {s : List (Int × Int × Int × List UInt8)} (h : blk (.slice (.pair (.int .i64) (.pair (.int .i64) (.pair (.int .i64) (.slice .byte))))) s ≤ K) : s.length ≤ K ∧ ∀ o ∈ s, o.2.2.2.length ≤ K := by
  have h1 := blk_len (T := .pair (.int .i64) (.pair (.int .i64) (.pair (.int .i64) (.slice .byte)))) (fun _ => Nat.le_add_right 1 _) s
  refine ⟨by omega, fun o ho => ?_⟩
  have h2 := blk_mem (T := .pair (.int .i64) (.pair (.int .i64) (.pair (.int .i64) (.slice .byte)))) ho
  have h3 : blk (.pair (.int .i64) (.pair (.int .i64) (.pair (.int .i64) (.slice .byte)))) o = 1 + (1 + (1 + blk (.slice .byte) o.2.2.2)) := rfl
  have h4 := blk_bytes o.2.2.2
  omega
theorem law (x : (insOf Ts).den) (h : blkAll Ts x ≤ 1048576) (_ : wfAll Ts x) : ∃ N, law_NetRange.fn N x = some (true, ()) := by
  obtain ⟨room, s, to, u⟩ := x
  have h0 : 1 + (blk (.slice (.pair (.int .i64) (.pair (.int .i64) (.pair (.int .i64) (.slice .byte))))) s + (1 + 0)) ≤ 1048576 := h
  obtain ⟨h1, h2⟩ := ops_few (K := 1048576) (s := s) (by omega)
  exact ⟨_, net_range 1048577 1048576 room s to (by omega) (by omega) (by omega) (by omega) h2 (by omega)⟩

set_option maxRecDepth 100000 in
theorem lifted (os : Os) (started : os.Started) (H : Type) (enc : TypeId × Value → H) (F : Stop.Interp) :
    ReturnsInHanded {} Try.checked os 7 .any ((Rows.OpenSpec.upto Rows.netRangeSpec).pre6 enc Try.prog Try.f7 Rows.netRangeUptoRow.domain false) (((Rows.OpenSpec.upto Rows.netRangeSpec).at F).post enc Try.prog Try.f7 false true false false) := by
  refine returnsInHanded_of_cond (C := Try.checked) (s := Rows.OpenSpec.upto Rows.netRangeSpec) (k := Rows.uptoSmall) rfl own started (by kernel_rfl) Try.func7
    (OpenSpec.witness (enc := enc) (C := Try.checked) (s := Rows.OpenSpec.upto Rows.netRangeSpec) (k := Rows.uptoSmall) rfl false ⟨#[], #[.int .i64 0, .slice none 0 0, .int .i64 0], []⟩ 12 (by kernel_rfl) (by kernel_rfl) (by kernel_rfl)
      (x := ([.lit (.int .i64 0), .nil, .lit (.int .i64 0)], [], [])) (by kernel_rfl) rfl (by kernel_rfl)) ?_
  intro W base args ds gs before hval hW _ hk _
  have hsum : (ds.map Rows.uptoBulk).sum ≤ 1048576 := by
    have h1 : Rows.uptoBulkAll (ds ++ gs) ≤ 1048576 := of_decide_eq_true hk
    rw [all_sum, List.map_append, List.sum_append] at h1
    omega
  exact law_ok (P := Try.prog) (U := U) (s := Rows.netRangeSpec) (Ts := Ts) U_ok laidOut (by kernel_rfl) (by kernel_rfl) (tb := 4) (by kernel_rfl) Try.underlying4 rfl
    (fun ds h => match ds, h with | [a, b, c], _ => rfl) bulk (g := law_NetRange.fn) (fun N => law_NetRange.ok N) law hval hW hsum

theorem over : Rows.netRangeUptoRow.holds Try.pinned (Rows.OpenSpec.upto Rows.netRangeSpec) :=
  OpenClaim.holds_of_cond 7 Try.f7 rfl rfl rfl rfl rfl rfl rfl ⟨rfl, rfl, rfl, rfl, rfl⟩ rfl rfl rfl rfl rfl (by kernel_rfl) Try.func7 (by kernel_rfl)
    (of_decide_eq_true (by kernel_rfl)) (by unfold Func.isWrapper; first | (rw [if_pos (by decide +kernel)]; kernel_rfl) | (rw [if_neg (by decide +kernel)]; exact ⟨rfl, rfl⟩))
    (fun os started H enc _ F => lifted os started H enc F)

theorem proved : Rows.NetRangeUptoSaid :=
  over
#print axioms proved
end Go.Proofs.Ytfbbfjjmbelfdaa.netRange
