/- WireWrites gives true for every input of bulk at most 1048576; conditions: none. -/
import Derived.Test.YtpgamibdlinhjaaGreatRows
import Derived.Test.YtpgamibdlinhjaaGreatLwi
import Derived.WalkKit
import Derived.ProofKit
import Derived.OpenShut
import Derived.JoinedCond
set_option linter.unusedVariables false
set_option linter.unusedSimpArgs false
namespace Go.Proofs.YtpgamibdlinhjaaGreat.wireWrites
open Go.ChangeShapes Go.WideShapes Go.ChangeAt Go.RowKit
open Go.Hay Go.Hay.YtpgamibdlinhjaaGreat

theorem own : ownKnob Tryz.prog.godebug = none := by kernel_rfl
theorem laidOut : laidOutB Tryz.prog = true := by kernel_rfl

theorem all_sum {H : Type} : ∀ l : List (DataW H), Rows.uptoBulkAll l = (l.map Rows.uptoBulk).sum
  | [] => by simp [Rows.uptoBulkAll]
  | d :: r => by simp [Rows.uptoBulkAll, all_sum r]
theorem bulk {H : Type} : Bulk (Rows.uptoBulk (H := H)) where
  pos d := by
    cases d with
    | lit x => cases x <;> simp [Rows.uptoBulk]
    | _ => simp [Rows.uptoBulk]
  str l := by simp [Rows.uptoBulk]
  slice l m := by simp only [Rows.uptoBulk, all_sum]; omega
  agg l := by simp only [Rows.uptoBulk, all_sum]; omega

abbrev Ts : List Ty := [(.pair (.int .i64) (.pair (.int .i64) (.pair (.int .i64) (.pair (.int .u64) (.pair (.int .u64) (.pair (.int .u64) (.pair (.int .u64) (.pair (.int .u64) (.pair (.int .u64) (.pair (.int .u64) (.pair (.int .i64) (.pair .bool (.pair .bool (.pair .bool (.pair (.pair (.int .i64) (.int .i64)) (.pair (.pair (.slice (.pair (.pair (.int .i64) (.int .i64)) (.pair (.pair (.int .u64) (.int .u32)) (.pair (.slice (.pair (.int .i64) (.pair .bool (.pair (.int .i64) .str)))) (.int .u64))))) (.slice (.pair (.pair (.int .i64) (.int .i64)) (.pair (.int .u64) (.int .u32))))) (.slice (.pair (.pair (.int .u64) (.int .u32)) (.pair (.slice (.pair (.int .i64) (.pair .bool (.pair (.int .i64) .str)))) (.int .u64))))))))))))))))))))]
theorem law (x : (insOf Ts).den) (h : blkAll Ts x ≤ 1048576) (w : wfAll Ts x) : ∃ N, law_WireWrites.fn N x = some (true, ()) := by
  obtain ⟨m, u⟩ := x
  have h0 : blk TM m + 0 ≤ 1048576 := h
  obtain ⟨a, b⟩ := BM_of (undo m) w.1 (by show blk TM m ≤ _; omega)
  have l3 := blk_len (T := TVer) (fun x => by simp only [blk]; omega) (undo m).jQ
  have h1 : blk TM m = 1 + (1 + (1 + (1 + (1 + (1 + (1 + (1 + (1 + (1 + (1 + (1 + (1 + (1 + ((1 + 1) + ((blk (.slice TIns) (undo m).jP + blk (.slice TErs) (undo m).jP1) + blk (.slice TVer) (undo m).jQ))))))))))))))) := rfl
  exact ⟨17000000 + 20, fD135 17000000 (Nat.le_refl _) (undo m) a b (by omega)⟩

set_option maxRecDepth 100000 in
theorem lifted (os : Os) (started : os.Started) (H : Type) (enc : TypeId × Value → H) (F : Stop.Interp) :
    ReturnsInHanded {} Tryz.checked os 3 .any ((Rows.OpenSpec.upto Rows.wireWritesSpec).pre6 enc Tryz.prog Tryz.f3 Rows.wireWritesUptoRow.domain false) (((Rows.OpenSpec.upto Rows.wireWritesSpec).at F).post enc Tryz.prog Tryz.f3 false true false false) := by
  refine returnsInHanded_of_cond (C := Tryz.checked) (s := Rows.OpenSpec.upto Rows.wireWritesSpec) (k := Rows.uptoSmall) rfl own started (by kernel_rfl) Tryz.func3
    (OpenSpec.witness (enc := enc) (C := Tryz.checked) (s := Rows.OpenSpec.upto Rows.wireWritesSpec) (k := Rows.uptoSmall) rfl false ⟨#[], #[.agg #[.int .i64 0, .int .i64 0, .int .i64 0, .int .u64 0, .int .u64 0, .int .u64 0, .int .u64 0, .int .u64 0, .int .u64 0, .int .u64 0, .int .i64 0, .bool false, .bool false, .bool false, .int .i64 0, .int .i64 0, .slice none 0 0, .slice none 0 0, .slice none 0 0]], []⟩ 12 (by kernel_rfl) (by kernel_rfl) (by kernel_rfl)
      (x := ([.agg [.lit (.int .i64 0), .lit (.int .i64 0), .lit (.int .i64 0), .lit (.int .u64 0), .lit (.int .u64 0), .lit (.int .u64 0), .lit (.int .u64 0), .lit (.int .u64 0), .lit (.int .u64 0), .lit (.int .u64 0), .lit (.int .i64 0), .lit (.bool false), .lit (.bool false), .lit (.bool false), .agg [.lit (.int .i64 0), .lit (.int .i64 0)], .agg [.nil, .nil], .nil]], [], [])) (by kernel_rfl) rfl (by kernel_rfl)) ?_
  intro W jE args ds gs before hval hW _ hk _
  have hsum : (ds.map Rows.uptoBulk).sum ≤ 1048576 := by
    have h1 : Rows.uptoBulkAll (ds ++ gs) ≤ 1048576 := of_decide_eq_true hk
    rw [all_sum, List.map_append, List.sum_append] at h1
    omega
  exact law_ok (P := Tryz.prog) (U := U) (s := Rows.wireWritesSpec) (Ts := Ts) U_ok laidOut (by kernel_rfl) (by kernel_rfl) (tb := 4) (by kernel_rfl) Tryz.underlying4 rfl
    (fun ds h => match ds, h with | [a], _ => rfl) bulk (g := law_WireWrites.fn) (fun N => law_WireWrites.ok N) law hval hW hsum

theorem over : Rows.wireWritesUptoRow.holds Tryz.pinned (Rows.OpenSpec.upto Rows.wireWritesSpec) :=
  OpenClaim.holds_of_cond 3 Tryz.f3 rfl rfl rfl rfl rfl rfl rfl ⟨rfl, rfl, rfl, rfl, rfl⟩ rfl rfl rfl rfl rfl (by kernel_rfl) Tryz.func3 (by kernel_rfl)
    (of_decide_eq_true (by kernel_rfl)) (by unfold Func.isWrapper; first | (rw [if_pos (by decide +kernel)]; kernel_rfl) | (rw [if_neg (by decide +kernel)]; exact ⟨rfl, rfl⟩))
    (fun os started H enc _ F => lifted os started H enc F)

theorem proved : Rows.WireWritesUptoSaid :=
  over
#print axioms proved
end Go.Proofs.YtpgamibdlinhjaaGreat.wireWrites
