/- RedoRefused gives true for every input of bulk at most 1048576; conditions: none. -/
import Derived.Test.YthlojpcjafefjaaGreatRows
import Derived.Test.YthlojpcjafefjaaGreatLt
import Derived.WalkKit
import Derived.ProofKit
import Derived.OpenShut
import Derived.JoinedCond
set_option linter.unusedVariables false
set_option linter.unusedSimpArgs false
namespace Go.Proofs.YthlojpcjafefjaaGreat.redoRefused
open Go.ChangeShapes Go.WideShapes Go.ChangeAt Go.RowKit
open Go.Hay Go.Hay.YthlojpcjafefjaaGreat

theorem own : ownKnob Tryz.prog.godebug = none := by kernel_rfl
theorem laidOut : laidOutB Tryz.prog = true := by kernel_rfl

theorem all_sum {H : Type} : ∀ l : List (DataW H), Rows.uptoBulkAll l = (l.map Rows.uptoBulk).sum
  | [] => by simp [Rows.uptoBulkAll]
  | d :: r => by simp [Rows.uptoBulkAll, all_sum r]
theorem bulk {H : Type} : Bulk (Rows.uptoBulk (H := H)) where
  pos d := by
    cases d with
    | lit x => cases x <;> simp [Rows.uptoBulk]
    | _ => simp [Rows.uptoBulk]
  str l := by simp [Rows.uptoBulk]
  slice l m := by simp only [Rows.uptoBulk, all_sum]; omega
  agg l := by simp only [Rows.uptoBulk, all_sum]; omega

abbrev Ts : List Ty := [(.int .i64), (.slice (.pair (.int .i64) (.pair (.int .i64) (.pair (.slice (.slice .byte)) (.slice (.int .i64)))))), (.slice (.slice .byte))]
theorem tot_blk : ∀ l : List (List UInt8), tot l + 9 ≤ 9 * blk (.slice (.slice .byte)) l
  | [] => by simp [tot, blk]
  | t :: l => by
    have h1 := tot_blk l
    have h2 := blk_bytes t
    have h3 : blk (.slice (.slice .byte)) (t :: l) = blk (.slice .byte) t + blk (.slice (.slice .byte)) l := by simp [blk]; omega
    rw [fC65, h3]; omega
theorem hi64 {n : Int} (h : fits .i64 n = true) : n < 9223372036854775808 := by
  have : -9223372036854775808 ≤ n ∧ n < 9223372036854775808 := by simpa [fits] using h
  exact this.2
abbrev TOp : Ty := (.pair (.int .i64) (.pair (.int .i64) (.pair (.slice (.slice .byte)) (.slice (.int .i64)))))
theorem op_blk (o : Go.Hay.YthlojpcjafefjaaGreat.Op) : blk TOp o = 1 + (1 + (blk (.slice (.slice .byte)) o.2.2.1 + blk (.slice (.int .i64)) o.2.2.2)) := rfl
theorem costs_blk : ∀ l : List Go.Hay.YthlojpcjafefjaaGreat.Op, costs l + 40 ≤ 40 * blk (.slice TOp) l
  | [] => by simp [costs, blk]
  | o :: l => by
    have h1 := costs_blk l
    have h2 := tot_blk o.2.2.1
    have h3 := op_blk o
    have h4 : blk (.slice TOp) (o :: l) = blk TOp o + blk (.slice TOp) l := by simp [blk]; omega
    rw [fD55, h4]
    unfold cost
    omega
theorem ops {l : List Go.Hay.YthlojpcjafefjaaGreat.Op} (h : blk (.slice TOp) l ≤ 1048576) (w : wfT (.slice TOp) l) : ∀ o ∈ l, OpQ o := fun o ho => by
  have h1 := blk_mem (T := TOp) ho
  have h2 := tot_blk o.2.2.1
  have h3 := op_blk o
  have wo : wfT TOp o := w o ho
  exact ⟨by unfold Small; omega, hi64 wo.2.1⟩
theorem law (x : (insOf Ts).den) (h : blkAll Ts x ≤ 1048576) (w : wfAll Ts x) : ∃ N, law_RedoRefused.fn N x = some (true, ()) := by
  obtain ⟨n, l, rs, u⟩ := x
  have h0 : 1 + (blk (.slice TOp) l + (blk (.slice (.slice .byte)) rs + (0))) ≤ 1048576 := h
  have h1 := costs_blk l
  have h2 := tot_blk rs
  have h3 : blk (.slice TOp) l ≤ 1048576 := by omega
  have h4 : costs l ≤ 700000000 := by omega
  exact ⟨8796093022208, fD74 (Nat.le_refl _) n (hi64 w.1) (sc := l) (ops h3 w.2.1) h4 (show Small rs by unfold Small; omega)⟩

set_option maxRecDepth 100000 in
theorem lifted (os : Os) (started : os.Started) (H : Type) (enc : TypeId × Value → H) (F : Stop.Interp) :
    ReturnsInHanded {} Tryz.checked os 3 .any ((Rows.OpenSpec.upto Rows.redoRefusedSpec).pre6 enc Tryz.prog Tryz.f3 Rows.redoRefusedUptoRow.domain false) (((Rows.OpenSpec.upto Rows.redoRefusedSpec).at F).post enc Tryz.prog Tryz.f3 false true false false) := by
  refine returnsInHanded_of_cond (C := Tryz.checked) (s := Rows.OpenSpec.upto Rows.redoRefusedSpec) (k := Rows.uptoSmall) rfl own started (by kernel_rfl) Tryz.func3
    (OpenSpec.witness (enc := enc) (C := Tryz.checked) (s := Rows.OpenSpec.upto Rows.redoRefusedSpec) (k := Rows.uptoSmall) rfl false ⟨#[], #[.int .i64 0, .slice none 0 0, .slice none 0 0], []⟩ 12 (by kernel_rfl) (by kernel_rfl) (by kernel_rfl)
      (x := ([.lit (.int .i64 0), .nil, .nil], [], [])) (by kernel_rfl) rfl (by kernel_rfl)) ?_
  intro W jE args ds gs before hval hW _ hk _
  have hsum : (ds.map Rows.uptoBulk).sum ≤ 1048576 := by
    have h1 : Rows.uptoBulkAll (ds ++ gs) ≤ 1048576 := of_decide_eq_true hk
    rw [all_sum, List.map_append, List.sum_append] at h1
    omega
  exact law_ok (P := Tryz.prog) (U := U) (s := Rows.redoRefusedSpec) (Ts := Ts) U_ok laidOut (by kernel_rfl) (by kernel_rfl) (tb := 4) (by kernel_rfl) Tryz.underlying4 rfl
    (fun ds h => match ds, h with | [a, b, c], _ => rfl) bulk (g := law_RedoRefused.fn) (fun N => law_RedoRefused.ok N) law hval hW hsum

theorem over : Rows.redoRefusedUptoRow.holds Tryz.pinned (Rows.OpenSpec.upto Rows.redoRefusedSpec) :=
  OpenClaim.holds_of_cond 3 Tryz.f3 rfl rfl rfl rfl rfl rfl rfl ⟨rfl, rfl, rfl, rfl, rfl⟩ rfl rfl rfl rfl rfl (by kernel_rfl) Tryz.func3 (by kernel_rfl)
    (of_decide_eq_true (by kernel_rfl)) (by unfold Func.isWrapper; first | (rw [if_pos (by decide +kernel)]; kernel_rfl) | (rw [if_neg (by decide +kernel)]; exact ⟨rfl, rfl⟩))
    (fun os started H enc _ F => lifted os started H enc F)

theorem proved : Rows.RedoRefusedUptoSaid :=
  over
#print axioms proved
end Go.Proofs.YthlojpcjafefjaaGreat.redoRefused
