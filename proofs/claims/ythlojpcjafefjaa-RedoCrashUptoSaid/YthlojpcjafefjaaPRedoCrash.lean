/- RedoCrash gives true for every input of bulk at most 1048576; conditions: none. -/
import Derived.Test.YthlojpcjafefjaaRows
import Derived.Test.YthlojpcjafefjaaLo
import Derived.WalkKit
import Derived.ProofKit
import Derived.OpenShut
import Derived.JoinedCond
set_option linter.unusedVariables false
set_option linter.unusedSimpArgs false
namespace Go.Proofs.Ythlojpcjafefjaa.redoCrash
open Go.ChangeShapes Go.WideShapes Go.ChangeAt Go.RowKit
open Go.Hay Go.Hay.Ythlojpcjafefjaa

theorem own : ownKnob Try.prog.godebug = none := by kernel_rfl
theorem laidOut : laidOutB Try.prog = true := by kernel_rfl

theorem all_sum {H : Type} : ∀ l : List (DataW H), Rows.uptoBulkAll l = (l.map Rows.uptoBulk).sum
  | [] => by simp [Rows.uptoBulkAll]
  | d :: r => by simp [Rows.uptoBulkAll, all_sum r]
theorem bulk {H : Type} : Bulk (Rows.uptoBulk (H := H)) where
  pos d := by
    cases d with
    | lit x => cases x <;> simp [Rows.uptoBulk]
    | _ => simp [Rows.uptoBulk]
  str l := by simp [Rows.uptoBulk]
  slice l m := by simp only [Rows.uptoBulk, all_sum]; omega
  agg l := by simp only [Rows.uptoBulk, all_sum]; omega

abbrev Ts : List Ty := [(.slice (.slice (.slice .byte))), (.pair (.int .i64) (.slice (.int .i64))), (.pair (.int .i64) (.slice (.int .i64)))]
theorem tot_blk : ∀ l : List (List UInt8), tot l + 9 ≤ 9 * blk (.slice (.slice .byte)) l
  | [] => by simp [tot, blk]
  | t :: l => by
    have h1 := tot_blk l
    have h2 := blk_bytes t
    have h3 : blk (.slice (.slice .byte)) (t :: l) = blk (.slice .byte) t + blk (.slice (.slice .byte)) l := by simp [blk]; omega
    rw [tot_cons, h3]; omega
theorem blk_lll (x : List (List UInt8)) (l : List (List (List UInt8))) : blk (.slice (.slice (.slice .byte))) (x :: l) = blk (.slice (.slice .byte)) x + blk (.slice (.slice (.slice .byte))) l := by simp [blk]; omega
theorem F2_blk : ∀ l : List (List (List UInt8)), (F2 l).length + 40 ≤ 40 * blk (.slice (.slice (.slice .byte))) l
  | [] => by simp [F2, blk]
  | x :: l => by
    have h1 := F2_blk l
    have h2 := tot_blk x
    have h3 := recB_len x
    have h4 := blk_pos_slice (.slice .byte) x
    rw [blk_lll, F2_cons, List.length_append, frame_len]; omega
theorem flat_blk : ∀ l : List (List (List UInt8)), l.flatten.length + 1 ≤ blk (.slice (.slice (.slice .byte))) l
  | [] => by simp [blk]
  | x :: l => by
    have h1 := flat_blk l
    have h2 := blk_len (T := .slice .byte) (fun t => blk_pos_slice .byte t) x
    rw [blk_lll, List.flatten_cons, List.length_append]; omega
theorem small_blk {l : List (List (List UInt8))} (h : blk (.slice (.slice (.slice .byte))) l ≤ 1048576) : ∀ x ∈ l, Small x := fun x hx => by
  have h1 := blk_mem (T := .slice (.slice .byte)) hx
  have h2 := tot_blk x
  unfold Small; omega
theorem ap_blk : ∀ l : List (List (List UInt8)), (ap l).length + 40 ≤ 40 * blk (.slice (.slice (.slice .byte))) l
  | [] => by simp [ap, blk]
  | x :: l => by
    have h1 := ap_blk l
    have h2 := tot_blk x
    have h3 := apB_len x
    have h4 := blk_pos_slice (.slice .byte) x
    have e : ap (x :: l) = apB x ++ ap l := by simp [ap]
    rw [blk_lll, e, List.length_append]; omega
theorem sg_blk : ∀ x : List (List UInt8), (ap (sg x)).length + 40 ≤ 40 * blk (.slice (.slice .byte)) x
  | [] => by simp [ap, sg, blk]
  | t :: x => by
    have h1 := sg_blk x
    have h2 := blk_bytes t
    have h3 := apB_len [t]
    have h4 : tot [t] = t.length + 9 := by simp [tot]
    have h5 : blk (.slice (.slice .byte)) (t :: x) = blk (.slice .byte) t + blk (.slice (.slice .byte)) x := by simp [blk]; omega
    have e : ap (sg (t :: x)) = apB [t] ++ ap (sg x) := by simp [ap, sg]
    rw [h5, e, List.length_append]; omega
theorem sgs_blk : ∀ l : List (List (List UInt8)), (ap (sg l.flatten)).length + 40 ≤ 40 * blk (.slice (.slice (.slice .byte))) l
  | [] => by simp [ap, sg, blk]
  | x :: l => by
    have h1 := sgs_blk l
    have h2 := sg_blk x
    rw [blk_lll, List.flatten_cons, sg_append, List.length_append]; omega
theorem tl_blk : ∀ x : List (List UInt8), tl x + 1 ≤ blk (.slice (.slice .byte)) x
  | [] => by simp [tl, blk]
  | t :: x => by
    have h1 := tl_blk x
    have h2 := blk_bytes t
    have h5 : blk (.slice (.slice .byte)) (t :: x) = blk (.slice .byte) t + blk (.slice (.slice .byte)) x := by simp [blk]; omega
    rw [h5, tl_cons]; omega
theorem tls_blk : ∀ l : List (List (List UInt8)), tl l.flatten + 1 ≤ blk (.slice (.slice (.slice .byte))) l
  | [] => by simp [tl, blk]
  | x :: l => by
    have h1 := tls_blk l
    have h2 := tl_blk x
    rw [blk_lll, List.flatten_cons, tl_append]; omega
theorem law (x : (insOf Ts).den) (h : blkAll Ts x ≤ 1048576) (w : wfAll Ts x) : ∃ N, law_RedoCrash.fn N x = some (true, ()) := by
  obtain ⟨l, c, again, u⟩ := x
  have hc : blk (.pair (.int .i64) (.slice (.int .i64))) c = 1 + blk (.slice (.int .i64)) c.2 := rfl
  have h0 : blk (.slice (.slice (.slice .byte))) l + (blk (.pair (.int .i64) (.slice (.int .i64))) c + (blk (.pair (.int .i64) (.slice (.int .i64))) again + 0)) ≤ 1048576 := h
  have h1 := ap_blk l
  have h2 := flat_blk l
  have h3 := blk_len (T := .slice (.slice .byte)) (fun t => blk_pos_slice (.slice .byte) t) l
  have f1 : fits .i64 c.1 = true := w.2.1.1
  have f2 : fits .i64 again.1 = true := w.2.2.1.1
  have g1 : -9223372036854775808 ≤ c.1 ∧ c.1 < 9223372036854775808 := by simpa [fits] using f1
  have g2 : -9223372036854775808 ≤ again.1 ∧ again.1 < 9223372036854775808 := by simpa [fits] using f2
  exact ⟨8796093022208, redo_crash (Nat.le_refl _) l c again (small_blk (by omega)) (by omega) (by omega) (by omega) g1.2 g2.2⟩

set_option maxRecDepth 100000 in
theorem lifted (os : Os) (started : os.Started) (H : Type) (enc : TypeId × Value → H) (F : Stop.Interp) :
    ReturnsInHanded {} Try.checked os 8 .any ((Rows.OpenSpec.upto Rows.redoCrashSpec).pre6 enc Try.prog Try.f8 Rows.redoCrashUptoRow.domain false) (((Rows.OpenSpec.upto Rows.redoCrashSpec).at F).post enc Try.prog Try.f8 false true false false) := by
  refine returnsInHanded_of_cond (C := Try.checked) (s := Rows.OpenSpec.upto Rows.redoCrashSpec) (k := Rows.uptoSmall) rfl own started (by kernel_rfl) Try.func8
    (OpenSpec.witness (enc := enc) (C := Try.checked) (s := Rows.OpenSpec.upto Rows.redoCrashSpec) (k := Rows.uptoSmall) rfl false ⟨#[], #[.slice none 0 0, .agg #[.int .i64 0, .slice none 0 0], .agg #[.int .i64 0, .slice none 0 0]], []⟩ 12 (by kernel_rfl) (by kernel_rfl) (by kernel_rfl)
      (x := ([.nil, .agg [.lit (.int .i64 0), .nil], .agg [.lit (.int .i64 0), .nil]], [], [])) (by kernel_rfl) rfl (by kernel_rfl)) ?_
  intro W base args ds gs before hval hW _ hk _
  have hsum : (ds.map Rows.uptoBulk).sum ≤ 1048576 := by
    have h1 : Rows.uptoBulkAll (ds ++ gs) ≤ 1048576 := of_decide_eq_true hk
    rw [all_sum, List.map_append, List.sum_append] at h1
    omega
  exact law_ok (P := Try.prog) (U := U) (s := Rows.redoCrashSpec) (Ts := Ts) U_ok laidOut (by kernel_rfl) (by kernel_rfl) (tb := 4) (by kernel_rfl) Try.underlying4 rfl
    (fun ds h => match ds, h with | [a, b, c], _ => rfl) bulk (g := law_RedoCrash.fn) (fun N => law_RedoCrash.ok N) law hval hW hsum

theorem over : Rows.redoCrashUptoRow.holds Try.pinned (Rows.OpenSpec.upto Rows.redoCrashSpec) :=
  OpenClaim.holds_of_cond 8 Try.f8 rfl rfl rfl rfl rfl rfl rfl ⟨rfl, rfl, rfl, rfl, rfl⟩ rfl rfl rfl rfl rfl (by kernel_rfl) Try.func8 (by kernel_rfl)
    (of_decide_eq_true (by kernel_rfl)) (by unfold Func.isWrapper; first | (rw [if_pos (by decide +kernel)]; kernel_rfl) | (rw [if_neg (by decide +kernel)]; exact ⟨rfl, rfl⟩))
    (fun os started H enc _ F => lifted os started H enc F)

theorem proved : Rows.RedoCrashUptoSaid :=
  over
#print axioms proved
end Go.Proofs.Ythlojpcjafefjaa.redoCrash
