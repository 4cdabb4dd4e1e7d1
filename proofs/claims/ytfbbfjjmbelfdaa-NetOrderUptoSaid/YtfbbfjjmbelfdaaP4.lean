/- NetOrder of layer 5 gives true for every input of bulk at most 1048576; conditions: none. -/
import Derived.Test.YtfbbfjjmbelfdaaRows
import Derived.Test.YtfbbfjjmbelfdaaL4b
import Derived.WalkKit
import Derived.ProofKit
import Derived.OpenShut
import Derived.JoinedCond
set_option linter.unusedVariables false
set_option linter.unusedSimpArgs false
namespace Go.Proofs.Ytfbbfjjmbelfdaa.netOrder
open Go.ChangeShapes Go.WideShapes Go.ChangeAt Go.RowKit
open Go.Hay Go.Hay.Ytfbbfjjmbelfdaa

theorem own : ownKnob Try.prog.godebug = none := by kernel_rfl
theorem laidOut : laidOutB Try.prog = true := by kernel_rfl

theorem all_sum {H : Type} : ∀ l : List (DataW H), Rows.uptoBulkAll l = (l.map Rows.uptoBulk).sum
  | [] => by simp [Rows.uptoBulkAll]
  | d :: r => by simp [Rows.uptoBulkAll, all_sum r]
theorem bulk {H : Type} : Bulk (Rows.uptoBulk (H := H)) where
  pos d := by
    cases d with
    | lit x => cases x <;> simp [Rows.uptoBulk]
    | _ => simp [Rows.uptoBulk]
  str l := by simp [Rows.uptoBulk]
  slice l m := by simp only [Rows.uptoBulk, all_sum]; omega
  agg l := by simp only [Rows.uptoBulk, all_sum]; omega

theorem le_sum {α : Type} (f : α → Nat) : ∀ {l : List α} {x : α}, x ∈ l → f x ≤ (l.map f).sum
  | a :: l, x, h => by
    rcases List.mem_cons.1 h with rfl | h
    · simp
    · have := le_sum f h
      simp only [List.map_cons, List.sum_cons]
      omega
theorem len_sum {α : Type} (f : α → Nat) (h : ∀ x, 1 ≤ f x) : ∀ l : List α, l.length ≤ (l.map f).sum
  | [] => by simp
  | a :: l => by
    have := len_sum f h l
    have := h a
    simp only [List.map_cons, List.sum_cons, List.length_cons]
    omega

theorem law (x : (insOf [.slice (.slice .byte), .slice .bool]).den) (h : blkAll [.slice (.slice .byte), .slice .bool] x ≤ 1048576) : ∃ N, F4.fn N x = some (true, ()) := by
  obtain ⟨l, takes, u⟩ := x
  have h0 : (l.map (blk (.slice .byte))).sum + 1 + (blk (.slice .bool) takes + 0) ≤ 1048576 := h
  refine order_true l takes ?_ fun j => ?_
  · have h1 := len_sum (blk (.slice .byte)) (fun x => by show 1 ≤ (List.map _ x).sum + 1; omega) l
    omega
  · by_cases hj : j < l.length
    · have h1 : l.getD j [] ∈ l := by rw [List.getD_eq_getElem?_getD, List.getElem?_eq_getElem hj]; exact List.getElem_mem hj
      have h2 := le_sum (blk (.slice .byte)) h1
      have h3 : (l.getD j []).length ≤ blk (.slice .byte) (l.getD j []) := by
        have h4 := len_sum (blk .byte) (fun x => Nat.le_refl 1) (l.getD j [])
        show _ ≤ (List.map (blk .byte) (l.getD j [])).sum + 1
        omega
      omega
    · rw [List.getD_eq_getElem?_getD, List.getElem?_eq_none (by omega)]
      simp

set_option maxRecDepth 100000 in
theorem lifted (os : Os) (started : os.Started) (H : Type) (enc : TypeId × Value → H) (F : Stop.Interp) :
    ReturnsInHanded {} Try.checked os 4 .any ((Rows.OpenSpec.upto Rows.netOrderSpec).pre6 enc Try.prog Try.f4 Rows.netOrderUptoRow.domain false) (((Rows.OpenSpec.upto Rows.netOrderSpec).at F).post enc Try.prog Try.f4 false true false false) := by
  refine returnsInHanded_of_cond (C := Try.checked) (s := Rows.OpenSpec.upto Rows.netOrderSpec) (k := Rows.uptoSmall) rfl own started (by kernel_rfl) Try.func4
    (OpenSpec.witness (enc := enc) (C := Try.checked) (s := Rows.OpenSpec.upto Rows.netOrderSpec) (k := Rows.uptoSmall) rfl false ⟨#[], #[.slice none 0 0, .slice none 0 0], []⟩ 8 (by kernel_rfl) (by kernel_rfl) (by kernel_rfl)
      (x := ([.nil, .nil], [], [])) (by kernel_rfl) rfl (by kernel_rfl)) ?_
  intro W base args ds gs before hval hW _ hk _
  have hsum : (ds.map Rows.uptoBulk).sum ≤ 1048576 := by
    have h1 : Rows.uptoBulkAll (ds ++ gs) ≤ 1048576 := of_decide_eq_true hk
    rw [all_sum, List.map_append, List.sum_append] at h1
    omega
  exact law_ok (P := Try.prog) (U := U) (s := Rows.netOrderSpec) (Ts := [.slice (.slice .byte), .slice .bool]) U_ok laidOut (by kernel_rfl) (by kernel_rfl) (tb := 4) (by kernel_rfl) Try.underlying4 rfl
    (fun ds h => match ds, h with | [a, b], _ => rfl) bulk (g := F4.fn) (fun N => F4.ok N) law hval hW hsum

theorem over : Rows.netOrderUptoRow.holds Try.pinned (Rows.OpenSpec.upto Rows.netOrderSpec) :=
  OpenClaim.holds_of_cond 4 Try.f4 rfl rfl rfl rfl rfl rfl rfl ⟨rfl, rfl, rfl, rfl, rfl⟩ rfl rfl rfl rfl rfl (by kernel_rfl) Try.func4 (by kernel_rfl)
    (of_decide_eq_true (by kernel_rfl)) (by unfold Func.isWrapper; first | (rw [if_pos (by decide +kernel)]; kernel_rfl) | (rw [if_neg (by decide +kernel)]; exact ⟨rfl, rfl⟩))
    (fun os started H enc _ F => lifted os started H enc F)

theorem proved : Rows.NetOrderUptoSaid :=
  over
#print axioms proved
end Go.Proofs.Ytfbbfjjmbelfdaa.netOrder
