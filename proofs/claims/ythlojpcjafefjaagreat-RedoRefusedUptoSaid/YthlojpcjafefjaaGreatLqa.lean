/- Disks that live and are not armed: their calls do not die. Conditions: none. -/
import Derived.Test.YthlojpcjafefjaaGreatLq
set_option linter.unusedVariables false
set_option linter.unusedSimpArgs false
namespace Go.Hay.YthlojpcjafefjaaGreat
open Go Go.Hay Go.Proofs

def Live (d : DD) : Prop := d.dead = false ∧ d.left = -1
theorem fC50 {d : DD} (h : Live d) : (dStep d).2 = false ∧ Live (dStep d).1 := by
  rw [fB51 h.2]
  exact ⟨rfl, h.1, h.2⟩
theorem fC53 {d : DD} (h : Live d) (name : DNm) (b : List UInt8) : Live (dAppend d name b).1 := by
  unfold dAppend
  rw [h.1]
  cases nameOk name with
  | false => exact h
  | true =>
    cases decide ((b.length : Int) > wr (d.room - d.used)) with
    | true => exact h
    | false => exact (fC50 (d := dLay d name ((dGet d name).1 ++ b, (dGet d name).2)) h).2
theorem fC70 {why : DFl → Int} {done : DFl → DD → DD} (hd : ∀ f d, Live d → Live (done f d)) {d : DD} (h : Live d) (name : DNm) : Live (dDo why done d name).1 := by
  unfold dDo
  rw [h.1, (fC50 h).1]
  cases mapHas d.files name with
  | false => exact h
  | true =>
    cases decide (why (dGet d name) = 0) with
    | false => exact h
    | true => exact hd _ _ (fC50 h).2
theorem fD59 {d : DD} (h : Live d) (name : DNm) : Live (dSync d name).1 := by
  unfold dSync
  refine fC70 ?_ h name
  intro _ _ h
  exact h
theorem fC81 {d : DD} (h : Live d) (name : DNm) : Live (dRemove d name).1 := by
  unfold dRemove
  refine fC70 ?_ h name
  intro _ _ h
  exact h
theorem fA88 {d : DD} (h : Live d) (name : DNm) (n : Int) : Live (dTrunc d name n).1 := by
  unfold dTrunc
  refine fC70 ?_ h name
  intro _ _ h
  exact h
theorem fC56 {x : DD × Int} {f : DD → DD × Int} (h : Live x.1) (hf : ∀ d, Live d → Live (f d).1) : Live (thn x f).1 := by
  unfold thn
  cases decide (x.2 = 0) with
  | true => exact hf _ h
  | false => exact h
theorem fC64 {d : DD} (h : Live d) : Live (fD37 d).1 := by
  unfold fD37
  refine fC56 (fC56 ?_ fun d h => fC53 h nm []) fun d h => fD59 h nm
  cases mapHas d.files nm with
  | true => exact fC81 h nm
  | false => exact h
theorem fB71 {d : DD} (h : Live d) : Live (dOpen d).1 := by
  unfold dOpen
  rw [h.1]
  cases mapHas d.files nm with
  | false => exact h
  | true =>
    cases decide ((readP (dGet d nm).1).2.2 = 0) with
    | false => exact h
    | true =>
      simp only [Bool.not_true, cond_false]
      refine fC56 ?_ fun d h => fD59 h nm
      cases decide ((readP (dGet d nm).1).2.1 < ((dGet d nm).1.length : Int)) with
      | true => exact fA88 h nm _
      | false => exact h
theorem fD94 {d : DD} (h : Live d) (rs : List (List UInt8)) : Live (dApp d rs).1 := by
  unfold dApp
  cases decide ((rs.length : Int) = 0) with
  | true => exact h
  | false =>
    simp only [cond_false]
    exact fC56 (fC53 h nm _) fun d h => fD59 h nm
theorem fB98 (f : DNm × DFl) (l : DFs) : mapHas (insF f l) f.1 = true := has_iff.2 ⟨f.2, (insF_perm f l).mem_iff.2 (List.mem_cons_self)⟩
/-- An Append that is fC63 changes nothing. -/
theorem fC63 {k : Nat} {d : DD} {r : RS} (h : Inv k d r) (hv : Live d) (rs : List (List UInt8)) (hk : k + 4 + (frame (recB rs)).length ≤ 2199023255552) (he : ¬ (dApp d rs).2 = 0) : (dApp d rs).1 = d ∧ ¬ (rs.length : Int) = 0 := by
  revert he
  unfold dApp
  by_cases h0 : (rs.length : Int) = 0
  · rw [decide_eq_true h0]
    exact fun he => absurd rfl he
  · rw [decide_eq_false h0]
    show ¬ (thn (dAppend d nm (frame (recB rs))) fun d => dSync d nm).2 = 0 → (thn (dAppend d nm (frame (recB rs))) fun d => dSync d nm).1 = d ∧ _
    have hb : Both (k + 2 + (frame (recB rs)).length) (dAppend d nm (frame (recB rs))) (rAppend r nm (frame (recB rs))) := h.append (by omega)
    have hl := fC53 hv nm (frame (recB rs))
    have key : (dAppend d nm (frame (recB rs)) = (d, 41)) ∨ mapHas (rAppend r nm (frame (recB rs))).1.files nm = true := by
      by_cases hw : (((frame (recB rs)).length : Nat) : Int) > wr (d.room - d.used)
      · left
        unfold dAppend
        rw [hv.1, nm_ok, decide_eq_true hw]; rfl
      · right
        have hrd : r.dead = false := by rw [← h.dead]; exact hv.1
        have hfr := h.free
        rw [hfr] at hw
        unfold rAppend
        rw [hrd, nm_ok, decide_eq_false hw]
        show mapHas (rStep (rWith r nm ((rGet r nm).1 ++ frame (recB rs), (rGet r nm).2))).1.files nm = true
        rw [(rStep_files _).1]
        exact fB98 (nm, ((rGet r nm).1 ++ frame (recB rs), (rGet r nm).2)) r.files
    rcases key with e | hh
    · rw [e, thn_no (show ¬ ((d, (41 : Int)) : DD × Int).2 = 0 by show ¬ (41 : Int) = 0; decide)]
      exact fun _ => ⟨rfl, h0⟩
    · rw [← hb.2.has] at hh
      have e2 : (dAppend d nm (frame (recB rs))).2 = 0 ∨ dAppend d nm (frame (recB rs)) = (d, 41) := by
        unfold dAppend
        rw [hv.1, nm_ok]
        cases decide ((((frame (recB rs)).length : Nat) : Int) > wr (d.room - d.used)) with
        | true => exact .inr rfl
        | false =>
          left
          show (bif (dStep (dLay d nm ((dGet d nm).1 ++ frame (recB rs), (dGet d nm).2))).2 then (44 : Int) else 0) = 0
          rw [(fC50 (d := dLay d nm ((dGet d nm).1 ++ frame (recB rs), (dGet d nm).2)) hv).1]; rfl
      rcases e2 with e2 | e2
      · rw [thn_ok e2]
        intro he
        refine absurd ?_ he
        unfold dSync dDo
        rw [hl.1, hh, (fC50 hl).1]; rfl
      · rw [e2, thn_no (show ¬ ((d, (41 : Int)) : DD × Int).2 = 0 by show ¬ (41 : Int) = 0; decide)]
        exact fun _ => ⟨rfl, h0⟩
end Go.Hay.YthlojpcjafefjaaGreat
