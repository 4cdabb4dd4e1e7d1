/- Messages written and read, whole; what was written is read as it was, one bit that is turned is found, unlike messages have unlike bytes. Conditions: sizes below a bound, numbers that fit. -/
import Derived.Test.YtpgamibdlinhjaaGreatLwf
set_option linter.unusedVariables false
set_option linter.unusedSimpArgs false
namespace Go.Hay.YtpgamibdlinhjaaGreat
open Go Go.Hay Go.Proofs

theorem fA154 (k : Nat) : law_alive.run (k + 20) = some (true, ()) := by kernel_rfl
theorem end_ok (N : Nat) (b : List UInt8) (e : Int) : ∃ x, fC50.run N b e = some (x, ()) ∧ (x = 0 ↔ e = 0 ∧ b = []) := by
  by_cases he : e = 0
  · subst he
    cases b with
    | nil => exact ⟨0, go_d rfl (go_n (by simp) rfl), by simp⟩
    | cons c b => exact ⟨13, go_d rfl (go_d (by simp <;> omega) rfl), by simp⟩
  · exact ⟨e, go_n he rfl, by simp [he]⟩

/-- A message's bytes, or that it has none. -/
noncomputable def E (m : Msg) : List UInt8 × Int := if okM m = true ∧ taken m = m then (frame (body m), 0) else ([], 170)
theorem E_ok {m : Msg} (h : okM m = true ∧ taken m = m) : E m = (frame (body m), 0) := if_pos h
theorem E_no {m : Msg} (h : ¬ (okM m = true ∧ taken m = m)) : E m = ([], 170) := if_neg h
theorem fB87 (k : Nat) (hk : 17000000 ≤ k) (m : Msg) (hm : BM m) (hs : SM m (k + 20)) (hb : (body m).length ≤ 16777216) : fA34.run (k + 20) (den m) = some ((E m).1, (E m).2, ()) := by
  refine go_o (v := (([], ()), ())) rfl (go_o (w_all k hk m hm (b := []) (jT := false) (by simp only [List.length_nil]; omega)) ?_)
  rw [List.nil_append, Bool.false_or]
  by_cases ho : okM m = true
  · rw [ho]
    have hr := fB144 m [] hm.F ho
    rw [List.append_nil] at hr
    have hall := r_all k hk (b := body m) (e := 0) (jT := false) (by omega)
    rw [hr] at hall
    refine go_f rfl (go_o (fC130 _ _ (by omega)) (go_o (fC114 _ _ (by omega)) (go_o hall (go_o (fB152 k (body m) hb (by omega) (by omega)) (go_nd rfl (go_o (fD149 (k + 20) m (taken m) hs) ?_))))))
    by_cases ht : m = taken m
    · rw [decide_eq_true ht, E_ok ⟨ho, ht.symm⟩]
      exact go_f rfl rfl
    · rw [decide_eq_false ht, E_no fun h => ht h.2.symm]
      exact go_t rfl rfl
  · have ho' : okM m = false := by simpa using ho
    rw [ho', E_no fun h => ho h.1]
    exact go_t rfl rfl

/-- The message of bytes, or that they are none's. -/
noncomputable def D (raw : List UInt8) : Msg × Int :=
  if (unf raw).2.2 = 0 ∧ (unf raw).2.1 = (raw.length : Int) ∧ (rAll ((unf raw).1, 0, false)).1 = ([], 0, false) then ((rAll ((unf raw).1, 0, false)).2, 0) else (zero, 170)
theorem unf_le (b : List UInt8) : (unf b).1.length ≤ b.length := by
  unfold unf
  repeat' split
  all_goals simp
  omega
theorem fA107 (k : Nat) (hk : 17000000 ≤ k) (raw : List UInt8) (hb : raw.length ≤ 16900000) : fB68.run (k + 20) raw = some (den (D raw).1, (D raw).2, ()) := by
  have hle := unf_le raw
  refine go_o (fD140 k raw (by omega) (by omega) (by omega)) ?_
  unfold D
  by_cases h1 : (unf raw).2.2 = 0
  · refine go_nd h1 ?_
    by_cases h2 : (unf raw).2.1 = (raw.length : Int)
    · refine go_nd h2 (go_o (fC114 _ _ (by omega)) (go_o (r_all k hk (by omega)) ?_))
      generalize hq : rAll ((unf raw).1, 0, false) = q
      obtain ⟨⟨b, e, wr⟩, m⟩ := q
      cases wr with
      | true => rw [if_neg (by simp)]; exact go_t rfl rfl
      | false =>
        obtain ⟨x, g1, g2⟩ := end_ok (k + 20) b e
        refine go_f rfl (go_o g1 ?_)
        by_cases hx : x = 0
        · obtain ⟨he, hb'⟩ := g2.1 hx
          subst he; subst hb'
          rw [if_pos ⟨h1, h2, rfl⟩]
          exact go_nd hx rfl
        · rw [if_neg (fun h => hx (g2.2 ⟨congrArg (fun t => t.2.1) h.2.2, congrArg (fun t => t.1) h.2.2⟩))]
          exact go_nn hx rfl
    · rw [if_neg (fun h => h2 h.2.1)]
      exact go_nn h2 rfl
  · rw [if_neg (fun h => h1 h.1)]
    exact go_nn h1 rfl

theorem BM.sm {m : Msg} (h : BM m) {k : Nat} (hk : 17000000 ≤ k) : SM m (k + 20) := by
  have h1 := (h.F .p).1.2
  have h2 := (h.F .p).2.2
  have h3 := (h.F .v).2
  exact ⟨⟨by omega, by omega, fun x hx => by have := (h.ins x hx).2; exact ⟨by omega, by omega⟩⟩, ⟨by omega, by omega⟩, ⟨by omega, by omega, fun x hx => by have := (h.vers x hx).2; exact ⟨by omega, by omega⟩⟩⟩
end Go.Hay.YtpgamibdlinhjaaGreat
