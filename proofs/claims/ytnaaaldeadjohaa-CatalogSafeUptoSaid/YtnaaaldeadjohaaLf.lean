/- Covered, of a list of bools of ours; what is safe (under way). Conditions: sizes below a bound. -/
import Derived.Test.YtnaaaldeadjohaaLe
set_option linter.unusedVariables false
set_option linter.unusedSimpArgs false
namespace Go.Hay.Ytnaaaldeadjohaa
open Go Go.Hay Go.Proofs

theorem containsM_ok (N : Nat) (l : List Int) (live : List Bool) (h0 : ∀ x ∈ l, 0 ≤ x) (hl : l.length ≤ 1000000) (hN : l.length < N) : slices_ContainsFunc_int_int_b.run N l live = some (anyLive live l, ()) := by
  refine find (go := fun fuel i => slices_IndexFunc_int_int_b_0.go N fuel l live (l.length : Int) i) (by omega) (fun fuel => go_n (by omega) rfl) (fun i hi fuel => ?_) hN
  have hx := h0 _ (getD_mem hi 0)
  refine go_d (by omega) (go_t (inB_nat hi) (go_d (by rw [Int.toNat_natCast]; exact hi) ?_))
  rw [Int.toNat_natCast]
  refine go_o (v := (liveAt live (l.getD i 0), ())) ?_ ?_
  · unfold liveAt
    by_cases h : l.getD i 0 < (live.length : Int)
    · rw [decide_eq_true h]
      exact go_d h (go_t (inB_t hx h) (go_d (by omega) rfl))
    · rw [decide_eq_false h]
      exact go_n h rfl
  · cases liveAt live (l.getD i 0) <;> rfl
theorem ccoveredM_ok (N : Nat) (hN : 100 < N) {c : Cat} {m S n : Nat} (F : Fine c m S n) (hs : shifts c) (live : List Bool) : catalog_Covered.run N c live = some (!anyN (fun p => anyN (fun s => deadAt c m live ((p : Int), (s : Int))) 0 S) 0 c.2.2.2.2.length, ()) := by
  have h5 := F.s8
  have h8 := F.p8
  have hm := F.m8
  have fs := F.fs
  have hin : ∀ p < c.2.2.2.2.length, catalog_Segments_f1_b_0_0.go N N 0 c.1 c.2.1 c.2.2.1 c.2.2.2.1 c.2.2.2.2 live false (p : Int) c.2.1 0 = some (if anyN (fun s => deadAt c m live ((p : Int), (s : Int))) 0 S = true then .inl (YD false 1) else .inr (YD false 0)) := by
    intro p hp
    refine scanG (go := fun fuel s => catalog_Segments_f1_b_0_0.go N fuel 0 c.1 c.2.1 c.2.2.1 c.2.2.2.1 c.2.2.2.2 live false (p : Int) c.2.1 s) (n := S) (X := .inl (YD false 1)) (Y := .inr (YD false 0)) (by omega) (fun fuel => go_n (by omega) rfl) (fun s hs2 fuel => ?_) S 0 N (by omega) (by omega)
    have hn := nodesL_len c m ((p : Int), (s : Int))
    refine go_d (by omega) (go_d rfl ?_)
    refine go_o (v := if deadAt c m live ((p : Int), (s : Int)) = true then .inr ((false, ()), ()) else .inl ((false, ()), ())) (go_o (cnodes_ok N hN F p s hp hs2) (go_o (containsM_ok N _ live (fun x hx => (nodesL_in F hs p s hp hs2 x hx).1) (by omega) (by omega)) ?_)) ?_
    · unfold deadAt
      cases anyLive live (nodesL c m ((p : Int), (s : Int))) <;> rfl
    · cases deadAt c m live ((p : Int), (s : Int)) <;> rfl
  have hout := scanG (go := fun fuel p => catalog_Segments_f1_b_0.go N fuel 0 c.1 c.2.1 c.2.2.1 c.2.2.2.1 c.2.2.2.2 live false c.1 c.2.1 c.2.2.1 c.2.2.2.1 c.2.2.2.2 (c.2.2.2.2.length : Int) p) (n := c.2.2.2.2.length) (p := fun p => anyN (fun s => deadAt c m live ((p : Int), (s : Int))) 0 S) (X := .inl (YD false 1)) (Y := .inr (YD false 0)) (by omega) (fun fuel => go_n (by omega) rfl) (fun p hp fuel => by
    refine go_d (by omega) (go_o (hin p hp) ?_)
    show _ = if anyN (fun s => deadAt c m live ((p : Int), (s : Int))) 0 S = true then _ else _
    cases anyN (fun s => deadAt c m live ((p : Int), (s : Int))) 0 S <;> rfl) c.2.2.2.2.length 0 N (by omega) (by omega)
  refine go_o (v := ((((c.1, c.2.1, c.2.2.1, c.2.2.2.1, c.2.2.2.2, ()), ()), ()))) rfl ?_
  cases hq : anyN (fun p => anyN (fun s => deadAt c m live ((p : Int), (s : Int))) 0 S) 0 c.2.2.2.2.length with
  | true =>
    rw [hq] at hout
    exact go_o (v := YD false 1) (go_o hout rfl) (go_n (by decide) (go_d rfl rfl))
  | false =>
    rw [hq] at hout
    exact go_o (v := YD false 0) (go_o hout rfl) (go_d rfl rfl)

/-- How many are away of those below a number. -/
theorem cntN_mono {p q : Nat → Bool} : ∀ {n : Nat}, (∀ x < n, p x = true → q x = true) → cntN p n ≤ cntN q n
  | 0, _ => Nat.le_refl _
  | n + 1, h => by
    have h1 := h n (by omega)
    have h2 := cntN_mono (p := p) (q := q) (n := n) (fun x hx => h x (by omega))
    rw [cntN, cntN]
    cases hp : p n
    · simp; omega
    · rw [h1 hp]; simp; omega
/-- Were all nodes of a segment gone, there would be as many away. -/
theorem away_ge {c : Cat} {m S n : Nat} (F : Fine c m S n) (hs : shifts c) (p s : Nat) (hp : p < c.2.2.2.2.length) (hS : s < S) (gone : List Int) (h : ∀ x ∈ nodesL c m ((p : Int), (s : Int)), x ∈ gone) : m ≤ cntN (fun x => decide ((x : Int) ∈ gone)) n := by
  obtain ⟨h1, h2⟩ := nodesL_nodup F hs p s hp hS
  have h3 := cntN_mem h1 (nodesL_in F hs p s hp hS)
  rw [h2] at h3
  rw [← h3]
  exact cntN_mono (fun x _ hx => decide_eq_true (h _ (of_decide_eq_true hx)))
end Go.Hay.Ytnaaaldeadjohaa
