/- What is safe. Conditions: sizes below a bound. -/
import Derived.Test.YtnaaaldeadjohaaLf
set_option linter.unusedVariables false
set_option linter.unusedSimpArgs false
namespace Go.Hay.Ytnaaaldeadjohaa
open Go Go.Hay Go.Proofs

theorem nodup_take {l : List Int} (h : l.Nodup) {i : Nat} (hi : i < l.length) : ¬ l.getD i 0 ∈ l.take i := by
  intro hm
  have h1 : (l.take i ++ l.drop i).Nodup := by rw [List.take_append_drop]; exact h
  obtain ⟨_, _, h2⟩ := List.nodup_append.1 h1
  have h3 : l.getD i 0 ∈ l.drop i := by
    rw [List.getD_eq_getElem?_getD, List.getElem?_eq_getElem hi, List.drop_eq_getElem_cons hi]
    exact List.mem_cons_self ..
  exact h2 _ hm _ h3 rfl
theorem safe00_ok (N : Nat) (c : Cat) (l : List Int) (hn : l.Nodup) (hr : ∀ x ∈ l, 0 ≤ x ∧ x < c.1) (hl : l.length ≤ 1000) (hN : 1000 < N) : law_CatalogSafe_0_0.go N N c.1 c.2.1 c.2.2.1 c.2.2.2.1 c.2.2.2.2 l (l.length : Int) 0 = some (.inr ()) := by
  have h := scan (go := fun fuel i => law_CatalogSafe_0_0.go N fuel c.1 c.2.1 c.2.2.1 c.2.2.2.1 c.2.2.2.2 l (l.length : Int) i) (v := false) (n := l.length) (p := fun _ => false) (N := N) (by omega) (fun fuel => go_n (by omega) rfl) (fun i hi fuel => by
    obtain ⟨a, b⟩ := hr _ (getD_mem hi 0)
    rw [if_neg (by decide)]
    refine go_d (by omega) (go_t (inB_nat hi) ?_)
    rw [Int.toNat_natCast]
    refine go_n (by omega) (go_t (inB_nat hi) (go_n (by omega) (go_t (okB_t (by omega) (by omega) (by omega)) (go_t (inB_nat hi) (go_o (in_ok N (l.take i) (l.getD i 0) (by rw [List.length_take]; omega) (by rw [List.length_take]; omega)) ?_)))))
    exact go_n (nodup_take hn hi) rfl) (by omega)
  rw [anyN_none] at h
  exact h
theorem safe0_ok (N : Nat) (hN : 1000 < N) {c : Cat} {m S n : Nat} (F : Fine c m S n) (hs : shifts c) : law_CatalogSafe_0.go N N c.1 c.2.1 c.2.2.1 c.2.2.2.1 c.2.2.2.2 (segsL c S) ((segsL c S).length : Int) 0 = some (.inr ()) := by
  have hl := segsL_len (c := c) (S := S) F.p8 F.s8
  have fn := F.fn
  have fk := F.fk
  have m8 := F.m8
  have h := scan (go := fun fuel i => law_CatalogSafe_0.go N fuel c.1 c.2.1 c.2.2.1 c.2.2.2.1 c.2.2.2.2 (segsL c S) ((segsL c S).length : Int) i) (v := false) (n := (segsL c S).length) (p := fun _ => false) (N := N) (by omega) (fun fuel => go_n (by omega) rfl) (fun i hi fuel => by
    obtain ⟨p, s, hp, hS, e⟩ := segsL_in (getD_mem hi ((0 : Int), (0 : Int)))
    obtain ⟨d1, d2⟩ := nodesL_nodup F hs p s hp hS
    rw [if_neg (by decide)]
    refine go_d (by omega) (go_t (inB_nat hi) (go_d (by rw [Int.toNat_natCast]; exact hi) ?_))
    rw [Int.toNat_natCast, e]
    have e2 : IntKind.i64.wrap (c.2.2.1 + 1) = (m : Int) := by rw [wrap_i64] <;> omega
    refine go_o (cnodes_ok N (by omega) F p s hp hS) (go_o (safe00_ok N c _ d1 (fun x hx => by rw [fn]; exact nodesL_in F hs p s hp hS x hx) (by omega) hN) ?_)
    exact go_nd (by rw [e2, d2]) rfl) (by omega)
  rw [anyN_none] at h
  exact h
def fGone (gone : List Int) (x : Nat) : Bool := !decide ((x : Int) ∈ gone)
theorem safe1_ok (N : Nat) (gone : List Int) (hg : gone.length ≤ 1000000000) (hgN : gone.length < N) (n : Nat) (hn : n ≤ 8) : ∀ (d i fuel : Nat), n = i + d → d < fuel →
    law_CatalogSafe_1.go N fuel gone ((List.range' 0 i).map (fGone gone) ++ List.replicate d false) ((cntN (fun x => decide ((x : Int) ∈ gone)) i : Nat) : Int) (n : Int) (i : Int) = some ((List.range' 0 n).map (fGone gone), ((cntN (fun x => decide ((x : Int) ∈ gone)) n : Nat) : Int), ())
  | _, _, 0, _, h => absurd h (Nat.not_lt_zero _)
  | 0, i, fuel + 1, e, hf => by
    have : i = n := by omega
    subst this
    rw [List.replicate_zero, List.append_nil]
    exact go_n (by omega) rfl
  | d + 1, i, fuel + 1, e, hf => by
    have hA : ((List.range' 0 i).map (fGone gone)).length = i := by simp
    have hc : cntN (fun x => decide ((x : Int) ∈ gone)) i ≤ i := by
      have : ∀ j, cntN (fun x => decide ((x : Int) ∈ gone)) j ≤ j := by
        intro j
        induction j with
        | zero => exact Nat.le_refl _
        | succ j ih => rw [cntN]; split <;> omega
      exact this i
    have hlen : ((List.range' 0 i).map (fGone gone) ++ List.replicate (d + 1) false).length = n := by simp; omega
    have hset : ((List.range' 0 i).map (fGone gone) ++ List.replicate (d + 1) false).set i (!decide ((i : Int) ∈ gone)) = (List.range' 0 (i + 1)).map (fGone gone) ++ List.replicate d false := by
      rw [List.range'_1_concat, List.map_append, List.replicate_succ, List.set_append_right _ _ (by omega), hA, Nat.sub_self]
      simp [fGone]
    have ih := safe1_ok N gone hg hgN n hn d (i + 1) fuel (by omega) (by omega)
    have hget : ((List.range' 0 (i + 1)).map (fGone gone) ++ List.replicate d false).getD i false = !decide ((i : Int) ∈ gone) := by
      rw [← hset, List.getD_eq_getElem?_getD, List.getElem?_set_self (by omega)]
      rfl
    refine go_d (by omega) (go_o (in_ok N gone (i : Int) (by omega) hgN) (go_t (inB_nat (by omega)) (go_d (by rw [Int.toNat_natCast]; omega) (go_t (inB_nat (by rw [List.length_set]; omega)) (go_d (by rw [Int.toNat_natCast, List.length_set]; omega) ?_)))))
    rw [Int.toNat_natCast, hset, hget, wrap_succ i (by omega)]
    rw [cntN] at ih
    cases hq : decide ((i : Int) ∈ gone) with
    | true =>
      rw [hq, if_pos rfl] at ih
      refine go_t rfl ?_
      rw [wrap_succ _ (by omega)]
      exact ih
    | false =>
      rw [hq, if_neg (by decide), Nat.add_zero] at ih
      exact go_f rfl ih
theorem catalog_safe (k : Nat) (hk : 2000000000 ≤ k) (c : Cat) (gone : List Int) (hg : gone.length ≤ 1000000000) (hs : small 1000000000 c) : law_CatalogSafe.run (k + 20) c gone = some (true, ()) := by
  obtain ⟨v, _, h2, h3⟩ := check_ok k hk c hs
  by_cases hv : v = 0
  · subst hv
    obtain ⟨F, hb, _⟩ := h3 rfl
    have hsh := shifts_of hb
    have fn := F.fn
    have fk := F.fk
    have f8 := F.n8
    have m8 := F.m8
    have h1 := safe1_ok (k + 20) gone hg (by omega) c.1.toNat (by omega) c.1.toNat 0 (k + 20) (by omega) (by omega)
    have er : (List.replicate c.1.toNat false).length = c.1.toNat := List.length_replicate
    rw [← er] at h1
    refine go_o h2 (go_nd rfl (go_o (segments_ok k (by omega) F) (go_f rfl (go_o (safe0_ok (k + 20) (by omega) F hsh) (go_t ?_ (go_o (Eq.trans ?_ h1) (go_o (alive_ok k) (go_t rfl ?_))))))))
    · rw [decide_eq_true (by omega), decide_eq_true (Int.le_refl _), room_t (by omega) (by omega)]
      rfl
    · rw [er]; rfl
    · rw [er]
      by_cases ha : ((cntN (fun x => decide ((x : Int) ∈ gone)) c.1.toNat : Nat) : Int) > c.2.2.1
      · exact go_d ha rfl
      · refine go_n ha (go_o (ccoveredM_ok (k + 20) (by omega) F hsh _) ?_)
        have hz : anyN (fun p => anyN (fun s => deadAt c (c.2.2.1 + 1).toNat ((List.range' 0 c.1.toNat).map (fGone gone)) ((p : Int), (s : Int))) 0 c.2.1.toNat) 0 c.2.2.2.2.length = false := by
          cases hq : anyN (fun p => anyN (fun s => deadAt c (c.2.2.1 + 1).toNat ((List.range' 0 c.1.toNat).map (fGone gone)) ((p : Int), (s : Int))) 0 c.2.1.toNat) 0 c.2.2.2.2.length with
          | false => rfl
          | true =>
            exfalso
            obtain ⟨p, _, hp, hq⟩ := anyN_iff.1 hq
            obtain ⟨s, _, hS, hd⟩ := anyN_iff.1 hq
            have hall : ∀ x ∈ nodesL c (c.2.2.1 + 1).toNat ((p : Int), (s : Int)), x ∈ gone := by
              intro x hx
              obtain ⟨x0, x1⟩ := nodesL_in F hsh p s (by omega) (by omega) x hx
              by_cases hgx : x ∈ gone
              · exact hgx
              · exfalso
                obtain ⟨i, hi, he⟩ := List.mem_iff_getElem.1 hx
                unfold deadAt at hd
                have hl : anyLive ((List.range' 0 c.1.toNat).map (fGone gone)) (nodesL c (c.2.2.1 + 1).toNat ((p : Int), (s : Int))) = true := by
                  refine anyN_iff.2 ⟨i, by omega, by omega, ?_⟩
                  rw [List.getD_eq_getElem?_getD, List.getElem?_eq_getElem hi]
                  show liveAt _ (nodesL c (c.2.2.1 + 1).toNat ((p : Int), (s : Int)))[i] = true
                  rw [he]
                  unfold liveAt
                  rw [decide_eq_true (by simp; omega), Bool.true_and, List.getD_eq_getElem?_getD, List.getElem?_map, List.getElem?_range' (by omega)]
                  show fGone gone (0 + 1 * x.toNat) = true
                  unfold fGone
                  rw [show ((0 + 1 * x.toNat : Nat) : Int) = x by omega, decide_eq_false hgx]
                  rfl
                rw [hl] at hd
                cases hd
            have := away_ge F hsh p s (by omega) (by omega) gone hall
            omega
        show some (!anyN (fun p => anyN (fun s => deadAt c (c.2.2.1 + 1).toNat ((List.range' 0 c.1.toNat).map (fGone gone)) ((p : Int), (s : Int))) 0 c.2.1.toNat) 0 c.2.2.2.2.length, ()) = _
        rw [hz]
        rfl
  · exact go_o h2 (go_nn hv (go_o (alive_ok k) rfl))
end Go.Hay.Ytnaaaldeadjohaa
