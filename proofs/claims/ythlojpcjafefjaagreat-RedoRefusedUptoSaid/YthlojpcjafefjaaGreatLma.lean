/- A disk's calls: what the program's functions come to, and the document's. Conditions: sizes below a bound. -/
import Derived.Test.YthlojpcjafefjaaGreatFb
import Derived.Test.YthlojpcjafefjaaGreatHayDl
set_option linter.unusedVariables false
set_option linter.unusedSimpArgs false
namespace Go.Hay.YthlojpcjafefjaaGreat.Dk
open Go Go.Hay Go.Proofs

section
variable {N : Nat}

theorem new_ok (n : Int) : fA29.run N n = some ((dNew n).t, ()) := rfl
theorem fB92 (c : UInt8) : decide ((c.toNat : Int) < (33 : Int)) = !decide (33 ≤ c.toNat) := by
  by_cases h : 33 ≤ c.toNat
  · rw [decide_eq_true h, decide_eq_false (by omega)]; rfl
  · rw [decide_eq_false h, decide_eq_true (by omega)]; rfl
theorem fA87 (c : UInt8) : decide ((c.toNat : Int) > (126 : Int)) = !decide (c.toNat ≤ 126) := by
  by_cases h : c.toNat ≤ 126
  · rw [decide_eq_true h, decide_eq_false (by omega)]; rfl
  · rw [decide_eq_false h, decide_eq_true (by omega)]; rfl
abbrev okC (c : UInt8) : Bool := decide (33 ≤ c.toNat) && decide (c.toNat ≤ 126)
theorem fD61 (s : List UInt8) : (∀ j < s.length, (!okC (s.getD j 0)) = false) ↔ s.all okC = true := by
  rw [List.all_eq_true]
  constructor
  · intro h x hx
    obtain ⟨j, hj, rfl⟩ := List.mem_iff_getElem.1 hx
    have := h j hj
    rw [getD_get hj] at this
    simpa using this
  · intro h j hj
    rw [getD_get hj, h _ (List.getElem_mem hj)]
    rfl
theorem fA73 {s : List UInt8} {i : Nat} (hi : i < s.length) {β : Type} {x : Option ((Bool × Unit) ⊕ β)} :
    (bif decide (((s.getD (i : Int).toNat (0 : UInt8)).toNat : Int) < (33 : Int)) then some (.inl (false, ())) else bif inB (i : Int) s.length then (bif decide (((s.getD (i : Int).toNat (0 : UInt8)).toNat : Int) > (126 : Int)) then some (.inl (false, ())) else x) else none) =
      if (!okC (s.getD i 0)) = true then some (.inl (false, ())) else x := by
  rw [Int.toNat_natCast, fB92, fA87, inB_nat hi]
  change _ = if (!(decide (33 ≤ (s.getD i 0).toNat) && decide ((s.getD i 0).toNat ≤ 126))) = true then _ else _
  cases decide (33 ≤ (s.getD i 0).toNat) <;> cases decide ((s.getD i 0).toNat ≤ 126) <;> rfl
theorem fD93 (s : List UInt8) (hs : s.length < N) (h2 : s.length ≤ 4611686018427387904) : fA21.run N s = some (nameOk s, ()) := by
  have hk := loop_find (go := fun fuel i => fD28.go N fuel s (s.length : Int) i) (n := s.length) (p := fun i => !okC (s.getD i 0)) (v := fun _ => (false, ())) (e := ()) h2 (fun fuel => go_n (by omega) rfl)
    (fun i hi fuel _ => go_d (by omega) (go_t (inB_nat hi) (fA73 hi))) hs
  unfold fA21.run nameOk
  rcases hk with ⟨j, hj, hp, _, h⟩ | ⟨hp, h⟩
  · rw [h]
    have : s.all okC = false := by
      cases ha : s.all okC with
      | false => rfl
      | true => have := (fD61 s).2 ha j hj; rw [hp] at this; cases this
    rw [show (s.all fun c => decide (33 ≤ c.toNat) && decide (c.toNat ≤ 126)) = false from this]
    rfl
  · rw [h, show (s.all fun c => decide (33 ≤ c.toNat) && decide (c.toNat ≤ 126)) = true from (fD61 s).1 hp]
    cases s with
    | nil => rfl
    | cons c s =>
      show (bif !(decide (c :: s = [])) then some (decide (((c :: s).length : Int) ≤ (32 : Int)), ()) else some (false, ())) = _
      rw [decide_eq_false (by simp), decide_eq_true (show 1 ≤ (c :: s).length by simp)]
      simp only [Bool.not_false, cond_true, Bool.true_and]
      congr 2
      exact decide_eq_decide.2 (by omega)
theorem fD43 (s : List UInt8) (h : s.length ≤ 140737488355328) : fA0.run N s = some (s, ()) := by
  unfold fA0.run
  refine go_p (go_t (room_t (by omega) (by omega)) rfl) fun h0 => ?_
  have := Nat.eq_of_beq_eq_true h0
  rw [List.eq_nil_of_length_eq_zero this]
theorem fC98 (n : Nat) (h : n ≤ 140737488355328) : fA10.run N (n : Int) = some ([], ()) := by
  unfold fA10.run
  rw [show IntKind.i64.wrap ((n : Int) - 0) = (n : Int) by rw [Int.sub_zero]; exact wrap_nat n (by omega)]
  refine go_n (by omega) ?_
  by_cases h0 : n = 0
  · exact go_n (by omega) rfl
  · refine go_d (by omega) (go_t ?_ (go_t (okB_t (by omega) (by omega) (by omega)) (by simp)))
    rw [decide_eq_true (show (0 : Int) ≤ n by omega), Int.toNat_natCast, room_t (by omega) (by omega)]
    rfl
theorem fC90 (a b : List UInt8) (h : a.length + b.length ≤ 140737488355328) (hN : 3 ≤ N) : fB0.run N [a, b] = some (a ++ b, ()) := by
  obtain ⟨M, rfl⟩ : ∃ M, N = M + 3 := ⟨N - 3, by omega⟩
  have w1 : IntKind.i64.wrap ((0 : Int) + (a.length : Int)) = (a.length : Int) := by rw [Int.zero_add]; exact wrap_nat _ (by omega)
  have w2 : IntKind.i64.wrap ((a.length : Int) + (b.length : Int)) = ((a.length + b.length : Nat) : Int) := by rw [wrap_i64 (by omega) (by omega)]; omega
  have e0 : fA3.go (M + 3) (M + 3) 0 [a, b] 2 0 = some (((a.length + b.length : Nat) : Int), ()) := by
    refine go_d (by omega) (go_t (by rfl) (go_d (by first | exact Nat.zero_lt_succ _ | exact Nat.lt_succ_self _) ?_))
    show (bif decide (IntKind.i64.wrap ((0 : Int) + (a.length : Int)) < 0) then _ else fA3.go _ (M + 2) (IntKind.i64.wrap ((0 : Int) + (a.length : Int))) [a, b] 2 1) = _
    rw [w1]
    refine go_n (by omega) (go_d (by omega) (go_t (by rfl) (go_d (by first | exact Nat.zero_lt_succ _ | exact Nat.lt_succ_self _) ?_)))
    show (bif decide (IntKind.i64.wrap ((a.length : Int) + (b.length : Int)) < 0) then _ else fA3.go _ (M + 1) (IntKind.i64.wrap ((a.length : Int) + (b.length : Int))) [a, b] 2 2) = _
    rw [w2]
    exact go_n (by omega) (go_n (by omega) rfl)
  have e1 : fB4.go (M + 3) (M + 3) [] [a, b] 2 0 = some (a ++ b, ()) := by
    refine go_d (by omega) (go_t (by rfl) (go_d (by first | exact Nat.zero_lt_succ _ | exact Nat.lt_succ_self _) (go_t (room_t ?_ ?_) (go_d (by show (1 : Int) < 2; omega) (go_t (by rfl) (go_d (by first | exact Nat.zero_lt_succ _ | exact Nat.lt_succ_self _) (go_t (room_t ?_ ?_) (go_n (by show ¬ (2 : Int) < 2; omega) rfl))))))))
    · show (0 + a.length) * 1 ≤ _; omega
    · show 0 + a.length ≤ _; omega
    · show (a.length + b.length) * 1 ≤ _; omega
    · show a.length + b.length ≤ _; omega
  unfold fB0.run
  exact go_o e0 (go_o (fC98 _ h) (go_o e1 rfl))

theorem lay_ok (d : DD) (name : DNm) (f : DFl) : fA8.run N d.room d.used d.files d.steps d.left d.dead name f = some ((dLay d name f).t, ()) := rfl
theorem fC62 (d : DD) : fB5.run N d.room d.used d.files d.steps d.left d.dead = some ((dStep d).1.t, (dStep d).2, ()) := by
  unfold fB5.run dStep
  cases decide (d.left = -1) <;> cases decide (d.left = 0) <;> rfl
theorem fD51 (d : DD) : fD32.run N d.room d.used d.files d.steps d.left d.dead = some (d.dead, ()) := rfl


theorem fD52 (hN : 8796093022208 ≤ N) (d : DD) (name : DNm) (b : List UInt8) (hn : name.length ≤ 2199023255552) (hl : (dGet d name).1.length + b.length ≤ 140737488355328) :
    fA12.run N d.room d.used d.files d.steps d.left d.dead name b = some ((dAppend d name b).1.t, (dAppend d name b).2, ()) := by
  unfold fA12.run dAppend
  cases hd : d.dead with
  | true => obtain ⟨a1, a2, a3, a4, a5, a6⟩ := d; cases hd; rfl
  | false =>
    refine go_f rfl (go_o (fD93 name (by omega) (by omega)) ?_)
    cases hk : nameOk name with
    | false => obtain ⟨a1, a2, a3, a4, a5, a6⟩ := d; cases hd; rfl
    | true =>
      refine go_f rfl (go_o rfl ?_)
      simp only [Bool.not_true, cond_false]
      by_cases hfull : (b.length : Int) > wr (d.room - d.used)
      · rw [decide_eq_true hfull]
        simp only [cond_true]
        obtain ⟨a1, a2, a3, a4, a5, a6⟩ := d; cases hd; rfl
      · rw [decide_eq_false hfull]
        simp only [cond_false]
        refine go_o (fC90 _ _ hl (by omega)) ?_
        have e : (⟨d.room, d.used, d.files, d.steps, d.left, false⟩ : DD) = d := by obtain ⟨a1, a2, a3, a4, a5, a6⟩ := d; cases hd; rfl
        refine go_o (lay_ok ⟨d.room, d.used, d.files, d.steps, d.left, false⟩ name _) ?_
        rw [e]
        refine go_o (fC62 (dLay d name ((dGet d name).1 ++ b, (dGet d name).2))) ?_
        cases (dStep (dLay d name ((dGet d name).1 ++ b, (dGet d name).2))).2 <;> rfl
theorem fC49 (d : DD) (name : DNm) (hl : (dGet d name).1.length ≤ 140737488355328) : fC0.run N d.room d.used d.files d.steps d.left d.dead name = some ((dGet d name).1, mapHas d.files name, ()) := by
  unfold fC0.run
  exact go_o (fD43 _ hl) rfl

theorem dd_eta (d : DD) {b : Bool} (h : d.dead = b) : (⟨d.room, d.used, d.files, d.steps, d.left, b⟩ : DD) = d := by obtain ⟨a1, a2, a3, a4, a5, a6⟩ := d; cases h; rfl

theorem fC51 (d : DD) (name : DNm) : fA9.run N d.room d.used d.files d.steps d.left d.dead name = some ((dSync d name).1.t, (dSync d name).2, ()) := by
  have key : fB26.run N d.room d.used d.files d.steps d.left d.dead name name = some ((dSync d name).1.t, (dSync d name).2, ()) := by
    unfold fB26.run dSync dDo
    cases hd : d.dead with
    | true => obtain ⟨a1, a2, a3, a4, a5, a6⟩ := d; cases hd; rfl
    | false =>
      cases hh : mapHas d.files name with
      | false => obtain ⟨a1, a2, a3, a4, a5, a6⟩ := d; cases hd; rfl
      | true =>
        refine go_f rfl (go_f rfl (go_o rfl (go_f rfl (go_o (fC62 ⟨d.room, d.used, d.files, d.steps, d.left, false⟩) ?_))))
        rw [dd_eta d hd]
        simp only [Bool.not_true, cond_false, decide_true]
        cases hs : (dStep d).2 <;> rfl
  unfold fA9.run
  exact go_o key rfl
theorem fA91 (d : DD) (name : DNm) : fA20.run N d.room d.used d.files d.steps d.left d.dead name = some ((dRemove d name).1.t, (dRemove d name).2, ()) := by
  have key : fD35.run N d.room d.used d.files d.steps d.left d.dead name name = some ((dRemove d name).1.t, (dRemove d name).2, ()) := by
    unfold fD35.run dRemove dDo
    cases hd : d.dead with
    | true => obtain ⟨a1, a2, a3, a4, a5, a6⟩ := d; cases hd; rfl
    | false =>
      cases hh : mapHas d.files name with
      | false => obtain ⟨a1, a2, a3, a4, a5, a6⟩ := d; cases hd; rfl
      | true =>
        refine go_f rfl (go_f rfl (go_o rfl (go_f rfl (go_o (fC62 ⟨d.room, d.used, d.files, d.steps, d.left, false⟩) ?_))))
        rw [dd_eta d hd]
        simp only [Bool.not_true, cond_false, decide_true]
        cases hs : (dStep d).2 <;> rfl
  unfold fA20.run
  exact go_o key rfl
theorem fD97 (d : DD) (name : DNm) (n : Int) (hl : (dGet d name).1.length ≤ 140737488355328) : fA17.run N d.room d.used d.files d.steps d.left d.dead name n = some ((dTrunc d name n).1.t, (dTrunc d name n).2, ()) := by
  have key : fD26.run N d.room d.used d.files d.steps d.left d.dead name n name = some ((dTrunc d name n).1.t, (dTrunc d name n).2, ()) := by
    unfold fD26.run dTrunc dDo
    cases hd : d.dead with
    | true => obtain ⟨a1, a2, a3, a4, a5, a6⟩ := d; cases hd; rfl
    | false =>
      cases hh : mapHas d.files name with
      | false => obtain ⟨a1, a2, a3, a4, a5, a6⟩ := d; cases hd; rfl
      | true =>
        have hw : fB10.run N (mapGet d.files name f0) n = some (whyT n (mapGet d.files name f0), ()) := by
          unfold fB10.run whyT
          cases decide (n < 0) <;> cases decide (n > ((mapGet d.files name f0).1.length : Int)) <;> rfl
        refine go_f rfl (go_f rfl (go_o hw ?_))
        simp only [Bool.not_true, cond_false]
        show (bif !decide (whyT n (dGet d name) = 0) then _ else _) = _
        by_cases hz : whyT n (dGet d name) = 0
        · rw [decide_eq_true hz]
          refine go_o (fC62 ⟨d.room, d.used, d.files, d.steps, d.left, false⟩) ?_
          rw [dd_eta d hd]
          cases hs : (dStep d).2 with
          | true => rfl
          | false =>
            have hn : 0 ≤ n ∧ n ≤ ((dGet d name).1.length : Int) := by
              unfold whyT at hz
              cases hc : decide (n < 0) || decide (n > ((dGet d name).1.length : Int)) with
              | true => rw [hc] at hz; cases hz
              | false =>
                simp only [Bool.or_eq_false_iff, decide_eq_false_iff_not] at hc
                exact ⟨by omega, by omega⟩
            refine go_f rfl ?_
            unfold fD14.run
            refine go_o (go_t (okB_t (Int.le_refl _) hn.1 hn.2) (go_o (fD43 _ ?_) (go_o (lay_ok (dStep d).1 name _) rfl))) rfl
            rw [List.length_take]
            have : (dGet d name).1.length ≤ 140737488355328 := hl
            exact Nat.le_trans (Nat.min_le_right _ _) this
        · rw [decide_eq_false hz]
          obtain ⟨a1, a2, a3, a4, a5, a6⟩ := d; cases hd; rfl
  unfold fA17.run
  exact go_o key rfl
end
end Go.Hay.YthlojpcjafefjaaGreat.Dk
