/- Statements whose order is open, last part: every order ends where the text's order ends. -/
import Derived.Test.YtfbbfjjmbelfdaaHayQ
set_option linter.unusedVariables false
set_option linter.unusedSimpArgs false
namespace Go.Hay
open Go.RowKit
section
variable {P : Program} {B : Bs} {fr : Nat → Option Value} {C : Ctx}

theorem pair_of [Sites] {ops : Array Oper} {bs : Array Nat} (hd : drawOk ops bs = true) {i j : Nat} {x y : Oper} (hx : ops[i]? = some x) (hy : ops[j]? = some y) (hij : i ≠ j) :
    (waits bs i j = true ∨ waits bs j i = true ∨ ((∀ t ∈ tmpsOf ops x, y.dst ≠ some t) ∧ (∀ t ∈ tmpsOf ops y, x.dst ≠ some t))) ∧ (∀ d, x.dst = some d → y.dst ≠ some d) := by
  have key : ∀ {i j : Nat} {x y : Oper}, ops[i]? = some x → ops[j]? = some y → j < i → (waits bs i j = true ∨ waits bs j i = true ∨ ((∀ t ∈ tmpsOf ops x, y.dst ≠ some t) ∧ (∀ t ∈ tmpsOf ops y, x.dst ≠ some t))) ∧ (∀ d, x.dst = some d → y.dst ≠ some d) := by
    intro i j x y hx hy hlt
    have h1 := allBelow_get hd (Array.getElem?_eq_some_iff.1 hx).1
    simp only [Bool.and_eq_true] at h1
    have h2 := allBelow_get h1.2 hlt
    simp only [Bool.and_eq_true] at h2
    have hdst : ∀ (o : Oper) t, isDst o t = false → o.dst ≠ some t := fun o t h e => by simp [isDst, e] at h
    refine ⟨?_, fun d hxd hyd => ?_⟩
    · have h3 := h2.1
      simp only [pairOk, hx, hy, Bool.or_eq_true, Bool.and_eq_true, Bool.not_eq_true'] at h3
      rcases h3 with (h3 | h3) | ⟨h3, h4, _⟩
      · exact .inl h3
      · exact .inr (.inl h3)
      · exact .inr (.inr ⟨fun t ht => hdst y t (by simpa using List.any_eq_false.1 h3 t ht), fun t ht => hdst x t (by simpa using List.any_eq_false.1 h4 t ht)⟩)
    · have h3 := h2.2
      simp only [dstsOk, hx, hy, hxd, Bool.not_eq_true'] at h3
      exact hdst y d h3 hyd
  rcases Nat.lt_or_gt_of_ne hij with h | h
  · obtain ⟨h1, h2⟩ := key hy hx h
    refine ⟨?_, fun d hxd hyd => h2 d hyd hxd⟩
    rcases h1 with h1 | h1 | ⟨h1, h3⟩
    · exact .inr (.inl h1)
    · exact .inl h1
    · exact .inr (.inr ⟨h3, h1⟩)
  · exact key hx hy h

/-- The temporaries along the text. -/
theorem run_env [Sites] {ops : Array Oper} {bs : Array Nat} (hd : drawOk ops bs = true) {S : Nat → St} {V : Nat → AV} {L : Nat → Lg} (hr : ∀ (i : Nat) (o : Oper), ops[i]? = some o → Along C ops i o (S i) (S (i + 1)) (V i) (L i)) :
    ∀ i : Nat, i ≤ ops.size → (∀ (j : Nat) (o : Oper) (k : Nat), j < i → ops[j]? = some o → o.dst = some k → look (S i).env k = some (V j)) ∧ (∀ k : Nat, (∀ (j : Nat) (o : Oper), j < i → ops[j]? = some o → o.dst ≠ some k) → look (S i).env k = look (S 0).env k)
  | 0, _ => ⟨fun j o k hj => by omega, fun k _ => rfl⟩
  | i + 1, hi => by
    obtain ⟨h1, h2⟩ := run_env hd hr i (by omega)
    have hlt : i < ops.size := by omega
    have ho : ops[i]? = some ops[i] := Array.getElem?_eq_getElem hlt
    have hal := hr i _ ho
    refine ⟨fun j o k hj hoj hk => ?_, fun k hk => ?_⟩
    · rw [hal.env]
      by_cases e : j = i
      · subst e
        rw [ho] at hoj
        cases hoj
        rw [if_pos hk]
      · rw [if_neg (fun e2 => (pair_of hd ho hoj (fun e3 => e e3.symm)).2 k e2 hk)]
        exact h1 j o k (by omega) hoj hk
    · rw [hal.env, if_neg (hk i _ (by omega) ho)]
      exact h2 k fun j o hj hoj => hk j o (by omega) hoj

/-- Objects are the same where nobody wrote. -/
theorem run_look [Sites] (hC : C.Ok P) {ops : Array Oper} {S : Nat → St} {V : Nat → AV} {L : Nat → Lg} (hr : ∀ (i : Nat) (o : Oper), ops[i]? = some o → Along C ops i o (S i) (S (i + 1)) (V i) (L i)) (id : Nat) :
    ∀ (d m : Nat), m + d ≤ ops.size → (∀ k, m ≤ k → k < m + d → ∀ ids, L k = .wr ids → id ∉ ids) → look (S (m + d)).obs id = look (S m).obs id
  | 0, m, _, _ => rfl
  | d + 1, m, hle, h => by
    have hlt : m + d < ops.size := by omega
    have hal := hr (m + d) _ (Array.getElem?_eq_getElem hlt)
    have hw := hal.done.wrote hC
    have ih := run_look hC hr id d m (by omega) fun k h1 h2 => h k h1 (by omega)
    rw [← ih, ← Nat.add_assoc]
    cases hl : L (m + d) with
    | rd ids => rw [(hw.2 (by rw [hl]; rfl)).1]
    | wr ids => exact hw.1 ids hl id (h (m + d) (by omega) (by omega) ids hl)
theorem run_same [Sites] (hC : C.Ok P) {ops : Array Oper} {S : Nat → St} {V : Nat → AV} {L : Nat → Lg} (hr : ∀ (i : Nat) (o : Oper), ops[i]? = some o → Along C ops i o (S i) (S (i + 1)) (V i) (L i)) :
    ∀ (d m : Nat), m + d ≤ ops.size → (∀ k, m ≤ k → k < m + d → (L k).isWr = false) → (S (m + d)).obs = (S m).obs ∧ (S (m + d)).nx = (S m).nx
  | 0, m, _, _ => ⟨rfl, rfl⟩
  | d + 1, m, hle, h => by
    have hlt : m + d < ops.size := by omega
    have hal := hr (m + d) _ (Array.getElem?_eq_getElem hlt)
    have hw := hal.done.wrote hC
    have ih := run_same hC hr d m (by omega) fun k h1 h2 => h k h1 (by omega)
    have h1 := hw.2 (h (m + d) (by omega) (by omega))
    rw [← Nat.add_assoc, h1.1, h1.2]
    exact ih

/-- What is known when some operations have been carried out. -/
structure Part (ops : Array Oper) (S : Nat → St) (V : Nat → AV) (L : Nat → Lg) (listed : Array Bool) (s : St) : Prop where
  size : listed.size = ops.size
  envD : ∀ (i : Nat) (o : Oper) (k : Nat), ops[i]? = some o → listed[i]? = some true → o.dst = some k → look s.env k = some (V i)
  env0 : ∀ k : Nat, (∀ (i : Nat) (o : Oper), ops[i]? = some o → listed[i]? = some true → o.dst ≠ some k) → look s.env k = look (S 0).env k
  obs : ∃ m, m ≤ ops.size ∧ s.obs = (S m).obs ∧ s.nx = (S m).nx ∧ (∀ i : Nat, i < m → (L i).isWr = true → listed[i]? = some true) ∧ (∀ i : Nat, m ≤ i → i < ops.size → (L i).isWr = true → listed[i]? ≠ some true)
  closed : ∀ i j : Nat, i < ops.size → listed[i]? = some true → waits (Region.before ops) i j = true → listed[j]? = some true

theorem ready_iff {ops : Array Oper} {listed : Array Bool} (hs : listed.size = ops.size) {i : Nat} (h : i ∈ Region.ready .any ops listed) :
    ∃ o, ops[i]? = some o ∧ listed[i]? = some false ∧ ∀ e ∈ o.after.toList, Region.binds .any e = true → listed[e.on]? = some true := by
  unfold Region.ready at h
  simp only [List.mem_filter, List.mem_range, Bool.and_eq_true, Bool.not_eq_true'] at h
  obtain ⟨h1, h2, h3⟩ := h
  have ho : ops[i]? = some ops[i] := Array.getElem?_eq_getElem h1
  refine ⟨ops[i], ho, ?_, fun e he hb => ?_⟩
  · have hl : listed[i]? = some listed[i] := Array.getElem?_eq_getElem (by omega)
    rw [Array.getD_eq_getD_getElem?, hl] at h2
    rw [hl]
    simpa using h2
  · rw [ho] at h3
    simp only [Option.map_some, Option.getD_some] at h3
    have := Array.all_eq_true'.1 h3 e (Array.mem_toList_iff.1 he)
    simp only [hb, Bool.not_true, Bool.false_or] at this
    rw [Array.getD_eq_getD_getElem?] at this
    cases hh : listed[e.on]? with
    | none => simp [hh] at this
    | some b => simp [hh] at this; rw [this]

theorem waits_listed [Sites] {ops : Array Oper} {S : Nat → St} {V : Nat → AV} {L : Nat → Lg} {listed : Array Bool} {s : St} (hp : Part ops S V L listed s) (hd : drawOk ops (Region.before ops) = true) {i : Nat} {o : Oper} (ho : ops[i]? = some o)
    (he : ∀ e ∈ o.after.toList, Region.binds .any e = true → listed[e.on]? = some true) {j : Nat} (hw : waits (Region.before ops) i j = true) : listed[j]? = some true := by
  have hi := (Array.getElem?_eq_some_iff.1 ho).1
  have hall := allBelow_get hd hi
  simp only [Bool.and_eq_true] at hall
  obtain ⟨e, h1, h2, h3, h4⟩ := waits_spec ho hall.1 hw
  have hl := he e h1 h2
  rcases h4 with rfl | h4
  · exact hl
  · exact hp.closed e.on j (by omega) hl h4

/-- One operation that is ready comes to what it comes to in the text's order. -/
theorem part_step [Sites] (hC : C.Ok P) {ops : Array Oper} (hd : drawOk ops (Region.before ops) = true) {S : Nat → St} {V : Nat → AV} {L : Nat → Lg} (hrun : Run C ops S V L) {listed : Array Bool} {s : St} (hp : Part ops S V L listed s)
    {i : Nat} {o : Oper} (ho : ops[i]? = some o) (hl : listed[i]? = some false) (he : ∀ e ∈ o.after.toList, Region.binds .any e = true → listed[e.on]? = some true) :
    ∃ s' : St, s'.env = setT s.env o.dst (V i) ∧ Done C ops o (evO s.env) s.obs s.nx (V i) s'.obs s'.nx (L i) ∧ Part ops S V L (listed.setIfInBounds i true) s' := by
  have hi := (Array.getElem?_eq_some_iff.1 ho).1
  have hal := hrun.step i o ho
  obtain ⟨hE1, hE0⟩ := run_env hd hrun.step i (by omega)
  -- temporaries that are looked at
  have htmp : ∀ t ∈ tmpsOf ops o, look (S i).env t = look s.env t := by
    intro t ht
    by_cases hex : ∃ (k : Nat) (o' : Oper), ops[k]? = some o' ∧ o'.dst = some t
    · obtain ⟨k, o', hk, hkt⟩ := hex
      have huniq : ∀ (k' : Nat) (o'' : Oper), ops[k']? = some o'' → o''.dst = some t → k' = k := fun k' o'' h1 h2 => Classical.byContradiction fun hne => (pair_of hd h1 hk hne).2 t h2 hkt
      have hself : k = i ∨ waits (Region.before ops) i k = true ∨ waits (Region.before ops) k i = true := by
        by_cases e : k = i
        · exact .inl e
        · rcases (pair_of hd ho hk (fun e' => e e'.symm)).1 with h1 | h1 | h1
          · exact .inr (.inl h1)
          · exact .inr (.inr h1)
          · exact (h1.1 t ht hkt).elim
      have hcase : (k < i ∧ listed[k]? = some true) ∨ (i ≤ k ∧ listed[k]? ≠ some true) := by
        rcases hself with rfl | h1 | h1
        · exact .inr ⟨Nat.le_refl _, by rw [hl]; simp⟩
        · exact .inl ⟨waits_lt hd i k h1, waits_listed hp hd ho he h1⟩
        · have := waits_lt hd k i h1
          refine .inr ⟨by omega, fun hlk => ?_⟩
          have := hp.closed k i (Array.getElem?_eq_some_iff.1 hk).1 hlk h1
          rw [hl] at this
          cases this
      rcases hcase with ⟨hlt, hlk⟩ | ⟨hge, hlk⟩
      · rw [hE1 k o' t hlt hk hkt, hp.envD k o' t hk hlk hkt]
      · rw [hE0 t fun j oj hj hoj hjt => by have := huniq j oj hoj hjt; omega, hp.env0 t fun j oj hoj hlj hjt => by have := huniq j oj hoj hjt; subst this; exact hlk hlj]
    · have hno : ∀ (k : Nat) (o' : Oper), ops[k]? = some o' → o'.dst ≠ some t := fun k o' h1 h2 => hex ⟨k, o', h1, h2⟩
      rw [hE0 t fun j oj _ hoj => hno j oj hoj, hp.env0 t fun j oj hoj _ => hno j oj hoj]
  have hgt : ∀ t ∈ tmpsOf ops o, evO (S i).env (.tmp t) = evO s.env (.tmp t) := fun t ht => htmp t ht
  have hρ : ∀ x ∈ o.op.operands, evO (S i).env x = evO s.env x := by
    intro x hx
    cases x with
    | tmp t => exact htmp t (by unfold tmpsOf; simp only [List.mem_append, List.mem_filterMap]; exact .inl ⟨.tmp t, Array.mem_toList_iff.2 hx, rfl⟩)
    | const v => rfl
    | func f => rfl
    | global g => rfl
  obtain ⟨m, hm, hobs, hnx, hlow, hhigh⟩ := hp.obs
  -- what reading operations look at
  have hq : ∀ ids, L i = .rd ids → ∀ id ∈ ids, look s.obs id = look (S i).obs id := by
    intro ids hli id hid
    rw [hobs]
    rcases Nat.le_total m i with hmi | him
    · have := run_look hC hrun.step id (i - m) m (by omega) fun k h1 h2 idsw hk hmem => by
        have hki : k < i := by omega
        rcases hrun.log i k hi hki with hw | hf
        · exact hhigh k h1 (by omega) (by rw [hk]; rfl) (waits_listed hp hd ho he hw)
        · rw [hk, hli] at hf
          exact apartL_mem hf hid hmem
      rw [show m + (i - m) = i by omega] at this
      exact this.symm
    · have := run_look hC hrun.step id (m - i) i (by omega) fun k h1 h2 idsw hk hmem => by
        have hlk := hlow k (by omega) (by rw [hk]; rfl)
        rcases Nat.eq_or_lt_of_le h1 with e | hlt
        · subst e; rw [hli] at hk; cases hk
        · rcases hrun.log k i (by omega) hlt with hw | hf
          · have := hp.closed k i (by omega) hlk hw
            rw [hl] at this
            cases this
          · rw [hk, hli] at hf
            exact apartL_mem hf hid hmem
      rw [show i + (m - i) = m by omega] at this
      exact this
  -- writing operations find just what they find in the text's order
  have hew : (L i).isWr = true → m ≤ i ∧ s.obs = (S i).obs ∧ s.nx = (S i).nx := by
    intro hwr
    have hmi : m ≤ i := Classical.byContradiction fun hlt => by
      have := hlow i (by omega) hwr
      rw [hl] at this
      cases this
    have hnone : ∀ k, m ≤ k → k < m + (i - m) → (L k).isWr = false := fun k h1 h2 => by
      cases hk : (L k).isWr with
      | false => rfl
      | true =>
        have hki : k < i := by omega
        rcases hrun.log i k hi hki with hw | hf
        · exact (hhigh k h1 (by omega) hk (waits_listed hp hd ho he hw)).elim
        · cases hLk : L k <;> cases hLi : L i <;> simp [hLk, hLi, Lg.isWr, Lg.free] at hk hwr hf
    have := run_same hC hrun.step (i - m) m (by omega) hnone
    rw [show m + (i - m) = i by omega] at this
    exact ⟨hmi, by rw [hobs, this.1], by rw [hnx, this.2]⟩
  have hmv := hal.done.move (ρ' := evO s.env) (s' := s.obs) (nx' := s.nx) hρ hgt hq (fun h => ⟨(hew h).2.1, (hew h).2.2⟩)
  -- what holds behind it
  have hset : ∀ j : Nat, (listed.setIfInBounds i true)[j]? = some true ↔ (j = i ∨ listed[j]? = some true) := by
    intro j
    rw [Array.getElem?_setIfInBounds]
    by_cases e : i = j
    · subst e; simp [hp.size, hi]
    · simp only [e, if_false]; exact ⟨.inr, fun h => h.resolve_left (fun e' => e e'.symm)⟩
  have hpart : ∀ (ob : Obs) (nx : Nat), (∃ m, m ≤ ops.size ∧ ob = (S m).obs ∧ nx = (S m).nx ∧ (∀ k : Nat, k < m → (L k).isWr = true → (listed.setIfInBounds i true)[k]? = some true) ∧ (∀ k : Nat, m ≤ k → k < ops.size → (L k).isWr = true → (listed.setIfInBounds i true)[k]? ≠ some true)) →
      Part ops S V L (listed.setIfInBounds i true) ⟨setT s.env o.dst (V i), ob, nx⟩ := by
    intro ob nx hob
    refine ⟨by simp [hp.size], fun j oj k hoj hlj hjk => ?_, fun k hk => ?_, hob, fun j k hj hlj hw => ?_⟩
    · simp only [look_setT]
      rcases (hset j).1 hlj with rfl | hlj
      · rw [ho] at hoj; cases hoj; rw [if_pos hjk]
      · by_cases e : j = i
        · subst e; rw [ho] at hoj; cases hoj; rw [if_pos hjk]
        · rw [if_neg fun e2 => (pair_of hd ho hoj (fun e3 => e e3.symm)).2 k e2 hjk]
          exact hp.envD j oj k hoj hlj hjk
    · simp only [look_setT]
      rw [if_neg (hk i o ho ((hset i).2 (.inl rfl)))]
      exact hp.env0 k fun j oj hoj hlj => hk j oj hoj ((hset j).2 (.inr hlj))
    · rcases (hset j).1 hlj with rfl | hlj
      · exact (hset k).2 (.inr (waits_listed hp hd ho he hw))
      · exact (hset k).2 (.inr (hp.closed j k hj hlj hw))
  rcases hmv with ⟨hwr, hdone⟩ | ⟨hwr, hdone⟩
  · obtain ⟨hmi, ho1, ho2⟩ := hew hwr
    refine ⟨⟨setT s.env o.dst (V i), (S (i + 1)).obs, (S (i + 1)).nx⟩, rfl, hdone, hpart _ _ ⟨i + 1, by omega, rfl, rfl, fun k hk hkw => ?_, fun k hk hk2 hkw hlk => ?_⟩⟩
    · rcases Nat.lt_or_eq_of_le (Nat.le_of_lt_succ hk) with hlt | rfl
      · refine (hset k).2 (.inr ?_)
        rcases Nat.lt_or_ge k m with h1 | h1
        · exact hlow k h1 hkw
        · rcases hrun.log i k hi hlt with hw | hf
          · exact waits_listed hp hd ho he hw
          · cases hLk : L k <;> cases hLi : L i <;> simp [hLk, hLi, Lg.isWr, Lg.free] at hkw hwr hf
      · exact (hset k).2 (.inl rfl)
    · rcases (hset k).1 hlk with rfl | hlk
      · omega
      · exact hhigh k (by omega) hk2 hkw hlk
  · refine ⟨⟨setT s.env o.dst (V i), s.obs, s.nx⟩, rfl, hdone, hpart _ _ ⟨m, hm, hobs, hnx, fun k hk hkw => (hset k).2 (.inr (hlow k hk hkw)), fun k hk hk2 hkw hlk => ?_⟩⟩
    rcases (hset k).1 hlk with rfl | hlk
    · rw [hwr] at hkw; cases hkw
    · exact hhigh k hk hk2 hkw hlk

theorem all_listed [Sites] {ops : Array Oper} (hd : drawOk ops (Region.before ops) = true) {listed : Array Bool} (hs : listed.size = ops.size) (h : Region.ready .any ops listed = []) : ∀ i : Nat, i < ops.size → listed[i]? = some true := by
  intro i
  induction i using Nat.strongRecOn with
  | _ i ih =>
    intro hi
    have ho : ops[i]? = some ops[i] := Array.getElem?_eq_getElem hi
    have hl : listed[i]? = some listed[i] := Array.getElem?_eq_getElem (by omega)
    have hnr : i ∉ Region.ready .any ops listed := by rw [h]; simp
    cases hb : listed[i] with
    | true => rw [hl, hb]
    | false =>
      exfalso
      apply hnr
      unfold Region.ready
      simp only [List.mem_filter, List.mem_range, Bool.and_eq_true, Bool.not_eq_true']
      refine ⟨hi, by rw [Array.getD_eq_getD_getElem?, hl, hb]; rfl, ?_⟩
      rw [ho]
      simp only [Option.map_some, Option.getD_some]
      rw [Array.all_eq_true']
      intro e he
      have hall := allBelow_get hd hi
      simp only [Bool.and_eq_true, edgesOk, ho] at hall
      have := Array.all_eq_true'.1 hall.1 e he
      cases hbd : Region.binds .any e with
      | false => rfl
      | true =>
        simp only [hbd, Bool.not_true, Bool.false_or, Nat.blt_eq] at this
        simp only [Bool.not_true, Bool.false_or]
        rw [Array.getD_eq_getD_getElem?, ih e.on this (by omega)]
        rfl

theorem unlisted_step (listed : Array Bool) {i : Nat} (h : listed[i]? = some false) : (listed.setIfInBounds i true).toList.countP (! ·) + 1 = listed.toList.countP (! ·) := by
  obtain ⟨hi, hv⟩ := Array.getElem?_eq_some_iff.1 h
  have hi' : i < listed.toList.length := by simpa using hi
  have h1 : listed.toList = listed.toList.take i ++ false :: listed.toList.drop (i + 1) := by
    have := List.take_append_drop i listed.toList
    rw [List.drop_eq_getElem_cons hi'] at this
    rw [show listed.toList[i] = false by simpa using hv] at this
    exact this.symm
  have h2 : (listed.setIfInBounds i true).toList = listed.toList.take i ++ true :: listed.toList.drop (i + 1) := by
    rw [Array.toList_setIfInBounds, List.set_eq_take_append_cons_drop, if_pos hi']
  rw [h2]
  conv => rhs; rw [h1]
  simp only [List.countP_append, List.countP_cons]
  simp
  omega

theorem all_true {listed : Array Bool} (h : listed.toList.countP (! ·) = 0) {i : Nat} (hi : i < listed.size) : listed[i]? = some true := by
  rw [List.countP_eq_zero] at h
  have := h listed[i] (by simp)
  rw [Array.getElem?_eq_getElem hi]
  simpa using this

theorem draw_any [Sites] (hC : C.Ok P) {ops : Array Oper} {Q : Exit → Act → World → Prop} (hd : drawOk ops (Region.before ops) = true) (hfr : ∀ t, C.may t = true → fr t = none) {S : Nat → St} {V : Nat → AV} {L : Nat → Lg} (hrun : Run C ops S V L) :
    ∀ (fuel : Nat) (listed : Array Bool) (s : St) (c : Cf) (w : World) (a : Act), listed.toList.countP (! ·) ≤ fuel → Part ops S V L listed s → Sim B C fr c s w a →
      (∀ c' w' a', Sim B C fr c' (S ops.size) w' a' → Ext c w c' w' → Q .normal a' w') → wpAnyIn (WF B.rd) 0 P .any ops Q fuel listed a w := by
  have hend : ∀ (listed : Array Bool) (s : St) (c : Cf) (w : World) (a : Act), (∀ i : Nat, i < ops.size → listed[i]? = some true) → Part ops S V L listed s → Sim B C fr c s w a →
      (∀ c' w' a', Sim B C fr c' (S ops.size) w' a' → Ext c w c' w' → Q .normal a' w') → Q .normal a w := by
    intro listed s c w a hall hp hs hK
    obtain ⟨hE1, hE0⟩ := run_env hd hrun.step ops.size (Nat.le_refl _)
    obtain ⟨m, hm, hobs, hnx, hlow, hhigh⟩ := hp.obs
    have hsame := run_same hC hrun.step (ops.size - m) m (by omega) fun k h1 h2 => by
      cases hk : (L k).isWr with
      | false => rfl
      | true => exact (hhigh k h1 (by omega) hk (hall k (by omega))).elim
    rw [show m + (ops.size - m) = ops.size by omega] at hsame
    have henv : ∀ k, look (S ops.size).env k = look s.env k := by
      intro k
      by_cases hex : ∃ (j : Nat) (o' : Oper), ops[j]? = some o' ∧ o'.dst = some k
      · obtain ⟨j, o', hj, hjk⟩ := hex
        have hlt := (Array.getElem?_eq_some_iff.1 hj).1
        rw [hE1 j o' k hlt hj hjk, hp.envD j o' k hj (hall j hlt) hjk]
      · rw [hE0 k fun j o' _ hj hjk => hex ⟨j, o', hj, hjk⟩, hp.env0 k fun j o' hj _ hjk => hex ⟨j, o', hj, hjk⟩]
    refine hK c w a ⟨?_, ⟨hs.tmps.size, fun k x hx => hs.tmps.env k x (by rw [← henv]; exact hx), hs.tmps.frame⟩, hs.marks, hs.base⟩ (Ext.refl c w)
    rw [hsame.1, ← hobs]
    exact hs.rel
  intro fuel
  induction fuel with
  | zero =>
    intro listed s c w a hf hp hs hK
    have hall : ∀ i : Nat, i < ops.size → listed[i]? = some true := fun i hi => all_true (by omega) (by rw [hp.size]; exact hi)
    refine ⟨?_, hend listed s c w a hall hp hs hK⟩
    rw [List.eq_nil_iff_forall_not_mem]
    intro i hi
    obtain ⟨o, ho, hl, _⟩ := ready_iff hp.size hi
    rw [hall i (Array.getElem?_eq_some_iff.1 ho).1] at hl
    cases hl
  | succ fuel ih =>
    intro listed s c w a hf hp hs hK
    refine ⟨fun hnil => hend listed s c w a (all_listed hd hp.size hnil) hp hs hK, fun i hi => ?_⟩
    obtain ⟨o, ho, hl, he⟩ := ready_iff hp.size hi
    obtain ⟨s', henv, hdone, hp'⟩ := part_step hC hd hrun hp ho hl he
    have hstep := unlisted_step listed hl
    have hal := hrun.step i o ho
    unfold wpOpIn
    rw [ho]
    refine hdone.goes hC hs.rel hs.marks hs.ops fun c' w' u h1 hm1 h2 h3 => ?_
    refine ih _ s' c' w' _ (by omega) hp' ⟨h1, ?_, by rw [put_defers]; exact hm1, hs.base⟩ fun c2 w2 a2 h4 h5 => hK c2 w2 a2 h4 (h3.trans h5)
    rw [henv]
    exact (hs.tmps.ext h3).put (mayDst_ok hfr hal.may) h2

/-- A statement whose order is open. -/
theorem evLog_ok [Sites] {Ω : Type} (hC : C.Ok P) (hmix : P.follows .mixedOrders = true) {id : Nat} {ops : Array Oper} {Q : Exit → Act → World → Prop} (hfr : ∀ t, C.may t = true → fr t = none) {K : St → Option Ω} {out : Ω} {s : St} {c : Cf} {w : World} {a : Act}
    (hd : drawOk ops (Region.before ops) = true) (h : evLog C ops (Region.before ops) ops.toList 0 [] s K = some out) (hs : Sim B C fr c s w a)
    (hK : ∀ s1 c' w' a', K s1 = some out → Sim B C fr c' s1 w' a' → Ext c w c' w' → Q .normal a' w') : (Code.region id ops true).wpIn (WF B.rd) 0 P Q a w := by
  obtain ⟨S, V, L, h1, h2, h3, h4, _⟩ := evLog_run (C := C) ops.size 0 [] s (by omega) (Nat.zero_le _) h
  have hrun : Run C ops S V L := ⟨fun i o ho => h3 i o (Nat.zero_le _) ho, fun i j hi hj => h4 i j (Nat.zero_le _) hi hj⟩
  refine wpIn_region_any hmix ?_
  have hdr : Sim B C fr c s { w with drawn := w.drawn + 1 } a ∧ Ext c w c { w with drawn := w.drawn + 1 } := by
    have hE : Ext c w c { w with drawn := w.drawn + 1 } := ⟨fun _ _ h => h, fun _ h => h, fun _ _ => rfl⟩
    refine ⟨⟨⟨fun i o ho => (hs.rel.ob i o ho).ext hE fun _ _ => rfl, hs.rel.dom, hs.rel.sep, hs.rel.imm, hs.rel.lo, hs.rel.keep, hs.rel.mine, hs.rel.ro, hs.rel.sub, hs.rel.new, hs.rel.os, hs.rel.tape, hs.rel.output, hs.rel.size⟩, hs.tmps.ext hE, ⟨hs.marks.all, hs.marks.nodup⟩, hs.base⟩, hE⟩
  refine draw_any hC hd hfr hrun ops.size _ (S 0) c _ a ?_ ?_ (by rw [h1]; exact hdr.1) fun c' w' a' h5 h6 => hK _ c' w' a' h2 h5 (hdr.2.trans h6)
  · rw [Array.toList_replicate]
    exact Nat.le_trans List.countP_le_length (by simp)
  · have hrep : ∀ i : Nat, (Array.replicate ops.size false)[i]? ≠ some true := fun i => by
      rw [Array.getElem?_replicate]
      split <;> simp
    exact ⟨by simp, fun i o k _ hl => (hrep i hl).elim, fun k _ => rfl, ⟨0, Nat.zero_le _, rfl, rfl, fun i hi => by omega, fun i _ _ _ => hrep i⟩, fun i j _ hl => (hrep i hl).elim⟩
end
end Go.Hay
