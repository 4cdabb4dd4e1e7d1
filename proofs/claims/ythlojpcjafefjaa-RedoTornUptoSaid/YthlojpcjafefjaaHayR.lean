/- Statements whose order is open, last part: every order ends where the text's order ends. -/
import Derived.Test.YthlojpcjafefjaaHayQ
set_option linter.unusedVariables false
set_option linter.unusedSimpArgs false
namespace Go.Hay
open Go.RowKit
section
variable {P : Program} {B : Bs} {fr : Nat → Option Value} {C : Ctx}

theorem pair_of [Sites] {ops : Array Oper} {bs : Array Nat} (hd : drawOk ops bs = true) {i j : Nat} {x y : Oper} (hx : ops[i]? = some x) (hy : ops[j]? = some y) (hij : i ≠ j) :
    (waits bs i j = true ∨ waits bs j i = true ∨ ((∀ t ∈ tmpsOf ops x, y.dst ≠ some t) ∧ (∀ t ∈ tmpsOf ops y, x.dst ≠ some t))) ∧ (∀ d, x.dst = some d → y.dst ≠ some d) := by
  have key : ∀ {i j : Nat} {x y : Oper}, ops[i]? = some x → ops[j]? = some y → j < i → (waits bs i j = true ∨ waits bs j i = true ∨ ((∀ t ∈ tmpsOf ops x, y.dst ≠ some t) ∧ (∀ t ∈ tmpsOf ops y, x.dst ≠ some t))) ∧ (∀ d, x.dst = some d → y.dst ≠ some d) := by
    intro i j x y hx hy hlt
    have h1 := allBelow_get hd (Array.getElem?_eq_some_iff.1 hx).1
    simp only [Bool.and_eq_true] at h1
    have h2 := allBelow_get h1.2 hlt
    simp only [Bool.and_eq_true] at h2
    have hdst : ∀ (o : Oper) t, isDst o t = false → o.dst ≠ some t := fun o t h e => by simp [isDst, e] at h
    refine ⟨?_, fun d hxd hyd => ?_⟩
    · have h3 := h2.1
      simp only [pairOk, hx, hy, Bool.or_eq_true, Bool.and_eq_true, Bool.not_eq_true'] at h3
      rcases h3 with (h3 | h3) | ⟨h3, h4, _⟩
      · exact .inl h3
      · exact .inr (.inl h3)
      · exact .inr (.inr ⟨fun t ht => hdst y t (by simpa using List.any_eq_false.1 h3 t ht), fun t ht => hdst x t (by simpa using List.any_eq_false.1 h4 t ht)⟩)
    · have h3 := h2.2
      simp only [dstsOk, hx, hy, hxd, Bool.not_eq_true'] at h3
      exact hdst y d h3 hyd
  rcases Nat.lt_or_gt_of_ne hij with h | h
  · obtain ⟨h1, h2⟩ := key hy hx h
    refine ⟨?_, fun d hxd hyd => h2 d hyd hxd⟩
    rcases h1 with h1 | h1 | ⟨h1, h3⟩
    · exact .inr (.inl h1)
    · exact .inl h1
    · exact .inr (.inr ⟨h3, h1⟩)
  · exact key hx hy h

/-- The temporaries along the text. -/
theorem run_env [Sites] {ops : Array Oper} {bs : Array Nat} (hd : drawOk ops bs = true) {S : Nat → St} {V : Nat → AV} {L : Nat → Lg} (hr : ∀ (i : Nat) (o : Oper), ops[i]? = some o → Along C ops i o (S i) (S (i + 1)) (V i) (L i)) :
    ∀ i : Nat, i ≤ ops.size → (∀ (j : Nat) (o : Oper) (k : Nat), j < i → ops[j]? = some o → o.dst = some k → look (S i).env k = some (V j)) ∧ (∀ k : Nat, (∀ (j : Nat) (o : Oper), j < i → ops[j]? = some o → o.dst ≠ some k) → look (S i).env k = look (S 0).env k)
  | 0, _ => ⟨fun j o k hj => by omega, fun k _ => rfl⟩
  | i + 1, hi => by
    obtain ⟨h1, h2⟩ := run_env hd hr i (by omega)
    have hlt : i < ops.size := by omega
    have ho : ops[i]? = some ops[i] := Array.getElem?_eq_getElem hlt
    have hal := hr i _ ho
    refine ⟨fun j o k hj hoj hk => ?_, fun k hk => ?_⟩
    · rw [hal.env]
      by_cases e : j = i
      · subst e
        rw [ho] at hoj
        cases hoj
        rw [if_pos hk]
      · rw [if_neg (fun e2 => (pair_of hd ho hoj (fun e3 => e e3.symm)).2 k e2 hk)]
        exact h1 j o k (by omega) hoj hk
    · rw [hal.env, if_neg (hk i _ (by omega) ho)]
      exact h2 k fun j o hj hoj => hk j o (by omega) hoj

/-- Objects are the same where nobody wrote. -/
theorem run_look [Sites] (hC : C.Ok P) {ops : Array Oper} {S : Nat → St} {V : Nat → AV} {L : Nat → Lg} (hr : ∀ (i : Nat) (o : Oper), ops[i]? = some o → Along C ops i o (S i) (S (i + 1)) (V i) (L i)) (id : Nat) :
    ∀ (d m : Nat), m + d ≤ ops.size → (∀ k, m ≤ k → k < m + d → ∀ ids, L k = .wr ids → id ∉ ids) → look (S (m + d)).obs id = look (S m).obs id
  | 0, m, _, _ => rfl
  | d + 1, m, hle, h => by
    have hlt : m + d < ops.size := by omega
    have hal := hr (m + d) _ (Array.getElem?_eq_getElem hlt)
    have hw := hal.done.wrote hC
    have ih := run_look hC hr id d m (by omega) fun k h1 h2 => h k h1 (by omega)
    rw [← ih, ← Nat.add_assoc]
    cases hl : L (m + d) with
    | rd ids => rw [(hw.2 (by rw [hl]; rfl)).1]
    | wr ids => exact hw.1 ids hl id (h (m + d) (by omega) (by omega) ids hl)
theorem run_same [Sites] (hC : C.Ok P) {ops : Array Oper} {S : Nat → St} {V : Nat → AV} {L : Nat → Lg} (hr : ∀ (i : Nat) (o : Oper), ops[i]? = some o → Along C ops i o (S i) (S (i + 1)) (V i) (L i)) :
    ∀ (d m : Nat), m + d ≤ ops.size → (∀ k, m ≤ k → k < m + d → (L k).isWr = false) → (S (m + d)).obs = (S m).obs ∧ (S (m + d)).nx = (S m).nx
  | 0, m, _, _ => ⟨rfl, rfl⟩
  | d + 1, m, hle, h => by
    have hlt : m + d < ops.size := by omega
    have hal := hr (m + d) _ (Array.getElem?_eq_getElem hlt)
    have hw := hal.done.wrote hC
    have ih := run_same hC hr d m (by omega) fun k h1 h2 => h k h1 (by omega)
    have h1 := hw.2 (h (m + d) (by omega) (by omega))
    rw [← Nat.add_assoc, h1.1, h1.2]
    exact ih

/-- Carried out, though it stands behind something that writes and is not carried out. -/
def Pd (ops : Array Oper) (L : Nat → Lg) (listed : Array Bool) (m i : Nat) : Prop := m ≤ i ∧ i < ops.size ∧ (L i).isWr = true ∧ listed[i]? = some true

/-- What is known when some operations have been carried out. m: what writes is carried out up to here. -/
structure Part (C : Ctx) (ops : Array Oper) (S : Nat → St) (V : Nat → AV) (L : Nat → Lg) (listed : Array Bool) (m : Nat) (s : St) : Prop where
  size : listed.size = ops.size
  envD : ∀ (i : Nat) (o : Oper) (k : Nat), ops[i]? = some o → listed[i]? = some true → ¬ Pd ops L listed m i → o.dst = some k → look s.env k = some (V i)
  env0 : ∀ k : Nat, (∀ (i : Nat) (o : Oper), ops[i]? = some o → listed[i]? = some true → o.dst ≠ some k) → look s.env k = look (S 0).env k
  mle : m ≤ ops.size
  obs : s.obs = (S m).obs
  nx : s.nx = (S m).nx
  low : ∀ i : Nat, i < m → (L i).isWr = true → listed[i]? = some true
  high : ∀ i : Nat, Pd ops L listed m i → isMk C.U ops i = true ∧ Late (Region.before ops) L i
  closed : ∀ i j : Nat, i < ops.size → listed[i]? = some true → waits (Region.before ops) i j = true → listed[j]? = some true
/-- Each that is ahead has, ahead of it, something that writes and is not carried out. -/
def First (ops : Array Oper) (L : Nat → Lg) (listed : Array Bool) (m : Nat) : Prop := ∀ i, Pd ops L listed m i → ∃ j, m ≤ j ∧ j < i ∧ (L j).isWr = true ∧ listed[j]? ≠ some true

/-- A box that is nobody's yet. -/
structure Aside [Sites] (B : Bs) (c : Cf) (s : Obs) (w : World) (U : TEnv) (t : TypeId) (b : Nat) : Prop where
  heap : w.heap[b]? = some (.cells (U t).zero.toArray t (0, 0))
  imm : ¬ c.I b
  own : ∀ id o, look s id = some o → ¬ Own c id o b
  base : B.M b ∨ B.w.heap.size ≤ b

theorem Aside.keep [Sites] {U : TEnv} {c c' : Cf} {s s1 : Obs} {w w' : World} {t : TypeId} {b : Nat} (hA : Aside B c s w U t b) (k : Rel (here B c s w) c' s1 w') : Aside B c' s1 w' U t b := by
  have hlt : b < w.heap.size := (Array.getElem?_eq_some_iff.1 hA.heap).1
  have hM : ¬ (here B c s w).M b := fun ⟨i, o, g1, _, g3⟩ => hA.own i o g1 g3
  have hR : ¬ (here B c s w).R b := fun ⟨i, o, g1, _, g3⟩ => hA.own i o g1 g3
  refine ⟨(k.keep b hlt hM).trans hA.heap, fun hI => ?_, fun id o hl ho => ?_, hA.base⟩
  · rcases k.new b hI with g | g | g
    · exact hA.imm g
    · exact hM g
    · exact absurd hlt (Nat.not_lt.2 g)
  · rcases k.ro id o b hl ho with g | g | g
    · exact hR g
    · exact hM g
    · exact absurd hlt (Nat.not_lt.2 g)

theorem own_nm1 {c c' : Cf} {id b : Nat} {o : Ob} (h : c.nm id = c'.nm id) (ho : Own c id o b) : Own c' id o b := by
  cases o <;> first | (obtain ⟨v, h1, h2⟩ := ho; exact ⟨v, h ▸ h1, h2⟩) | exact ho

/-- A box that was nobody's gets its name. -/
theorem Aside.name [Sites] {U : TEnv} {c : Cf} {s : Obs} {w : World} {t : TypeId} {b : Nat} (hA : Aside B c s w U t b) (hR : Rel B c s w) {id : Nat} (hid : look s id = none) (hbig : isBig t = false) :
    Rel B ⟨fun i => if i = id then some (.pointer (some ⟨b, 0, none⟩)) else c.nm i, c.I⟩ (put s id (.box t (atoms (U t).zero))) w ∧ Ext c w ⟨fun i => if i = id then some (.pointer (some ⟨b, 0, none⟩)) else c.nm i, c.I⟩ w := by
  have hnone := hR.dom id hid
  refine hR.upd id (.box t (atoms (U t).zero)) (fun x => x = b) (fun i v hv => ?_) (fun i hi => by simp [hi]) (fun _ h => h) (fun b hb => .inl hb) (fun _ _ _ => rfl) (fun x hx => ?_) (fun hE => ?_) (fun x hx => ?_) rfl rfl rfl (Nat.le_refl _)
  · by_cases e : i = id
    · subst e; rw [hnone] at hv; cases hv
    · simp [e, hv]
  · subst hx
    exact ⟨fun j oj _ hl => hA.own j oj hl, hA.imm, hA.base⟩
  · exact ⟨b, (U t).zero, by simp, by rw [boxObj_small hbig]; exact hA.heap, vrs_atoms _⟩
  · obtain ⟨v, h1, h2⟩ := hx
    simp at h1
    subst h1
    simp [blockOf] at h2
    exact .inl h2.symm

theorem mkOf_inv {U : TEnv} {o : Oper} {t : TypeId} (h : mkOf U o = some t) : o.guard = none ∧ o.op = .alloc t ∧ ∀ n e, (U t).k ≠ .array n e := by
  unfold mkOf at h
  split at h
  · rename_i t' hg ho
    split at h
    · cases h
    · rename_i hk
      simp only [Option.some.injEq] at h
      subst h
      exact ⟨hg, ho, fun n e hh => hk n e hh⟩
  · cases h
theorem isMk_at {U : TEnv} {ops : Array Oper} {i : Nat} (h : isMk U ops i = true) : ∃ o t, ops[i]? = some o ∧ mkOf U o = some t := by
  unfold isMk at h
  split at h
  · rename_i o ho
    obtain ⟨t, ht⟩ := Option.isSome_iff_exists.1 h
    exact ⟨o, t, ho, ht⟩
  · cases h
theorem isMk_of {U : TEnv} {ops : Array Oper} {i : Nat} {o : Oper} {t : TypeId} (ho : ops[i]? = some o) (ht : mkOf U o = some t) : isMk U ops i = true := by
  unfold isMk
  rw [ho]
  simp [ht]

/-- What an operation that makes a box comes to. -/
theorem mk_inv [Sites] {ops : Array Oper} {o : Oper} {ρ : Operand → Option AV} {s : Obs} {nx : Nat} {v : AV} {s1 : Obs} {n1 : Nat} {lg : Lg} {t : TypeId} (hm : mkOf C.U o = some t) (h : Done C ops o ρ s nx v s1 n1 lg) :
    v = .ptr nx 0 ∧ s1 = put s nx (.box t (atoms (C.U t).zero)) ∧ n1 = nx + 1 ∧ look s nx = none ∧ lg.isWr = true ∧ (C.U t).real = true ∧ isBig t = false := by
  obtain ⟨hg, ho, hk⟩ := mkOf_inv hm
  have hcal : callee ρ o.op = none := by rw [ho]; rfl
  have hyl : yieldee ρ o.op = none := by rw [ho]; rfl
  cases h with
  | run _ _ _ _ _ hd =>
    cases hd with
    | quiet _ hv => rw [ho] at hv; simp [evalV] at hv
    | eff _ _ _ hv he =>
      rw [ho] at he
      simp only [evalE, eAlloc] at he
      split at he
      · rename_i hr
        unfold newBox at he
        split at he
        · rename_i hc
          simp only [Bool.and_eq_true, Bool.not_eq_true'] at hc
          simp only [Option.some.injEq, Prod.mk.injEq] at he
          obtain ⟨rfl, rfl, rfl, _⟩ := he
          exact ⟨rfl, rfl, rfl, isFresh_none hc.1.1, rfl, hr, hc.2⟩
        · cases he
      · cases he
    | call f args K x y _ _ _ W hv he hc => rw [hcal] at hc; cases hc
    | round id args t cs q _ _ _ W hv he hc hy => rw [hyl] at hy; cases hy
  | skip g want t' hgd => rw [hg] at hgd; cases hgd
  | skipu g want t' hgd => rw [hg] at hgd; cases hgd

/-- A block more, nobody's. -/
theorem Rel.grow1 [Sites] {c : Cf} {w : World} {s : Obs} (h : Rel B c s w) (x : Obj) : Rel B c s (w.alloc x) ∧ Ext c w c (w.alloc x) := by
  have hk : ∀ b, b < w.heap.size → (w.alloc x).heap[b]? = w.heap[b]? := fun b hb => Below.heap_alloc w x b hb
  have hE : Ext c w c (w.alloc x) := ⟨fun _ _ h => h, fun _ h => h, fun b hb => hk b (h.lo b hb)⟩
  have hsz : (w.alloc x).heap.size = w.heap.size + 1 := by simp
  refine ⟨⟨fun i o ho => (h.ob i o ho).ext hE fun b hb => hk b ((h.ob i o ho).lt hb), h.dom, h.sep, h.imm, fun b hb => by have := h.lo b hb; omega, fun b hb hM => ?_, h.mine, h.ro, h.sub, h.new, h.os, h.tape, h.output, by have := h.size; omega⟩, hE⟩
  exact (hk b (Nat.lt_of_lt_of_le hb h.size)).trans (h.keep b hb hM)
theorem Marks.grow1 {fl : Nat} {c : Cf} {w : World} {ds : List Deferred} (h : Marks fl c w ds) (x : Obj) : Marks fl c (w.alloc x) ds :=
  ⟨fun d hd => by
    obtain ⟨m, h1, h2, h3, h4⟩ := h.all d hd
    exact ⟨m, h1, (Below.heap_alloc w x m (Array.getElem?_eq_some_iff.1 h2).1).trans h2, h3, h4⟩, h.nodup⟩

/-- An operation that makes a box, carried out wherever it may be: its box is nobody's yet. -/
theorem mk_early [Sites] (hU : C.U.Ok P) {ops : Array Oper} {o : Oper} {t : TypeId} (hm : mkOf C.U o = some t) (hr : (C.U t).real = true) {a : Act} {Q : Exit → Act → World → Prop} {c : Cf} {s : Obs} {w : World} (hR : Rel B c s w) {next : Act → World → Prop}
    (hn : Rel B c s (w.alloc (.cells (C.U t).zero.toArray t)) → Ext c w c (w.alloc (.cells (C.U t).zero.toArray t)) → Aside B c s (w.alloc (.cells (C.U t).zero.toArray t)) C.U t w.heap.size → next (a.put o.dst (.pointer (some ⟨w.heap.size, 0, none⟩))) (w.alloc (.cells (C.U t).zero.toArray t))) :
    (if Region.wanted o (yielded ops a.tmps) then o.wpIn (WF B.rd) 0 P a w next Q else (∀ f, o.about P w a.eval = some f → (WF B.rd).fn f) ∧ next (a.put o.dst undef) w) := by
  obtain ⟨hg, ho, hk⟩ := mkOf_inv hm
  rw [if_pos (wanted_none hg _)]
  refine wpIn_of (fun c e => by rw [ho] at e; cases e) ?_
  obtain ⟨z, hz, hzc⟩ := run_zero_of (w := w) (real_ok hU hr).2.1
  have hrun : (execOp a.eval o).run P w = .ok (.value (.pointer (some ⟨w.heap.size, 0, none⟩))) (w.alloc (.cells z.cells t)) := by
    simp [execOp, ho, Instr.alloc, hz, newVar, Go.newRow, newObj, Sem.run]
  have hcells : z.cells = (C.U t).zero.toArray := by rw [← hzc]
  rw [hcells] at hrun
  rw [hrun]
  obtain ⟨h1, h2⟩ := hR.grow1 (.cells (C.U t).zero.toArray t)
  refine hn h1 h2 ⟨World.alloc_heap_new w _, fun hI => ?_, fun id o' hl hown => ?_, .inr hR.size⟩
  · have := hR.lo _ hI; omega
  · have := (hR.ob id o' hl).lt hown; omega

/-- What is ahead, in the world. -/
structure Pend [Sites] (B : Bs) (c : Cf) (s : Obs) (w : World) (a : Act) (U : TEnv) (ops : Array Oper) (L : Nat → Lg) (listed : Array Bool) (m : Nat) (bl : Nat → Nat) : Prop where
  at_ : ∀ i o t, Pd ops L listed m i → ops[i]? = some o → mkOf U o = some t → Aside B c s w U t (bl i) ∧ ∀ k, o.dst = some k → a.tmps.getD k undef = .pointer (some ⟨bl i, 0, none⟩)
  inj : ∀ i j, Pd ops L listed m i → Pd ops L listed m j → bl i = bl j → i = j

theorem waits_listed [Sites] {ops : Array Oper} {S : Nat → St} {V : Nat → AV} {L : Nat → Lg} {listed : Array Bool} {m : Nat} {s : St} (hp : Part C ops S V L listed m s) (hd : drawOk ops (Region.before ops) = true) {i : Nat} {o : Oper} (ho : ops[i]? = some o)
    (he : ∀ e ∈ o.after.toList, Region.binds .any e = true → listed[e.on]? = some true) {j : Nat} (hw : waits (Region.before ops) i j = true) : listed[j]? = some true := by
  have hi := (Array.getElem?_eq_some_iff.1 ho).1
  have hall := allBelow_get hd hi
  simp only [Bool.and_eq_true] at hall
  obtain ⟨e, h1, h2, h3, h4⟩ := waits_spec ho hall.1 hw
  have hl := he e h1 h2
  rcases h4 with rfl | h4
  · exact hl
  · exact hp.closed e.on j (by omega) hl h4

/-- Boxes get their names as soon as they may. -/
theorem settleB [Sites] (hC : C.Ok P) {ops : Array Oper} (hd : drawOk ops (Region.before ops) = true) {S : Nat → St} {V : Nat → AV} {L : Nat → Lg} (hrun : Run C ops S V L) {listed : Array Bool} {w : World} {a : Act} {bl : Nat → Nat} :
    ∀ (d m : Nat) (s : St) (c : Cf), ops.size - m = d → Part C ops S V L listed m s → Sim B C fr c s w a → Pend B c s.obs w a C.U ops L listed m bl →
      ∃ m' s' c', Part C ops S V L listed m' s' ∧ First ops L listed m' ∧ Sim B C fr c' s' w a ∧ Pend B c' s'.obs w a C.U ops L listed m' bl ∧ Ext c w c' w := by
  intro d
  induction d using Nat.strongRecOn with
  | _ d ih =>
    intro m s c hd' hp hs hq
    by_cases hex : ∃ i, Pd ops L listed m i ∧ ∀ j, m ≤ j → j < i → (L j).isWr = true → listed[j]? = some true
    · -- the first one that is ahead
      have hmin : ∀ n, (∃ i, i ≤ n ∧ Pd ops L listed m i) → ∃ i, Pd ops L listed m i ∧ ∀ j, Pd ops L listed m j → i ≤ j := by
        intro n
        induction n with
        | zero =>
          rintro ⟨i, hi, hpd⟩
          exact ⟨i, hpd, fun j _ => by omega⟩
        | succ n ihn =>
          rintro ⟨i, hi, hpd⟩
          by_cases h : ∃ i, i ≤ n ∧ Pd ops L listed m i
          · exact ihn h
          · refine ⟨i, hpd, fun j hj => ?_⟩
            have h1 : ¬ j ≤ n := fun hjn => h ⟨j, hjn, hj⟩
            omega
      obtain ⟨i', hi', hall'⟩ := hex
      obtain ⟨i, hpd, hleast⟩ := hmin i' ⟨i', Nat.le_refl _, hi'⟩
      have hii := hleast i' hi'
      have hnone : ∀ j, m ≤ j → j < i → (L j).isWr = false := fun j h1 h2 => by
        cases hj : (L j).isWr with
        | false => rfl
        | true =>
          have := hleast j ⟨h1, by have := hpd.2.1; omega, hj, hall' j h1 (by omega) hj⟩
          omega
      obtain ⟨hmk, hlate⟩ := hp.high i hpd
      obtain ⟨o, t, ho, ht⟩ := isMk_at hmk
      have hal := hrun.step i o ho
      have hsame := run_same hC hrun.step (i - m) m (by have := hpd.2.1; have := hpd.1; omega) fun k h1 h2 => hnone k h1 (by omega)
      rw [show m + (i - m) = i by have := hpd.1; omega] at hsame
      obtain ⟨g1, g2, g3, g4, g5, g6, g7⟩ := mk_inv ht hal.done
      obtain ⟨hA, hdst⟩ := hq.at_ i o t hpd ho ht
      have hobs : s.obs = (S i).obs := by rw [hp.obs, hsame.1]
      obtain ⟨k1, k2⟩ := hA.name hs.rel (id := (S i).nx) (by rw [hobs]; exact g4) g7
      rw [hobs, ← g2] at k1
      have hlt := hpd.2.1
      have hmi := hpd.1
      have hpd' : ∀ j, Pd ops L listed (i + 1) j → Pd ops L listed m j := fun j hj => ⟨by have := hj.1; omega, hj.2⟩
      -- behind it
      obtain ⟨m', s', c', q1, q2, q3, q4, q5⟩ := ih (ops.size - (i + 1)) (by omega) (i + 1) ⟨setT s.env o.dst (V i), (S (i + 1)).obs, (S (i + 1)).nx⟩ _ rfl
        ⟨hp.size, fun j oj k hj hl hnp hk => by
          simp only [look_setT]
          by_cases e : j = i
          · subst e; rw [ho] at hj; cases hj; rw [if_pos hk]
          · rw [if_neg fun e2 => (pair_of hd ho hj (fun e3 => e e3.symm)).2 k e2 hk]
            refine hp.envD j oj k hj hl (fun hpj => hnp ?_) hk
            have := hleast j hpj
            exact ⟨by omega, hpj.2⟩,
         fun k hk => by
          simp only [look_setT]
          rw [if_neg (hk i o ho hpd.2.2.2)]
          exact hp.env0 k hk,
         by omega, rfl, rfl, fun j hj hw => by
          rcases Nat.lt_or_ge j m with h1 | h1
          · exact hp.low j h1 hw
          · rcases Nat.lt_or_ge j i with h2 | h2
            · rw [hnone j h1 h2] at hw; cases hw
            · have : j = i := by omega
              subst this; exact hpd.2.2.2,
         fun j hj => hp.high j (hpd' j hj), hp.closed⟩
        ⟨k1, ⟨hs.tmps.size, fun k x hx => by
          simp only [look_setT] at hx
          split at hx
          · rename_i hk
            simp only [Option.some.injEq] at hx
            subst hx
            rw [g1, hdst k hk]
            simp only [VR]
            exact ⟨bl i, by simp, rfl⟩
          · exact VR.ext k2 _ _ (hs.tmps.env k x hx), hs.tmps.frame⟩, ⟨hs.marks.all, hs.marks.nodup⟩, hs.base⟩
        ⟨fun j oj tj hj hoj htj => by
          obtain ⟨hA', hd''⟩ := hq.at_ j oj tj (hpd' j hj) hoj htj
          refine ⟨⟨hA'.heap, hA'.imm, fun id ob hl hown => ?_, hA'.base⟩, hd''⟩
          rw [g2, look_put] at hl
          split at hl
          · rename_i e
            simp only [Option.some.injEq] at hl
            subst hl; subst e
            obtain ⟨v, h1, h2⟩ := hown
            simp at h1
            subst h1
            simp [blockOf] at h2
            have := hq.inj i j hpd (hpd' j hj) h2
            have := hj.1
            omega
          · rename_i e
            rw [← hobs] at hl
            exact hA'.own id ob hl (own_nm1 (c' := c) (by show (if id = (S i).nx then _ else c.nm id) = c.nm id; rw [if_neg (fun h => e h.symm)]) hown),
         fun j j' hj hj' h => hq.inj j j' (hpd' j hj) (hpd' j' hj') h⟩
      exact ⟨m', s', c', q1, q2, q3, q4, k2.trans q5⟩
    · refine ⟨m, s, c, hp, fun i hi => Classical.byContradiction fun hno => hex ⟨i, hi, fun j h1 h2 h3 => Classical.byContradiction fun h4 => hno ⟨j, h1, h2, h3, h4⟩⟩, hs, hq, Ext.refl c w⟩

theorem ready_iff {ops : Array Oper} {listed : Array Bool} (hs : listed.size = ops.size) {i : Nat} (h : i ∈ Region.ready .any ops listed) :
    ∃ o, ops[i]? = some o ∧ listed[i]? = some false ∧ ∀ e ∈ o.after.toList, Region.binds .any e = true → listed[e.on]? = some true := by
  unfold Region.ready at h
  simp only [List.mem_filter, List.mem_range, Bool.and_eq_true, Bool.not_eq_true'] at h
  obtain ⟨h1, h2, h3⟩ := h
  have ho : ops[i]? = some ops[i] := Array.getElem?_eq_getElem h1
  refine ⟨ops[i], ho, ?_, fun e he hb => ?_⟩
  · have hl : listed[i]? = some listed[i] := Array.getElem?_eq_getElem (by omega)
    rw [Array.getD_eq_getD_getElem?, hl] at h2
    rw [hl]
    simpa using h2
  · rw [ho] at h3
    simp only [Option.map_some, Option.getD_some] at h3
    have := Array.all_eq_true'.1 h3 e (Array.mem_toList_iff.1 he)
    simp only [hb, Bool.not_true, Bool.false_or] at this
    rw [Array.getD_eq_getD_getElem?] at this
    cases hh : listed[e.on]? with
    | none => simp [hh] at this
    | some b => simp [hh] at this; rw [this]

/-- One operation that is ready comes to what it comes to in the text's order; or it makes a box, and is ahead. -/
theorem part_step [Sites] (hC : C.Ok P) {ops : Array Oper} (hd : drawOk ops (Region.before ops) = true) {S : Nat → St} {V : Nat → AV} {L : Nat → Lg} (hrun : Run C ops S V L) {listed : Array Bool} {m : Nat} {s : St} (hp : Part C ops S V L listed m s) (hF : First ops L listed m)
    {i : Nat} {o : Oper} (ho : ops[i]? = some o) (hl : listed[i]? = some false) (he : ∀ e ∈ o.after.toList, Region.binds .any e = true → listed[e.on]? = some true) :
    (∃ (s' : St) (m' : Nat), s'.env = setT s.env o.dst (V i) ∧ Done C ops o (evO s.env) s.obs s.nx (V i) s'.obs s'.nx (L i) ∧ Part C ops S V L (listed.setIfInBounds i true) m' s' ∧ ∀ j, Pd ops L (listed.setIfInBounds i true) m' j → Pd ops L listed m j) ∨
    (∃ t, mkOf C.U o = some t ∧ (C.U t).real = true ∧ Part C ops S V L (listed.setIfInBounds i true) m ⟨setT s.env o.dst .junk, s.obs, s.nx⟩ ∧ ∀ j, Pd ops L (listed.setIfInBounds i true) m j → j = i ∨ Pd ops L listed m j) := by
  have hi := (Array.getElem?_eq_some_iff.1 ho).1
  have hal := hrun.step i o ho
  obtain ⟨hE1, hE0⟩ := run_env hd hrun.step i (by omega)
  -- what is ahead is looked at by nobody that is ready
  have hnopd : ∀ k, k < i → Pd ops L listed m k → ((L k).free (L i) = true ∨ isMk C.U ops i = true) ∧ looksAt ops i k = false := by
    intro k hk hpd
    obtain ⟨h1, h2⟩ := hp.high k hpd
    rcases hrun.late i k hi hk h1 h2 with h3 | ⟨h3, h4⟩
    · exact h3
    · obtain ⟨j, g1, g2, g3, g4⟩ := hF k hpd
      exact (g4 (waits_listed hp hd ho he (h4 j g2 g3))).elim
  -- temporaries that are looked at
  have htmp : ∀ t ∈ tmpsOf ops o, look (S i).env t = look s.env t := by
    intro t ht
    by_cases hex : ∃ (k : Nat) (o' : Oper), ops[k]? = some o' ∧ o'.dst = some t
    · obtain ⟨k, o', hk, hkt⟩ := hex
      have huniq : ∀ (k' : Nat) (o'' : Oper), ops[k']? = some o'' → o''.dst = some t → k' = k := fun k' o'' h1 h2 => Classical.byContradiction fun hne => (pair_of hd h1 hk hne).2 t h2 hkt
      have hself : k = i ∨ waits (Region.before ops) i k = true ∨ waits (Region.before ops) k i = true := by
        by_cases e : k = i
        · exact .inl e
        · rcases (pair_of hd ho hk (fun e' => e e'.symm)).1 with h1 | h1 | h1
          · exact .inr (.inl h1)
          · exact .inr (.inr h1)
          · exact (h1.1 t ht hkt).elim
      have hcase : (k < i ∧ listed[k]? = some true) ∨ (i ≤ k ∧ listed[k]? ≠ some true) := by
        rcases hself with rfl | h1 | h1
        · exact .inr ⟨Nat.le_refl _, by rw [hl]; simp⟩
        · exact .inl ⟨waits_lt hd i k h1, waits_listed hp hd ho he h1⟩
        · have := waits_lt hd k i h1
          refine .inr ⟨by omega, fun hlk => ?_⟩
          have := hp.closed k i (Array.getElem?_eq_some_iff.1 hk).1 hlk h1
          rw [hl] at this
          cases this
      rcases hcase with ⟨hlt, hlk⟩ | ⟨hge, hlk⟩
      · have hnp : ¬ Pd ops L listed m k := fun hpd => by
          have h1 := (hnopd k hlt hpd).2
          unfold looksAt at h1
          rw [ho, hk] at h1
          simp only at h1
          have h2 : (tmpsOf ops o).any (isDst o') = true := List.any_eq_true.2 ⟨t, ht, by simp [isDst, hkt]⟩
          rw [h2] at h1
          cases h1
        rw [hE1 k o' t hlt hk hkt, hp.envD k o' t hk hlk hnp hkt]
      · rw [hE0 t fun j oj hj hoj hjt => by have := huniq j oj hoj hjt; omega, hp.env0 t fun j oj hoj hlj hjt => by have := huniq j oj hoj hjt; subst this; exact hlk hlj]
    · have hno : ∀ (k : Nat) (o' : Oper), ops[k]? = some o' → o'.dst ≠ some t := fun k o' h1 h2 => hex ⟨k, o', h1, h2⟩
      rw [hE0 t fun j oj _ hoj => hno j oj hoj, hp.env0 t fun j oj hoj _ => hno j oj hoj]
  have hgt : ∀ t ∈ tmpsOf ops o, evO (S i).env (.tmp t) = evO s.env (.tmp t) := fun t ht => htmp t ht
  have hρ : ∀ x ∈ o.op.operands, evO (S i).env x = evO s.env x := by
    intro x hx
    cases x with
    | tmp t => exact htmp t (by unfold tmpsOf; simp only [List.mem_append, List.mem_filterMap]; exact .inl ⟨.tmp t, Array.mem_toList_iff.2 hx, rfl⟩)
    | const v => rfl
    | func f => rfl
    | global g => rfl
  have hobs := hp.obs
  have hnx := hp.nx
  have hlow := hp.low
  have hm := hp.mle
  have hmkwr : ∀ k, k < ops.size → isMk C.U ops k = true → (L k).isWr = true := by
    intro k hk hmk
    obtain ⟨o', t, h1, h2⟩ := isMk_at hmk
    exact (mk_inv h2 (hrun.step k o' h1).done).2.2.2.2.1
  -- what writes, between what is carried out and what is waited for
  have hgap : ∀ k, m ≤ k → k < i → (L k).isWr = true → waits (Region.before ops) i k = true → Pd ops L listed m k := fun k h1 h2 h3 h4 => ⟨h1, by omega, h3, waits_listed hp hd ho he h4⟩
  -- what reading operations look at
  have hq : ∀ ids, L i = .rd ids → ∀ id ∈ ids, look s.obs id = look (S i).obs id := by
    intro ids hli id hid
    have hnw : isMk C.U ops i ≠ true := fun h => by
      have := hmkwr i hi h
      rw [hli] at this
      cases this
    rw [hobs]
    rcases Nat.le_total m i with hmi | him
    · have := run_look hC hrun.step id (i - m) m (by omega) fun k h1 h2 idsw hk hmem => by
        have hki : k < i := by omega
        have hfree : (L k).free (L i) = true → False := fun hf => by
          rw [hk, hli] at hf
          exact apartL_mem hf hid hmem
        rcases hrun.log i k hi hki with hw | hf | hf
        · exact (hnopd k hki (hgap k h1 hki (by rw [hk]; rfl) hw)).1.elim hfree hnw
        · exact hfree hf
        · exact hnw hf.1
      rw [show m + (i - m) = i by omega] at this
      exact this.symm
    · have := run_look hC hrun.step id (m - i) i (by omega) fun k h1 h2 idsw hk hmem => by
        have hlk := hlow k (by omega) (by rw [hk]; rfl)
        rcases Nat.eq_or_lt_of_le h1 with e | hlt
        · subst e; rw [hli] at hk; cases hk
        · rcases hrun.log k i (by omega) hlt with hw | hf | hf
          · have := hp.closed k i (by omega) hlk hw
            rw [hl] at this
            cases this
          · rw [hk, hli] at hf
            exact apartL_mem hf hid hmem
          · rw [hli] at hf
            exact absurd hf.2 (by simp [Lg.isWr])
      rw [show i + (m - i) = m by omega] at this
      exact this
  have hset : ∀ j : Nat, (listed.setIfInBounds i true)[j]? = some true ↔ (j = i ∨ listed[j]? = some true) := by
    intro j
    rw [Array.getElem?_setIfInBounds]
    by_cases e : i = j
    · subst e; simp [hp.size, hi]
    · simp only [e, if_false]; exact ⟨.inr, fun h => h.resolve_left (fun e' => e e'.symm)⟩
  have hclosed : ∀ j k : Nat, j < ops.size → (listed.setIfInBounds i true)[j]? = some true → waits (Region.before ops) j k = true → (listed.setIfInBounds i true)[k]? = some true := by
    intro j k hj hlj hw
    rcases (hset j).1 hlj with rfl | hlj
    · exact (hset k).2 (.inr (waits_listed hp hd ho he hw))
    · exact (hset k).2 (.inr (hp.closed j k hj hlj hw))
  have henv0 : ∀ (v : AV) (k : Nat), (∀ (j : Nat) (oj : Oper), ops[j]? = some oj → (listed.setIfInBounds i true)[j]? = some true → oj.dst ≠ some k) → look (setT s.env o.dst v) k = look (S 0).env k := by
    intro v k hk
    simp only [look_setT]
    rw [if_neg (hk i o ho ((hset i).2 (.inl rfl)))]
    exact hp.env0 k fun j oj hoj hlj => hk j oj hoj ((hset j).2 (.inr hlj))
  have henvj : ∀ (v : AV) (j : Nat) (oj : Oper) (k : Nat), j ≠ i → ops[j]? = some oj → oj.dst = some k → look (setT s.env o.dst v) k = look s.env k := by
    intro v j oj k e hoj hjk
    simp only [look_setT]
    rw [if_neg fun e2 => (pair_of hd ho hoj (fun e3 => e e3.symm)).2 k e2 hjk]
  -- what writes and is carried out now: nothing that writes stands between
  have hmi : (L i).isWr = true → m ≤ i := fun hwr => Classical.byContradiction fun hlt => by
    have := hlow i (by omega) hwr
    rw [hl] at this
    cases this
  by_cases hearly : (L i).isWr = true ∧ ∃ k, m ≤ k ∧ k < i ∧ (L k).isWr = true
  · -- it is ahead
    obtain ⟨hwr, k, hk1, hk2, hk3⟩ := hearly
    -- one that writes, is no maker's, and is not waited for
    have hno : ∃ k, k < i ∧ (L k).isWr = true ∧ waits (Region.before ops) i k = false := by
      refine Classical.byContradiction fun hn => ?_
      have hall : ∀ k, k < i → (L k).isWr = true → waits (Region.before ops) i k = true := fun k h1 h2 => by
        cases hw : waits (Region.before ops) i k with
        | true => rfl
        | false => exact (hn ⟨k, h1, h2, hw⟩).elim
      have hpd := hgap k hk1 hk2 hk3 (hall k hk2 hk3)
      obtain ⟨j, g1, g2, g3, g4⟩ := hF k hpd
      exact g4 (waits_listed hp hd ho he (hall j (by omega) g3))
    obtain ⟨k', h1, h2, h3⟩ := hno
    have hmk : isMk C.U ops i = true := by
      rcases hrun.log i k' hi h1 with hw | hf | hf
      · rw [h3] at hw; cases hw
      · cases hLk : L k' <;> cases hLi : L i <;> simp [hLk, hLi, Lg.isWr, Lg.free] at h2 hwr hf
      · exact hf.1
    obtain ⟨o', t, g1, g2⟩ := isMk_at hmk
    rw [ho] at g1
    cases g1
    have hinv := mk_inv g2 hal.done
    refine .inr ⟨t, g2, hinv.2.2.2.2.2.1, ⟨by simp [hp.size], fun j oj k hoj hlj hnp hjk => ?_, henv0 _, hm, hobs, hnx, fun j hj hw => (hset j).2 (.inr (hlow j hj hw)), fun j hj => ?_, hclosed⟩, fun j hj => ?_⟩
    · have hji : j ≠ i := fun e => hnp (by subst e; exact ⟨hmi hwr, hi, hwr, hlj⟩)
      show look (setT s.env o.dst .junk) k = _
      rw [henvj _ j oj k hji hoj hjk]
      exact hp.envD j oj k hoj (((hset j).1 hlj).resolve_left hji) (fun hpd => hnp ⟨hpd.1, hpd.2.1, hpd.2.2.1, hlj⟩) hjk
    · by_cases e : j = i
      · subst e; exact ⟨hmk, k', h1, h2, h3⟩
      · exact hp.high j ⟨hj.1, hj.2.1, hj.2.2.1, ((hset j).1 hj.2.2.2).resolve_left e⟩
    · rcases (hset j).1 hj.2.2.2 with e | h
      · exact .inl e
      · exact .inr ⟨hj.1, hj.2.1, hj.2.2.1, h⟩
  · have hew : (L i).isWr = true → s.obs = (S i).obs ∧ s.nx = (S i).nx := by
      intro hwr
      have hmi := hmi hwr
      have hnone : ∀ k, m ≤ k → k < m + (i - m) → (L k).isWr = false := fun k h1 h2 => by
        cases hk : (L k).isWr with
        | false => rfl
        | true => exact (hearly ⟨hwr, k, h1, by omega, hk⟩).elim
      have := run_same hC hrun.step (i - m) m (by omega) hnone
      rw [show m + (i - m) = i by omega] at this
      exact ⟨by rw [hobs, this.1], by rw [hnx, this.2]⟩
    have hmv := hal.done.move (ρ' := evO s.env) (s' := s.obs) (nx' := s.nx) hρ hgt hq hew
    rcases hmv with ⟨hwr, hdone⟩ | ⟨hwr, hdone⟩
    · have hmi := hmi hwr
      have hnone : ∀ k, m ≤ k → k < i → (L k).isWr = false := fun k h1 h2 => by
        cases hk : (L k).isWr with
        | false => rfl
        | true => exact (hearly ⟨hwr, k, h1, h2, hk⟩).elim
      have hpd : ∀ j, Pd ops L (listed.setIfInBounds i true) (i + 1) j → Pd ops L listed m j := fun j hj => by
        have h1 := hj.1
        exact ⟨by omega, hj.2.1, hj.2.2.1, ((hset j).1 hj.2.2.2).resolve_left (by omega)⟩
      refine .inl ⟨⟨setT s.env o.dst (V i), (S (i + 1)).obs, (S (i + 1)).nx⟩, i + 1, rfl, hdone, ⟨by simp [hp.size], fun j oj k hoj hlj hnp hjk => ?_, henv0 _, by omega, rfl, rfl, fun j hj hw => ?_, fun j hj => hp.high j (hpd j hj), hclosed⟩, hpd⟩
      · by_cases e : j = i
        · subst e; rw [ho] at hoj; cases hoj
          show look (setT s.env o.dst (V j)) k = _
          rw [look_setT, if_pos hjk]
        · show look (setT s.env o.dst (V i)) k = _
          rw [henvj _ j oj k e hoj hjk]
          refine hp.envD j oj k hoj (((hset j).1 hlj).resolve_left e) (fun hpj => ?_) hjk
          rcases Nat.lt_or_ge j i with h1 | h1
          · have := hnone j hpj.1 h1
            rw [hpj.2.2.1] at this
            cases this
          · exact hnp ⟨by omega, hpj.2.1, hpj.2.2.1, hlj⟩
      · rcases Nat.lt_or_ge j m with h1 | h1
        · exact (hset j).2 (.inr (hlow j h1 hw))
        · rcases Nat.lt_or_ge j i with h2 | h2
          · rw [hnone j h1 h2] at hw; cases hw
          · have : j = i := by omega
            exact (hset j).2 (.inl this)
    · have hpd : ∀ j, Pd ops L (listed.setIfInBounds i true) m j → Pd ops L listed m j := fun j hj => by
        have hji : j ≠ i := fun e => by
          have := hj.2.2.1
          rw [e, hwr] at this
          cases this
        exact ⟨hj.1, hj.2.1, hj.2.2.1, ((hset j).1 hj.2.2.2).resolve_left hji⟩
      refine .inl ⟨⟨setT s.env o.dst (V i), s.obs, s.nx⟩, m, rfl, hdone, ⟨by simp [hp.size], fun j oj k hoj hlj hnp hjk => ?_, henv0 _, hm, hobs, hnx, fun j hj hw => (hset j).2 (.inr (hlow j hj hw)), fun j hj => hp.high j (hpd j hj), hclosed⟩, hpd⟩
      by_cases e : j = i
      · subst e; rw [ho] at hoj; cases hoj
        show look (setT s.env o.dst (V j)) k = _
        rw [look_setT, if_pos hjk]
      · show look (setT s.env o.dst (V i)) k = _
        rw [henvj _ j oj k e hoj hjk]
        exact hp.envD j oj k hoj (((hset j).1 hlj).resolve_left e) (fun hpj => hnp ⟨hpj.1, hpj.2.1, hpj.2.2.1, hlj⟩) hjk

theorem all_listed [Sites] {ops : Array Oper} (hd : drawOk ops (Region.before ops) = true) {listed : Array Bool} (hs : listed.size = ops.size) (h : Region.ready .any ops listed = []) : ∀ i : Nat, i < ops.size → listed[i]? = some true := by
  intro i
  induction i using Nat.strongRecOn with
  | _ i ih =>
    intro hi
    have ho : ops[i]? = some ops[i] := Array.getElem?_eq_getElem hi
    have hl : listed[i]? = some listed[i] := Array.getElem?_eq_getElem (by omega)
    have hnr : i ∉ Region.ready .any ops listed := by rw [h]; simp
    cases hb : listed[i] with
    | true => rw [hl, hb]
    | false =>
      exfalso
      apply hnr
      unfold Region.ready
      simp only [List.mem_filter, List.mem_range, Bool.and_eq_true, Bool.not_eq_true']
      refine ⟨hi, by rw [Array.getD_eq_getD_getElem?, hl, hb]; rfl, ?_⟩
      rw [ho]
      simp only [Option.map_some, Option.getD_some]
      rw [Array.all_eq_true']
      intro e he
      have hall := allBelow_get hd hi
      simp only [Bool.and_eq_true, edgesOk, ho] at hall
      have := Array.all_eq_true'.1 hall.1 e he
      cases hbd : Region.binds .any e with
      | false => rfl
      | true =>
        simp only [hbd, Bool.not_true, Bool.false_or, Nat.blt_eq] at this
        simp only [Bool.not_true, Bool.false_or]
        rw [Array.getD_eq_getD_getElem?, ih e.on this (by omega)]
        rfl

theorem unlisted_step (listed : Array Bool) {i : Nat} (h : listed[i]? = some false) : (listed.setIfInBounds i true).toList.countP (! ·) + 1 = listed.toList.countP (! ·) := by
  obtain ⟨hi, hv⟩ := Array.getElem?_eq_some_iff.1 h
  have hi' : i < listed.toList.length := by simpa using hi
  have h1 : listed.toList = listed.toList.take i ++ false :: listed.toList.drop (i + 1) := by
    have := List.take_append_drop i listed.toList
    rw [List.drop_eq_getElem_cons hi'] at this
    rw [show listed.toList[i] = false by simpa using hv] at this
    exact this.symm
  have h2 : (listed.setIfInBounds i true).toList = listed.toList.take i ++ true :: listed.toList.drop (i + 1) := by
    rw [Array.toList_setIfInBounds, List.set_eq_take_append_cons_drop, if_pos hi']
  rw [h2]
  conv => rhs; rw [h1]
  simp only [List.countP_append, List.countP_cons]
  simp
  omega

theorem all_true {listed : Array Bool} (h : listed.toList.countP (! ·) = 0) {i : Nat} (hi : i < listed.size) : listed[i]? = some true := by
  rw [List.countP_eq_zero] at h
  have := h listed[i] (by simp)
  rw [Array.getElem?_eq_getElem hi]
  simpa using this

theorem put_getD {a : Act} {d : Option Tmp} {u : Value} {k : Nat} (hk : k < a.tmps.size) : (a.put d u).tmps.getD k undef = if d = some k then u else a.tmps.getD k undef := by
  cases d with
  | none => simp [Act.put]
  | some t =>
    simp only [Act.put, Option.some.injEq]
    rw [Array.getD_eq_getD_getElem?, Array.getD_eq_getD_getElem?, Array.getElem?_setIfInBounds]
    by_cases e : t = k
    · subst e; simp [hk]
    · simp [e]
theorem put_other {a : Act} {d : Option Tmp} {u : Value} {k : Nat} (hk : d ≠ some k) : (a.put d u).tmps.getD k undef = a.tmps.getD k undef := by
  cases d with
  | none => rfl
  | some t =>
    have e : ¬ t = k := fun e => hk (by rw [e])
    simp only [Act.put]
    rw [Array.getD_eq_getD_getElem?, Array.getD_eq_getD_getElem?, Array.getElem?_setIfInBounds]
    simp [e]

theorem draw_any [Sites] (hC : C.Ok P) {ops : Array Oper} {Q : Exit → Act → World → Prop} (hd : drawOk ops (Region.before ops) = true) (hfr : ∀ t, C.may t = true → fr t = none) {S : Nat → St} {V : Nat → AV} {L : Nat → Lg} (hrun : Run C ops S V L) :
    ∀ (fuel : Nat) (listed : Array Bool) (m : Nat) (s : St) (c : Cf) (w : World) (a : Act) (bl : Nat → Nat), listed.toList.countP (! ·) ≤ fuel → Part C ops S V L listed m s → First ops L listed m → Sim B C fr c s w a → Pend B c s.obs w a C.U ops L listed m bl →
      (∀ c' w' a', Sim B C fr c' (S ops.size) w' a' → Ext c w c' w' → Q .normal a' w') → wpAnyIn (WF B.rd) 0 P .any ops Q fuel listed a w := by
  have hend : ∀ (listed : Array Bool) (m : Nat) (s : St) (c : Cf) (w : World) (a : Act), (∀ i : Nat, i < ops.size → listed[i]? = some true) → Part C ops S V L listed m s → First ops L listed m → Sim B C fr c s w a →
      (∀ c' w' a', Sim B C fr c' (S ops.size) w' a' → Ext c w c' w' → Q .normal a' w') → Q .normal a w := by
    intro listed m s c w a hall hp hF hs hK
    obtain ⟨hE1, hE0⟩ := run_env hd hrun.step ops.size (Nat.le_refl _)
    have hnp : ∀ i, ¬ Pd ops L listed m i := fun i hi => by
      obtain ⟨j, g1, g2, g3, g4⟩ := hF i hi
      exact g4 (hall j (by have := hi.2.1; omega))
    have hm := hp.mle
    have hsame := run_same hC hrun.step (ops.size - m) m (by omega) fun k h1 h2 => by
      cases hk : (L k).isWr with
      | false => rfl
      | true => exact (hnp k ⟨h1, by omega, hk, hall k (by omega)⟩).elim
    rw [show m + (ops.size - m) = ops.size by omega] at hsame
    have henv : ∀ k, look (S ops.size).env k = look s.env k := by
      intro k
      by_cases hex : ∃ (j : Nat) (o' : Oper), ops[j]? = some o' ∧ o'.dst = some k
      · obtain ⟨j, o', hj, hjk⟩ := hex
        have hlt := (Array.getElem?_eq_some_iff.1 hj).1
        rw [hE1 j o' k hlt hj hjk, hp.envD j o' k hj (hall j hlt) (hnp j) hjk]
      · rw [hE0 k fun j o' _ hj hjk => hex ⟨j, o', hj, hjk⟩, hp.env0 k fun j o' hj _ hjk => hex ⟨j, o', hj, hjk⟩]
    refine hK c w a ⟨?_, ⟨hs.tmps.size, fun k x hx => hs.tmps.env k x (by rw [← henv]; exact hx), hs.tmps.frame⟩, hs.marks, hs.base⟩ (Ext.refl c w)
    rw [hsame.1, ← hp.obs]
    exact hs.rel
  intro fuel
  induction fuel with
  | zero =>
    intro listed m s c w a bl hf hp hF hs hq hK
    have hall : ∀ i : Nat, i < ops.size → listed[i]? = some true := fun i hi => all_true (by omega) (by rw [hp.size]; exact hi)
    refine ⟨?_, hend listed m s c w a hall hp hF hs hK⟩
    rw [List.eq_nil_iff_forall_not_mem]
    intro i hi
    obtain ⟨o, ho, hl, _⟩ := ready_iff hp.size hi
    rw [hall i (Array.getElem?_eq_some_iff.1 ho).1] at hl
    cases hl
  | succ fuel ih =>
    intro listed m s c w a bl hf hp hF hs hq hK
    refine ⟨fun hnil => hend listed m s c w a (all_listed hd hp.size hnil) hp hF hs hK, fun i hi => ?_⟩
    obtain ⟨o, ho, hl, he⟩ := ready_iff hp.size hi
    have hstep := unlisted_step listed hl
    have hal := hrun.step i o ho
    have hdst : ∀ j oj k, Pd ops L listed m j → ops[j]? = some oj → oj.dst = some k → o.dst ≠ some k := fun j oj k hj hoj hk e => by
      have hne : i ≠ j := fun e' => by
        subst e'
        have := hj.2.2.2
        rw [hl] at this
        cases this
      exact (pair_of hd ho hoj hne).2 k e hk
    unfold wpOpIn
    rw [ho]
    rcases part_step hC hd hrun hp hF ho hl he with ⟨s', m', henv, hdone, hp', hpd⟩ | ⟨t, hmk, hreal, hp', hpd⟩
    · refine hdone.goes (B := here B c s.obs w) hC hs.rel.rebase hs.marks hs.ops fun c' w' u h1 hm1 h2 h3 => ?_
      have hs1 : Sim B C fr c' s' w' (a.put o.dst u) := ⟨hs.rel.trans h1, by rw [henv]; exact (hs.tmps.ext h3).put (mayDst_ok hfr hal.may) h2, by rw [put_defers]; exact hm1, hs.base⟩
      have hq1 : Pend B c' s'.obs w' (a.put o.dst u) C.U ops L (listed.setIfInBounds i true) m' bl := ⟨fun j oj tj hj hoj htj => by
          obtain ⟨g1, g2⟩ := hq.at_ j oj tj (hpd j hj) hoj htj
          exact ⟨g1.keep h1, fun k hk => by rw [put_other (hdst j oj k (hpd j hj) hoj hk)]; exact g2 k hk⟩, fun j j' hj hj' => hq.inj j j' (hpd j hj) (hpd j' hj')⟩
      obtain ⟨m2, s2, c2, q1, q2, q3, q4, q5⟩ := settleB hC hd hrun _ m' s' c' rfl hp' hs1 hq1
      exact ih _ m2 s2 c2 w' _ bl (by omega) q1 q2 q3 q4 fun c3 w3 a3 h4 h5 => hK c3 w3 a3 h4 (h3.trans (q5.trans h5))
    · refine mk_early (B := B) (C := C) (ops := ops) hC.U hmk hreal hs.rel fun h1 h2 hA => ?_
      have hs1 : Sim B C fr c ⟨setT s.env o.dst .junk, s.obs, s.nx⟩ (w.alloc (.cells (C.U t).zero.toArray t)) (a.put o.dst (.pointer (some ⟨w.heap.size, 0, none⟩))) :=
        ⟨h1, (hs.tmps.ext h2).put (mayDst_ok hfr hal.may) (by simp only [VR]), by rw [put_defers]; exact hs.marks.grow1 _, hs.base⟩
      have hnotpd : ¬ Pd ops L listed m i := fun h => by
        have := h.2.2.2
        rw [hl] at this
        cases this
      have hkeep : ∀ b, b < w.heap.size → (w.alloc (.cells (C.U t).zero.toArray t)).heap[b]? = w.heap[b]? := fun b hb => Below.heap_alloc w _ b hb
      have hq1 : Pend B c s.obs (w.alloc (.cells (C.U t).zero.toArray t)) (a.put o.dst (.pointer (some ⟨w.heap.size, 0, none⟩))) C.U ops L (listed.setIfInBounds i true) m (fun j => if j = i then w.heap.size else bl j) := by
        have hsz : ∀ j, Pd ops L listed m j → bl j < w.heap.size := fun j hj => by
          obtain ⟨oj, tj, e1, e2⟩ := isMk_at (hp.high j hj).1
          exact (Array.getElem?_eq_some_iff.1 (hq.at_ j oj tj hj e1 e2).1.heap).1
        refine ⟨fun j oj tj hj hoj htj => ?_, fun j j' hj hj' h => ?_⟩
        · by_cases e : j = i
          · subst e
            rw [ho] at hoj
            cases hoj
            rw [hmk] at htj
            cases htj
            simp only [if_true]
            refine ⟨hA, fun k hk => ?_⟩
            have hkt := mayDst_ok hfr hal.may k hk
            rw [put_getD (by rw [hs.tmps.size]; exact hkt.1), if_pos hk]
          · simp only [if_neg e]
            have hj0 := (hpd j hj).resolve_left e
            obtain ⟨g1, g2⟩ := hq.at_ j oj tj hj0 hoj htj
            refine ⟨⟨(hkeep _ (hsz j hj0)).trans g1.heap, g1.imm, g1.own, g1.base⟩, fun k hk => ?_⟩
            rw [put_other (hdst j oj k hj0 hoj hk)]
            exact g2 k hk
        · by_cases e : j = i <;> by_cases e' : j' = i
          · rw [e, e']
          · simp only [if_pos e, if_neg e'] at h
            have := hsz j' ((hpd j' hj').resolve_left e')
            omega
          · simp only [if_neg e, if_pos e'] at h
            have := hsz j ((hpd j hj).resolve_left e)
            omega
          · simp only [if_neg e, if_neg e'] at h
            exact hq.inj j j' ((hpd j hj).resolve_left e) ((hpd j' hj').resolve_left e') h
      obtain ⟨m2, s2, c2, q1, q2, q3, q4, q5⟩ := settleB hC hd hrun _ m _ c rfl hp' hs1 hq1
      exact ih _ m2 s2 c2 _ _ _ (by omega) q1 q2 q3 q4 fun c3 w3 a3 h4 h5 => hK c3 w3 a3 h4 (h2.trans (q5.trans h5))

/-- A statement whose order is open. -/
theorem evLog_ok [Sites] {Ω : Type} (hC : C.Ok P) (hmix : P.follows .mixedOrders = true) {id : Nat} {ops : Array Oper} {Q : Exit → Act → World → Prop} (hfr : ∀ t, C.may t = true → fr t = none) {K : St → Option Ω} {out : Ω} {s : St} {c : Cf} {w : World} {a : Act}
    (hd : drawOk ops (Region.before ops) = true) (h : evLog C ops (Region.before ops) ops.toList 0 [] s K = some out) (hs : Sim B C fr c s w a)
    (hK : ∀ s1 c' w' a', K s1 = some out → Sim B C fr c' s1 w' a' → Ext c w c' w' → Q .normal a' w') : (Code.region id ops true).wpIn (WF B.rd) 0 P Q a w := by
  obtain ⟨S, V, L, _, h1, h2, h3, h4⟩ := evLog_run (C := C) ops.size 0 (fun _ => .rd []) s (by omega) (Nat.zero_le _) h
  have hrun : Run C ops S V L := ⟨fun i o ho => h3 i o (Nat.zero_le _) ho, fun i j hi hj => (logOk_at (h4 i (Nat.zero_le _) hi) j hj).1, fun i k hi hk => (logOk_at (h4 i (Nat.zero_le _) hi) k hk).2⟩
  refine wpIn_region_any hmix ?_
  have hdr : Sim B C fr c s { w with drawn := w.drawn + 1 } a ∧ Ext c w c { w with drawn := w.drawn + 1 } := by
    have hE : Ext c w c { w with drawn := w.drawn + 1 } := ⟨fun _ _ h => h, fun _ h => h, fun _ _ => rfl⟩
    refine ⟨⟨⟨fun i o ho => (hs.rel.ob i o ho).ext hE fun _ _ => rfl, hs.rel.dom, hs.rel.sep, hs.rel.imm, hs.rel.lo, hs.rel.keep, hs.rel.mine, hs.rel.ro, hs.rel.sub, hs.rel.new, hs.rel.os, hs.rel.tape, hs.rel.output, hs.rel.size⟩, hs.tmps.ext hE, ⟨hs.marks.all, hs.marks.nodup⟩, hs.base⟩, hE⟩
  have hrep : ∀ i : Nat, (Array.replicate ops.size false)[i]? ≠ some true := fun i => by
    rw [Array.getElem?_replicate]
    split <;> simp
  have hnp : ∀ i, ¬ Pd ops L (Array.replicate ops.size false) 0 i := fun i hi => hrep i hi.2.2.2
  refine draw_any hC hd hfr hrun ops.size _ 0 (S 0) c _ a (fun _ => 0) ?_ ?_ (fun i hi => (hnp i hi).elim) (by rw [h1]; exact hdr.1) ⟨fun i o t hi => (hnp i hi).elim, fun i j hi => (hnp i hi).elim⟩ fun c' w' a' h5 h6 => hK _ c' w' a' h2 h5 (hdr.2.trans h6)
  · rw [Array.toList_replicate]
    exact Nat.le_trans List.countP_le_length (by simp)
  · exact ⟨by simp, fun i o k _ hl => (hrep i hl).elim, fun k _ => rfl, Nat.zero_le _, rfl, rfl, fun i hi => by omega, fun i hi => (hnp i hi).elim, fun i j _ hl => (hrep i hl).elim⟩
end
end Go.Hay
