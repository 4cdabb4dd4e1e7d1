/- Rows that are lent to a function for one call: behind it they are again what they were. Conditions: none. -/
import Derived.Test.YthlojpcjafefjaaHayUn
set_option linter.unusedVariables false
set_option linter.unusedSimpArgs false
namespace Go.Hay
open Go.RowKit

/-- Types whose values hold no slices. -/
def flatTy : Ty → Bool
  | .slice _ => false
  | .pair a b => flatTy a && flatTy b
  | _ => true

mutual
/-- Values that rest on no block that nobody writes. -/
def flatV : AV → Bool
  | .list _ _ => false
  | .eptr _ => false
  | .elist _ _ _ => false
  | .agg cs => flatVs cs
  | .tup cs => flatVs cs
  | .fn _ first cap => flatVs first && flatVs cap
  | _ => true
def flatVs : List AV → Bool
  | [] => true
  | x :: r => flatV x && flatVs r
end

def flatOb : Ob → Bool
  | .box _ cs | .rbox _ cs => flatVs cs
  | .row _ t _ | .rrow _ t _ => flatTy t
  | .frow _ _ => false
  | .dead => true

/-- What does not rest on such blocks; of the rest nothing is known any more. -/
def cutV : AV → AV
  | .tup cs => .tup (cs.map fun x => bif flatV x then x else .junk)
  | x => bif flatV x then x else .junk

def roOb : Ob → Ob
  | .box t cs => .rbox t cs
  | .row e t l => .rrow e t l
  | o => o
def roO (o : Ob) : Ob := bif flatOb o then o else roOb o
def roS (s : Obs) : Obs := s.map fun p => (p.1, roO p.2)

/-- Was a row lent? -/
def lent (s s2 : Obs) (k : Nat) : Bool := match look s k, look s2 k with
  | some (.row _ _ _), some (.frow _ _) => true
  | _, _ => false

def thawO (s s2 : Obs) (W : List Nat) (k : Nat) (o : Ob) : Ob :=
  bif lent s s2 k then (look s k).getD .dead else
  bif memB k W then (bif flatOb o then o else .dead) else (look s k).getD .dead
  where memB (k : Nat) : List Nat → Bool
    | [] => false
    | i :: r => Nat.beq i k || memB k r

def thawS (s s2 : Obs) (W : List Nat) (s3 : Obs) : Obs := s3.map fun p => (p.1, thawO s s2 W p.1 p.2)

/-- Is it a part of a row, or cells, or (where own says so) a row? -/
def lendable (own : Bool) : AV → Bool
  | .view _ _ _ _ => true
  | .agg _ => true
  | .own _ => own
  | _ => false

def lendS (q : Nat) (args : List AV) (s : Obs) : Obs := match args[q]? with
  | some v => roS (frz s v.cells)
  | none => s

/-- A contract whose argument number q is lent. -/
def Con.lend (q : Nat) (own : Bool) (K : Con) : Con where
  X := K.X
  Y := K.Y
  pre args s nx := match args[q]? with
    | some v => bif lendable own v then K.pre args (lendS q args s) nx else none
    | none => none
  fn := K.fn
  post args s nx x y := match K.post args (lendS q args s) nx x y with
    | some (v, s1, n1, W) => some (cutV v, thawS s (lendS q args s) W s1, n1, W)
    | none => none
  spl := K.spl
  spl_ok := K.spl_ok

theorem look_map (f : Nat → Ob → Ob) : ∀ (s : Obs) (k : Nat), look (s.map fun p => (p.1, f p.1 p.2)) k = (look s k).map (f k)
  | [], k => rfl
  | (i, o) :: s, k => by
    simp only [List.map_cons, look]
    cases hb : Nat.beq i k with
    | true =>
      have := Nat.eq_of_beq_eq_true hb
      subst this
      rfl
    | false => exact look_map f s k

theorem thaw_mem {k : Nat} : ∀ {W : List Nat}, thawO.memB k W = true ↔ k ∈ W
  | [] => by simp [thawO.memB]
  | i :: W => by
    simp only [thawO.memB, Bool.or_eq_true, List.mem_cons, thaw_mem (W := W)]
    refine or_congr ⟨fun h => (Nat.eq_of_beq_eq_true h).symm, fun h => by subst h; exact Nat.beq_refl _⟩ Iff.rfl

section
variable {B : Bs} {c c' : Cf} {w w' : World}

theorem flatTy_ok {I I' : Nat → Prop} : ∀ {t : Ty} {x : t.den} {us : List Value}, flatTy t = true → TR I w t x us → TR I' w' t x us
  | .byte, _, _, _, h => h
  | .int _, _, _, _, h => h
  | .bool, _, _, _, h => h
  | .str, _, _, _, h => h
  | .slice _, _, _, h, _ => by cases h
  | .pair a b, x, us, h, ⟨u, v, e, h1, h2⟩ => by
    simp only [flatTy, Bool.and_eq_true] at h
    exact ⟨u, v, e, flatTy_ok h.1 h1, flatTy_ok h.2 h2⟩
  | .unit, _, _, _, h => h

mutual
theorem flatV_ok (hn : ∀ i v, c.nm i = some v → c'.nm i = some v) : ∀ (x : AV) (u : Value), flatV x = true → VR c w x u → VR c' w' x u
  | .int k n, u, _, hx => by unfold VR at hx ⊢; exact hx
  | .bool b, u, _, hx => by unfold VR at hx ⊢; exact hx
  | .str s, u, _, hx => by unfold VR at hx ⊢; exact hx
  | .list t l, u, h, hx => by cases h
  | .nils, u, _, hx => by unfold VR at hx ⊢; exact hx
  | .own id, u, _, hx => by unfold VR at hx ⊢; exact ⟨hn _ _ hx.1, hx.2⟩
  | .view id sz lo n, u, _, hx => by
    unfold VR at hx ⊢
    obtain ⟨A, n0, cap, h1, h2⟩ := hx
    exact ⟨A, n0, cap, hn _ _ h1, h2⟩
  | .ptr id off, u, _, hx => by
    unfold VR at hx ⊢
    obtain ⟨b, h1, h2⟩ := hx
    exact ⟨b, hn _ _ h1, h2⟩
  | .rptr id sz i k, u, _, hx => by
    unfold VR at hx ⊢
    obtain ⟨b, n, cap, h1, h2⟩ := hx
    exact ⟨b, n, cap, hn _ _ h1, h2⟩
  | .aptr id n, u, _, hx => by
    unfold VR at hx ⊢
    obtain ⟨b, h1, h2⟩ := hx
    exact ⟨b, hn _ _ h1, h2⟩
  | .eptr cs, u, h, hx => by cases h
  | .elist sz n cs, u, h, hx => by cases h
  | .nilp, u, _, hx => by unfold VR at hx ⊢; exact hx
  | .agg cs, u, h, hx => by
    unfold VR at hx ⊢
    obtain ⟨us, e, hc⟩ := hx
    exact ⟨us, e, flatVs_ok hn cs us h hc⟩
  | .tup cs, u, h, hx => by
    unfold VR at hx ⊢
    obtain ⟨us, e, hc⟩ := hx
    exact ⟨us, e, flatVs_ok hn cs us h hc⟩
  | .fn f first cap, u, h, hx => by
    unfold VR at hx ⊢
    simp only [flatV, Bool.and_eq_true] at h
    obtain ⟨us, vs, e, h1, h2⟩ := hx
    exact ⟨us, vs, e, flatVs_ok hn first us h.1 h1, flatVs_ok hn cap vs h.2 h2⟩
  | .raw v, u, _, hx => by unfold VR at hx ⊢; exact hx
  | .junk, u, _, hx => by unfold VR; trivial
  | .yld id, u, _, hx => by
    unfold VR at hx ⊢
    obtain ⟨b, h1, h2⟩ := hx
    exact ⟨b, hn _ _ h1, h2⟩
  | .mp id, u, _, hx => by
    unfold VR at hx ⊢
    obtain ⟨b, h1, h2⟩ := hx
    exact ⟨b, hn _ _ h1, h2⟩
theorem flatVs_ok (hn : ∀ i v, c.nm i = some v → c'.nm i = some v) : ∀ (xs : List AV) (us : List Value), flatVs xs = true → VRs c w xs us → VRs c' w' xs us
  | [], us, _, hx => by unfold VRs at hx ⊢; exact hx
  | x :: xs, us, h, hx => by
    unfold VRs at hx ⊢
    simp only [flatVs, Bool.and_eq_true] at h
    obtain ⟨u, us', e, h1, h2⟩ := hx
    exact ⟨u, us', e, flatV_ok hn x u h.1 h1, flatVs_ok hn xs us' h.2 h2⟩
end

theorem cut1_ok (hn : ∀ i v, c.nm i = some v → c'.nm i = some v) {x : AV} {u : Value} (h : VR c w x u) : VR c' w' (bif flatV x then x else .junk) u := by
  cases hb : flatV x with
  | true => exact flatV_ok hn x u hb h
  | false => simp only [cond_false]; unfold VR; trivial
theorem cuts_ok (hn : ∀ i v, c.nm i = some v → c'.nm i = some v) : ∀ {xs : List AV} {us : List Value}, VRs c w xs us → VRs c' w' (xs.map fun x => bif flatV x then x else .junk) us
  | [], us, h => by simp only [VRs, List.map_nil] at h ⊢; exact h
  | x :: xs, us, h => by
    simp only [VRs, List.map_cons] at h ⊢
    obtain ⟨u, us', e, h1, h2⟩ := h
    exact ⟨u, us', e, cut1_ok hn h1, cuts_ok hn h2⟩
theorem cutV_ok (hn : ∀ i v, c.nm i = some v → c'.nm i = some v) {x : AV} {u : Value} (h : VR c w x u) : VR c' w' (cutV x) u := by
  unfold cutV
  split
  · simp only [VR] at h ⊢
    obtain ⟨us, e, hc⟩ := h
    exact ⟨us, e, cuts_ok hn hc⟩
  · exact cut1_ok hn h

theorem flatOb_ok [Sites] (hn : ∀ i v, c.nm i = some v → c'.nm i = some v) {id : Nat} {o : Ob} (hf : flatOb o = true) (h : ObR c w id o) : ObR ⟨c.nm, c'.I⟩ w id o := by
  have hn' : ∀ i v, c.nm i = some v → (⟨c.nm, c'.I⟩ : Cf).nm i = some v := fun _ _ h => h
  cases o with
  | box t cs =>
    obtain ⟨b, us, h1, h2, h3⟩ := h
    exact ⟨b, us, h1, h2, flatVs_ok hn' _ _ hf h3⟩
  | rbox t cs =>
    obtain ⟨b, us, h1, h2, h3⟩ := h
    exact ⟨b, us, h1, h2, flatVs_ok hn' _ _ hf h3⟩
  | row e t l =>
    obtain ⟨v, us, h1, h2, h3⟩ := h
    exact ⟨v, us, h1, h2, Cat.mono (fun x us hx => flatTy_ok hf hx) h3⟩
  | rrow e t l =>
    obtain ⟨v, us, h1, h2, h3⟩ := h
    exact ⟨v, us, h1, h2, Cat.mono (fun x us hx => flatTy_ok hf hx) h3⟩
  | frow t l => cases hf
  | dead => trivial

theorem roO_own {id b : Nat} {o : Ob} : Own c id (roO o) b ↔ Own c id o b := by
  unfold roO
  cases flatOb o with
  | true => exact Iff.rfl
  | false => cases o <;> exact Iff.rfl
theorem roO_obr [Sites] {id : Nat} {o : Ob} : ObR c w id (roO o) ↔ ObR c w id o := by
  unfold roO
  cases flatOb o with
  | true => exact Iff.rfl
  | false => cases o <;> exact Iff.rfl
theorem roO_ro {o : Ob} (h : isRo (roO o) = false) (ho : ∃ id b, Own c id o b) : isRo o = false ∧ flatOb o = true := by
  unfold roO at h
  cases hf : flatOb o with
  | true => rw [hf] at h; exact ⟨h, rfl⟩
  | false =>
    rw [hf] at h
    obtain ⟨id, b, ho⟩ := ho
    cases o <;> first | exact (ho : False).elim | exact (Bool.noConfusion (h : true = false))
theorem roS_look (s : Obs) (k : Nat) : look (roS s) k = (look s k).map roO := look_map (fun _ o => roO o) s k

theorem roS_ok [Sites] {s : Obs} (h : Rel B c s w) : Rel B c (roS s) w where
  ob id o hl := by
    rw [roS_look] at hl
    cases hs : look s id with
    | none => rw [hs] at hl; cases hl
    | some o0 =>
      rw [hs] at hl
      simp only [Option.map_some, Option.some.injEq] at hl
      subst hl
      exact roO_obr.2 (h.ob id o0 hs)
  dom id hl := by
    rw [roS_look] at hl
    cases hs : look s id with
    | none => exact h.dom id hs
    | some o0 => rw [hs] at hl; cases hl
  sep i j oi oj b hi hj h1 h2 := by
    rw [roS_look] at hi hj
    cases hsi : look s i with
    | none => rw [hsi] at hi; cases hi
    | some a =>
      cases hsj : look s j with
      | none => rw [hsj] at hj; cases hj
      | some d =>
        rw [hsi] at hi; rw [hsj] at hj
        simp only [Option.map_some, Option.some.injEq] at hi hj
        subst hi; subst hj
        exact h.sep i j a d b hsi hsj (roO_own.1 h1) (roO_own.1 h2)
  imm id o b hl ho := by
    rw [roS_look] at hl
    cases hs : look s id with
    | none => rw [hs] at hl; cases hl
    | some o0 =>
      rw [hs] at hl
      simp only [Option.map_some, Option.some.injEq] at hl
      subst hl
      exact h.imm id o0 b hs (roO_own.1 ho)
  lo := h.lo
  keep := h.keep
  mine id o b hl hr ho := by
    rw [roS_look] at hl
    cases hs : look s id with
    | none => rw [hs] at hl; cases hl
    | some o0 =>
      rw [hs] at hl
      simp only [Option.map_some, Option.some.injEq] at hl
      subst hl
      have ho' := roO_own.1 ho
      exact h.mine id o0 b hs (roO_ro (c := c) hr ⟨id, b, ho'⟩).1 ho'
  ro id o b hl ho := by
    rw [roS_look] at hl
    cases hs : look s id with
    | none => rw [hs] at hl; cases hl
    | some o0 =>
      rw [hs] at hl
      simp only [Option.map_some, Option.some.injEq] at hl
      subst hl
      exact h.ro id o0 b hs (roO_own.1 ho)
  sub := h.sub
  new := h.new
  os := h.os
  tape := h.tape
  output := h.output
  size := h.size

/-- What is lent is a row, and its block is not written. -/
structure Lent [Sites] (B : Bs) (c c2 : Cf) (s s2 : Obs) (w : World) : Prop where
  rel : Rel B c2 s2 w
  nm : c2.nm = c.nm
  sub : ∀ b, c.I b → c2.I b
  dom : ∀ k, look s2 k = none → look s k = none
  each : ∀ k o2, look s2 k = some o2 → ∃ o, look s k = some o ∧ (lent s s2 k = true ∧ (∃ e t l, o = .row e t l) ∧ (∀ b, Own c k o b → c2.I b) ∨ lent s s2 k = false ∧ o2 = roO o)

theorem frz1_cases (s : Obs) (x : AV) (k : Nat) : look (frz1 s x) k = look s k ∨ ∃ e t l, look s k = some (.row e t l) ∧ look (frz1 s x) k = some (.frow t l) := by
  have h : ∀ id, look (match lookR s id with | some (.row _ t l) => put s id (.frow t l) | _ => s) k = look s k ∨ ∃ e t l, look s k = some (.row e t l) ∧ look (match lookR s id with | some (.row _ t l) => put s id (.frow t l) | _ => s) k = some (.frow t l) := by
    intro id
    split
    · rename_i hl
      by_cases e : id = k
      · subst e
        exact .inr ⟨_, _, _, (lookR_row hl).1, by rw [look_put, if_pos rfl]⟩
      · exact .inl (by rw [look_put, if_neg e])
    · exact .inl rfl
  unfold frz1
  split
  · exact h _
  · exact h _
  · exact .inl rfl

theorem frz_cases [Sites] : ∀ (xs : List AV) (s : Obs) (k : Nat), look (frz s xs) k = look s k ∨ ∃ e t l, look s k = some (.row e t l) ∧ look (frz s xs) k = some (.frow t l)
  | [], s, k => .inl rfl
  | x :: xs, s, k => by
    rcases frz_cases xs (frz1 s x) k with h | ⟨e, t, l, h, h'⟩
    · rcases frz1_cases s x k with g | ⟨e, t, l, g, g'⟩
      · exact .inl (by simp only [frz]; rw [h, g])
      · exact .inr ⟨e, t, l, g, by simp only [frz]; rw [h, g']⟩
    · rcases frz1_cases s x k with g | ⟨e', t', l', g, g'⟩
      · exact .inr ⟨e, t, l, by rw [← g]; exact h, h'⟩
      · rw [g'] at h; cases h

/-- Whose rows are frozen: their blocks are not written. -/
theorem frz1_ok3 [Sites] {s : Obs} (h : Rel B c s w) (x : AV) : ∃ I', Rel B ⟨c.nm, I'⟩ (frz1 s x) w ∧ Ext c w ⟨c.nm, I'⟩ w ∧
    ∀ k e t l t' l', look s k = some (.row e t l) → look (frz1 s x) k = some (.frow t' l') → ∀ b, Own c k (.row e t l) b → I' b := by
  have hself : ∃ I', Rel B ⟨c.nm, I'⟩ s w ∧ Ext c w ⟨c.nm, I'⟩ w ∧ ∀ k e t l t' l', look s k = some (.row e t l) → look s k = some (.frow t' l') → ∀ b, Own c k (.row e t l) b → I' b :=
    ⟨c.I, h, Ext.refl c w, fun k e t l t' l' h1 h2 => by rw [h1] at h2; cases h2⟩
  have hrow : ∀ {id : Nat} {el : TypeId} {t : Ty} {l : List t.den}, lookR s id = some (.row el t l) → ∃ I', Rel B ⟨c.nm, I'⟩ (put s id (.frow t l)) w ∧ Ext c w ⟨c.nm, I'⟩ w ∧
      ∀ k e t1 l1 t' l', look s k = some (.row e t1 l1) → look (put s id (.frow t l)) k = some (.frow t' l') → ∀ b, Own c k (.row e t1 l1) b → I' b := fun {id el t l} hl =>
    ⟨_, (frz_row2 h (lookR_row hl).1 (lookR_row hl).2).1, (frz_row2 h (lookR_row hl).1 (lookR_row hl).2).2, fun k e t1 l1 t' l' h1 h2 b hb => by
      by_cases e0 : id = k
      · subst e0; exact .inr hb
      · rw [look_put, if_neg e0, h1] at h2; cases h2⟩
  unfold frz1
  split
  · split
    · rename_i hl; exact hrow hl
    · exact hself
  · split
    · rename_i hl; exact hrow hl
    · exact hself
  · exact hself

theorem frz_ok3 [Sites] : ∀ (xs : List AV) {c : Cf} {s : Obs}, Rel B c s w → ∃ I', Rel B ⟨c.nm, I'⟩ (frz s xs) w ∧ Ext c w ⟨c.nm, I'⟩ w ∧
    ∀ k e t l t' l', look s k = some (.row e t l) → look (frz s xs) k = some (.frow t' l') → ∀ b, Own c k (.row e t l) b → I' b
  | [], c, s, h => ⟨c.I, h, Ext.refl c w, fun k e t l t' l' h1 h2 => by simp only [frz] at h2; rw [h1] at h2; cases h2⟩
  | x :: xs, c, s, h => by
    obtain ⟨I1, h1, h2, h0⟩ := frz1_ok3 h x
    obtain ⟨I2, h3, h4, h5⟩ := frz_ok3 xs h1
    refine ⟨I2, h3, h2.trans h4, fun k e t l t' l' g1 g2 b hb => ?_⟩
    rcases frz1_cases s x k with g | ⟨e', t1, l1, g, g'⟩
    · exact h5 k e t l t' l' (by rw [g]; exact g1) g2 b hb
    · exact h4.lasts.sub b (h0 k e t l t1 l1 g1 g' b hb)

theorem lend_ok [Sites] {s : Obs} (h : Rel B c s w) (cs : List AV) : ∃ c2, Lent B c c2 s (roS (frz s cs)) w := by
  obtain ⟨I', h1, h2, h3⟩ := frz_ok3 cs h
  refine ⟨⟨c.nm, I'⟩, roS_ok h1, rfl, h2.lasts.sub, fun k hk => ?_, fun k o2 hk => ?_⟩
  · rw [roS_look] at hk
    cases hs : look (frz s cs) k with
    | none => exact frz_dom hs
    | some o => rw [hs] at hk; cases hk
  · have hk0 := hk
    rw [roS_look] at hk
    rcases frz_cases cs s k with g | ⟨e, t, l, g, g'⟩
    · rw [g] at hk
      cases hs : look s k with
      | none => rw [hs] at hk; cases hk
      | some o =>
        rw [hs] at hk
        simp only [Option.map_some, Option.some.injEq] at hk
        refine ⟨o, rfl, .inr ⟨?_, hk.symm⟩⟩
        unfold lent
        rw [hs, hk0, ← hk]
        unfold roO
        cases o with
        | row e t l => cases flatOb (.row e t l) <;> rfl
        | _ => rfl
    · refine ⟨_, g, .inl ⟨?_, ⟨e, t, l, rfl⟩, fun b hb => h3 k e t l t l g g' b hb⟩⟩
      unfold lent
      rw [g, roS_look, g']
      rfl

theorem not_lent {s s2 : Obs} {W : List Nat} {k : Nat} {o : Ob} (h : lent s s2 k = false) :
    k ∈ W ∧ flatOb o = true ∧ thawO s s2 W k o = o ∨ thawO s s2 W k o = .dead ∨ k ∉ W ∧ thawO s s2 W k o = (look s k).getD .dead := by
  unfold thawO
  rw [h, cond_false]
  cases hm : thawO.memB k W with
  | true =>
    cases hf : flatOb o with
    | true => exact .inl ⟨thaw_mem.1 hm, rfl, rfl⟩
    | false => exact .inr (.inl rfl)
  | false => exact .inr (.inr ⟨fun h => (by rw [thaw_mem.2 h] at hm; cases hm), rfl⟩)

theorem Own.iff {c c' : Cf} {id b : Nat} {o : Ob} (h : c'.nm = c.nm) : Own c' id o b ↔ Own c id o b := by
  cases o <;> simp only [Own, h]

/-- Whence an object comes that is there when what was lent is given back: 'o' stood there before and nobody wrote its block; or it is one of those behind the call. -/
inductive Whence [Sites] (c c2 : Cf) (s s2 s3 : Obs) (w : World) (id : Nat) (o : Ob) : Prop where
  | lent (h : look s id = some o) (hl : lent s s2 id = true) (hr : ∃ e t l, o = .row e t l) (hI : ∀ b, Own c id o b → c2.I b)
  | kept (h : look s id = some o) (h3 : look s3 id = some (roO o)) (h2 : look s2 id = some (roO o)) (hf : flatOb o = false)
  | flat (h3 : look s3 id = some o) (hf : flatOb o = true)
  | dead (h : o = .dead)

theorem whence [Sites] {s s2 s3 : Obs} {c2 : Cf} {W : List Nat} (hL : Lent B c c2 s s2 w) (hW : ∀ i, i ∉ W → look s3 i = look s2 i) {id : Nat} {o : Ob} (h : look (thawS s s2 W s3) id = some o) : Whence c c2 s s2 s3 w id o := by
  rw [show look (thawS s s2 W s3) id = (look s3 id).map (thawO s s2 W id) from look_map (thawO s s2 W) s3 id] at h
  cases h3 : look s3 id with
  | none => rw [h3] at h; cases h
  | some o3 =>
    rw [h3] at h
    simp only [Option.map_some, Option.some.injEq] at h
    cases hl : lent s s2 id with
    | true =>
      unfold thawO at h
      rw [hl, cond_true] at h
      have hl' := hl
      unfold lent at hl
      split at hl
      · rename_i g1 g2
        obtain ⟨o0, k1, k2⟩ := hL.each id _ g2
        rw [g1] at k1 h
        cases k1
        simp only [Option.getD_some] at h
        subst h
        rcases k2 with ⟨_, k3, k4⟩ | ⟨k3, _⟩
        · exact .lent g1 hl' k3 k4
        · rw [hl'] at k3; cases k3
      · cases hl
    | false =>
      rcases not_lent (W := W) (o := o3) hl with ⟨_, hf, e⟩ | e | ⟨hn, e⟩
      · rw [e] at h; subst h; exact .flat h3 hf
      · rw [e] at h; subst h; exact .dead rfl
      · rw [e] at h
        have h2 := hW id hn
        rw [h3] at h2
        obtain ⟨o0, k1, k2⟩ := hL.each id o3 h2.symm
        rcases k2 with ⟨k3, _⟩ | ⟨_, k3⟩
        · rw [hl] at k3; cases k3
        · rw [k1] at h
          simp only [Option.getD_some] at h
          subst h
          subst k3
          cases hf : flatOb o0 with
          | true => exact .flat (by rw [h3]; simp [roO, hf]) hf
          | false => exact .kept k1 h3 h2.symm hf

/-- What was lent is given back. -/
theorem thaw_ok [Sites] {s s2 s3 : Obs} {c2 c3 : Cf} {W : List Nat} (h : Rel B c s w) (hL : Lent B c c2 s s2 w) (hW : ∀ i, i ∉ W → look s3 i = look s2 i)
    (k : Rel (here B c2 s2 w) c3 s3 w') (hE : Ext c2 w c3 w') : Rel (here B c s w) ⟨c3.nm, c.I⟩ (thawS s s2 W s3) w' ∧ Ext c w ⟨c3.nm, c.I⟩ w' := by
  have hnm : ∀ i v, c.nm i = some v → c3.nm i = some v := fun i v hv => hE.nm i v (by rw [hL.nm]; exact hv)
  have hEx : Ext c w ⟨c3.nm, c.I⟩ w' := ⟨hnm, fun b hb => hb, fun b hb => hE.lasts.heap b (hL.sub b hb)⟩
  -- what may be written there may be written here
  have hM : ∀ b, (here B c2 s2 w).M b → ∃ i o, look s i = some o ∧ look s2 i = some o ∧ isRo o = false ∧ flatOb o = true ∧ Own c i o b := by
    rintro b ⟨i, o2, h1, h2, h3⟩
    have h3' := (Own.iff hL.nm).1 h3
    obtain ⟨o, g1, ⟨gl, ⟨e, t, l, g2⟩, _⟩ | ⟨_, g2⟩⟩ := hL.each i o2 h1
    · unfold lent at gl
      rw [g1, h1] at gl
      subst g2
      split at gl
      · rename_i e1 e2
        simp only [Option.some.injEq] at e2
        subst e2
        exact h3'.elim
      · cases gl
    · subst g2
      have ho := roO_own.1 h3'
      obtain ⟨q1, q2⟩ := roO_ro (c := c) h2 ⟨i, b, ho⟩
      refine ⟨i, o, g1, ?_, q1, q2, ho⟩
      rw [h1]; simp [roO, q2]
  have hR : ∀ b, (here B c2 s2 w).R b → (here B c s w).R b ∨ (here B c s w).M b := by
    rintro b ⟨i, o2, h1, h2, h3⟩
    have h3' := (Own.iff hL.nm).1 h3
    obtain ⟨o, g1, ⟨gl, ⟨e, t, l, g2⟩, _⟩ | ⟨_, g2⟩⟩ := hL.each i o2 h1
    · unfold lent at gl
      rw [g1, h1] at gl
      subst g2
      split at gl
      · rename_i e1 e2
        simp only [Option.some.injEq] at e2
        subst e2
        exact h3'.elim
      · cases gl
    · subst g2
      have ho := roO_own.1 h3'
      cases hr : isRo o with
      | true => exact .inl ⟨i, o, g1, hr, ho⟩
      | false => exact .inr ⟨i, o, g1, hr, ho⟩
  -- blocks of what was lent or kept stay
  have hstay : ∀ {id o b}, look s id = some o → Own c id o b → (c2.I b ∨ (flatOb o = false ∧ look s2 id = some (roO o))) → w'.heap[b]? = w.heap[b]? := by
    intro id o b h1 h2 h3
    refine k.keep b ((h.ob id o h1).lt h2) fun hm => ?_
    obtain ⟨i, o', g1, g1', g2, g3, g4⟩ := hM b hm
    rcases h3 with h3 | ⟨h3, h4⟩
    · exact hL.rel.imm i o' b g1' ((Own.iff hL.nm).2 g4) h3
    · have := h.sep i id o' o b g1 h1 g4 h2
      subst this
      rw [g1] at h1
      cases h1
      rw [g3] at h3; cases h3
  have hown : ∀ {id o b}, look s id = some o → (Own (⟨c3.nm, c.I⟩ : Cf) id o b ↔ Own c id o b) := by
    intro id o b h1
    have key : (∃ v, c3.nm id = some v ∧ blockOf v = some b) → (∃ v, c.nm id = some v) → ∃ v, c.nm id = some v ∧ blockOf v = some b := by
      rintro ⟨v, g1, g2⟩ ⟨v', g3⟩
      have := hnm id v' g3
      rw [g1] at this
      cases this
      exact ⟨v, g3, g2⟩
    have key2 : (∃ v, c.nm id = some v ∧ blockOf v = some b) → ∃ v, c3.nm id = some v ∧ blockOf v = some b := fun ⟨v, g1, g2⟩ => ⟨v, hnm id v g1, g2⟩
    have hob := h.ob id o h1
    cases o with
    | box t cs => obtain ⟨b', us, g, _⟩ := hob; exact ⟨fun q => key q ⟨_, g⟩, key2⟩
    | rbox t cs => obtain ⟨b', us, g, _⟩ := hob; exact ⟨fun q => key q ⟨_, g⟩, key2⟩
    | row e t l => obtain ⟨v', us, g, _⟩ := hob; exact ⟨fun q => key q ⟨_, g⟩, key2⟩
    | rrow e t l => obtain ⟨v', us, g, _⟩ := hob; exact ⟨fun q => key q ⟨_, g⟩, key2⟩
    | frow t l => exact Iff.rfl
    | dead => exact Iff.rfl
  -- who owns a block then: one behind the call, or one that was lent
  have hwho : ∀ {id o b}, look (thawS s s2 W s3) id = some o → Own (⟨c3.nm, c.I⟩ : Cf) id o b → (∃ o3, look s3 id = some o3 ∧ Own c3 id o3 b) ∨ (look s id = some o ∧ Own c id o b ∧ c2.I b) := by
    intro id o b h1 h2
    rcases whence hL hW h1 with ⟨g, gl, gr, gI⟩ | ⟨g, g3, g2, gf⟩ | ⟨g3, gf⟩ | gd
    · have := (hown g).1 h2
      exact .inr ⟨g, this, gI b this⟩
    · exact .inl ⟨_, g3, roO_own.2 ((Own.iff rfl).1 h2)⟩
    · exact .inl ⟨_, g3, (Own.iff rfl).1 h2⟩
    · subst gd; exact h2.elim
  refine ⟨?_, hEx⟩
  refine { ob := ?_, dom := ?_, sep := ?_, imm := ?_, lo := ?_, keep := ?_, mine := ?_, ro := ?_, sub := fun b hb => hb, new := fun b hb => .inl hb, os := k.os, tape := k.tape, output := k.output, size := k.size }
  · intro id o hl
    rcases whence hL hW hl with ⟨g, gl, gr, gI⟩ | ⟨g, g3, g2, gf⟩ | ⟨g3, gf⟩ | gd
    · exact (h.ob id o g).ext hEx fun b hb => hstay g hb (.inl (gI b hb))
    · exact (h.ob id o g).ext hEx fun b hb => hstay g hb (.inr ⟨gf, g2⟩)
    · exact flatOb_ok (c := c3) (c' := ⟨c3.nm, c.I⟩) (fun _ _ h => h) gf (k.ob id o g3)
    · subst gd; trivial
  · intro id hl
    rw [show look (thawS s s2 W s3) id = (look s3 id).map (thawO s s2 W id) from look_map (thawO s s2 W) s3 id] at hl
    cases h3 : look s3 id with
    | none => exact k.dom id h3
    | some o3 => rw [h3] at hl; cases hl
  · intro i j oi oj b hi hj h1 h2
    rcases hwho hi h1 with ⟨o3, g1, g2⟩ | ⟨g1, g2, g3⟩ <;> rcases hwho hj h2 with ⟨o4, k1, k2⟩ | ⟨k1, k2, k3⟩
    · exact k.sep i j o3 o4 b g1 k1 g2 k2
    · exact absurd (k.sub b k3) (k.imm i o3 b g1 g2)
    · exact absurd (k.sub b g3) (k.imm j o4 b k1 k2)
    · exact h.sep i j oi oj b g1 k1 g2 k2
  · intro id o b hl ho
    rcases hwho hl ho with ⟨o3, g1, g2⟩ | ⟨g1, g2, g3⟩
    · exact fun hI => k.imm id o3 b g1 g2 (k.sub b (hL.sub b hI))
    · exact h.imm id o b g1 g2
  · intro b hb
    exact Nat.lt_of_lt_of_le (h.lo b hb) k.size
  · intro b hb hm
    refine k.keep b hb fun hm2 => hm ?_
    obtain ⟨i, o, g1, _, g2, _, g3⟩ := hM b hm2
    exact ⟨i, o, g1, g2, g3⟩
  · intro id o b hl hr ho
    rcases whence hL hW hl with ⟨g, gl, gr, gI⟩ | ⟨g, g3, g2, gf⟩ | ⟨g3, gf⟩ | gd
    · exact .inl ⟨id, o, g, hr, (hown g).1 ho⟩
    · exact .inl ⟨id, o, g, hr, (hown g).1 ho⟩
    · rcases k.mine id o b g3 hr ((Own.iff rfl).1 ho) with hm | hm
      · obtain ⟨i, o', g1, _, g2, _, g4⟩ := hM b hm
        exact .inl ⟨i, o', g1, g2, g4⟩
      · exact .inr hm
    · subst gd; exact ho.elim
  · intro id o b hl ho
    have hold : ∀ {id o}, look s id = some o → Own c id o b → (here B c s w).R b ∨ (here B c s w).M b ∨ (here B c s w).w.heap.size ≤ b := by
      intro id o g g'
      cases hr : isRo o with
      | true => exact .inl ⟨id, o, g, hr, g'⟩
      | false => exact .inr (.inl ⟨id, o, g, hr, g'⟩)
    rcases whence hL hW hl with ⟨g, gl, gr, gI⟩ | ⟨g, g3, g2, gf⟩ | ⟨g3, gf⟩ | gd
    · exact hold g ((hown g).1 ho)
    · exact hold g ((hown g).1 ho)
    · rcases k.ro id o b g3 ((Own.iff rfl).1 ho) with hm | hm | hm
      · rcases hR b hm with hm | hm
        · exact .inl hm
        · exact .inr (.inl hm)
      · obtain ⟨i, o', g1, _, g2, _, g4⟩ := hM b hm
        exact .inr (.inl ⟨i, o', g1, g2, g4⟩)
      · exact .inr (.inr hm)
    · subst gd; exact ho.elim

theorem Con.lend_ok [Sites] {P : Program} {f : FuncId} {K : Con} {q : Nat} {own : Bool} (hK : K.Ok P f) : (K.lend q own).Ok P f where
  enters := hK.enters
  runs := by
    intro args s nx x y v s1 n1 W hpre hfn hpost B c w vals hR hv
    simp only [Con.lend] at hpre hpost
    split at hpre
    · rename_i v0 hq
      cases hb : lendable own v0 with
      | false => rw [hb] at hpre; cases hpre
      | true =>
        rw [hb, cond_true] at hpre
        split at hpost
        · rename_i v' s3 n3 W3 hp
          simp only [Option.some.injEq, Prod.mk.injEq] at hpost
          obtain ⟨rfl, rfl, rfl, rfl⟩ := hpost
          obtain ⟨c2, hL⟩ := Go.Hay.lend_ok hR v0.cells
          have hs2 : lendS q args s = roS (frz s v0.cells) := by unfold lendS; rw [hq]
          rw [hs2] at hpre hp ⊢
          have hE2 : Ext c w c2 w := ⟨fun i v h => by rw [hL.nm]; exact h, hL.sub, fun _ _ => rfl⟩
          refine (hK.runs args _ nx x y v' s3 n3 W3 hpre hfn hp (here B c2 (roS (frz s v0.cells)) w) c2 w vals hL.rel.rebase (VRs.ext hE2 _ _ hv)).mono ?_
          rintro e w' ⟨c3, u, rfl, h1, h2, h3⟩
          obtain ⟨g1, g2⟩ := thaw_ok hR hL (hK.wrote args _ nx x y v' s3 n3 W3 hpre hp) h1 h3
          exact ⟨⟨c3.nm, c.I⟩, u, rfl, hR.trans g1, cutV_ok (c := c3) (c' := ⟨c3.nm, c.I⟩) (fun _ _ h => h) h2, g2⟩
        · cases hpost
    · cases hpre
  wrote := by
    intro args s nx x y v s1 n1 W hpre hpost i hi
    simp only [Con.lend] at hpre hpost
    split at hpre
    · rename_i v0 hq
      cases hb : lendable own v0 with
      | false => rw [hb] at hpre; cases hpre
      | true =>
        rw [hb, cond_true] at hpre
        split at hpost
        · rename_i v' s3 n3 W3 hp
          simp only [Option.some.injEq, Prod.mk.injEq] at hpost
          obtain ⟨rfl, rfl, rfl, rfl⟩ := hpost
          have hw := hK.wrote args _ nx x y v' s3 n3 W3 hpre hp i hi
          have hs2 : lendS q args s = roS (frz s v0.cells) := by unfold lendS; rw [hq]
          rw [show look (thawS s (lendS q args s) W3 s3) i = (look s3 i).map (thawO s (lendS q args s) W3 i) from look_map (thawO s (lendS q args s) W3) s3 i, hw]
          cases h2 : look (lendS q args s) i with
          | none =>
            rw [hs2, roS_look] at h2
            cases hz : look (frz s v0.cells) i with
            | none => rw [frz_dom hz]; rfl
            | some o => rw [hz] at h2; cases h2
          | some o2 =>
            cases hs : look s i with
            | none =>
              exfalso
              rw [hs2, roS_look] at h2
              rcases frz_cases v0.cells s i with g | ⟨e, t, l, g, _⟩
              · rw [g, hs] at h2; cases h2
              · rw [hs] at g; cases g
            | some o =>
              simp only [Option.map_some, Option.some.injEq]
              unfold thawO
              rw [hs]
              cases lent s (lendS q args s) i with
              | true => rfl
              | false =>
                cases hm : thawO.memB i W3 with
                | true => exact absurd (thaw_mem.1 hm) hi
                | false => rfl
        · cases hpost
    · cases hpre
end
end Go.Hay
