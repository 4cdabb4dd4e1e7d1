/- What is proved alone holds anywhere: objects that are not handed over stay as they are. -/
import Derived.Test.YthlojpcjafefjaaHayU
set_option linter.unusedVariables false
set_option linter.unusedSimpArgs false
namespace Go.Hay
open Go.RowKit

def putAll (s : Obs) : List (Nat × Ob) → Obs
  | [] => s
  | (n, o) :: r => putAll (put s n o) r
def roAt (s0 : Obs) (k : Nat) : Bool := match look s0 k with | some o => isRo o | none => false
/-- Objects that were only read come back. -/
def restore (s0 : Obs) : List (Option Nat × Ob) → Nat → Obs → Obs
  | [], _, t => t
  | (some id, o) :: r, k, t => restore s0 r (k + 1) (bif roAt s0 k then put t id o else t)
  | (none, _) :: r, k, t => restore s0 r (k + 1) t

def nameAt (tk : List (Option Nat × Ob)) (k : Nat) : Nat := match tk[k]? with | some (some id, _) => id | _ => 0

section
variable {B : Bs} {c : Cf} {w : World} {s : Obs}

theorem look_mem : ∀ {l : Obs} {i : Nat} {o : Ob}, look l i = some o → (i, o) ∈ l
  | [], i, o, h => by simp [look] at h
  | (k, v) :: r, i, o, h => by
    rw [look_cons] at h
    split at h
    · rename_i e; simp only [Option.some.injEq] at h; subst e; subst h; simp
    · exact List.mem_cons_of_mem _ (look_mem h)
theorem mem_look : ∀ {l : Obs} {i : Nat} {o : Ob}, (i, o) ∈ l → look l i ≠ none
  | (k, v) :: r, i, o, h => by
    rw [look_cons]
    split
    · simp
    · rename_i hne
      rcases List.mem_cons.1 h with e | h
      · cases e; exact absurd rfl hne
      · exact mem_look h

theorem putAll_some : ∀ {os : List (Nat × Ob)} {s : Obs} {n : Nat} {o : Ob}, look (putAll s os) n = some o → (n, o) ∈ os ∨ (look s n = some o ∧ ∀ o', (n, o') ∉ os)
  | [], s, n, o, h => .inr ⟨h, fun _ h => by cases h⟩
  | (m, p) :: r, s, n, o, h => by
    rcases putAll_some (os := r) h with h1 | ⟨h1, h2⟩
    · exact .inl (List.mem_cons_of_mem _ h1)
    · rw [look_put] at h1
      split at h1
      · rename_i e; simp only [Option.some.injEq] at h1; subst e; subst h1; exact .inl (by simp)
      · rename_i hne
        refine .inr ⟨h1, fun o' hm => ?_⟩
        rcases List.mem_cons.1 hm with e | hm
        · cases e; exact hne rfl
        · exact h2 o' hm
theorem putAll_none : ∀ {os : List (Nat × Ob)} {s : Obs} {n : Nat}, look (putAll s os) n = none → look s n = none ∧ ∀ o', (n, o') ∉ os
  | [], s, n, h => ⟨h, fun _ h => by cases h⟩
  | (m, p) :: r, s, n, h => by
    obtain ⟨h1, h2⟩ := putAll_none (os := r) h
    rw [look_put] at h1
    split at h1
    · cases h1
    · rename_i hne
      refine ⟨h1, fun o' hm => ?_⟩
      rcases List.mem_cons.1 hm with e | hm
      · cases e; exact hne rfl
      · exact h2 o' hm

theorem restore_some {s0 : Obs} : ∀ {tk : List (Option Nat × Ob)} {k : Nat} {t : Obs} {n : Nat} {o : Ob}, look (restore s0 tk k t) n = some o → look t n = some o ∨ ∃ j : Nat, tk[j]? = some (some n, o) ∧ roAt s0 (k + j) = true
  | [], k, t, n, o, h => .inl h
  | (some id, p) :: r, k, t, n, o, h => by
    rcases restore_some (tk := r) h with h1 | ⟨j, h1, h2⟩
    · cases hr : roAt s0 k with
      | false => rw [hr] at h1; exact .inl h1
      | true =>
        rw [hr] at h1
        simp only [cond_true, look_put] at h1
        split at h1
        · rename_i e
          simp only [Option.some.injEq] at h1
          subst e; subst h1
          exact .inr ⟨0, rfl, hr⟩
        · exact .inl h1
    · exact .inr ⟨j + 1, by simpa using h1, by rw [← h2]; congr 1; omega⟩
  | (none, p) :: r, k, t, n, o, h => by
    rcases restore_some (tk := r) h with h1 | ⟨j, h1, h2⟩
    · exact .inl h1
    · exact .inr ⟨j + 1, by simpa using h1, by rw [← h2]; congr 1; omega⟩
theorem restore_none {s0 : Obs} : ∀ {tk : List (Option Nat × Ob)} {k : Nat} {t : Obs} {n : Nat}, look (restore s0 tk k t) n = none → look t n = none
  | [], k, t, n, h => h
  | (some id, p) :: r, k, t, n, h => by
    have h1 := restore_none (tk := r) h
    cases hr : roAt s0 k with
    | false => rw [hr] at h1; exact h1
    | true =>
      rw [hr] at h1
      simp only [cond_true, look_put] at h1
      split at h1
      · cases h1
      · exact h1
  | (none, p) :: r, k, t, n, h => restore_none (tk := r) h

theorem TkOk.start [Sites] (h : Rel B c s w) : TkOk B c s w c.I ⟨s, [], []⟩ [] where
  rel := h
  ext := Ext.refl c w
  len := rfl
  live _ _ h _ := h
  at_ k id o hk := by simp at hk
  nilv k o hk := by simp at hk
  nodup j k id o o' hj := by simp at hj
  rest _ _ _ := rfl
  dom _ h := h
  newI b hb := .inl hb

/-- What was taken is not among what nobody writes. -/
theorem TkOk.imm [Sites] {I : Nat → Prop} {z : Tk} {vs : List Value} (h : TkOk B c s w I z vs) (hR : Rel B c s w) {k id b : Nat} {o : Ob} (hk : z.tk[k]? = some (some id, o)) (hb : Own c id o b) : ¬ I b := by
  obtain ⟨h1, h2, _, _⟩ := h.at_ k id o hk
  intro hI
  rcases h.newI b hI with h3 | ⟨id', e, t, l, h3, h4, h5⟩
  · exact hR.imm id o b h2 hb h3
  · have := hR.sep id id' o _ b h2 h3 hb h5
    subst this
    rw [h1] at h4
    cases h4

/-- The code that is proved alone: what it is handed, and what is its own. -/
structure Handed [Sites] (B : Bs) (c : Cf) (s : Obs) (w : World) (z : Tk) (vs : List Value) (I1 : Nat → Prop) (s0 : Obs) : Prop where
  tk : TkOk B c s w I1 z vs
  live : ∀ i o0, (i, o0) ∈ s0 → i < vs.length ∧ ObR ⟨fun k => vs[k]?, I1⟩ w i o0 ∧ isLive o0 = true ∧ ∀ v b, vs[i]? = some v → blockOf v = some b → ∃ id o, z.tk[i]? = some (some id, o) ∧ Own c id o b ∧ (isRo o0 = false → isRo o = false)
  all : ∀ k, k < vs.length → ∃ o0, (k, o0) ∈ s0

def cf0 (vs : List Value) (I1 : Nat → Prop) : Cf := ⟨fun k => vs[k]?, I1⟩
def bs0 (rd : Option Nat) (fl : Nat) (w : World) (vs : List Value) (I1 : Nat → Prop) (s0 : Obs) : Bs :=
  ⟨w, I1, fun b => ∃ i o, look s0 i = some o ∧ isRo o = false ∧ Own (cf0 vs I1) i o b, fun b => ∃ i o, look s0 i = some o ∧ isRo o = true ∧ Own (cf0 vs I1) i o b, rd, fl⟩

theorem own_live [Sites] {id b : Nat} {o : Ob} (h : Own c id o b) : ∃ v, c.nm id = some v ∧ blockOf v = some b := by
  rw [← rd_own] at h
  rcases rd_cases o with ⟨t, cs, e⟩ | ⟨e', t, l, e⟩ | ⟨t, l, e⟩ | e <;> rw [e] at h
  · exact h
  · exact h
  · exact h.elim
  · exact h.elim
theorem live_own {id b : Nat} {o : Ob} (ho : isLive o = true) {v : Value} (hn : c.nm id = some v) (hb : blockOf v = some b) : Own c id o b := by
  cases o <;> first | exact ⟨v, hn, hb⟩ | (cases ho)

theorem Handed.own [Sites] {z : Tk} {vs : List Value} {I1 : Nat → Prop} {s0 : Obs} (h : Handed B c s w z vs I1 s0) {i b : Nat} {o0 : Ob} (hm : (i, o0) ∈ s0) (ho : Own (cf0 vs I1) i o0 b) :
    ∃ id o, z.tk[i]? = some (some id, o) ∧ Own c id o b ∧ look s id = some o ∧ (isRo o0 = false → isRo o = false) := by
  obtain ⟨v, h1, h2⟩ := own_live ho
  obtain ⟨_, _, _, h3⟩ := h.live i o0 hm
  obtain ⟨id, o, h4, h5, h6⟩ := h3 v b h1 h2
  exact ⟨id, o, h4, h5, (h.tk.at_ i id o h4).2.1, h6⟩

/-- The small world in which the code is proved. -/
theorem Handed.rel [Sites] {z : Tk} {vs : List Value} {I1 : Nat → Prop} {s0 : Obs} (hR : Rel B c s w) (h : Handed B c s w z vs I1 s0) {rd : Option Nat} {fl : Nat} : Rel (bs0 rd fl w vs I1 s0) (cf0 vs I1) s0 w where
  ob id o ho := (h.live id o (look_mem ho)).2.1
  dom id ho := by
    cases hv : vs[id]? with
    | none => exact hv
    | some v =>
      obtain ⟨o0, hm⟩ := h.all id (List.getElem?_eq_some_iff.1 hv).1
      exact absurd ho (mem_look hm)
  sep i j oi oj b hi hj hbi hbj := by
    obtain ⟨id1, o1, h1, h2, h3, _⟩ := h.own (look_mem hi) hbi
    obtain ⟨id2, o2, h4, h5, h6, _⟩ := h.own (look_mem hj) hbj
    have := hR.sep id1 id2 o1 o2 b h3 h6 h2 h5
    subst this
    exact h.tk.nodup i j id1 o1 o2 h1 h4
  imm id o b ho hb := by
    obtain ⟨id1, o1, h1, h2, h3, _⟩ := h.own (look_mem ho) hb
    exact h.tk.imm hR h1 h2
  lo b hb := h.tk.rel.lo b hb
  keep b _ _ := rfl
  mine id o b ho hr hb := .inl ⟨id, o, ho, hr, hb⟩
  ro id o b ho hb := by
    cases hr : isRo o with
    | true => exact .inl ⟨id, o, ho, hr, hb⟩
    | false => exact .inr (.inl ⟨id, o, ho, hr, hb⟩)
  sub b hb := hb
  new b hb := .inl hb
  os := rfl
  tape := rfl
  output := rfl
  size := Nat.le_refl _

theorem Handed.mine [Sites] {z : Tk} {vs : List Value} {I1 : Nat → Prop} {s0 : Obs} (hR : Rel B c s w) (h : Handed B c s w z vs I1 s0) {rd : Option Nat} {fl : Nat} {b : Nat} (hb : (bs0 rd fl w vs I1 s0).M b) :
    ∃ i o0 id o, look s0 i = some o0 ∧ isRo o0 = false ∧ z.tk[i]? = some (some id, o) ∧ Own c id o b ∧ look s id = some o ∧ (B.M b ∨ B.w.heap.size ≤ b) := by
  obtain ⟨i, o0, h1, h2, h3⟩ := hb
  obtain ⟨id, o, h4, h5, h6, h7⟩ := h.own (look_mem h1) h3
  exact ⟨i, o0, id, o, h1, h2, h4, h5, h6, hR.mine id o b h6 (h7 h2) h5⟩

/-- A name's place among names. -/
def placeOf' (l : List Nat) (n : Nat) : Option Nat := l.findIdx? (Nat.beq n)

theorem place_some {l : List Nat} {n k : Nat} (h : placeOf' l n = some k) : l[k]? = some n := by
  unfold placeOf' at h
  rw [List.findIdx?_eq_some_iff_getElem] at h
  obtain ⟨hk, h1, _⟩ := h
  rw [List.getElem?_eq_getElem hk]
  rw [Nat.eq_of_beq_eq_true h1]
theorem place_nodup {l : List Nat} (hn : l.Nodup) {n k : Nat} (h : l[k]? = some n) : placeOf' l n = some k := by
  obtain ⟨hk, hv⟩ := List.getElem?_eq_some_iff.1 h
  unfold placeOf'
  rw [List.findIdx?_eq_some_iff_getElem]
  refine ⟨hk, by rw [hv]; exact Nat.beq_refl n, fun j hj => ?_⟩
  intro hb
  have e := Nat.eq_of_beq_eq_true hb
  have := (List.getElem_inj hn).1 (hv.trans e)
  omega
end
end Go.Hay
