/- What code that is proved alone hands back. -/
import Derived.Test.YthlojpcjafefjaaHayV
set_option linter.unusedVariables false
set_option linter.unusedSimpArgs false
namespace Go.Hay
open Go.RowKit

def noRo : Sh → Bool
  | .rown _ _ | .rbox _ _ => false
  | .box _ cs | .agg cs | .upd _ _ cs | .fn _ cs | .els _ _ cs => noRo cs
  | .cons a r => noRo a && noRo r
  | _ => true
/-- Do the objects that have other contents stand for objects that were handed over? -/
def updOk (tk : List (Option Nat × Ob)) : Sh → Bool
  | .upd i _ cs => (match tk[i]? with | some (some _, _) => true | _ => false) && updOk tk cs
  | .updr i _ _ | .keep _ i => match tk[i]? with | some (some _, _) => true | _ => false
  | .box _ cs | .rbox _ cs | .agg cs | .fn _ cs | .els _ _ cs => updOk tk cs
  | .cons a r => updOk tk a && updOk tk r
  | _ => true
def nodupB : List Nat → Bool
  | [] => true
  | n :: r => !r.any (Nat.beq n) && nodupB r
theorem nodupB_ok : ∀ {l : List Nat}, nodupB l = true → l.Nodup
  | [], _ => List.nodup_nil
  | n :: r, h => by
    simp only [nodupB, Bool.and_eq_true, Bool.not_eq_true', List.any_eq_false] at h
    refine List.nodup_cons.2 ⟨fun hm => ?_, nodupB_ok h.2⟩
    exact absurd (Nat.beq_refl n) (by simpa using h.1 n hm)
def freshB (s : Obs) (nx : Nat) : Nat → Bool
  | 0 => true
  | k + 1 => isFresh s (nx + k) && freshB s nx k
theorem freshB_ok [Sites] {s : Obs} {nx : Nat} : ∀ {n : Nat}, freshB s nx n = true → ∀ k, k < n → look s (nx + k) = none
  | 0, _, k, hk => by omega
  | n + 1, h, k, hk => by
    simp only [freshB, Bool.and_eq_true] at h
    rcases Nat.lt_succ_iff_lt_or_eq.1 hk with h1 | rfl
    · exact freshB_ok h.2 k h1
    · exact isFresh_none h.1

/-- Whether of the objects that were handed over those that are named are there. -/
theorem updOk_tk {tk : List (Option Nat × Ob)} : ∀ {sh : Sh}, updOk tk sh = true → ∀ i ∈ updIx sh, ∃ id o, tk[i]? = some (some id, o) := by
  intro sh
  have one : ∀ {i : Nat}, (match tk[i]? with | some (some _, _) => true | _ => false) = true → ∃ id o, tk[i]? = some (some id, o) := by
    intro i h
    split at h
    · rename_i id o e; exact ⟨id, o, e⟩
    · cases h
  induction sh with
  | upd i t cs ih =>
    intro h j hj
    simp only [updOk, Bool.and_eq_true] at h
    rcases List.mem_cons.1 hj with rfl | hj
    · exact one h.1
    · exact ih h.2 j hj
  | updr i e t => intro h j hj; simp only [updIx, List.mem_singleton] at hj; subst hj; exact one h
  | keep k i => intro h j hj; simp only [updIx, List.mem_singleton] at hj; subst hj; exact one h
  | box t cs ih => exact ih
  | rbox t cs ih => exact ih
  | agg cs ih => exact ih
  | els sz n cs ih => exact ih
  | fn f cs ih => exact ih
  | cons a r iha ihr =>
    intro h j hj
    simp only [updOk, Bool.and_eq_true] at h
    rcases List.mem_append.1 hj with hj | hj
    · exact iha h.1 j hj
    · exact ihr h.2 j hj
  | _ => intro h j hj; simp [updIx] at hj

/-- The names of what is handed back: of the objects that are handed back, and of those that were handed over. -/
def outNm (tk : List (Option Nat × Ob)) (NL : List Nat) (k : Nat) : Nat := bif Nat.ble 1000000 k then nameAt tk (k - 1000000) else NL.getD k 0
theorem outNm_lt {tk : List (Option Nat × Ob)} {NL : List Nat} {k : Nat} (h : k < 1000000) : outNm tk NL k = NL.getD k 0 := by
  have : Nat.ble 1000000 k = false := by
    cases hb : Nat.ble 1000000 k with
    | false => rfl
    | true => have := Nat.le_of_ble_eq_true hb; omega
  simp [outNm, this]
theorem outNm_ge {tk : List (Option Nat × Ob)} {NL : List Nat} {i : Nat} : outNm tk NL (1000000 + i) = nameAt tk i := by
  have : Nat.ble 1000000 (1000000 + i) = true := Nat.ble_eq_true_of_le (by omega)
  simp [outNm, this]

section
variable {B : Bs} {c : Cf} {w : World} {s : Obs}

theorem bld_noRo {nm : Nat → Nat} : ∀ (sh : Sh) (x : sh.den) (n : Nat), noRo sh = true → ∀ i o, (i, o) ∈ (bld nm sh x n).2.1 → isRo o = false := by
  intro sh
  induction sh with
  | box t cs ih =>
    intro x n h i o hm
    simp only [bld] at hm
    rcases List.mem_cons.1 hm with e | hm
    · cases e; rfl
    · exact ih x _ h i o hm
  | upd j t cs ih =>
    intro x n h i o hm
    simp only [bld] at hm
    rcases List.mem_cons.1 hm with e | hm
    · cases e; rfl
    · exact ih x _ h i o hm
  | agg cs ih => intro x n h i o hm; exact ih x _ h i o (by simpa only [bld] using hm)
  | els sz k cs ih => intro x n h i o hm; exact ih x _ h i o (by simpa only [bld] using hm)
  | fn f cs ih => intro x n h i o hm; exact ih x _ h i o (by simpa only [bld] using hm)
  | cons a r iha ihr =>
    intro x n h i o hm
    simp only [noRo, Bool.and_eq_true] at h
    simp only [bld] at hm
    rcases List.mem_append.1 hm with hm | hm
    · exact iha _ _ h.1 i o hm
    · exact ihr _ _ h.2 i o hm
  | own e t => intro x n h i o hm; simp only [bld, List.mem_singleton] at hm; cases hm; rfl
  | arr e t m => intro x n h i o hm; simp only [bld, List.mem_singleton] at hm; cases hm; rfl
  | updr j e t => intro x n h i o hm; simp only [bld, List.mem_singleton] at hm; cases hm; rfl
  | rown e t => intro x n h; cases h
  | rbox t cs ih => intro x n h; cases h
  | _ => intro x n h i o hm; simp [bld] at hm

theorem get_two {α : Type} {l m : List α} {j : Nat} (h : j < (l ++ m).length) : (j < l.length ∧ (l ++ m)[j]? = l[j]?) ∨ (l.length ≤ j ∧ j - l.length < m.length ∧ (l ++ m)[j]? = m[j - l.length]?) := by
  rcases Nat.lt_or_ge j l.length with h1 | h1
  · exact .inl ⟨h1, List.getElem?_append_left h1⟩
  · exact .inr ⟨h1, by simp at h; omega, List.getElem?_append_right h1⟩

/-- The names' places are the objects' places. -/
theorem onames_tk [Sites] (σ : Nat → Nat) (nx : Nat) (tk0 : List (Option Nat × Ob)) : ∀ (sh : Sh) (as : List AV) (z : Tk) (x : sh.den) (rest : List AV) (z' : Tk), xt sh as z = some (x, rest, z') → updOk tk0 sh = true →
    z.tk <+: z'.tk ∧ z'.tk.length = z.tk.length + (onames σ nx sh z.tk.length).length ∧
      ∀ j, j < (onames σ nx sh z.tk.length).length → (onames σ nx sh z.tk.length)[j]? = some (nx + (z.tk.length + j)) ∨
        ∃ i id o o', i ∈ updIx sh ∧ (onames σ nx sh z.tk.length)[j]? = some (σ i) ∧ z'.tk[z.tk.length + j]? = some (some i, o) ∧ tk0[i]? = some (some id, o') := by
  intro sh
  have leaf : ∀ {ix l : List Nat} {z z' : Tk} {p : Option Nat × Ob}, z'.tk = z.tk ++ [p] → l = [nx + z.tk.length] → z.tk <+: z'.tk ∧ z'.tk.length = z.tk.length + l.length ∧
      ∀ j, j < l.length → l[j]? = some (nx + (z.tk.length + j)) ∨ ∃ i id o o', i ∈ ix ∧ l[j]? = some (σ i) ∧ z'.tk[z.tk.length + j]? = some (some i, o) ∧ tk0[i]? = some (some id, o') := by
    intro ix l z z' p h1 h2
    subst h2
    refine ⟨by rw [h1]; exact List.prefix_append _ _, by rw [h1]; simp, fun j hj => ?_⟩
    have : j = 0 := by simpa using hj
    subst this
    exact .inl (by simp)
  have zero : ∀ {ix : List Nat} {z z' : Tk}, z'.tk = z.tk → z.tk <+: z'.tk ∧ z'.tk.length = z.tk.length + ([] : List Nat).length ∧
      ∀ j, j < ([] : List Nat).length → ([] : List Nat)[j]? = some (nx + (z.tk.length + j)) ∨ ∃ i id o o', i ∈ ix ∧ ([] : List Nat)[j]? = some (σ i) ∧ z'.tk[z.tk.length + j]? = some (some i, o) ∧ tk0[i]? = some (some id, o') := by
    intro ix z z' h
    exact ⟨by rw [h]; exact List.prefix_refl _, by rw [h]; simp, fun j hj => by simp at hj⟩
  -- one object in front of others
  have head : ∀ {ix : List Nat} {cs : Sh} {z z1 z' : Tk} {p : Option Nat × Ob} {m : Nat}, (∀ i ∈ updIx cs, i ∈ ix) → z1.tk = z.tk ++ [p] →
      (m = nx + z.tk.length ∨ ∃ i id o o', i ∈ ix ∧ m = σ i ∧ p = (some i, o) ∧ tk0[i]? = some (some id, o')) →
      (z1.tk <+: z'.tk ∧ z'.tk.length = z1.tk.length + (onames σ nx cs z1.tk.length).length ∧
        ∀ j, j < (onames σ nx cs z1.tk.length).length → (onames σ nx cs z1.tk.length)[j]? = some (nx + (z1.tk.length + j)) ∨
          ∃ i id o o', i ∈ updIx cs ∧ (onames σ nx cs z1.tk.length)[j]? = some (σ i) ∧ z'.tk[z1.tk.length + j]? = some (some i, o) ∧ tk0[i]? = some (some id, o')) →
      z.tk <+: z'.tk ∧ z'.tk.length = z.tk.length + (m :: onames σ nx cs (z.tk.length + 1)).length ∧
        ∀ j, j < (m :: onames σ nx cs (z.tk.length + 1)).length → (m :: onames σ nx cs (z.tk.length + 1))[j]? = some (nx + (z.tk.length + j)) ∨
          ∃ i id o o', i ∈ ix ∧ (m :: onames σ nx cs (z.tk.length + 1))[j]? = some (σ i) ∧ z'.tk[z.tk.length + j]? = some (some i, o) ∧ tk0[i]? = some (some id, o') := by
    intro ix cs z z1 z' p m hix h1 h2 h3
    have hl : z1.tk.length = z.tk.length + 1 := by rw [h1]; simp
    rw [hl] at h3
    obtain ⟨g1, g2, g3⟩ := h3
    have hpre : z.tk <+: z'.tk := (by rw [h1]; exact List.prefix_append _ _ : z.tk <+: z1.tk).trans g1
    refine ⟨hpre, by rw [g2]; simp; omega, fun j hj => ?_⟩
    cases j with
    | zero =>
      rcases h2 with h2 | ⟨i, id, o, o', e0, e1, e2, e3⟩
      · exact .inl (by simp [h2])
      · refine .inr ⟨i, id, o, o', e0, by simp [e1], ?_, e3⟩
        obtain ⟨t', e⟩ := g1
        rw [← e, h1, ← e2]
        simp
    | succ j =>
      have := g3 j (by simpa using hj)
      simp only [List.getElem?_cons_succ]
      rw [show z.tk.length + (j + 1) = z.tk.length + 1 + j by omega]
      exact this.imp (fun h => h) fun ⟨i, id, o, o', e0, e1⟩ => ⟨i, id, o, o', hix i e0, e1⟩
  induction sh with
  | val t =>
    intro as z x rest z' h hu
    simp only [xt] at h
    split at h
    · split at h
      · simp only [Option.some.injEq, Prod.mk.injEq] at h
        rw [← h.2.2]
        exact zero rfl
      · cases h
    · cases h
  | own e t =>
    intro as z x rest z' h hu
    simp only [xt] at h
    split at h
    · cases hmt : isMapTy e with
      | true => simp [hmt] at h
      | false =>
        simp only [hmt, cond_false, Option.some.injEq, Prod.mk.injEq] at h
        rw [← h.2.2]
        exact leaf rfl rfl
    · split at h
      · split at h
        · split at h
          · simp only [Option.some.injEq, Prod.mk.injEq] at h
            rw [← h.2.2]
            exact leaf rfl rfl
          · cases h
        · cases h
      · cases h
    · cases h
  | rown e t =>
    intro as z x rest z' h hu
    simp only [xt] at h
    split at h
    · cases hmt : isMapTy e with
      | true => simp [hmt] at h
      | false =>
        simp only [hmt, cond_false, Option.some.injEq, Prod.mk.injEq] at h
        rw [← h.2.2]
        exact leaf rfl rfl
    · split at h
      · split at h
        · split at h
          · simp only [Option.some.injEq, Prod.mk.injEq] at h
            rw [← h.2.2]
            exact leaf rfl rfl
          · cases h
        · split at h
          · simp only [Option.some.injEq, Prod.mk.injEq] at h
            rw [← h.2.2]
            exact leaf rfl rfl
          · cases h
        · cases h
      · cases h
    · cases h
  | box t cs ih =>
    intro as z x rest z' h hu
    simp only [xt] at h
    split at h
    · split at h
      · split at h
        · split at h
          · rename_i x' z1 hb hx
            simp only [Option.some.injEq, Prod.mk.injEq] at h
            rw [← h.2.2]
            exact head (fun i hi => hi) rfl (.inl rfl) (ih _ _ _ _ _ hx hu)
          · cases h
        · cases h
      · cases h
    · cases h
  | rbox t cs ih =>
    intro as z x rest z' h hu
    simp only [xt] at h
    split at h
    · split at h
      · split at h
        · rename_i x' z1 hb hx
          simp only [Option.some.injEq, Prod.mk.injEq] at h
          rw [← h.2.2]
          exact head (fun i hi => hi) rfl (.inl rfl) (ih _ _ _ _ _ hx hu)
        · cases h
      · split at h
        · rename_i x' z1 hb hx
          simp only [Option.some.injEq, Prod.mk.injEq] at h
          rw [← h.2.2]
          exact head (fun i hi => hi) rfl (.inl rfl) (ih _ _ _ _ _ hx hu)
        · cases h
      · cases h
    · cases h
  | upd i t cs ih =>
    intro as z x rest z' h hu
    simp only [updOk, Bool.and_eq_true] at hu
    simp only [xt] at h
    split at h
    · split at h
      · rename_i x' z1 hb hx
        simp only [Option.some.injEq, Prod.mk.injEq] at h
        rw [← h.2.2]
        have htk0 : ∃ id o', tk0[i]? = some (some id, o') := by
          have := hu.1
          split at this
          · rename_i id o' e; exact ⟨id, o', e⟩
          · cases this
        obtain ⟨id, o', e⟩ := htk0
        exact head (fun j hj => List.mem_cons_of_mem _ hj) rfl (.inr ⟨i, id, _, o', List.mem_cons_self .., rfl, rfl, e⟩) (ih _ _ _ _ _ hx hu.2)
      · cases h
    · cases h
  | updr i e t =>
    intro as z x rest z' h hu
    simp only [updOk] at hu
    simp only [xt] at h
    split at h
    · split at h
      · simp only [Option.some.injEq, Prod.mk.injEq] at h
        rw [← h.2.2]
        have htk0 : ∃ id o', tk0[i]? = some (some id, o') := by
          split at hu
          · rename_i id o' e; exact ⟨id, o', e⟩
          · cases hu
        obtain ⟨id, o', e'⟩ := htk0
        refine ⟨List.prefix_append _ _, by simp [onames], fun j hj => ?_⟩
        have : j = 0 := by simpa [onames] using hj
        subst this
        exact .inr ⟨i, id, _, o', by simp [updIx], by simp [onames], by simp; rfl, e'⟩
      · cases h
    · cases h
  | fn f cap ih =>
    intro as z x rest z' h hu
    simp only [xt] at h
    split at h
    · split at h
      · rename_i x' z1 hb hx
        simp only [Option.some.injEq, Prod.mk.injEq] at h
        rw [← h.2.2]
        exact ih _ _ _ _ _ hx hu
      · cases h
    · cases h
  | els sz n cs ih =>
    intro as z x rest z' h hu
    simp only [xt] at h
    split at h
    · split at h
      · rename_i x' z1 _ hx
        simp only [Option.some.injEq, Prod.mk.injEq] at h
        rw [← h.2.2]
        exact ih _ _ _ _ _ hx hu
      · cases h
    · cases h
  | agg cs ih =>
    intro as z x rest z' h hu
    simp only [xt] at h
    split at h
    · split at h
      · rename_i x' z1 hx
        simp only [Option.some.injEq, Prod.mk.injEq] at h
        rw [← h.2.2]
        exact ih _ _ _ _ _ hx hu
      · cases h
    · cases h
  | ref i =>
    intro as z x rest z' h hu
    simp only [xt] at h
    split at h
    · split at h
      · split at h
        · simp only [Option.some.injEq, Prod.mk.injEq] at h
          rw [← h.2.2]
          exact zero rfl
        · cases h
      · cases h
    · cases h
  | refr i =>
    intro as z x rest z' h hu
    simp only [xt] at h
    split at h
    · split at h
      · split at h
        · simp only [Option.some.injEq, Prod.mk.injEq] at h
          rw [← h.2.2]
          exact zero rfl
        · cases h
      · cases h
    · cases h
  | nils =>
    intro as z x rest z' h hu
    simp only [xt] at h
    split at h
    · simp only [Option.some.injEq, Prod.mk.injEq] at h
      rw [← h.2.2]
      exact zero rfl
    · cases h
  | nilp =>
    intro as z x rest z' h hu
    simp only [xt] at h
    split at h
    · simp only [Option.some.injEq, Prod.mk.injEq] at h
      rw [← h.2.2]
      exact zero rfl
    · cases h
  | junk =>
    intro as z x rest z' h hu
    simp only [xt] at h
    split at h
    · simp only [Option.some.injEq, Prod.mk.injEq] at h
      rw [← h.2.2]
      exact zero rfl
    · cases h
  | refy i =>
    intro as z x rest z' h hu
    simp only [xt] at h
    split at h
    · split at h
      · split at h
        · simp only [Option.some.injEq, Prod.mk.injEq] at h
          rw [← h.2.2]
          exact zero rfl
        · cases h
      · cases h
    · cases h
  | arr e t n =>
    intro as z x rest z' h hu
    simp only [xt] at h
    split at h
    · split at h
      · split at h
        · simp only [Option.some.injEq, Prod.mk.injEq] at h
          rw [← h.2.2]
          exact leaf rfl rfl
        · cases h
      · cases h
    · cases h
  | keep k i =>
    intro as z x rest z' h hu
    simp only [xt] at h
    split at h
    · split at h
      · simp only [Option.some.injEq, Prod.mk.injEq] at h
        rw [← h.2.2]
        exact zero rfl
      · cases h
    · cases h
  | nil =>
    intro as z x rest z' h hu
    simp only [xt, Option.some.injEq, Prod.mk.injEq] at h
    rw [← h.2.2]
    exact zero rfl
  | cons a r iha ihr =>
    intro as z x rest z' h hu
    simp only [updOk, Bool.and_eq_true] at hu
    simp only [xt] at h
    split at h
    · rename_i x1 bs z1 h1
      split at h
      · rename_i y1 cs z2 h2
        simp only [Option.some.injEq, Prod.mk.injEq] at h
        rw [← h.2.2]
        obtain ⟨p1, p2, p3⟩ := iha _ _ _ _ _ h1 hu.1
        obtain ⟨q1, q2, q3⟩ := ihr _ _ _ _ _ h2 hu.2
        simp only [onames]
        rw [p2] at q2 q3
        refine ⟨p1.trans q1, by rw [q2, List.length_append]; omega, fun j hj => ?_⟩
        rcases get_two hj with ⟨g1, g2⟩ | ⟨g1, g2, g3⟩
        · rw [g2]
          rcases p3 j g1 with h3 | ⟨i, id, o, o', h0, h3, h4, h5⟩
          · exact .inl h3
          · refine .inr ⟨i, id, o, o', List.mem_append_left _ h0, h3, ?_, h5⟩
            obtain ⟨t', e⟩ := q1
            rw [← e, List.getElem?_append_left (List.getElem?_eq_some_iff.1 h4).1]
            exact h4
        · rw [g3]
          have h3 := q3 _ g2
          rw [show z.tk.length + (onames σ nx a z.tk.length).length + (j - (onames σ nx a z.tk.length).length) = z.tk.length + j by omega] at h3
          exact h3.imp (fun h => h) fun ⟨i, id, o, o', e0, e1⟩ => ⟨i, id, o, o', List.mem_append_right _ e0, e1⟩
      · cases h
    · cases h
end
end Go.Hay
