/- A disk as a list of files, by rising names: what its calls come to, in plain Lean. Conditions: none. -/
import Derived.Test.YthlojpcjafefjaaHayPl
import Derived.Test.YthlojpcjafefjaaHayZe
import Derived.Sort.Walk0
set_option linter.unusedVariables false
set_option linter.unusedSimpArgs false
namespace Go.Hay

abbrev DNm := List UInt8
abbrev DFl := List UInt8 × Int
abbrev DFs := List (List UInt8 × List UInt8 × Int)
abbrev f0 : DFl := (([] : List UInt8), (0 : Int))

def rm (k : DNm) (l : DFs) : DFs := l.filter fun p => !decide (p.1 = k)
def sumL : DFs → Nat
  | [] => 0
  | p :: l => p.2.1.length + sumL l
def KeysN (l : DFs) : Prop := l.Pairwise fun a b => a.1 ≠ b.1
def SortedF (l : DFs) : Prop := l.Pairwise fun a b => a.1 < b.1

theorem lt_ne {a b : DNm} (h : a < b) : a ≠ b := fun e => by subst e; exact List.lt_irrefl a h
theorem SortedF.keys {l : DFs} (h : SortedF l) : KeysN l := h.imp fun h => lt_ne h
theorem KeysN.perm {l m : DFs} (h : KeysN l) (hp : l.Perm m) : KeysN m := (hp.pairwise_iff (R := fun a b : DNm × DFl => a.1 ≠ b.1) fun {a b} h => fun e => h e.symm).1 h

theorem has_iff {l : DFs} {k : DNm} : mapHas l k = true ↔ ∃ v, (k, v) ∈ l := by
  unfold mapHas
  rw [List.any_eq_true]
  constructor
  · rintro ⟨p, h1, h2⟩
    have := of_decide_eq_true h2
    subst this
    exact ⟨p.2, h1⟩
  · rintro ⟨v, h⟩
    exact ⟨_, h, decide_eq_true rfl⟩
theorem get_mem {l : DFs} (hn : KeysN l) {k : DNm} {v : DFl} (h : (k, v) ∈ l) (d : DFl) : mapGet l k d = v := by
  induction l with
  | nil => cases h
  | cons p l ih =>
    obtain ⟨h1, h2⟩ := List.pairwise_cons.1 hn
    rcases List.mem_cons.1 h with e | h
    · subst e
      simp [mapGet]
    · have hne : ¬ p.1 = k := h1 _ h
      have := ih h2 h
      simp only [mapGet, List.find?_cons, hne, decide_false] at *
      exact this
theorem get_no {l : DFs} {k : DNm} (h : mapHas l k = false) (d : DFl) : mapGet l k d = d := by
  induction l with
  | nil => rfl
  | cons p l ih =>
    simp only [mapHas, List.any_cons, Bool.or_eq_false_iff] at h
    have := ih h.2
    simp only [mapGet, List.find?_cons, h.1] at *
    exact this
theorem has_get {l : DFs} {k : DNm} (hn : KeysN l) (h : mapHas l k = true) (d : DFl) : (k, mapGet l k d) ∈ l := by
  obtain ⟨v, hv⟩ := has_iff.1 h
  rw [get_mem hn hv]
  exact hv
theorem perm_has {l m : DFs} (h : l.Perm m) (k : DNm) : mapHas l k = mapHas m k := by
  rw [Bool.eq_iff_iff, has_iff, has_iff]
  exact ⟨fun ⟨v, hv⟩ => ⟨v, h.mem_iff.1 hv⟩, fun ⟨v, hv⟩ => ⟨v, h.mem_iff.2 hv⟩⟩
theorem perm_get {l m : DFs} (h : l.Perm m) (hn : KeysN l) (k : DNm) (d : DFl) : mapGet l k d = mapGet m k d := by
  cases hh : mapHas l k with
  | true => exact get_mem hn (h.mem_iff.2 (has_get (hn.perm h) (by rw [← perm_has h]; exact hh) d)) d
  | false => rw [get_no hh, get_no (by rw [← perm_has h]; exact hh)]

theorem rm_cons_self {p : DNm × DFl} {l : DFs} : rm p.1 (p :: l) = rm p.1 l := by simp [rm]
theorem rm_cons_ne {p : DNm × DFl} {l : DFs} {k : DNm} (h : ¬ p.1 = k) : rm k (p :: l) = p :: rm k l := by simp [rm, h]
theorem rm_no {l : DFs} {k : DNm} (h : ∀ p ∈ l, p.1 ≠ k) : rm k l = l := by
  unfold rm
  exact List.filter_eq_self.2 fun p hp => by simp [h p hp]
theorem rm_mem {l : DFs} {k : DNm} {p : DNm × DFl} : p ∈ rm k l ↔ p ∈ l ∧ p.1 ≠ k := by simp [rm, List.mem_filter]
theorem rm_perm {l m : DFs} (h : l.Perm m) (k : DNm) : (rm k l).Perm (rm k m) := h.filter _
theorem rm_sorted {l : DFs} (h : SortedF l) (k : DNm) : SortedF (rm k l) := h.sublist List.filter_sublist
theorem rm_keys {l : DFs} (h : KeysN l) (k : DNm) : KeysN (rm k l) := List.Pairwise.sublist List.filter_sublist h
theorem rm_len (l : DFs) (k : DNm) : (rm k l).length ≤ l.length := List.length_filter_le _ _
theorem del_rm {l : DFs} (h : KeysN l) (k : DNm) : mapDel l k = rm k l := by
  induction l with
  | nil => rfl
  | cons p l ih =>
    obtain ⟨h1, h2⟩ := List.pairwise_cons.1 h
    by_cases e : p.1 = k
    · subst e
      rw [rm_cons_self, rm_no fun q hq => (h1 q hq).symm]
      simp [mapDel]
    · rw [rm_cons_ne e, ← ih h2]
      simp [mapDel, e]
theorem put_perm {l : DFs} (h : KeysN l) (k : DNm) (v : DFl) : (mapPut l k v).Perm ((k, v) :: rm k l) := by
  induction l with
  | nil => exact List.Perm.refl _
  | cons p l ih =>
    obtain ⟨h1, h2⟩ := List.pairwise_cons.1 h
    by_cases e : p.1 = k
    · subst e
      rw [rm_cons_self, rm_no fun q hq => (h1 q hq).symm]
      simp [mapPut]
    · rw [rm_cons_ne e]
      simp only [mapPut, e, decide_false, cond_false]
      exact ((ih h2).cons p).trans (.swap _ _ _)
theorem put_new {l : DFs} {k : DNm} (h : mapHas l k = false) (v : DFl) : mapPut l k v = l ++ [(k, v)] := by
  induction l with
  | nil => rfl
  | cons p l ih =>
    simp only [mapHas, List.any_cons, Bool.or_eq_false_iff] at h
    simp only [mapPut, h.1, cond_false, List.cons_append]
    rw [ih h.2]

/-- A file in its place among others, by rising names; of its name there was one, or none. -/
def insF (f : DNm × DFl) : DFs → DFs
  | [] => [f]
  | g :: r => if f.1 ≤ g.1 then f :: rm f.1 (g :: r) else g :: insF f r
theorem insF_perm (f : DNm × DFl) : ∀ l : DFs, (insF f l).Perm (f :: rm f.1 l)
  | [] => List.Perm.refl _
  | g :: r => by
    unfold insF
    split
    · exact List.Perm.refl _
    · rename_i h
      have hne : ¬ g.1 = f.1 := fun e => h (by rw [e]; exact List.le_refl _)
      rw [rm_cons_ne hne]
      exact ((insF_perm f r).cons g).trans (.swap _ _ _)
theorem insF_sorted {f : DNm × DFl} : ∀ {l : DFs}, SortedF l → SortedF (insF f l)
  | [], _ => List.pairwise_singleton _ _
  | g :: r, h => by
    obtain ⟨h1, h2⟩ := List.pairwise_cons.1 h
    unfold insF
    split
    · rename_i hle
      refine List.pairwise_cons.2 ⟨fun q hq => ?_, rm_sorted h _⟩
      obtain ⟨q1, q2⟩ := rm_mem.1 hq
      have hle2 : f.1 ≤ q.1 := by
        rcases List.mem_cons.1 q1 with rfl | q1
        · exact hle
        · exact List.le_trans hle (List.le_of_lt (h1 q q1))
      exact List.not_le.1 fun h => q2 (List.le_antisymm h hle2)
    · rename_i hnl
      have hlt : g.1 < f.1 := List.not_le.1 hnl
      refine List.pairwise_cons.2 ⟨fun q hq => ?_, insF_sorted h2⟩
      rcases List.mem_cons.1 ((insF_perm f r).mem_iff.1 hq) with rfl | hq
      · exact hlt
      · exact h1 q (rm_mem.1 hq).1

theorem insF_after {f : DNm × DFl} : ∀ {a b : DFs}, (∀ p ∈ a, p.1 < f.1) → insF f (a ++ b) = a ++ insF f b
  | [], _, _ => rfl
  | g :: a, b, h => by
    have h1 : ¬ f.1 ≤ g.1 := List.not_le.2 (h g List.mem_cons_self)
    rw [List.cons_append, insF, if_neg h1, insF_after fun p hp => h p (List.mem_cons_of_mem _ hp)]
    rfl

theorem sumL_perm {l m : DFs} (h : l.Perm m) : sumL l = sumL m := by
  induction h with
  | nil => rfl
  | cons p _ ih => simp only [sumL, ih]
  | swap p q l => simp only [sumL]; omega
  | trans _ _ h1 h2 => exact h1.trans h2
theorem sumL_rm {l : DFs} (h : KeysN l) (k : DNm) : sumL (rm k l) + (mapGet l k f0).1.length = sumL l := by
  induction l with
  | nil => rfl
  | cons p l ih =>
    obtain ⟨h1, h2⟩ := List.pairwise_cons.1 h
    by_cases e : p.1 = k
    · subst e
      rw [rm_cons_self, rm_no fun q hq => (h1 q hq).symm, get_mem h List.mem_cons_self]
      simp only [sumL]; omega
    · rw [rm_cons_ne e]
      have := ih h2
      have hg : mapGet (p :: l) k f0 = mapGet l k f0 := by simp only [mapGet, List.find?_cons, e, decide_false]
      rw [hg]
      simp only [sumL]; omega
theorem sumL_app (l m : DFs) : sumL (l ++ m) = sumL l + sumL m := by
  induction l with
  | nil => simp [sumL]
  | cons p l ih => simp only [List.cons_append, sumL, ih]; omega
theorem sumL_mem {l : DFs} {p : DNm × DFl} (h : p ∈ l) : p.2.1.length ≤ sumL l := by
  induction l with
  | nil => cases h
  | cons q l ih =>
    rcases List.mem_cons.1 h with rfl | h
    · simp only [sumL]; omega
    · have := ih h; simp only [sumL]; omega
theorem sumL_get {l : DFs} (k : DNm) : (mapGet l k f0).1.length ≤ sumL l := by
  unfold mapGet
  split
  · rename_i p h; exact sumL_mem (List.mem_of_find?_eq_some h)
  · exact Nat.zero_le _

/-- The keys, sorted: those of a list by rising names that has the same entries. -/
theorem sortKeys_perm {l m : DFs} (h : l.Perm m) (hs : SortedF m) : sortKeys l = m.map (·.1) := by
  unfold sortKeys
  have h1 : (l.map (·.1)).mergeSort (fun x y => decide (x ≤ y)) = (m.map (·.1)).mergeSort (fun x y => decide (x ≤ y)) := mergeSort_of_perm (h.map _)
  rw [h1]
  refine List.mergeSort_of_pairwise ?_
  rw [List.pairwise_map]
  exact hs.imp fun h => decide_eq_true (List.le_of_lt h)
end Go.Hay
