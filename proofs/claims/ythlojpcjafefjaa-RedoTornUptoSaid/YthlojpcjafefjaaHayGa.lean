/- Maps: entries and what is said of them. Conditions: none. -/
import Derived.Test.YthlojpcjafefjaaHayG
set_option linter.unusedVariables false
set_option linter.unusedSimpArgs false
namespace Go.Hay
open Go.RowKit

/-- Entries that stand for a list of keys and elements. -/
def EntR (I : Nat → Prop) (w : World) (agg : Bool) (E : Ty) : List (List UInt8 × E.den) → List MapEntry → Prop
  | [], es => es = []
  | p :: l, es => ∃ x r, es = x :: r ∧ (x.key = .string ⟨p.1.toArray⟩ ∧ p.1.length ≤ maxLen ∧ TR I w E p.2 x.val.cells.toList ∧ isAggV x.val = agg) ∧ EntR I w agg E l r

section
variable {I : Nat → Prop} {w : World} {agg : Bool} {E : Ty}

theorem EntR.of : ∀ {l : List (List UInt8 × E.den)} {es : List MapEntry} {us : List Value}, us = (es.flatMap fun x => x.key :: x.val.cells.toList) → (∀ x ∈ es, x.val.cells.size + 1 = (Ty.pair .str E).size) → (∀ x ∈ es, isAggV x.val = agg) → es.length = l.length →
    Cat (TR I w (.pair .str E)) l us → EntR I w agg E l es
  | [], es, us, hu, hz, ha, hl, hc => by simpa [EntR] using List.eq_nil_of_length_eq_zero hl
  | p :: l, [], us, hu, hz, ha, hl, hc => by simp at hl
  | p :: l, x :: es, us, hu, hz, ha, hl, hc => by
    obtain ⟨a, b, e, h1, h2⟩ := hc
    have hlen := TR.len h1
    rw [hu, List.flatMap_cons] at e
    have hx := hz x List.mem_cons_self
    obtain ⟨e1, e2⟩ := List.append_inj e (by rw [hlen, ← hx]; simp)
    simp only [TR] at h1
    obtain ⟨u, v, e3, ⟨e4, e5⟩, h3⟩ := h1
    rw [e3, e4] at e1
    simp only [List.cons_append, List.nil_append, List.cons.injEq] at e1
    refine ⟨x, es, rfl, ⟨e1.1, e5, by rw [e1.2]; exact h3, ha x List.mem_cons_self⟩, EntR.of (us := b) e2.symm (fun y hy => hz y (List.mem_cons_of_mem _ hy)) (fun y hy => ha y (List.mem_cons_of_mem _ hy)) (by simpa using hl) h2⟩

theorem EntR.cat : ∀ {l : List (List UInt8 × E.den)} {es : List MapEntry}, EntR I w agg E l es → Cat (TR I w (.pair .str E)) l (es.flatMap fun x => x.key :: x.val.cells.toList) ∧ (∀ x ∈ es, x.val.cells.size + 1 = (Ty.pair .str E).size) ∧ (∀ x ∈ es, isAggV x.val = agg) ∧ es.length = l.length
  | [], es, h => by simp only [EntR] at h; subst h; simp [Cat]
  | p :: l, es, ⟨x, r, e, ⟨h1, h2, h3, h4⟩, h5⟩ => by
    subst e
    obtain ⟨g1, g2, g3, g4⟩ := EntR.cat h5
    refine ⟨?_, ?_, ?_, by simp [g4]⟩
    · rw [List.flatMap_cons]
      exact ⟨x.key :: x.val.cells.toList, _, rfl, ⟨[x.key], x.val.cells.toList, rfl, ⟨by rw [h1], h2⟩, h3⟩, g1⟩
    · intro y hy
      rcases List.mem_cons.1 hy with rfl | hy
      · have := TR.len h3
        simp only [Array.length_toList] at this
        simp only [Ty.size, this]
        omega
      · exact g2 y hy
    · intro y hy
      rcases List.mem_cons.1 hy with rfl | hy
      · exact h4
      · exact g3 y hy

theorem EntR.key : ∀ {l : List (List UInt8 × E.den)} {es : List MapEntry}, EntR I w agg E l es → ∀ x ∈ es, MapKept.IsKey .string x.key
  | [], es, h, x, hx => by simp only [EntR] at h; subst h; cases hx
  | p :: l, es, ⟨y, r, e, ⟨h1, _⟩, h5⟩, x, hx => by
    subst e
    rcases List.mem_cons.1 hx with rfl | hx
    · rw [h1]; trivial
    · exact EntR.key h5 x hx

theorem str_inj {a b : List UInt8} : (Value.string ⟨a.toArray⟩ = Value.string ⟨b.toArray⟩) ↔ a = b := by
  constructor
  · intro h
    simp only [Value.string.injEq, ByteArray.mk.injEq] at h
    simpa using congrArg Array.toList h
  · rintro rfl; rfl

/-- A key that no entry has. -/
theorem EntR.miss {k : List UInt8} : ∀ {l : List (List UInt8 × E.den)} {es : List MapEntry}, EntR I w agg E l es → (∀ x ∈ es, x.key ≠ .string ⟨k.toArray⟩) →
    mapHas l k = false ∧ (∀ d, mapGet l k d = d) ∧ (∀ y, mapPut l k y = l ++ [(k, y)]) ∧ mapDel l k = l
  | [], es, h, hk => ⟨rfl, fun _ => rfl, fun _ => rfl, rfl⟩
  | p :: l, es, ⟨x, r, e, ⟨h1, _⟩, h5⟩, hk => by
    subst e
    have hne : ¬ p.1 = k := fun e => hk x List.mem_cons_self (by rw [h1, e])
    obtain ⟨g1, g2, g3, g4⟩ := EntR.miss h5 fun y hy => hk y (List.mem_cons_of_mem _ hy)
    refine ⟨?_, fun d => ?_, fun y => ?_, ?_⟩
    · simp only [mapHas, List.any_cons, hne, decide_false, Bool.false_or]; exact g1
    · have := g2 d
      simp only [mapGet, List.find?_cons, hne, decide_false] at *
      exact this
    · simp only [mapPut, hne, decide_false, cond_false, g3, List.cons_append]
    · simp only [mapDel, hne, decide_false, cond_false, g4]

/-- A key that an entry has. -/
theorem EntR.hit {k : List UInt8} : ∀ {l : List (List UInt8 × E.den)} {es : List MapEntry} {j : Nat} {e : MapEntry}, EntR I w agg E l es → es.Pairwise (fun x y => x.key ≠ y.key) → es[j]? = some e → e.key = .string ⟨k.toArray⟩ →
    mapHas l k = true ∧ (∀ d, TR I w E (mapGet l k d) e.val.cells.toList) ∧ isAggV e.val = agg ∧ k.length ≤ maxLen ∧
    (∀ y v, TR I w E y v.cells.toList → isAggV v = agg → EntR I w agg E (mapPut l k y) (es.modify j fun e => { e with key := .string ⟨k.toArray⟩, val := v })) ∧
    EntR I w agg E (mapDel l k) (es.eraseIdx j)
  | [], es, j, e, h, hp, hj, hk => by simp only [EntR] at h; subst h; simp at hj
  | p :: l, es, j, e, ⟨x, r, e1, ⟨h1, h2, h3, h4⟩, h5⟩, hp, hj, hk => by
    subst e1
    cases j with
    | zero =>
      simp only [List.getElem?_cons_zero, Option.some.injEq] at hj
      subst hj
      rw [h1] at hk
      have hk := str_inj.1 hk
      refine ⟨by simp [mapHas, hk], fun d => by simpa [mapGet, List.find?_cons, hk] using h3, h4, by rw [← hk]; exact h2, fun y v hy hv => ?_, ?_⟩
      · simp only [mapPut, hk, decide_true, cond_true, List.modify_zero_cons]
        exact ⟨_, r, rfl, ⟨rfl, by rw [← hk]; exact h2, hy, hv⟩, h5⟩
      · simpa only [mapDel, hk, decide_true, cond_true, List.eraseIdx_cons_zero] using h5
    | succ j =>
      simp only [List.getElem?_cons_succ] at hj
      obtain ⟨q1, q2⟩ := List.pairwise_cons.1 hp
      have hne : ¬ p.1 = k := fun e' => q1 e (List.mem_of_getElem? hj) (by rw [h1, hk, e'])
      obtain ⟨g1, g2, g3, g4, g5, g6⟩ := EntR.hit h5 q2 hj hk
      refine ⟨?_, fun d => ?_, g3, g4, fun y v hy hv => ?_, ?_⟩
      · simp only [mapHas, List.any_cons, hne, decide_false, Bool.false_or]; exact g1
      · have := g2 d
        simp only [mapGet, List.find?_cons, hne, decide_false] at *
        exact this
      · simp only [mapPut, hne, decide_false, cond_false, List.modify_succ_cons]
        exact ⟨x, _, rfl, ⟨h1, h2, h3, h4⟩, g5 y v hy hv⟩
      · simp only [mapDel, hne, decide_false, cond_false, List.eraseIdx_cons_succ]
        exact ⟨x, _, rfl, ⟨h1, h2, h3, h4⟩, g6⟩

theorem EntR.push {k : List UInt8} {y : E.den} {v : Value} {b : Nat} (hk : k.length ≤ maxLen) (hy : TR I w E y v.cells.toList) (hv : isAggV v = agg) : ∀ {l : List (List UInt8 × E.den)} {es : List MapEntry}, EntR I w agg E l es →
    EntR I w agg E (l ++ [(k, y)]) (es ++ [⟨.string ⟨k.toArray⟩, v, b⟩])
  | [], es, h => by simp only [EntR] at h; subst h; exact ⟨_, [], rfl, ⟨rfl, hk, hy, hv⟩, rfl⟩
  | p :: l, es, ⟨x, r, e1, h1, h5⟩ => by subst e1; exact ⟨x, _, rfl, h1, EntR.push hk hy hv h5⟩

theorem EntR.lasts {I' : Nat → Prop} {w' : World} (h : Lasts I I' w w') : ∀ {l : List (List UInt8 × E.den)} {es : List MapEntry}, EntR I w agg E l es → EntR I' w' agg E l es
  | [], es, hc => hc
  | p :: l, es, ⟨x, r, e1, ⟨h1, h2, h3, h4⟩, h5⟩ => ⟨x, r, e1, ⟨h1, h2, TR.lasts h h3, h4⟩, EntR.lasts h h5⟩
end

/-- A map that is ours, as its entries. -/
theorem map_ents [Sites] {c : Cf} {w : World} {id b : Nat} {e : TypeId} {E : Ty} {l : List (Ty.pair .str E).den} (ho : ObR c w id (.row e (.pair .str E) l)) (hn : c.nm id = some (.map (some b))) :
    ∃ es clock, w.heap[b]? = some (.map es clock) ∧ MapKept.Stamped es clock ∧ EntR c.I w (mapAgg e) E l es.toList ∧ isMapTy e = true := by
  obtain ⟨v, us, h1, h2, h3⟩ := ho
  rw [hn] at h1
  simp only [Option.some.injEq] at h1
  subst h1
  rcases h2.2 with ⟨_, A, h4⟩ | ⟨_, _, _, h4, _⟩ | ⟨b', es, clock, h4, h5, h6, h7, h8⟩
  · cases h4
  · cases h4
  · simp only [Value.map.injEq, Option.some.injEq] at h4
    subst h4
    exact ⟨es, clock, h5, h7.stamped, EntR.of h7.cells h7.len h7.agg (by simpa using h6) h3, h8⟩
/-- Entries make a map of ours. -/
theorem ents_map [Sites] {c : Cf} {w : World} {id b : Nat} {e : TypeId} {E : Ty} {l : List (Ty.pair .str E).den} (hn : c.nm id = some (.map (some b))) {es : Array MapEntry} {clock : Nat} (h1 : w.heap[b]? = some (.map es clock)) (h2 : MapKept.Stamped es clock)
    (h3 : EntR c.I w (mapAgg e) E l es.toList) (h4 : isMapTy e = true) : ObR c w id (.row e (.pair .str E) l) := by
  obtain ⟨g1, g2, g3, g4⟩ := h3.cat
  exact ⟨_, _, hn, ⟨g1.length TR_len_fun, .inr (.inr ⟨b, es, clock, rfl, h1, by simpa using g4, ⟨rfl, g2, g3, h2⟩, h4⟩)⟩, g1⟩
end Go.Hay
