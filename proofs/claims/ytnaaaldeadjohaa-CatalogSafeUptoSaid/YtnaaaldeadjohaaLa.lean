/- Loops that look for something; tables and projections that may be: the program and the document. Conditions: sizes below a bound. -/
import Derived.Test.YtnaaaldeadjohaaFb
import Derived.Test.YtnaaaldeadjohaaHayPl
set_option linter.unusedVariables false
set_option linter.unusedSimpArgs false
namespace Go.Hay.Ytnaaaldeadjohaa
open Go Go.Hay Go.Proofs

abbrev Col := List UInt8 × Int × Bool
abbrev Tb := List UInt8 × List Col
abbrev Pr := List UInt8 × Int × List Int × List Int × Int × Int
abbrev Cat := Int × Int × Int × List Tb × List Pr
abbrev c0 : Col := (([] : List UInt8), (0 : Int), false)
abbrev t0 : Tb := (([] : List UInt8), ([] : List Col))
abbrev p0 : Pr := (([] : List UInt8), (0 : Int), ([] : List Int), ([] : List Int), (0 : Int), (0 : Int))

/-- Does one of some numbers, from one on, fit? -/
def anyN (p : Nat → Bool) : Nat → Nat → Bool
  | _, 0 => false
  | i, d + 1 => p i || anyN p (i + 1) d
theorem anyN_congr {p q : Nat → Bool} : ∀ {d i : Nat}, (∀ j, i ≤ j → j < i + d → p j = q j) → anyN p i d = anyN q i d
  | 0, _, _ => rfl
  | d + 1, i, h => by
    rw [anyN, anyN, h i (Nat.le_refl _) (by omega), anyN_congr (d := d) (i := i + 1) (fun j h1 h2 => h j (by omega) (by omega))]
theorem anyN_iff {p : Nat → Bool} : ∀ {d i : Nat}, anyN p i d = true ↔ ∃ j, i ≤ j ∧ j < i + d ∧ p j = true
  | 0, i => by simp [anyN]; intro j h1 h2; omega
  | d + 1, i => by
    rw [anyN, Bool.or_eq_true, anyN_iff (d := d) (i := i + 1)]
    constructor
    · rintro (h | ⟨j, h1, h2, h3⟩)
      · exact ⟨i, Nat.le_refl _, by omega, h⟩
      · exact ⟨j, by omega, by omega, h3⟩
    · rintro ⟨j, h1, h2, h3⟩
      by_cases e : j = i
      · subst e; exact .inl h3
      · exact .inr ⟨j, by omega, by omega, h3⟩

section
variable {α : Type}
theorem scan_from {go : Nat → Int → Option ((α × Unit) ⊕ Unit)} {n : Nat} {p : Nat → Bool} {v : α} (hn : n ≤ 1099511627776)
    (hend : ∀ fuel, go (fuel + 1) (n : Int) = some (.inr ()))
    (hstep : ∀ i < n, ∀ fuel, go (fuel + 1) (i : Int) = if p i = true then some (.inl (v, ())) else go fuel (IntKind.i64.wrap ((i : Int) + 1))) :
    ∀ d i fuel, n = i + d → d < fuel → go fuel (i : Int) = some (if anyN p i d = true then .inl (v, ()) else .inr ())
  | _, _, 0, _, h => absurd h (Nat.not_lt_zero _)
  | 0, i, fuel + 1, e, hf => by
    have : i = n := by omega
    subst this
    rw [hend, anyN, if_neg (by decide)]
  | d + 1, i, fuel + 1, e, hf => by
    rw [hstep i (by omega), anyN]
    cases hp : p i with
    | true => rfl
    | false =>
      rw [if_neg (by decide), wrap_succ i (by omega), scan_from hn hend hstep d (i + 1) fuel (by omega) (by omega), Bool.false_or]
theorem scan {go : Nat → Int → Option ((α × Unit) ⊕ Unit)} {n : Nat} {p : Nat → Bool} {v : α} (hn : n ≤ 1099511627776)
    (hend : ∀ fuel, go (fuel + 1) (n : Int) = some (.inr ()))
    (hstep : ∀ i < n, ∀ fuel, go (fuel + 1) (i : Int) = if p i = true then some (.inl (v, ())) else go fuel (IntKind.i64.wrap ((i : Int) + 1)))
    {N : Nat} (hN : n < N) : go N 0 = some (if anyN p 0 n = true then .inl (v, ()) else .inr ()) := scan_from hn hend hstep n 0 N (by omega) hN
theorem find_from {go : Nat → Int → Option ((Int × Unit) ⊕ Unit)} {n : Nat} {p : Nat → Bool} (hn : n ≤ 1099511627776)
    (hend : ∀ fuel, go (fuel + 1) (n : Int) = some (.inr ()))
    (hstep : ∀ i < n, ∀ fuel, go (fuel + 1) (i : Int) = if p i = true then some (.inl ((i : Int), ())) else go fuel (IntKind.i64.wrap ((i : Int) + 1))) :
    ∀ d i fuel, n = i + d → d < fuel → (anyN p i d = true ∧ ∃ j : Nat, go fuel (i : Int) = some (.inl ((j : Int), ()))) ∨ (anyN p i d = false ∧ go fuel (i : Int) = some (.inr ()))
  | _, _, 0, _, h => absurd h (Nat.not_lt_zero _)
  | 0, i, fuel + 1, e, hf => by
    have : i = n := by omega
    subst this
    exact .inr ⟨rfl, hend _⟩
  | d + 1, i, fuel + 1, e, hf => by
    rw [hstep i (by omega), anyN]
    cases hp : p i with
    | true => exact .inl ⟨rfl, i, rfl⟩
    | false =>
      rw [if_neg (by decide), wrap_succ i (by omega), Bool.false_or]
      exact find_from hn hend hstep d (i + 1) fuel (by omega) (by omega)
theorem find {go : Nat → Int → Option ((Int × Unit) ⊕ Unit)} {n : Nat} {p : Nat → Bool} (hn : n ≤ 1099511627776)
    (hend : ∀ fuel, go (fuel + 1) (n : Int) = some (.inr ()))
    (hstep : ∀ i < n, ∀ fuel, go (fuel + 1) (i : Int) = if p i = true then some (.inl ((i : Int), ())) else go fuel (IntKind.i64.wrap ((i : Int) + 1)))
    {N : Nat} (hN : n < N) : (obind (obind (go N 0) fun y => match y with | .inl (t4, _) => some (t4, ()) | .inr (_) => some ((-1 : Int), ())) fun (n_, _) => some (decide (n_ ≥ (0 : Int)), ())) = some (anyN p 0 n, ()) := by
  rcases find_from hn hend hstep n 0 N (by omega) hN with ⟨h1, j, h2⟩ | ⟨h1, h2⟩
  · rw [show ((0 : Nat) : Int) = 0 from rfl] at h2
    rw [h2, h1]
    show some (decide ((j : Int) ≥ 0), ()) = _
    rw [decide_eq_true (by omega)]
  · rw [show ((0 : Nat) : Int) = 0 from rfl] at h2
    rw [h2, h1]
    rfl
end

theorem mem_any (l : List Int) (v : Int) : anyN (fun i => decide (v = l.getD i 0)) 0 l.length = decide (v ∈ l) := by
  rw [Bool.eq_iff_iff, anyN_iff, decide_eq_true_eq, List.mem_iff_getElem]
  constructor
  · rintro ⟨j, _, h2, h3⟩
    have h4 : j < l.length := by omega
    refine ⟨j, h4, ?_⟩
    have h5 := of_decide_eq_true h3
    rw [List.getD_eq_getElem?_getD, List.getElem?_eq_getElem h4] at h5
    exact h5.symm
  · rintro ⟨j, h4, h5⟩
    refine ⟨j, by omega, by omega, decide_eq_true ?_⟩
    rw [List.getD_eq_getElem?_getD, List.getElem?_eq_getElem h4]
    exact h5.symm
theorem ite_p {β : Type} {p : Prop} [Decidable p] {b : Bool} (h : b = decide p) {x y : β} : (if b = true then x else y) = (bif decide p then x else y) := by
  rw [h]; by_cases hp : p <;> simp [hp]

theorem contains_ok (N : Nat) (l : List Int) (v : Int) (hl : l.length ≤ 1099511627776) (hN : l.length < N) : slices_Contains_int_int.run N l v = some (decide (v ∈ l), ()) := by
  rw [← mem_any]
  refine find (go := fun fuel i => slices_Index_int_int_0.go N fuel l v (l.length : Int) i) hl (fun fuel => go_n (by omega) rfl) (fun i hi fuel => ?_) hN
  refine go_d (by omega) (go_t (inB_nat hi) ?_)
  simp only [decide_eq_true_eq, Int.toNat_natCast]
  by_cases h : v = l.getD i 0
  · rw [if_pos h]; exact go_d h rfl
  · rw [if_neg h]; exact go_n h rfl
theorem contains_b_ok (N : Nat) (l : List Int) (v : Int) (hl : l.length ≤ 1099511627776) (hN : l.length < N) : slices_Contains_int_int_b.run N l v = some (decide (v ∈ l), ()) := by
  rw [← mem_any]
  refine find (go := fun fuel i => slices_Index_int_int_b_0.go N fuel l v (l.length : Int) i) hl (fun fuel => go_n (by omega) rfl) (fun i hi fuel => ?_) hN
  refine go_d (by omega) (go_t (inB_nat hi) (go_d (by rw [Int.toNat_natCast]; exact hi) ?_))
  simp only [decide_eq_true_eq, Int.toNat_natCast]
  by_cases h : v = l.getD i 0
  · rw [if_pos h]; exact go_d h rfl
  · rw [if_neg h]; exact go_n h rfl
theorem in_ok (N : Nat) (l : List Int) (v : Int) (hl : l.length ≤ 1099511627776) (hN : l.length < N) : ref_In.run N l v = some (decide (v ∈ l), ()) := by
  rw [← mem_any]
  refine go_o (scan (go := fun fuel i => ref_In_0.go N fuel l v i) (v := true) (p := fun i => decide (v = l.getD i 0)) hl (fun fuel => go_n (by omega) rfl) (fun i hi fuel => ?_) hN) ?_
  · refine go_d (by omega) (go_t (inB_nat hi) ?_)
    simp only [decide_eq_true_eq, Int.toNat_natCast]
    by_cases h : v = l.getD i 0
    · rw [if_pos h]; exact go_d h.symm rfl
    · rw [if_neg h]; exact go_n (fun e => h e.symm) rfl
  · cases anyN (fun i => decide (v = l.getD i 0)) 0 l.length <;> rfl
theorem in_b_ok (N : Nat) (l : List Int) (v : Int) (hl : l.length ≤ 1099511627776) (hN : l.length < N) : ref_In_b.run N l v = some (decide (v ∈ l), ()) := by
  rw [← mem_any]
  refine go_o (scan (go := fun fuel i => ref_In_b_0.go N fuel l v i) (v := true) (p := fun i => decide (v = l.getD i 0)) hl (fun fuel => go_n (by omega) rfl) (fun i hi fuel => ?_) hN) ?_
  · refine go_d (by omega) (go_t (inB_nat hi) (go_d (by rw [Int.toNat_natCast]; exact hi) ?_))
    simp only [decide_eq_true_eq, Int.toNat_natCast]
    by_cases h : v = l.getD i 0
    · rw [if_pos h]; exact go_d h.symm rfl
    · rw [if_neg h]; exact go_n (fun e => h e.symm) rfl
  · cases anyN (fun i => decide (v = l.getD i 0)) 0 l.length <;> rfl

/-- Are places unlike, and below so many? -/
def badAt (l : List Int) (many : Int) (i : Nat) : Bool := decide (l.getD i 0 < 0) || (decide (l.getD i 0 ≥ many) || decide (l.getD i 0 ∈ l.take i))
def unl (l : List Int) (many : Int) : Bool := !anyN (badAt l many) 0 l.length
theorem unlike_ok (N : Nat) (l : List Int) (many : Int) (hl : l.length ≤ 1099511627776) (hN : l.length < N) : catalog_unlike.run N l many = some (unl l many, ()) := by
  refine go_o (scan (go := fun fuel i => catalog_unlike_0.go N fuel l many l (l.length : Int) i) (v := false) (p := badAt l many) hl (fun fuel => go_n (by omega) rfl) (fun i hi fuel => ?_) hN) ?_
  · refine go_d (by omega) (go_t (inB_nat hi) ?_)
    rw [Int.toNat_natCast]
    unfold badAt
    by_cases h1 : l.getD i 0 < 0
    · rw [decide_eq_true h1]; rfl
    rw [decide_eq_false h1]
    refine go_f rfl ?_
    by_cases h2 : l.getD i 0 ≥ many
    · rw [decide_eq_true h2]; rfl
    rw [decide_eq_false h2]
    refine go_f rfl (go_t (okB_t (by omega) (by omega) (by omega)) (go_o (contains_ok N (l.take i) (l.getD i 0) (by rw [List.length_take]; omega) (by rw [List.length_take]; omega)) ?_))
    cases decide (l.getD i 0 ∈ l.take i) <;> rfl
  · unfold unl
    cases anyN (badAt l many) 0 l.length <;> rfl
theorem places_ok (N : Nat) (l : List Int) (many : Int) (hl : l.length ≤ 1099511627776) (hN : l.length < N) : ref_places.run N l many = some (unl l many, ()) := by
  refine go_o (scan (go := fun fuel i => ref_places_0.go N fuel l many i) (v := false) (p := badAt l many) hl (fun fuel => go_n (by omega) rfl) (fun i hi fuel => ?_) hN) ?_
  · refine go_d (by omega) (go_t (okB_t (by omega) (by omega) (by omega)) (go_t (inB_nat hi) ?_))
    rw [Int.toNat_natCast]
    refine go_o (in_ok N (l.take i) (l.getD i 0) (by rw [List.length_take]; omega) (by rw [List.length_take]; omega)) (go_t (inB_nat hi) ?_)
    unfold badAt
    by_cases h1 : l.getD i 0 < 0
    · rw [decide_eq_true h1]; rfl
    rw [decide_eq_false h1]
    refine go_f rfl (go_t (inB_nat hi) ?_)
    by_cases h2 : l.getD i 0 ≥ many
    · rw [decide_eq_true h2]; rfl
    rw [decide_eq_false h2]
    refine go_f rfl ?_
    cases decide (l.getD i 0 ∈ l.take i) <;> rfl
  · unfold unl
    cases anyN (badAt l many) 0 l.length <;> rfl

/- Tables. -/
def nmd (s : List UInt8) : Bool := decide (1 ≤ s.length) && decide (s.length ≤ 64)
theorem vnamed_ok (N : Nat) (s : List UInt8) : value_named.run N s = some (nmd s, ()) := by
  unfold nmd
  by_cases h : 1 ≤ s.length
  · rw [decide_eq_true h]
    refine go_d (by omega) ?_
    simp; omega
  · rw [decide_eq_false h]
    exact go_n (by omega) rfl
theorem cnamed_ok (N : Nat) (s : List UInt8) : catalog_named.run N s = some (nmd s, ()) := by
  unfold nmd
  by_cases h : 1 ≤ s.length
  · rw [decide_eq_true h]
    refine go_d (by omega) ?_
    simp; omega
  · rw [decide_eq_false h]
    exact go_n (by omega) rfl
theorem rnamed_ok (N : Nat) (s : List UInt8) : ref_named.run N s = some (nmd s, ()) := by
  unfold nmd
  by_cases h : 1 ≤ s.length
  · rw [decide_eq_true h]
    refine go_d (by omega) ?_
    simp; omega
  · rw [decide_eq_false h]
    exact go_n (by omega) rfl
def twiceCol (cs : List Col) (i : Nat) : Bool := anyN (fun k => decide ((cs.getD k c0).1 = (cs.getD i c0).1)) 0 i
def badCol (cs : List Col) (i : Nat) : Bool := !nmd (cs.getD i c0).1 || (decide ((cs.getD i c0).2.1 < 1) || (decide ((cs.getD i c0).2.1 > 3) || twiceCol cs i))
/-- What is amiss with a table. -/
def badT (t : Tb) : Bool := !nmd t.1 || (decide (t.2.length = 0) || (decide (t.2.length > 8) || anyN (badCol t.2) 0 t.2.length))
def tabE (t : Tb) : Int := if badT t = true then 20 else 0
theorem getD_take {α : Type} (l : List α) (n i : Nat) (d : α) (h : i < n) : (l.take n).getD i d = l.getD i d := by
  rw [List.getD_eq_getElem?_getD, List.getElem?_take_of_lt h, List.getD_eq_getElem?_getD]
theorem vtable_ok (N : Nat) (t : Tb) (hl : t.2.length ≤ 1099511627776) (hN : t.2.length < N) : value_Table.run N t = some (tabE t, ()) := by
  refine go_o (vnamed_ok N t.1) ?_
  unfold tabE badT
  cases h0 : nmd t.1 with
  | false => rfl
  | true =>
    refine go_f rfl ?_
    by_cases h1 : t.2.length = 0
    · rw [decide_eq_true h1]
      exact go_d (by omega) rfl
    rw [decide_eq_false h1]
    refine go_n (by omega) ?_
    by_cases h2 : t.2.length > 8
    · rw [decide_eq_true h2]
      exact go_d (by omega) rfl
    rw [decide_eq_false h2]
    refine go_n (by omega) (go_o (scan (go := fun fuel i => value_Table_0.go N fuel t.1 t.2 t.2 (t.2.length : Int) i) (v := (20 : Int)) (p := badCol t.2) hl (fun fuel => go_n (by omega) rfl) (fun i hi fuel => ?_) hN) ?_)
    · refine go_d (by omega) (go_t (inB_nat hi) ?_)
      rw [Int.toNat_natCast]
      refine go_o (vnamed_ok N _) ?_
      unfold badCol
      cases nmd (t.2.getD i c0).1 with
      | false => rfl
      | true =>
        refine go_f rfl ?_
        by_cases h3 : (t.2.getD i c0).2.1 < 1
        · rw [decide_eq_true h3]; rfl
        rw [decide_eq_false h3]
        refine go_f rfl ?_
        by_cases h4 : (t.2.getD i c0).2.1 > 3
        · rw [decide_eq_true h4]; rfl
        rw [decide_eq_false h4]
        have hlt : (t.2.take i).length = i := by rw [List.length_take]; omega
        refine go_f rfl (go_t (okB_t (by omega) (by omega) (by omega)) (go_o (scan (go := fun fuel j => value_Table_0_0.go N fuel (t.2.getD i c0).1 (t.2.getD i c0).2.1 (t.2.getD i c0).2.2 (t.2.take i) ((t.2.take i).length : Int) j) (v := (20 : Int)) (n := i) (p := fun k => decide ((t.2.getD k c0).1 = (t.2.getD i c0).1)) (by omega) (fun fuel => go_n (by omega) rfl) (fun k hk fuel => ?_) (by omega)) ?_))
        · refine go_d (by omega) (go_t (inB_nat (by omega)) ?_)
          rw [Int.toNat_natCast, getD_take _ _ _ _ hk]
          by_cases h5 : (t.2.getD k c0).1 = (t.2.getD i c0).1
          · rw [decide_eq_true h5]; rfl
          · rw [decide_eq_false h5]; rfl
        · unfold twiceCol
          cases anyN (fun k => decide ((t.2.getD k c0).1 = (t.2.getD i c0).1)) 0 i <;> rfl
    · cases anyN (badCol t.2) 0 t.2.length <;> rfl
theorem rtable_ok (N : Nat) (t : Tb) (hl : t.2.length ≤ 1099511627776) (hN : t.2.length < N) : ref_Table.run N t = some (tabE t, ()) := by
  refine go_o (rnamed_ok N t.1) ?_
  unfold tabE badT
  cases h0 : nmd t.1 with
  | false => rfl
  | true =>
    refine go_f rfl ?_
    by_cases h1 : t.2.length = 0
    · rw [decide_eq_true h1]
      exact go_d (by omega) rfl
    rw [decide_eq_false h1]
    refine go_n (by omega) ?_
    by_cases h2 : t.2.length > 8
    · rw [decide_eq_true h2]
      exact go_d (by omega) rfl
    rw [decide_eq_false h2]
    refine go_n (by omega) (go_o (scan (go := fun fuel i => ref_Table_0.go N fuel t.1 t.2 i) (v := (20 : Int)) (p := badCol t.2) hl (fun fuel => go_n (by omega) rfl) (fun i hi fuel => ?_) hN) ?_)
    · refine go_d (by omega) (go_t (inB_nat hi) ?_)
      rw [Int.toNat_natCast]
      refine go_o (rnamed_ok N _) ?_
      unfold badCol
      cases nmd (t.2.getD i c0).1 with
      | false => rfl
      | true =>
        refine go_f rfl (go_t (inB_nat hi) ?_)
        by_cases h3 : (t.2.getD i c0).2.1 < 1
        · rw [decide_eq_true h3]; rfl
        rw [decide_eq_false h3]
        refine go_f rfl (go_t (inB_nat hi) ?_)
        by_cases h4 : (t.2.getD i c0).2.1 > 3
        · rw [decide_eq_true h4]; rfl
        rw [decide_eq_false h4]
        refine go_f rfl (go_o (scan (go := fun fuel j => ref_Table_0_0.go N fuel t.1 t.2 (i : Int) j) (v := (20 : Int)) (n := i) (p := fun k => decide ((t.2.getD k c0).1 = (t.2.getD i c0).1)) (by omega) (fun fuel => go_n (by omega) rfl) (fun k hk fuel => ?_) (by omega)) ?_)
        · refine go_d (by omega) (go_t (inB_nat (by omega)) (go_t (inB_nat hi) ?_))
          rw [Int.toNat_natCast, Int.toNat_natCast]
          by_cases h5 : (t.2.getD k c0).1 = (t.2.getD i c0).1
          · rw [decide_eq_true h5]; rfl
          · rw [decide_eq_false h5]; rfl
        · unfold twiceCol
          cases anyN (fun k => decide ((t.2.getD k c0).1 = (t.2.getD i c0).1)) 0 i <;> rfl
    · cases anyN (badCol t.2) 0 t.2.length <;> rfl
theorem alive_ok (k : Nat) : law_alive.run (k + 20) = some (true, ()) := by
  kernel_rfl
end Go.Hay.Ytnaaaldeadjohaa
