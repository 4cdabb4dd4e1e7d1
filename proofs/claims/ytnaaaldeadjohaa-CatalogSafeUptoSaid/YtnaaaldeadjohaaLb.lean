/- Projections, covers, where segments lie, the check: the program and the document. Conditions: sizes below a bound. -/
import Derived.Test.YtnaaaldeadjohaaLa
set_option linter.unusedVariables false
set_option linter.unusedSimpArgs false
namespace Go.Hay.Ytnaaaldeadjohaa
open Go Go.Hay Go.Proofs

def sameTab (s : List Tb) (name : List UInt8) (k : Nat) : Bool := decide ((s.getD k t0).1 = name)
theorem containsT_ok (N : Nat) (s : List Tb) (name : List UInt8) (cs : List Col) (hl : s.length ≤ 1099511627776) (hN : s.length < N) : slices_ContainsFunc_api_Table_api_Table.run N s name cs = some (anyN (sameTab s name) 0 s.length, ()) := by
  refine find (go := fun fuel i => slices_IndexFunc_api_Table_api_Table_0.go N fuel s name cs (s.length : Int) i) hl (fun fuel => go_n (by omega) rfl) (fun i hi fuel => ?_) hN
  refine go_d (by omega) (go_t (inB_nat hi) ?_)
  rw [Int.toNat_natCast]
  refine go_o (v := (sameTab s name i, ())) rfl ?_
  cases sameTab s name i <;> rfl
def samePro (s : List Pr) (name : List UInt8) (k : Nat) : Bool := decide ((s.getD k p0).1 = name)
theorem containsP_ok (N : Nat) (s : List Pr) (name : List UInt8) (a : Int) (b c : List Int) (d e : Int) (hl : s.length ≤ 1099511627776) (hN : s.length < N) : slices_ContainsFunc_api_Projection_api_Projection.run N s name a b c d e = some (anyN (samePro s name) 0 s.length, ()) := by
  refine find (go := fun fuel i => slices_IndexFunc_api_Projection_api_Projection_0.go N fuel s name a b c d e (s.length : Int) i) hl (fun fuel => go_n (by omega) rfl) (fun i hi fuel => ?_) hN
  refine go_d (by omega) (go_t (inB_nat hi) ?_)
  rw [Int.toNat_natCast]
  refine go_o (v := (samePro s name i, ())) rfl ?_
  cases samePro s name i <;> rfl
def outAt (cols s : List Int) (k : Nat) : Bool := !decide (s.getD k 0 ∈ cols)
theorem containsO_ok (N : Nat) (s : List Int) (name : List UInt8) (a : Int) (cols c : List Int) (d e : Int) (hl : s.length ≤ 1099511627776) (hN : s.length < N) (hc : cols.length ≤ 1099511627776) (hcN : cols.length < N) : slices_ContainsFunc_int_int.run N s name a cols c d e = some (anyN (outAt cols s) 0 s.length, ()) := by
  refine find (go := fun fuel i => slices_IndexFunc_int_int_0.go N fuel s name a cols c d e (s.length : Int) i) hl (fun fuel => go_n (by omega) rfl) (fun i hi fuel => ?_) hN
  refine go_d (by omega) (go_t (inB_nat hi) ?_)
  rw [Int.toNat_natCast]
  refine go_o (v := (outAt cols s i, ())) (go_o (v := (decide (s.getD i 0 ∈ cols), ())) (go_o (contains_ok N cols _ hc hcN) rfl) rfl) ?_
  cases outAt cols s i <;> rfl

/-- Are a catalog's lists below a bound? -/
def small (K : Nat) (c : Cat) : Prop := c.2.2.2.1.length ≤ K ∧ c.2.2.2.2.length ≤ K ∧ (∀ t ∈ c.2.2.2.1, t.2.length ≤ K) ∧ ∀ p ∈ c.2.2.2.2, p.2.2.1.length ≤ K ∧ p.2.2.2.1.length ≤ K
theorem getD_mem {α : Type} {l : List α} {i : Nat} (h : i < l.length) (d : α) : l.getD i d ∈ l := by
  rw [List.getD_eq_getElem?_getD, List.getElem?_eq_getElem h]
  exact List.getElem_mem h

def okP (c : Cat) (p : Pr) : Bool :=
  nmd p.1 && (!decide (p.2.1 < 0) && (!decide (p.2.1 ≥ (c.2.2.2.1.length : Int)) && (!decide ((p.2.2.1.length : Int) = 0) && (!decide (p.2.2.2.2.2 < 0) && (!decide (p.2.2.2.2.2 ≥ c.1) &&
    (unl p.2.2.1 ((c.2.2.2.1.getD p.2.1.toNat t0).2.length : Int) && (unl p.2.2.2.1 ((c.2.2.2.1.getD p.2.1.toNat t0).2.length : Int) && (decide (p.2.2.2.2.1 ∈ p.2.2.1) && !anyN (outAt p.2.2.1 p.2.2.2.1) 0 p.2.2.2.1.length))))))))
theorem cproj_ok (N : Nat) (c : Cat) (p : Pr) (h1 : p.2.2.1.length ≤ 1099511627776) (h2 : p.2.2.2.1.length ≤ 1099511627776) (n1 : p.2.2.1.length < N) (n2 : p.2.2.2.1.length < N) : catalog_projection.run N c p = some (okP c p, ()) := by
  refine go_o (cnamed_ok N p.1) ?_
  unfold okP
  cases nmd p.1 with
  | false => rfl
  | true =>
  refine go_f rfl ?_
  by_cases a1 : p.2.1 < 0
  · rw [decide_eq_true a1]; rfl
  rw [decide_eq_false a1]
  refine go_f rfl ?_
  by_cases a2 : p.2.1 ≥ (c.2.2.2.1.length : Int)
  · rw [decide_eq_true a2]; rfl
  rw [decide_eq_false a2]
  refine go_f rfl ?_
  by_cases a3 : (p.2.2.1.length : Int) = 0
  · rw [decide_eq_true a3]; rfl
  rw [decide_eq_false a3]
  refine go_f rfl ?_
  by_cases a4 : p.2.2.2.2.2 < 0
  · rw [decide_eq_true a4]; rfl
  rw [decide_eq_false a4]
  refine go_f rfl ?_
  by_cases a5 : p.2.2.2.2.2 ≥ c.1
  · rw [decide_eq_true a5]; rfl
  rw [decide_eq_false a5]
  refine go_f rfl (go_t (inB_t (by omega) (by omega)) (go_o (unlike_ok N p.2.2.1 _ h1 n1) ?_))
  cases unl p.2.2.1 ((c.2.2.2.1.getD p.2.1.toNat t0).2.length : Int) with
  | false => rfl
  | true =>
  refine go_f rfl (go_o (unlike_ok N p.2.2.2.1 _ h2 n2) ?_)
  cases unl p.2.2.2.1 ((c.2.2.2.1.getD p.2.1.toNat t0).2.length : Int) with
  | false => rfl
  | true =>
  refine go_f rfl (go_o (v := (decide (p.2.2.2.2.1 ∈ p.2.2.1), ())) (go_o (contains_ok N p.2.2.1 _ h1 n1) rfl) ?_)
  cases decide (p.2.2.2.2.1 ∈ p.2.2.1) with
  | false => rfl
  | true => exact go_f rfl (go_o (containsO_ok N _ _ _ _ _ _ _ h2 n2 h1 n1) rfl)
theorem rproj_ok (N : Nat) (c : Cat) (p : Pr) (h1 : p.2.2.1.length ≤ 1099511627776) (h2 : p.2.2.2.1.length ≤ 1099511627776) (n1 : p.2.2.1.length < N) (n2 : p.2.2.2.1.length < N) : ref_projection.run N c p = some (okP c p, ()) := by
  unfold okP
  by_cases z1 : (p.1.length : Int) = 0
  · have : nmd p.1 = false := by unfold nmd; rw [decide_eq_false (by omega)]; rfl
    rw [this]
    exact go_d z1 rfl
  refine go_n z1 ?_
  by_cases z2 : (p.1.length : Int) > 64
  · have : nmd p.1 = false := by unfold nmd; rw [decide_eq_false (p := p.1.length ≤ 64) (by omega), Bool.and_false]
    rw [this]
    exact go_d z2 rfl
  have hn : nmd p.1 = true := by unfold nmd; rw [decide_eq_true (by omega), decide_eq_true (by omega)]; rfl
  rw [hn]
  refine go_n z2 ?_
  by_cases a1 : p.2.1 < 0
  · rw [decide_eq_true a1]; rfl
  rw [decide_eq_false a1]
  refine go_f rfl ?_
  by_cases a2 : p.2.1 ≥ (c.2.2.2.1.length : Int)
  · rw [decide_eq_true a2]; rfl
  rw [decide_eq_false a2]
  refine go_f rfl ?_
  by_cases a3 : (p.2.2.1.length : Int) = 0
  · rw [decide_eq_true a3]; rfl
  rw [decide_eq_false a3]
  refine go_f rfl (go_t (inB_t (by omega) (by omega)) (go_o (places_ok N p.2.2.1 _ h1 n1) (go_o (places_ok N p.2.2.2.1 _ h2 n2) (go_o (in_ok N p.2.2.1 _ h1 n1) (go_o (scan (go := fun fuel i => ref_projection_0.go N fuel p.1 p.2.1 p.2.2.1 p.2.2.2.1 p.2.2.2.2.1 p.2.2.2.2.2 i) (v := false) (p := outAt p.2.2.1 p.2.2.2.1) h2 (fun fuel => go_n (by omega) rfl) (fun i hi fuel => ?_) n2) ?_)))))
  · refine go_d (by omega) (go_t (inB_nat hi) ?_)
    rw [Int.toNat_natCast]
    refine go_o (in_ok N p.2.2.1 _ h1 n1) ?_
    unfold outAt
    cases decide (p.2.2.2.1.getD i 0 ∈ p.2.2.1) <;> rfl
  · by_cases a4 : p.2.2.2.2.2 < 0
    · rw [decide_eq_true a4, decide_eq_false (p := p.2.2.2.2.2 ≥ 0) (by omega)]
      cases anyN (outAt p.2.2.1 p.2.2.2.1) 0 p.2.2.2.1.length <;> cases unl p.2.2.1 ((c.2.2.2.1.getD p.2.1.toNat t0).2.length : Int) <;> cases unl p.2.2.2.1 ((c.2.2.2.1.getD p.2.1.toNat t0).2.length : Int) <;> cases decide (p.2.2.2.2.1 ∈ p.2.2.1) <;> rfl
    rw [decide_eq_false a4, decide_eq_true (p := p.2.2.2.2.2 ≥ 0) (by omega)]
    by_cases a5 : p.2.2.2.2.2 ≥ c.1
    · rw [decide_eq_true a5, decide_eq_false (p := p.2.2.2.2.2 < c.1) (by omega)]
      cases anyN (outAt p.2.2.1 p.2.2.2.1) 0 p.2.2.2.1.length <;> cases unl p.2.2.1 ((c.2.2.2.1.getD p.2.1.toNat t0).2.length : Int) <;> cases unl p.2.2.2.1 ((c.2.2.2.1.getD p.2.1.toNat t0).2.length : Int) <;> cases decide (p.2.2.2.2.1 ∈ p.2.2.1) <;> rfl
    · rw [decide_eq_false a5, decide_eq_true (p := p.2.2.2.2.2 < c.1) (by omega)]
      cases anyN (outAt p.2.2.1 p.2.2.2.1) 0 p.2.2.2.1.length <;> cases unl p.2.2.1 ((c.2.2.2.1.getD p.2.1.toNat t0).2.length : Int) <;> cases unl p.2.2.2.1 ((c.2.2.2.1.getD p.2.1.toNat t0).2.length : Int) <;> cases decide (p.2.2.2.2.1 ∈ p.2.2.1) <;> rfl

/- Covers. -/
theorem concat_ok (k : Nat) (a b : List Int) (ha : a.length ≤ 1000000000) (hb : b.length ≤ 1000000000) : slices_Concat_int_int.run (k + 20) [a, b] = some (a ++ b, ()) := by
  have w1 : IntKind.i64.wrap ((0 : Int) + (a.length : Int)) = (a.length : Int) := by rw [wrap_i64] <;> omega
  have w2 : IntKind.i64.wrap ((a.length : Int) + (b.length : Int)) = ((a.length + b.length : Nat) : Int) := by rw [wrap_i64] <;> omega
  have w3 : IntKind.i64.wrap (((a.length + b.length : Nat) : Int) - 0) = ((a.length + b.length : Nat) : Int) := by rw [wrap_i64] <;> omega
  have l0 : slices_Concat_int_int_0.go (k + 20) (k + 20) 0 [a, b] (([a, b] : List (List Int)).length : Int) 0 = some (((a.length + b.length : Nat) : Int), ()) := by
    refine go_d (show (0 : Int) < 2 by decide) (go_t rfl (go_d (show (0 : Nat) < 2 by decide) ?_))
    show (bif decide (IntKind.i64.wrap ((0 : Int) + (a.length : Int)) < 0) then none else slices_Concat_int_int_0.go (k + 20) (k + 19) (IntKind.i64.wrap ((0 : Int) + (a.length : Int))) [a, b] 2 1) = _
    rw [w1]
    refine go_n (by omega) (go_d (show (1 : Int) < 2 by decide) (go_t rfl (go_d (show (1 : Nat) < 2 by decide) ?_)))
    show (bif decide (IntKind.i64.wrap ((a.length : Int) + (b.length : Int)) < 0) then none else slices_Concat_int_int_0.go (k + 20) (k + 18) (IntKind.i64.wrap ((a.length : Int) + (b.length : Int))) [a, b] 2 2) = _
    rw [w2]
    exact go_n (by omega) (go_n (by decide) rfl)
  have g : slices_Grow_int_int.run (k + 20) ((a.length + b.length : Nat) : Int) = some ([], ()) := by
    refine go_n (by omega) ?_
    rw [w3]
    by_cases h : ((a.length + b.length : Nat) : Int) > 0
    · refine go_d h (go_t ?_ (go_t (okB_t (by omega) (by omega) (by omega)) rfl))
      rw [decide_eq_true (by omega), room_t (by rw [Int.toNat_natCast]; omega) (by rw [Int.toNat_natCast]; omega)]
      rfl
    · exact go_n h rfl
  have l1 : slices_Concat_int_int_1.go (k + 20) (k + 20) [] [a, b] (([a, b] : List (List Int)).length : Int) 0 = some (a ++ b, ()) := by
    refine go_d (show (0 : Int) < 2 by decide) (go_t rfl (go_d (show (0 : Nat) < 2 by decide) (go_t (room_t (by show (0 + a.length) * 8 ≤ _; omega) (by show 0 + a.length ≤ _; omega)) ?_)))
    show slices_Concat_int_int_1.go (k + 20) (k + 19) a [a, b] 2 1 = _
    refine go_d (show (1 : Int) < 2 by decide) (go_t rfl (go_d (show (1 : Nat) < 2 by decide) (go_t (room_t (by show (a.length + b.length) * 8 ≤ _; omega) (by show a.length + b.length ≤ _; omega)) ?_)))
    exact go_n (by decide) rfl
  exact go_o l0 (go_o g (go_o l1 rfl))
def missing (l : List Int) (n : Nat) : Bool := !decide ((n : Int) ∈ l)
def cov (t : Tb) (l : List Int) : Bool := !anyN (missing l) 0 t.2.length
theorem covers_ok (N : Nat) (t : Tb) (l : List Int) (ht : t.2.length ≤ 1099511627776) (hN : t.2.length < N) (hl : l.length ≤ 1099511627776) (hlN : l.length < N) : catalog_covers.run N t l = some (cov t l, ()) := by
  refine go_o (scan (go := fun fuel i => catalog_covers_0.go N fuel l (t.2.length : Int) i) (v := false) (p := missing l) ht (fun fuel => go_n (by omega) rfl) (fun i hi fuel => ?_) hN) ?_
  · refine go_d (by omega) (go_o (contains_b_ok N l _ hl hlN) ?_)
    unfold missing
    cases decide ((i : Int) ∈ l) <;> rfl
  · unfold cov
    cases anyN (missing l) 0 t.2.length <;> rfl
theorem all_ok (N : Nat) (t : Tb) (p q : Pr) (ht : t.2.length ≤ 1099511627776) (hN : t.2.length < N) (h1 : p.2.2.1.length ≤ 1099511627776) (n1 : p.2.2.1.length < N) (h2 : q.2.2.1.length ≤ 1099511627776) (n2 : q.2.2.1.length < N) : ref_All.run N t p q = some (cov t (p.2.2.1 ++ q.2.2.1), ()) := by
  refine go_o (scan (go := fun fuel i => ref_All_0.go N fuel t.1 t.2 p.1 p.2.1 p.2.2.1 p.2.2.2.1 p.2.2.2.2.1 p.2.2.2.2.2 q.1 q.2.1 q.2.2.1 q.2.2.2.1 q.2.2.2.2.1 q.2.2.2.2.2 i) (v := false) (p := missing (p.2.2.1 ++ q.2.2.1)) ht (fun fuel => go_n (by omega) rfl) (fun i hi fuel => ?_) hN) ?_
  · refine go_d (by omega) (go_o (in_ok N p.2.2.1 _ h1 n1) (go_o (in_ok N q.2.2.1 _ h2 n2) ?_))
    have e : missing (p.2.2.1 ++ q.2.2.1) i = (!decide ((i : Int) ∈ p.2.2.1) && !decide ((i : Int) ∈ q.2.2.1)) := by
      unfold missing
      rw [Bool.eq_iff_iff]
      simp
    rw [e]
    cases decide ((i : Int) ∈ p.2.2.1) <;> cases decide ((i : Int) ∈ q.2.2.1) <;> rfl
  · unfold cov
    cases anyN (missing (p.2.2.1 ++ q.2.2.1)) 0 t.2.length <;> rfl
def covIn (c : Cat) (table : Nat) (i k : Nat) : Bool :=
  decide ((c.2.2.2.2.getD i p0).2.1 = (table : Int)) && (decide ((c.2.2.2.2.getD k p0).2.1 = (table : Int)) && cov (c.2.2.2.1.getD table t0) ((c.2.2.2.2.getD i p0).2.2.1 ++ (c.2.2.2.2.getD k p0).2.2.1))
def covd (c : Cat) (table : Nat) : Bool := anyN (fun i => anyN (covIn c table i) 0 c.2.2.2.2.length) 0 c.2.2.2.2.length
theorem ccov_ok (k : Nat) (c : Cat) (hs : small 1000000000 c) (hk : 2000000000 ≤ k) (table : Nat) (ht : table < c.2.2.2.1.length) : catalog_covered.run (k + 20) c (table : Int) = some (covd c table, ()) := by
  obtain ⟨s1, s2, s3, s4⟩ := hs
  refine go_o (scan (go := fun fuel i => catalog_covered_0.go (k + 20) fuel (table : Int) c.1 c.2.1 c.2.2.1 c.2.2.2.1 c.2.2.2.2 c.2.2.2.2 (c.2.2.2.2.length : Int) i) (v := true) (n := c.2.2.2.2.length) (p := fun i => anyN (covIn c table i) 0 c.2.2.2.2.length) (by omega) (fun fuel => go_n (by omega) rfl) (fun i hi fuel => ?_) (by omega)) ?_
  · refine go_d (by omega) (go_t (inB_nat hi) ?_)
    rw [Int.toNat_natCast]
    have m1 := s4 _ (getD_mem hi p0)
    refine go_o (scan (go := fun fuel j => catalog_covered_0_0.go (k + 20) fuel (table : Int) c.1 c.2.1 c.2.2.1 c.2.2.2.1 c.2.2.2.2 (c.2.2.2.2.getD i p0).1 (c.2.2.2.2.getD i p0).2.1 (c.2.2.2.2.getD i p0).2.2.1 (c.2.2.2.2.getD i p0).2.2.2.1 (c.2.2.2.2.getD i p0).2.2.2.2.1 (c.2.2.2.2.getD i p0).2.2.2.2.2 c.2.2.2.2 (c.2.2.2.2.length : Int) j) (v := true) (n := c.2.2.2.2.length) (p := covIn c table i) (by omega) (fun fuel => go_n (by omega) rfl) (fun j hj fuel => ?_) (by omega)) ?_
    · refine go_d (by omega) (go_t (inB_nat hj) ?_)
      rw [Int.toNat_natCast]
      have m2 := s4 _ (getD_mem hj p0)
      have m3 := s3 _ (getD_mem ht t0)
      unfold covIn
      by_cases a1 : (c.2.2.2.2.getD i p0).2.1 = (table : Int)
      · rw [decide_eq_true a1]
        refine go_t rfl ?_
        by_cases a2 : (c.2.2.2.2.getD j p0).2.1 = (table : Int)
        · rw [decide_eq_true a2]
          refine go_t rfl (go_t (inB_nat ht) (go_o (concat_ok k _ _ m1.1 m2.1) ?_))
          rw [Int.toNat_natCast]
          refine go_o (covers_ok (k + 20) (c.2.2.2.1.getD table t0) ((c.2.2.2.2.getD i p0).2.2.1 ++ (c.2.2.2.2.getD j p0).2.2.1) (by omega) (by omega) (by rw [List.length_append]; omega) (by rw [List.length_append]; omega)) ?_
          cases cov (c.2.2.2.1.getD table t0) ((c.2.2.2.2.getD i p0).2.2.1 ++ (c.2.2.2.2.getD j p0).2.2.1) <;> rfl
        · rw [decide_eq_false a2]; rfl
      · rw [decide_eq_false a1]; rfl
    · show _ = if (anyN (covIn c table i) 0 c.2.2.2.2.length) = true then _ else _
      cases anyN (covIn c table i) 0 c.2.2.2.2.length <;> rfl
  · unfold covd
    cases anyN (fun i => anyN (covIn c table i) 0 c.2.2.2.2.length) 0 c.2.2.2.2.length <;> rfl
theorem rcov_ok (k : Nat) (c : Cat) (hs : small 1000000000 c) (hk : 2000000000 ≤ k) (table : Nat) (ht : table < c.2.2.2.1.length) : ref_covered.run (k + 20) c (table : Int) = some (covd c table, ()) := by
  obtain ⟨s1, s2, s3, s4⟩ := hs
  refine go_o (scan (go := fun fuel i => ref_covered_0.go (k + 20) fuel (table : Int) c.1 c.2.1 c.2.2.1 c.2.2.2.1 c.2.2.2.2 i) (v := true) (n := c.2.2.2.2.length) (p := fun i => anyN (covIn c table i) 0 c.2.2.2.2.length) (by omega) (fun fuel => go_n (by omega) rfl) (fun i hi fuel => ?_) (by omega)) ?_
  · refine go_d (by omega) ?_
    have m1 := s4 _ (getD_mem hi p0)
    refine go_o (scan (go := fun fuel j => ref_covered_0_0.go (k + 20) fuel (table : Int) c.1 c.2.1 c.2.2.1 c.2.2.2.1 c.2.2.2.2 (i : Int) j) (v := true) (n := c.2.2.2.2.length) (p := covIn c table i) (by omega) (fun fuel => go_n (by omega) rfl) (fun j hj fuel => ?_) (by omega)) ?_
    · have m2 := s4 _ (getD_mem hj p0)
      have m3 := s3 _ (getD_mem ht t0)
      have h0 : ref_covered_0_0_0.run (k + 20) (table : Int) c.1 c.2.1 c.2.2.1 c.2.2.2.1 c.2.2.2.2 (i : Int) (j : Int) = some (decide ((c.2.2.2.2.getD i p0).2.1 = (table : Int)) && decide ((c.2.2.2.2.getD j p0).2.1 = (table : Int)), ()) := by
        refine go_t (inB_nat hi) ?_
        rw [Int.toNat_natCast, Int.toNat_natCast]
        by_cases a1 : (c.2.2.2.2.getD i p0).2.1 = (table : Int)
        · rw [decide_eq_true a1]
          exact go_t rfl (go_t (inB_nat hj) rfl)
        · rw [decide_eq_false a1]; rfl
      refine go_d (by omega) (go_o h0 ?_)
      unfold covIn
      cases decide ((c.2.2.2.2.getD i p0).2.1 = (table : Int)) with
      | false => rfl
      | true =>
      cases decide ((c.2.2.2.2.getD j p0).2.1 = (table : Int)) with
      | false => rfl
      | true =>
      refine go_t rfl (go_t (inB_nat ht) (go_t (inB_nat hi) (go_t (inB_nat hj) ?_)))
      rw [Int.toNat_natCast, Int.toNat_natCast, Int.toNat_natCast]
      refine go_o (all_ok (k + 20) (c.2.2.2.1.getD table t0) (c.2.2.2.2.getD i p0) (c.2.2.2.2.getD j p0) (by omega) (by omega) (by omega) (by omega) (by omega) (by omega)) ?_
      cases cov (c.2.2.2.1.getD table t0) ((c.2.2.2.2.getD i p0).2.2.1 ++ (c.2.2.2.2.getD j p0).2.2.1) <;> rfl
    · show _ = if (anyN (covIn c table i) 0 c.2.2.2.2.length) = true then _ else _
      cases anyN (covIn c table i) 0 c.2.2.2.2.length <;> rfl
  · unfold covd
    cases anyN (fun i => anyN (covIn c table i) 0 c.2.2.2.2.length) 0 c.2.2.2.2.length <;> rfl
end Go.Hay.Ytnaaaldeadjohaa
