/- Where segments lie; the check is the document's. Conditions: sizes below a bound. -/
import Derived.Test.YtnaaaldeadjohaaLb
set_option linter.unusedVariables false
set_option linter.unusedSimpArgs false
namespace Go.Hay.Ytnaaaldeadjohaa
open Go Go.Hay Go.Proofs

section
variable {α R : Type}
theorem accum {go : Nat → List α → Int → Option R} {n B C : Nat} {f : Nat → List α} {out : List α → R} (hn : n ≤ 1099511627776) (hf : ∀ i < n, (f i).length ≤ C)
    (hend : ∀ fuel l, go (fuel + 1) l (n : Int) = some (out l))
    (hstep : ∀ i < n, ∀ fuel l, l.length ≤ B → go (fuel + 1) l (i : Int) = go fuel (l ++ f i) (IntKind.i64.wrap ((i : Int) + 1))) :
    ∀ d i fuel l, n = i + d → d < fuel → l.length + d * C ≤ B → go fuel l (i : Int) = some (out (l ++ (List.range' i d).flatMap f))
  | _, _, 0, _, _, h, _ => absurd h (Nat.not_lt_zero _)
  | 0, i, fuel + 1, l, e, hf2, hb => by
    have : i = n := by omega
    subst this
    rw [hend]
    simp
  | d + 1, i, fuel + 1, l, e, hf2, hb => by
    have h1 := hf i (by omega)
    rw [Nat.succ_mul] at hb
    rw [hstep i (by omega) fuel l (by omega), wrap_succ i (by omega), accum hn hf hend hstep d (i + 1) fuel (l ++ f i) (by omega) (by omega) (by rw [List.length_append]; omega), List.range'_succ]
    simp
theorem flat_le {β : Type} {f : β → List α} {C : Nat} : ∀ {l : List β}, (∀ x ∈ l, (f x).length ≤ C) → (l.flatMap f).length ≤ l.length * C
  | [], _ => by simp
  | x :: l, h => by
    have h1 := h x (List.mem_cons_self ..)
    have h2 := flat_le (l := l) (fun y hy => h y (List.mem_cons_of_mem _ hy))
    rw [List.flatMap_cons, List.length_append, List.length_cons, Nat.succ_mul]
    omega
theorem flat_getD {β : Type} (g : β → List α) (d : β) : ∀ (suf pre : List β), (List.range' pre.length suf.length).flatMap (fun i => g ((pre ++ suf).getD i d)) = suf.flatMap g
  | [], pre => rfl
  | x :: suf, pre => by
    have ih := flat_getD g d suf (pre ++ [x])
    have e1 : pre ++ [x] ++ suf = pre ++ x :: suf := by simp
    have e2 : (pre ++ [x]).length = pre.length + 1 := by simp
    rw [e1, e2] at ih
    rw [List.length_cons, List.range'_succ, List.flatMap_cons, List.flatMap_cons, ih]
    simp
end

/-- The nodes of a segment. -/
def nodesL (c : Cat) (m : Nat) (a : Int × Int) : List Int := (List.range' 0 m).flatMap fun j : Nat => [(IntKind.i64.wrap ((IntKind.i64.wrap (a.2 + (c.2.2.2.2.getD a.1.toNat p0).2.2.2.2.2)) + (j : Int))).tmod c.1]
theorem nodesL_len (c : Cat) (m : Nat) (a : Int × Int) : (nodesL c m a).length ≤ m := by
  have := flat_le (l := List.range' 0 m) (f := fun j : Nat => [(IntKind.i64.wrap ((IntKind.i64.wrap (a.2 + (c.2.2.2.2.getD a.1.toNat p0).2.2.2.2.2)) + (j : Int))).tmod c.1]) (C := 1) (fun x _ => by simp)
  rw [List.length_range'] at this
  unfold nodesL
  omega
structure Fine (c : Cat) (m S n : Nat) : Prop where
  fk : c.2.2.1 = (m : Int) - 1
  fs : c.2.1 = (S : Int)
  fn : c.1 = (n : Int)
  m8 : m ≤ 8
  s8 : S ≤ 8
  n1 : 1 ≤ n
  n8 : n ≤ 8
  p8 : c.2.2.2.2.length ≤ 8
  mn : m ≤ n
theorem cnodes_ok (N : Nat) (hN : 100 < N) {c : Cat} {m S n : Nat} (F : Fine c m S n) (p s : Nat) (hp : p < c.2.2.2.2.length) (hs : s < S) : catalog_Nodes.run N c ((p : Int), (s : Int)) = some (nodesL c m ((p : Int), (s : Int)), ()) := by
  obtain ⟨f1, f2, f3, f4, f5, f6, f7, f8, f9⟩ := F
  have e : IntKind.i64.wrap (c.2.2.1 + 1) = (m : Int) := by rw [wrap_i64] <;> omega
  refine go_n (show ¬ (p : Int) < 0 by omega) (go_n (show ¬ (p : Int) ≥ (c.2.2.2.2.length : Int) by omega) (go_n (show ¬ (s : Int) < 0 by omega) (go_n (show ¬ (s : Int) ≥ c.2.1 by omega) (go_n (by omega) ?_))))
  rw [e]
  have h := accum (go := fun fuel l j => catalog_Nodes_0.go N fuel c.1 c.2.1 c.2.2.1 c.2.2.2.1 c.2.2.2.2 (p : Int) (s : Int) l (m : Int) j) (n := m) (B := 1000) (C := 1) (f := fun j : Nat => [(IntKind.i64.wrap ((IntKind.i64.wrap ((s : Int) + (c.2.2.2.2.getD ((p : Int)).toNat p0).2.2.2.2.2)) + (j : Int))).tmod c.1]) (out := fun l => (l, ())) (by omega) (fun i _ => by simp) (fun fuel l => go_n (by omega) rfl) (fun j hj fuel l hl => go_d (by omega) (go_t (inB_nat hp) (go_nn (by omega) (go_t (room_t (by omega) (by omega)) rfl)))) m 0 N [] (by omega) (by omega) (by simp; omega)
  rw [List.nil_append] at h
  exact go_o h rfl
theorem rnodes_ok (N : Nat) (hN : 100 < N) {c : Cat} {m S n : Nat} (F : Fine c m S n) (p s : Nat) (hp : p < c.2.2.2.2.length) (hs : s < S) : ref_Nodes.run N c ((p : Int), (s : Int)) = some (nodesL c m ((p : Int), (s : Int)), ()) := by
  obtain ⟨f1, f2, f3, f4, f5, f6, f7, f8, f9⟩ := F
  refine go_n (show ¬ (p : Int) < 0 by omega) (go_n (show ¬ (p : Int) ≥ (c.2.2.2.2.length : Int) by omega) (go_n (show ¬ (s : Int) < 0 by omega) (go_n (show ¬ (s : Int) ≥ c.2.1 by omega) ?_)))
  have h := accum (go := fun fuel l j => ref_Nodes_0.go N fuel c.1 c.2.1 c.2.2.1 c.2.2.2.1 c.2.2.2.2 (p : Int) (s : Int) l j) (n := m) (B := 1000) (C := 1) (f := fun j : Nat => [(IntKind.i64.wrap ((IntKind.i64.wrap ((s : Int) + (c.2.2.2.2.getD ((p : Int)).toNat p0).2.2.2.2.2)) + (j : Int))).tmod c.1]) (out := fun l => (l, ())) (by omega) (fun i _ => by simp) (fun fuel l => go_n (by omega) rfl) (fun j hj fuel l hl => go_d (by omega) (go_t (inB_nat hp) (go_nn (by omega) (go_t (room_t (by omega) (by omega)) rfl)))) m 0 N [] (by omega) (by omega) (by simp; omega)
  rw [List.nil_append] at h
  exact go_o h rfl

/-- A segment, if it lies on a node. -/
def pick (c : Cat) (m : Nat) (node : Int) (a : Int × Int) : List (Int × Int) := if node ∈ nodesL c m a then [a] else []
theorem pick_len (c : Cat) (m : Nat) (node : Int) (a : Int × Int) : (pick c m node a).length ≤ 1 := by
  unfold pick
  split <;> simp
def ofL (c : Cat) (m S : Nat) (node : Int) : List (Int × Int) := (List.range' 0 c.2.2.2.2.length).flatMap fun p : Nat => (List.range' 0 S).flatMap fun s : Nat => pick c m node ((p : Int), (s : Int))
theorem y0_ok (N : Nat) (hN : 100 < N) {c : Cat} {m S n : Nat} (F : Fine c m S n) (p s : Nat) (hp : p < c.2.2.2.2.length) (hs : s < S) (node : Int) (l : List (Int × Int)) (hl : l.length ≤ 1000) :
    Y0.run N c.1 c.2.1 c.2.2.1 c.2.2.2.1 c.2.2.2.2 node l (p : Int) (s : Int) = some ((l ++ pick c m node ((p : Int), (s : Int)), ()), ()) := by
  have h8 := F.m8
  have hn := nodesL_len c m ((p : Int), (s : Int))
  refine go_o (cnodes_ok N hN F p s hp hs) (go_o (contains_b_ok N _ node (by omega) (by omega)) ?_)
  unfold pick
  by_cases h : node ∈ nodesL c m ((p : Int), (s : Int))
  · rw [if_pos h]
    exact go_d h (go_t (room_t (by omega) (by omega)) rfl)
  · rw [if_neg h]
    refine go_n h ?_
    simp
theorem cof_ok (N : Nat) (hN : 100 < N) {c : Cat} {m S n : Nat} (F : Fine c m S n) (node : Int) : catalog_Of.run N c node = some (ofL c m S node, ()) := by
  have h5 := F.s8
  have h8 := F.p8
  have fs := F.fs
  have hin : ∀ p < c.2.2.2.2.length, ∀ l : List (Int × Int), l.length ≤ 900 → catalog_Segments_f1_0_0.go N N 0 c.1 c.2.1 c.2.2.1 c.2.2.2.1 c.2.2.2.2 node l (p : Int) c.2.1 0 = some ((l ++ (List.range' 0 S).flatMap fun s : Nat => pick c m node ((p : Int), (s : Int)), ()), ((0 : Int), (), (), (), (), (), (), ()), ()) := by
    intro p hp l hl
    exact accum (go := fun fuel l s => catalog_Segments_f1_0_0.go N fuel 0 c.1 c.2.1 c.2.2.1 c.2.2.2.1 c.2.2.2.2 node l (p : Int) c.2.1 s) (n := S) (B := 1000) (C := 1) (f := fun s : Nat => pick c m node ((p : Int), (s : Int))) (out := fun l => ((l, ()), ((0 : Int), (), (), (), (), (), (), ()), ())) (by omega) (fun i _ => pick_len ..) (fun fuel l => go_n (by omega) rfl) (fun s hs fuel l hl => go_d (by omega) (go_d rfl (go_o (y0_ok N hN F p s hp hs node l hl) rfl))) S 0 N l (by omega) (by omega) (by omega)
  have hout := accum (go := fun fuel l p => catalog_Segments_f1_0.go N fuel 0 c.1 c.2.1 c.2.2.1 c.2.2.2.1 c.2.2.2.2 node l c.1 c.2.1 c.2.2.1 c.2.2.2.1 c.2.2.2.2 (c.2.2.2.2.length : Int) p) (n := c.2.2.2.2.length) (B := 900) (C := 8) (f := fun p : Nat => (List.range' 0 S).flatMap fun s : Nat => pick c m node ((p : Int), (s : Int))) (out := fun l => ((l, ()), ((0 : Int), (), (), (), (), (), (), ()), ())) (by omega) (fun p _ => by
      have := flat_le (l := List.range' 0 S) (f := fun s : Nat => pick c m node ((p : Int), (s : Int))) (C := 1) (fun x _ => pick_len ..)
      rw [List.length_range'] at this
      omega) (fun fuel l => go_n (by omega) rfl) (fun p hp fuel l hl => go_d (by omega) (go_o (hin p hp l hl) rfl)) c.2.2.2.2.length 0 N [] (by omega) (by omega) (by simp; omega)
  rw [List.nil_append] at hout
  exact go_o (v := ((((c.1, c.2.1, c.2.2.1, c.2.2.2.1, c.2.2.2.2, ()), ()), ()))) rfl (go_o (v := ((ofL c m S node, ()), ((0 : Int), (), (), (), (), (), (), ()), ())) (go_o hout rfl) (go_d rfl rfl))
def segsL (c : Cat) (S : Nat) : List (Int × Int) := (List.range' 0 c.2.2.2.2.length).flatMap fun p : Nat => (List.range' 0 S).flatMap fun s : Nat => [((p : Int), (s : Int))]
theorem segsL_in {c : Cat} {S : Nat} {a : Int × Int} (h : a ∈ segsL c S) : ∃ p s : Nat, p < c.2.2.2.2.length ∧ s < S ∧ a = ((p : Int), (s : Int)) := by
  unfold segsL at h
  simp only [List.mem_flatMap, List.mem_range', List.mem_singleton] at h
  obtain ⟨p, ⟨i, hi, rfl⟩, s, ⟨j, hj, rfl⟩, rfl⟩ := h
  exact ⟨_, _, by omega, by omega, rfl⟩
theorem segsL_len {c : Cat} {S : Nat} (h1 : c.2.2.2.2.length ≤ 8) (h2 : S ≤ 8) : (segsL c S).length ≤ 64 := by
  have := flat_le (l := List.range' 0 c.2.2.2.2.length) (f := fun p : Nat => (List.range' 0 S).flatMap fun s : Nat => [((p : Int), (s : Int))]) (C := 8) (fun p _ => by
    have := flat_le (l := List.range' 0 S) (f := fun s : Nat => [((p : Int), (s : Int))]) (C := 1) (fun x _ => by simp)
    rw [List.length_range'] at this
    omega)
  rw [List.length_range'] at this
  unfold segsL
  omega
theorem rsegs_ok (N : Nat) (hN : 100 < N) {c : Cat} {m S n : Nat} (F : Fine c m S n) : ref_Segments.run N c = some (segsL c S, ()) := by
  have h5 := F.s8
  have h8 := F.p8
  have fs := F.fs
  have hin : ∀ p < c.2.2.2.2.length, ∀ l : List (Int × Int), l.length ≤ 900 → ref_Segments_0_0.go N N c.1 c.2.1 c.2.2.1 c.2.2.2.1 c.2.2.2.2 l (p : Int) 0 = some (l ++ (List.range' 0 S).flatMap (fun s : Nat => [((p : Int), (s : Int))]), ()) := by
    intro p hp l hl
    exact accum (go := fun fuel l s => ref_Segments_0_0.go N fuel c.1 c.2.1 c.2.2.1 c.2.2.2.1 c.2.2.2.2 l (p : Int) s) (n := S) (B := 1000) (C := 1) (f := fun s : Nat => [((p : Int), (s : Int))]) (out := fun l => (l, ())) (by omega) (fun i _ => by simp) (fun fuel l => go_n (by omega) rfl) (fun s hs fuel l hl => go_d (by omega) (go_t (room_t (by omega) (by omega)) rfl)) S 0 N l (by omega) (by omega) (by omega)
  have hout := accum (go := fun fuel l p => ref_Segments_0.go N fuel c.1 c.2.1 c.2.2.1 c.2.2.2.1 c.2.2.2.2 l p) (n := c.2.2.2.2.length) (B := 900) (C := 8) (f := fun p : Nat => (List.range' 0 S).flatMap fun s : Nat => [((p : Int), (s : Int))]) (out := fun l => (l, ())) (by omega) (fun p _ => by
      have := flat_le (l := List.range' 0 S) (f := fun s : Nat => [((p : Int), (s : Int))]) (C := 1) (fun x _ => by simp)
      rw [List.length_range'] at this
      omega) (fun fuel l => go_n (by omega) rfl) (fun p hp fuel l hl => go_d (by omega) (go_o (hin p hp l hl) rfl)) c.2.2.2.2.length 0 N [] (by omega) (by omega) (by simp; omega)
  rw [List.nil_append] at hout
  exact go_o hout rfl
theorem rof_ok (N : Nat) (hN : 100 < N) {c : Cat} {m S n : Nat} (F : Fine c m S n) (node : Int) : ref_Of.run N c node = some (ofL c m S node, ()) := by
  have hl := segsL_len (c := c) (S := S) F.p8 F.s8
  have h8 := F.m8
  have hout := accum (go := fun fuel l i => ref_Of_0.go N fuel node c.1 c.2.1 c.2.2.1 c.2.2.2.1 c.2.2.2.2 l (segsL c S) i) (n := (segsL c S).length) (B := 900) (C := 1) (f := fun i => pick c m node ((segsL c S).getD i ((0 : Int), (0 : Int)))) (out := fun l => (l, ())) (by omega) (fun i _ => pick_len ..) (fun fuel l => go_n (by omega) rfl) (fun i hi fuel l hb => by
    obtain ⟨p, s, hp, hs, e⟩ := segsL_in (getD_mem hi ((0 : Int), (0 : Int)))
    have hn := nodesL_len c m ((p : Int), (s : Int))
    refine go_d (by omega) (go_t (inB_nat hi) (go_d (by rw [Int.toNat_natCast]; exact hi) ?_))
    rw [Int.toNat_natCast, e]
    refine go_o (rnodes_ok N hN F p s hp hs) (go_o (in_b_ok N _ node (by omega) (by omega)) ?_)
    unfold pick
    by_cases h : node ∈ nodesL c m ((p : Int), (s : Int))
    · rw [if_pos h]
      exact go_d h (go_t (inB_nat hi) (go_d hi (go_t (room_t (by omega) (by omega)) rfl)))
    · rw [if_neg h, List.append_nil]
      exact go_n h rfl) (segsL c S).length 0 N [] (by omega) (by omega) (by simp; omega)
  have e2 := flat_getD (pick c m node) ((0 : Int), (0 : Int)) (segsL c S) []
  rw [List.nil_append, List.length_nil] at e2
  have e3 : (segsL c S).flatMap (pick c m node) = ofL c m S node := by
    unfold segsL ofL
    rw [List.flatMap_assoc]
    congr 1
    funext p
    rw [List.flatMap_assoc]
    congr 1
    funext s
    simp
  rw [List.nil_append, e2, e3] at hout
  exact go_o (rsegs_ok N hN F) (go_o hout rfl)

/- The check. -/
def badTab (c : Cat) (i : Nat) : Bool := !decide (tabE (c.2.2.2.1.getD i t0) = 0) || anyN (sameTab c.2.2.2.1 (c.2.2.2.1.getD i t0).1) 0 i
def badPro (c : Cat) (i : Nat) : Bool := !okP c (c.2.2.2.2.getD i p0) || anyN (samePro c.2.2.2.2 (c.2.2.2.2.getD i p0).1) 0 i
theorem check_ok (k : Nat) (hk : 2000000000 ≤ k) (c : Cat) (hs : small 1000000000 c) : ∃ v, catalog_Check.run (k + 20) c = some (v, ()) ∧ ref_Check.run (k + 20) c = some (v, ()) ∧ (v = 0 → Fine c (c.2.2.1 + 1).toNat c.2.1.toNat c.1.toNat ∧ anyN (badPro c) 0 c.2.2.2.2.length = false ∧ anyN (fun i => decide (((ofL c (c.2.2.1 + 1).toNat c.2.1.toNat (i : Int)).length : Int) = 0)) 0 c.1.toNat = false) := by
  have hs0 := hs
  obtain ⟨s1, s2, s3, s4⟩ := hs
  by_cases a1 : c.1 < 1
  · exact ⟨133, go_d a1 rfl, go_d a1 rfl, fun h => absurd h (by decide)⟩
  by_cases a2 : c.1 > 8
  · exact ⟨133, go_n a1 (go_d a2 rfl), go_n a1 (go_d a2 rfl), fun h => absurd h (by decide)⟩
  by_cases a3 : c.2.2.1 < 0
  · exact ⟨133, go_n a1 (go_n a2 (go_d a3 rfl)), go_n a1 (go_n a2 (go_d a3 rfl)), fun h => absurd h (by decide)⟩
  by_cases a4 : c.2.2.1 ≥ c.1
  · exact ⟨133, go_n a1 (go_n a2 (go_n a3 (go_d a4 rfl))), go_n a1 (go_n a2 (go_n a3 (go_d a4 rfl))), fun h => absurd h (by decide)⟩
  by_cases a5 : c.2.1 < 1
  · exact ⟨133, go_n a1 (go_n a2 (go_n a3 (go_n a4 (go_d a5 rfl)))), go_n a1 (go_n a2 (go_n a3 (go_n a4 (go_d a5 rfl)))), fun h => absurd h (by decide)⟩
  by_cases a6 : c.2.1 > 8
  · exact ⟨133, go_n a1 (go_n a2 (go_n a3 (go_n a4 (go_n a5 (go_d a6 rfl))))), go_n a1 (go_n a2 (go_n a3 (go_n a4 (go_n a5 (go_d a6 rfl))))), fun h => absurd h (by decide)⟩
  by_cases tc : (c.2.2.2.1.length : Int) < 1
  · exact ⟨130, go_n a1 (go_n a2 (go_n a3 (go_n a4 (go_n a5 (go_n a6 (go_d tc rfl)))))), go_n a1 (go_n a2 (go_n a3 (go_n a4 (go_n a5 (go_n a6 (go_d (show (c.2.2.2.1.length : Int) = 0 by omega) rfl)))))), fun h => absurd h (by decide)⟩
  have tr : ¬ (c.2.2.2.1.length : Int) = 0 := by omega
  by_cases td : (c.2.2.2.1.length : Int) > 4
  · exact ⟨130, go_n a1 (go_n a2 (go_n a3 (go_n a4 (go_n a5 (go_n a6 (go_n tc (go_d td rfl))))))), go_n a1 (go_n a2 (go_n a3 (go_n a4 (go_n a5 (go_n a6 (go_n tr (go_d td rfl))))))), fun h => absurd h (by decide)⟩
  have l0c := scan (go := fun fuel i => catalog_Check_0.go (k + 20) fuel c.1 c.2.1 c.2.2.1 c.2.2.2.1 c.2.2.2.2 c.2.2.2.1 (c.2.2.2.1.length : Int) i) (v := (130 : Int)) (n := c.2.2.2.1.length) (p := badTab c) (N := k + 20) (by omega) (fun fuel => go_n (by omega) rfl) (fun i hi fuel => by
    have m1 := s3 _ (getD_mem hi t0)
    have hlt : (c.2.2.2.1.take i).length = i := by rw [List.length_take]; omega
    refine go_d (by omega) (go_t (inB_nat hi) ?_)
    rw [Int.toNat_natCast]
    refine go_o (vtable_ok (k + 20) (c.2.2.2.1.getD i t0) (by omega) (by omega)) ?_
    unfold badTab
    by_cases h : tabE (c.2.2.2.1.getD i t0) = 0
    · rw [decide_eq_true h]
      refine go_nd h (go_t (okB_t (by omega) (by omega) (by omega)) (go_o (containsT_ok (k + 20) (c.2.2.2.1.take i) _ _ (by omega) (by omega)) ?_))
      rw [hlt, anyN_congr (q := sameTab c.2.2.2.1 (c.2.2.2.1.getD i t0).1) (fun j _ hj => by unfold sameTab; rw [getD_take _ _ _ _ (by omega)])]
      cases anyN (sameTab c.2.2.2.1 (c.2.2.2.1.getD i t0).1) 0 i <;> rfl
    · rw [decide_eq_false h]
      exact go_nn h rfl) (by omega)
  have l0r := scan (go := fun fuel i => ref_Check_0.go (k + 20) fuel c.1 c.2.1 c.2.2.1 c.2.2.2.1 c.2.2.2.2 i) (v := (130 : Int)) (n := c.2.2.2.1.length) (p := badTab c) (N := k + 20) (by omega) (fun fuel => go_n (by omega) rfl) (fun i hi fuel => by
    have m1 := s3 _ (getD_mem hi t0)
    refine go_d (by omega) (go_t (inB_nat hi) ?_)
    rw [Int.toNat_natCast]
    refine go_o (rtable_ok (k + 20) (c.2.2.2.1.getD i t0) (by omega) (by omega)) ?_
    unfold badTab
    by_cases h : tabE (c.2.2.2.1.getD i t0) = 0
    · rw [decide_eq_true h]
      refine go_nd h (go_o (scan (go := fun fuel j => ref_Check_0_0.go (k + 20) fuel c.1 c.2.1 c.2.2.1 c.2.2.2.1 c.2.2.2.2 (i : Int) j) (v := (130 : Int)) (n := i) (p := sameTab c.2.2.2.1 (c.2.2.2.1.getD i t0).1) (by omega) (fun fuel => go_n (by omega) rfl) (fun j hj fuel => ?_) (by omega)) ?_)
      · refine go_d (by omega) (go_t (inB_nat (by omega)) (go_t (inB_nat hi) ?_))
        rw [Int.toNat_natCast, Int.toNat_natCast]
        unfold sameTab
        cases decide ((c.2.2.2.1.getD j t0).1 = (c.2.2.2.1.getD i t0).1) <;> rfl
      · cases anyN (sameTab c.2.2.2.1 (c.2.2.2.1.getD i t0).1) 0 i <;> rfl
    · rw [decide_eq_false h]
      exact go_nn h rfl) (by omega)
  cases b0 : anyN (badTab c) 0 c.2.2.2.1.length with
  | true =>
    rw [b0] at l0c l0r
    exact ⟨130, go_n a1 (go_n a2 (go_n a3 (go_n a4 (go_n a5 (go_n a6 (go_n tc (go_n td (go_o l0c rfl)))))))), go_n a1 (go_n a2 (go_n a3 (go_n a4 (go_n a5 (go_n a6 (go_n tr (go_n td (go_o l0r rfl)))))))), fun h => absurd h (by decide)⟩
  | false =>
  rw [b0] at l0c l0r
  by_cases te : (c.2.2.2.2.length : Int) > 8
  · exact ⟨131, go_n a1 (go_n a2 (go_n a3 (go_n a4 (go_n a5 (go_n a6 (go_n tc (go_n td (go_o l0c (go_d te rfl))))))))), go_n a1 (go_n a2 (go_n a3 (go_n a4 (go_n a5 (go_n a6 (go_n tr (go_n td (go_o l0r (go_d te rfl))))))))), fun h => absurd h (by decide)⟩
  have l1c := scan (go := fun fuel i => catalog_Check_1.go (k + 20) fuel c.1 c.2.1 c.2.2.1 c.2.2.2.1 c.2.2.2.2 c.2.2.2.2 (c.2.2.2.2.length : Int) i) (v := (131 : Int)) (n := c.2.2.2.2.length) (p := badPro c) (N := k + 20) (by omega) (fun fuel => go_n (by omega) rfl) (fun i hi fuel => by
    have m1 := s4 _ (getD_mem hi p0)
    have hlt : (c.2.2.2.2.take i).length = i := by rw [List.length_take]; omega
    refine go_d (by omega) (go_t (inB_nat hi) ?_)
    rw [Int.toNat_natCast]
    refine go_o (cproj_ok (k + 20) c (c.2.2.2.2.getD i p0) (by omega) (by omega) (by omega) (by omega)) ?_
    unfold badPro
    cases okP c (c.2.2.2.2.getD i p0) with
    | false => rfl
    | true =>
      refine go_f rfl (go_t (okB_t (by omega) (by omega) (by omega)) (go_o (containsP_ok (k + 20) (c.2.2.2.2.take i) _ _ _ _ _ _ (by omega) (by omega)) ?_))
      rw [hlt, anyN_congr (q := samePro c.2.2.2.2 (c.2.2.2.2.getD i p0).1) (fun j _ hj => by unfold samePro; rw [getD_take _ _ _ _ (by omega)])]
      cases anyN (samePro c.2.2.2.2 (c.2.2.2.2.getD i p0).1) 0 i <;> rfl) (by omega)
  have l1r := scan (go := fun fuel i => ref_Check_1.go (k + 20) fuel c.1 c.2.1 c.2.2.1 c.2.2.2.1 c.2.2.2.2 i) (v := (131 : Int)) (n := c.2.2.2.2.length) (p := badPro c) (N := k + 20) (by omega) (fun fuel => go_n (by omega) rfl) (fun i hi fuel => by
    have m1 := s4 _ (getD_mem hi p0)
    refine go_d (by omega) (go_t (inB_nat hi) ?_)
    rw [Int.toNat_natCast]
    refine go_o (rproj_ok (k + 20) c (c.2.2.2.2.getD i p0) (by omega) (by omega) (by omega) (by omega)) ?_
    unfold badPro
    cases okP c (c.2.2.2.2.getD i p0) with
    | false => rfl
    | true =>
      refine go_f rfl (go_o (scan (go := fun fuel j => ref_Check_1_0.go (k + 20) fuel c.1 c.2.1 c.2.2.1 c.2.2.2.1 c.2.2.2.2 (i : Int) j) (v := (131 : Int)) (n := i) (p := samePro c.2.2.2.2 (c.2.2.2.2.getD i p0).1) (by omega) (fun fuel => go_n (by omega) rfl) (fun j hj fuel => ?_) (by omega)) ?_)
      · refine go_d (by omega) (go_t (inB_nat (by omega)) (go_t (inB_nat hi) ?_))
        rw [Int.toNat_natCast, Int.toNat_natCast]
        unfold samePro
        cases decide ((c.2.2.2.2.getD j p0).1 = (c.2.2.2.2.getD i p0).1) <;> rfl
      · cases anyN (samePro c.2.2.2.2 (c.2.2.2.2.getD i p0).1) 0 i <;> rfl) (by omega)
  cases b1 : anyN (badPro c) 0 c.2.2.2.2.length with
  | true =>
    rw [b1] at l1c l1r
    exact ⟨131, go_n a1 (go_n a2 (go_n a3 (go_n a4 (go_n a5 (go_n a6 (go_n tc (go_n td (go_o l0c (go_n te (go_o l1c rfl)))))))))), go_n a1 (go_n a2 (go_n a3 (go_n a4 (go_n a5 (go_n a6 (go_n tr (go_n td (go_o l0r (go_n te (go_o l1r rfl)))))))))), fun h => absurd h (by decide)⟩
  | false =>
  rw [b1] at l1c l1r
  have l2c := scan (go := fun fuel i => catalog_Check_2.go (k + 20) fuel c.1 c.2.1 c.2.2.1 c.2.2.2.1 c.2.2.2.2 (c.2.2.2.1.length : Int) i) (v := (132 : Int)) (n := c.2.2.2.1.length) (p := fun i => !covd c i) (N := k + 20) (by omega) (fun fuel => go_n (by omega) rfl) (fun i hi fuel => by
    refine go_d (by omega) (go_o (ccov_ok k c hs0 hk i hi) ?_)
    cases covd c i <;> rfl) (by omega)
  have l2r := scan (go := fun fuel i => ref_Check_2.go (k + 20) fuel c.1 c.2.1 c.2.2.1 c.2.2.2.1 c.2.2.2.2 i) (v := (132 : Int)) (n := c.2.2.2.1.length) (p := fun i => !covd c i) (N := k + 20) (by omega) (fun fuel => go_n (by omega) rfl) (fun i hi fuel => by
    refine go_d (by omega) (go_o (rcov_ok k c hs0 hk i hi) ?_)
    cases covd c i <;> rfl) (by omega)
  cases b2 : anyN (fun i => !covd c i) 0 c.2.2.2.1.length with
  | true =>
    rw [b2] at l2c l2r
    exact ⟨132, go_n a1 (go_n a2 (go_n a3 (go_n a4 (go_n a5 (go_n a6 (go_n tc (go_n td (go_o l0c (go_n te (go_o l1c (go_o l2c rfl))))))))))), go_n a1 (go_n a2 (go_n a3 (go_n a4 (go_n a5 (go_n a6 (go_n tr (go_n td (go_o l0r (go_n te (go_o l1r (go_o l2r rfl))))))))))), fun h => absurd h (by decide)⟩
  | false =>
  rw [b2] at l2c l2r
  have F : Fine c (c.2.2.1 + 1).toNat c.2.1.toNat c.1.toNat := ⟨by omega, by omega, by omega, by omega, by omega, by omega, by omega, by omega, by omega⟩
  have fn := F.fn
  have l3c := scan (go := fun fuel i => catalog_Check_3.go (k + 20) fuel c.1 c.2.1 c.2.2.1 c.2.2.2.1 c.2.2.2.2 c.1 i) (v := (133 : Int)) (n := c.1.toNat) (p := fun i => decide (((ofL c (c.2.2.1 + 1).toNat c.2.1.toNat (i : Int)).length : Int) = 0)) (N := k + 20) (by omega) (fun fuel => go_n (by omega) rfl) (fun i hi fuel => by
    refine go_d (by omega) (go_o (cof_ok (k + 20) (by omega) F (i : Int)) ?_)
    by_cases h : ((ofL c (c.2.2.1 + 1).toNat c.2.1.toNat (i : Int)).length : Int) = 0
    · rw [decide_eq_true h]; exact go_d h rfl
    · rw [decide_eq_false h]; exact go_n h rfl) (by omega)
  have l3r := scan (go := fun fuel i => ref_Check_3.go (k + 20) fuel c.1 c.2.1 c.2.2.1 c.2.2.2.1 c.2.2.2.2 i) (v := (133 : Int)) (n := c.1.toNat) (p := fun i => decide (((ofL c (c.2.2.1 + 1).toNat c.2.1.toNat (i : Int)).length : Int) = 0)) (N := k + 20) (by omega) (fun fuel => go_n (by omega) rfl) (fun i hi fuel => by
    refine go_d (by omega) (go_o (rof_ok (k + 20) (by omega) F (i : Int)) ?_)
    by_cases h : ((ofL c (c.2.2.1 + 1).toNat c.2.1.toNat (i : Int)).length : Int) = 0
    · rw [decide_eq_true h]; exact go_d h rfl
    · rw [decide_eq_false h]; exact go_n h rfl) (by omega)
  cases b3 : anyN (fun i => decide (((ofL c (c.2.2.1 + 1).toNat c.2.1.toNat (i : Int)).length : Int) = 0)) 0 c.1.toNat with
  | true =>
    rw [b3] at l3c l3r
    exact ⟨133, go_n a1 (go_n a2 (go_n a3 (go_n a4 (go_n a5 (go_n a6 (go_n tc (go_n td (go_o l0c (go_n te (go_o l1c (go_o l2c (go_o l3c rfl)))))))))))), go_n a1 (go_n a2 (go_n a3 (go_n a4 (go_n a5 (go_n a6 (go_n tr (go_n td (go_o l0r (go_n te (go_o l1r (go_o l2r (go_o l3r rfl)))))))))))), fun h => absurd h (by decide)⟩
  | false =>
    rw [b3] at l3c l3r
    exact ⟨0, go_n a1 (go_n a2 (go_n a3 (go_n a4 (go_n a5 (go_n a6 (go_n tc (go_n td (go_o l0c (go_n te (go_o l1c (go_o l2c (go_o l3c rfl)))))))))))), go_n a1 (go_n a2 (go_n a3 (go_n a4 (go_n a5 (go_n a6 (go_n tr (go_n td (go_o l0r (go_n te (go_o l1r (go_o l2r (go_o l3r rfl)))))))))))), fun _ => ⟨F, rfl, rfl⟩⟩
theorem catalog_checks (k : Nat) (hk : 2000000000 ≤ k) (c : Cat) (hs : small 1000000000 c) : law_CatalogChecks.run (k + 20) c = some (true, ()) := by
  obtain ⟨v, h1, h2, _⟩ := check_ok k hk c hs
  refine go_o (alive_ok k) (go_t rfl (go_o h1 (go_o h2 ?_)))
  show some (decide (v = v), ()) = _
  rw [decide_eq_true rfl]
end Go.Hay.Ytnaaaldeadjohaa
