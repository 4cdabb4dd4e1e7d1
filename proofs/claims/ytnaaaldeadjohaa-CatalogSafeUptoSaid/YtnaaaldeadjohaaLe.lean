/- Each segment has so many nodes; a node's own segments are those that it has. Conditions: sizes below a bound. -/
import Derived.Test.YtnaaaldeadjohaaLd
set_option linter.unusedVariables false
set_option linter.unusedSimpArgs false
namespace Go.Hay.Ytnaaaldeadjohaa
open Go Go.Hay Go.Proofs

/-- How many numbers below one fit? -/
def cntN (p : Nat → Bool) : Nat → Nat
  | 0 => 0
  | n + 1 => cntN p n + (if p n = true then 1 else 0)
theorem cntN_congr {p q : Nat → Bool} : ∀ {n : Nat}, (∀ x < n, p x = q x) → cntN p n = cntN q n
  | 0, _ => rfl
  | n + 1, h => by rw [cntN, cntN, h n (by omega), cntN_congr (n := n) (fun x hx => h x (by omega))]
theorem cntN_or {p q : Nat → Bool} : ∀ {n : Nat}, (∀ x < n, p x = true → q x = true → False) → cntN (fun x => p x || q x) n = cntN p n + cntN q n
  | 0, _ => rfl
  | n + 1, h => by
    have h1 := h n (by omega)
    rw [cntN, cntN, cntN, cntN_or (n := n) (fun x hx => h x (by omega))]
    cases hp : p n <;> cases hq : q n
    · simp
    · simp; omega
    · simp; omega
    · exact (h1 hp hq).elim
theorem cntN_zero {p : Nat → Bool} : ∀ {n : Nat}, (∀ x < n, p x = false) → cntN p n = 0
  | 0, _ => rfl
  | n + 1, h => by rw [cntN, h n (by omega), cntN_zero (n := n) (fun x hx => h x (by omega))]; rfl
theorem cntN_one {a : Int} (h0 : 0 ≤ a) : ∀ {n : Nat}, a < (n : Int) → cntN (fun x => decide ((x : Int) = a)) n = 1
  | 0, h => by omega
  | n + 1, h => by
    rw [cntN]
    by_cases e : (n : Int) = a
    · rw [if_pos (decide_eq_true e), cntN_zero (fun x hx => decide_eq_false (by omega))]
    · rw [if_neg (by simpa using e), cntN_one h0 (n := n) (by omega)]
theorem cntN_mem : ∀ {L : List Int} {n : Nat}, L.Nodup → (∀ x ∈ L, 0 ≤ x ∧ x < (n : Int)) → cntN (fun x => decide ((x : Int) ∈ L)) n = L.length
  | [], n, _, _ => cntN_zero (fun x _ => by simp)
  | a :: L, n, hn, hr => by
    obtain ⟨h1, h2⟩ := List.nodup_cons.1 hn
    have e : cntN (fun x => decide ((x : Int) ∈ a :: L)) n = cntN (fun x => decide ((x : Int) = a) || decide ((x : Int) ∈ L)) n := cntN_congr (fun x _ => by rw [Bool.eq_iff_iff]; simp)
    have ha := hr a (List.mem_cons_self ..)
    rw [e, cntN_or (fun x _ p q => h1 (by rw [← of_decide_eq_true p]; exact of_decide_eq_true q)), cntN_one ha.1 ha.2, cntN_mem h2 (fun x hx => hr x (List.mem_cons_of_mem _ hx)), List.length_cons]
    omega

theorem flat_single {α β : Type} {g f : α → β} : ∀ {l : List α}, (∀ x ∈ l, g x = f x) → (l.flatMap fun x => [g x]) = l.map f
  | [], _ => rfl
  | a :: l, h => by
    rw [List.flatMap_cons, List.map_cons, h a (List.mem_cons_self ..), flat_single (l := l) (fun x hx => h x (List.mem_cons_of_mem _ hx))]
    rfl
theorem nodesL_map {c : Cat} {m S n : Nat} (F : Fine c m S n) (hs : shifts c) (p s : Nat) (hp : p < c.2.2.2.2.length) (hS : s < S) : nodesL c m ((p : Int), (s : Int)) = (List.range' 0 m).map fun j : Nat => ((s : Int) + (c.2.2.2.2.getD p p0).2.2.2.2.2 + (j : Int)) % (n : Int) := by
  obtain ⟨a, b⟩ := hs p hp
  have f1 := F.fn
  have f3 := F.n8
  have f4 := F.s8
  have f5 := F.m8
  unfold nodesL
  apply flat_single
  intro j hj
  obtain ⟨i, hi, rfl⟩ := List.mem_range'.1 hj
  rw [Int.toNat_natCast]
  generalize (c.2.2.2.2.getD p p0).2.2.2.2.2 = sh at a b
  have e1 : IntKind.i64.wrap ((s : Int) + sh) = (s : Int) + sh := by rw [wrap_i64] <;> omega
  have e2 : IntKind.i64.wrap ((s : Int) + sh + ((0 + 1 * i : Nat) : Int)) = (s : Int) + sh + ((0 + 1 * i : Nat) : Int) := by rw [wrap_i64] <;> omega
  rw [e1, e2, f1, Int.tmod_eq_emod_of_nonneg (by omega)]
theorem nodesL_nodup {c : Cat} {m S n : Nat} (F : Fine c m S n) (hs : shifts c) (p s : Nat) (hp : p < c.2.2.2.2.length) (hS : s < S) : (nodesL c m ((p : Int), (s : Int))).Nodup ∧ (nodesL c m ((p : Int), (s : Int))).length = m := by
  obtain ⟨a, b⟩ := hs p hp
  have f1 := F.mn
  have f2 := F.n1
  have f3 := F.n8
  rw [nodesL_map F hs p s hp hS]
  refine ⟨?_, by simp⟩
  generalize (c.2.2.2.2.getD p p0).2.2.2.2.2 = sh at a b
  unfold List.Nodup
  rw [List.pairwise_map]
  refine (List.pairwise_lt_range' (s := 0) (n := m)).imp_of_mem ?_
  intro x y hx hy hlt
  obtain ⟨i, hi, rfl⟩ := List.mem_range'.1 hx
  obtain ⟨j, hj, rfl⟩ := List.mem_range'.1 hy
  have : n = 1 ∨ n = 2 ∨ n = 3 ∨ n = 4 ∨ n = 5 ∨ n = 6 ∨ n = 7 ∨ n = 8 := by omega
  rcases this with rfl | rfl | rfl | rfl | rfl | rfl | rfl | rfl <;> omega

theorem ofL_segs (c : Cat) (m S : Nat) (node : Int) : (segsL c S).flatMap (pick c m node) = ofL c m S node := by
  unfold segsL ofL
  rw [List.flatMap_assoc]
  congr 1
  funext p
  rw [List.flatMap_assoc]
  congr 1
  funext s
  simp
theorem sum_const {α : Type} (k : Nat) : ∀ l : List α, (l.map fun _ => k).sum = l.length * k
  | [] => by simp
  | a :: l => by
    have := sum_const k l
    rw [List.map_cons, List.sum_cons, List.length_cons, Nat.succ_mul]
    omega
theorem segsL_card (c : Cat) (S : Nat) : (segsL c S).length = c.2.2.2.2.length * S := by
  unfold segsL
  simp only [List.length_flatMap, List.length_cons, List.length_nil, Nat.zero_add, sum_const, List.length_range', Nat.mul_one]
def tot (c : Cat) (m S : Nat) : Nat → Nat
  | 0 => 0
  | i + 1 => tot c m S i + (ofL c m S (i : Int)).length
theorem tot_le {c : Cat} {m S n : Nat} (F : Fine c m S n) : ∀ i, tot c m S i ≤ 64 * i
  | 0 => by simp [tot]
  | i + 1 => by
    have h1 := tot_le F i
    have h2 := ofL_len F (i : Int)
    rw [tot]; omega
theorem sum_add {α : Type} (f g : α → Nat) : ∀ A : List α, (A.map f).sum + (A.map g).sum = (A.map fun a => f a + g a).sum
  | [] => rfl
  | a :: A => by
    have := sum_add f g A
    simp only [List.map_cons, List.sum_cons]
    omega
theorem tot_sum (c : Cat) (m S : Nat) : ∀ i, tot c m S i = ((segsL c S).map fun a => cntN (fun x => decide ((x : Int) ∈ nodesL c m a)) i).sum
  | 0 => by
    have : ∀ A : List (Int × Int), 0 = (A.map fun a => cntN (fun x => decide ((x : Int) ∈ nodesL c m a)) 0).sum := by
      intro A
      induction A with
      | nil => rfl
      | cons a A ih => simp only [List.map_cons, List.sum_cons, ← ih]; rfl
    exact this _
  | i + 1 => by
    have hl : (ofL c m S (i : Int)).length = ((segsL c S).map fun a => if decide ((i : Int) ∈ nodesL c m a) = true then 1 else 0).sum := by
      rw [← ofL_segs, List.length_flatMap]
      congr 1
      apply List.map_congr_left
      intro a _
      unfold pick
      by_cases h : (i : Int) ∈ nodesL c m a
      · rw [if_pos h, if_pos (decide_eq_true h)]; rfl
      · rw [if_neg h, if_neg (by simpa using h)]; rfl
    rw [tot, tot_sum c m S i, hl, sum_add]
    rfl
theorem tot_all {c : Cat} {m S n : Nat} (F : Fine c m S n) (hs : shifts c) : tot c m S n = c.2.2.2.2.length * S * m := by
  rw [tot_sum, ← segsL_card]
  have : ∀ A : List (Int × Int), (∀ a ∈ A, a ∈ segsL c S) → (A.map fun a => cntN (fun x => decide ((x : Int) ∈ nodesL c m a)) n).sum = A.length * m := by
    intro A
    induction A with
    | nil => intro _; simp
    | cons a A ih =>
      intro h
      obtain ⟨p, s, hp, hS, rfl⟩ := segsL_in (h a (List.mem_cons_self ..))
      obtain ⟨h1, h2⟩ := nodesL_nodup F hs p s hp hS
      simp only [List.map_cons, List.sum_cons]
      rw [ih (fun x hx => h x (List.mem_cons_of_mem _ hx)), cntN_mem h1 (nodesL_in F hs p s hp hS), h2, List.length_cons, Nat.succ_mul]
      omega
  exact this _ (fun _ h => h)

theorem homes00_ok (N : Nat) (hN : 100 < N) {c : Cat} {m S n : Nat} (F : Fine c m S n) (node : Int) : ∀ (suf pre : List (Int × Int)) (fuel : Nat), segsL c S = pre ++ suf → suf.length < fuel →
    law_CatalogHomes_0_0.go N fuel c.1 c.2.1 c.2.2.1 c.2.2.2.1 c.2.2.2.2 node (ofL c m S node) (((pre.flatMap (pick c m node)).length : Nat) : Int) (segsL c S) ((segsL c S).length : Int) (pre.length : Int) = some (.inr (((ofL c m S node).length : Int), ()))
  | _, _, 0, _, h => absurd h (Nat.not_lt_zero _)
  | [], pre, fuel + 1, e, hf => by
    rw [List.append_nil] at e
    rw [← ofL_segs, e]
    exact go_n (by omega) rfl
  | a :: suf, pre, fuel + 1, e, hf => by
    have hl := segsL_len (c := c) (S := S) F.p8 F.s8
    have hm := F.m8
    have hlt : pre.length < (segsL c S).length := by rw [e]; simp
    have hgd : (segsL c S).getD ((pre.length : Int)).toNat ((0 : Int), (0 : Int)) = a := by rw [e]; simp
    obtain ⟨p, s, hp, hS, ea⟩ := segsL_in (show a ∈ segsL c S by rw [e]; simp)
    have hn := nodesL_len c m ((p : Int), (s : Int))
    have ho : ofL c m S node = pre.flatMap (pick c m node) ++ (pick c m node a ++ suf.flatMap (pick c m node)) := by rw [← ofL_segs, e]; simp
    have hol := ofL_len F node
    have ih := homes00_ok N hN F node suf (pre ++ [a]) fuel (by rw [e]; simp) (by simp at hf; omega)
    rw [show ((pre ++ [a]).length : Int) = ((pre.length + 1 : Nat) : Int) by simp, List.flatMap_append, List.flatMap_cons, List.flatMap_nil, List.append_nil] at ih
    refine go_d (by omega) (go_t (inB_nat hlt) (go_d (by rw [Int.toNat_natCast]; exact hlt) ?_))
    rw [hgd, wrap_succ pre.length (by omega)]
    rw [ea] at ho ih ⊢
    refine go_o (cnodes_ok N hN F p s hp hS) (go_o (in_b_ok N _ node (by omega) (by omega)) ?_)
    by_cases h : node ∈ nodesL c m ((p : Int), (s : Int))
    · have e1 : pick c m node ((p : Int), (s : Int)) = [((p : Int), (s : Int))] := if_pos h
      rw [e1] at ho ih
      have hx : (pre.flatMap (pick c m node)).length < (ofL c m S node).length := by rw [ho]; simp
      have hg : (ofL c m S node).getD ((((pre.flatMap (pick c m node)).length : Nat) : Int)).toNat ((0 : Int), (0 : Int)) = ((p : Int), (s : Int)) := by rw [ho]; simp
      refine go_d h (go_n (by omega) (go_t (inB_nat hx) (go_d (by rw [Int.toNat_natCast]; exact hx) ?_)))
      rw [hg, wrap_succ _ (by omega)]
      refine go_f (by simp) ?_
      rw [List.length_append] at ih
      exact ih
    · have e1 : pick c m node ((p : Int), (s : Int)) = [] := if_neg h
      rw [e1, List.append_nil] at ih
      exact go_n h ih
theorem homes0_ok (N : Nat) (hN : 100 < N) {c : Cat} {m S n : Nat} (F : Fine c m S n) (hb : ∀ i < n, (ofL c m S (i : Int)).length ≠ 0) : ∀ (d i fuel : Nat), n = i + d → d < fuel →
    law_CatalogHomes_0.go N fuel c.1 c.2.1 c.2.2.1 c.2.2.2.1 c.2.2.2.2 ((tot c m S i : Nat) : Int) (segsL c S) c.1 (i : Int) = some (.inr (((tot c m S n : Nat) : Int), ()))
  | _, _, 0, _, h => absurd h (Nat.not_lt_zero _)
  | 0, i, fuel + 1, e, hf => by
    have f1 := F.fn
    have : i = n := by omega
    subst this
    exact go_n (by omega) rfl
  | d + 1, i, fuel + 1, e, hf => by
    have f1 := F.fn
    have f8 := F.n8
    have hl := segsL_len (c := c) (S := S) F.p8 F.s8
    have ht := tot_le F i
    have hol := ofL_len F (i : Int)
    have h0 := hb i (by omega)
    have hh := homes00_ok N hN F (i : Int) (segsL c S) [] N rfl (by omega)
    have ih := homes0_ok N hN F hb d (i + 1) fuel (by omega) (by omega)
    refine go_d (by omega) (go_o (cof_ok N hN F (i : Int)) (go_o hh (go_nd rfl (go_n (by omega) ?_))))
    rw [wrap_succ i (by omega), show IntKind.i64.wrap (((tot c m S i : Nat) : Int) + ((ofL c m S (i : Int)).length : Int)) = ((tot c m S (i + 1) : Nat) : Int) by rw [tot, wrap_i64] <;> omega]
    exact ih
theorem catalog_homes (k : Nat) (hk : 2000000000 ≤ k) (c : Cat) (hs : small 1000000000 c) : law_CatalogHomes.run (k + 20) c = some (true, ()) := by
  obtain ⟨v, _, h2, h3⟩ := check_ok k hk c hs
  by_cases hv : v = 0
  · subst hv
    obtain ⟨F, hb, hb3⟩ := h3 rfl
    have hsh := shifts_of hb
    have fn := F.fn
    have fs := F.fs
    have fk := F.fk
    have f8 := F.n8
    have p8 := F.p8
    have s8 := F.s8
    have m8 := F.m8
    have hN : 100 < k + 20 := by omega
    have hne : ∀ i < c.1.toNat, (ofL c (c.2.2.1 + 1).toNat c.2.1.toNat (i : Int)).length ≠ 0 := by
      intro i hi h
      have : anyN (fun i => decide (((ofL c (c.2.2.1 + 1).toNat c.2.1.toNat (i : Int)).length : Int) = 0)) 0 c.1.toNat = true := anyN_iff.2 ⟨i, by omega, by omega, decide_eq_true (by omega)⟩
      rw [hb3] at this
      cases this
    have loop := homes0_ok (k + 20) hN F hne c.1.toNat 0 (k + 20) (by omega) (by omega)
    have ht := tot_all F hsh
    refine go_o h2 (go_nd rfl (go_o (segments_ok k (by omega) F) (go_f rfl (go_o loop (go_o (alive_ok k) (go_t rfl ?_))))))
    rw [ht]
    generalize (c.2.2.1 + 1).toNat = m at *
    generalize c.2.1.toNat = S at *
    have x1 : c.2.2.2.2.length * S ≤ 8 * 8 := Nat.mul_le_mul p8 s8
    have x2 : c.2.2.2.2.length * S * m ≤ 64 * 8 := Nat.mul_le_mul x1 m8
    have e1 : IntKind.i64.wrap ((c.2.2.2.2.length : Int) * c.2.1) = ((c.2.2.2.2.length * S : Nat) : Int) := by
      rw [fs, ← Int.natCast_mul, wrap_nat _ (by omega)]
    have e2 : IntKind.i64.wrap (c.2.2.1 + 1) = (m : Int) := by rw [wrap_i64] <;> omega
    show some (decide (((c.2.2.2.2.length * S * m : Nat) : Int) = IntKind.i64.wrap (IntKind.i64.wrap ((c.2.2.2.2.length : Int) * c.2.1) * IntKind.i64.wrap (c.2.2.1 + 1))), ()) = _
    rw [e1, e2, ← Int.natCast_mul, wrap_nat _ (by omega), decide_eq_true rfl]
  · exact go_o h2 (go_nn hv (go_o (alive_ok k) rfl))
end Go.Hay.Ytnaaaldeadjohaa
