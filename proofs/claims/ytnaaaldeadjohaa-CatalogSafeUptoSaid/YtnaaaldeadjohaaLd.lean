/- Where the segments lie: the program tells what the document says. Conditions: sizes below a bound. -/
import Derived.Test.YtnaaaldeadjohaaLc
set_option linter.unusedVariables false
set_option linter.unusedSimpArgs false
namespace Go.Hay.Ytnaaaldeadjohaa
open Go Go.Hay Go.Proofs

theorem scanG {β : Type} {go : Nat → Int → Option β} {n : Nat} {p : Nat → Bool} {X Y : β} (hn : n ≤ 1099511627776)
    (hend : ∀ fuel, go (fuel + 1) (n : Int) = some Y)
    (hstep : ∀ i < n, ∀ fuel, go (fuel + 1) (i : Int) = if p i = true then some X else go fuel (IntKind.i64.wrap ((i : Int) + 1))) :
    ∀ d i fuel, n = i + d → d < fuel → go fuel (i : Int) = some (if anyN p i d = true then X else Y)
  | _, _, 0, _, h => absurd h (Nat.not_lt_zero _)
  | 0, i, fuel + 1, e, hf => by
    have : i = n := by omega
    subst this
    rw [hend, anyN, if_neg (by decide)]
  | d + 1, i, fuel + 1, e, hf => by
    rw [hstep i (by omega), anyN]
    cases hp : p i with
    | true => rfl
    | false =>
      rw [if_neg (by decide), wrap_succ i (by omega), scanG hn hend hstep d (i + 1) fuel (by omega) (by omega), Bool.false_or]
theorem anyN_none : ∀ (d i : Nat), anyN (fun _ => false) i d = false
  | 0, _ => rfl
  | d + 1, i => by rw [anyN, anyN_none d]; rfl

theorem sameS_ok (N : Nat) (l : List (Int × Int)) (hl : l.length ≤ 1000000) (hN : l.length < N) : ref_SameSegments.run N l l = some (true, ()) := by
  have h := scan (go := fun fuel i => ref_SameSegments_0.go N fuel l l i) (v := false) (n := l.length) (p := fun _ => false) (by omega) (fun fuel => go_n (by omega) rfl) (fun i hi fuel => by
    refine go_d (by omega) (go_t (inB_nat hi) (go_d (by rw [Int.toNat_natCast]; exact hi) (go_t (inB_nat hi) (go_d (by rw [Int.toNat_natCast]; exact hi) ?_))))
    rw [if_neg (by decide)]
    exact go_f (by simp) rfl) hN
  rw [anyN_none] at h
  exact go_nd rfl (go_o h rfl)
theorem sameI_ok (N : Nat) (l : List Int) (hl : l.length ≤ 1000000) (hN : l.length < N) : ref_SameInts.run N l l = some (true, ()) := by
  have h := scan (go := fun fuel i => ref_SameInts_0.go N fuel l l i) (v := false) (n := l.length) (p := fun _ => false) (by omega) (fun fuel => go_n (by omega) rfl) (fun i hi fuel => by
    refine go_d (by omega) (go_t (inB_nat hi) (go_d (by rw [Int.toNat_natCast]; exact hi) (go_t (inB_nat hi) (go_d (by rw [Int.toNat_natCast]; exact hi) ?_))))
    rw [if_neg (by decide)]
    exact go_nd rfl rfl) hN
  rw [anyN_none] at h
  exact go_nd rfl (go_o h rfl)

theorem segments_ok (k : Nat) (hk : 100 ≤ k) {c : Cat} {m S n : Nat} (F : Fine c m S n) : law_segments.run (k + 20) c = some (segsL c S, true, ()) := by
  have h5 := F.s8
  have h8 := F.p8
  have fs := F.fs
  have hin : ∀ p < c.2.2.2.2.length, ∀ l : List (Int × Int), l.length ≤ 900 → catalog_Segments_f1_c_0_0.go (k + 20) (k + 20) 0 l (p : Int) c.2.1 0 = some ((l ++ (List.range' 0 S).flatMap (fun s : Nat => [((p : Int), (s : Int))]), ()), ((0 : Int), (), (), (), (), ()), ()) := by
    intro p hp l hl
    exact accum (go := fun fuel l s => catalog_Segments_f1_c_0_0.go (k + 20) fuel 0 l (p : Int) c.2.1 s) (n := S) (B := 1000) (C := 1) (f := fun s : Nat => [((p : Int), (s : Int))]) (out := fun l => ((l, ()), ((0 : Int), (), (), (), (), ()), ())) (by omega) (fun i _ => by simp) (fun fuel l => go_n (by omega) rfl) (fun s hs fuel l hl => go_d (by omega) (go_d rfl (go_o (v := ((l ++ [((p : Int), (s : Int))], ()), ())) (go_t (room_t (by omega) (by omega)) rfl) rfl))) S 0 (k + 20) l (by omega) (by omega) (by omega)
  have hout := accum (go := fun fuel l p => catalog_Segments_f1_c_0.go (k + 20) fuel 0 l c.1 c.2.1 c.2.2.1 c.2.2.2.1 c.2.2.2.2 (c.2.2.2.2.length : Int) p) (n := c.2.2.2.2.length) (B := 900) (C := 8) (f := fun p : Nat => (List.range' 0 S).flatMap fun s : Nat => [((p : Int), (s : Int))]) (out := fun l => ((l, ()), ((0 : Int), (), (), (), (), ()), ())) (by omega) (fun p _ => by
      have := flat_le (l := List.range' 0 S) (f := fun s : Nat => [((p : Int), (s : Int))]) (C := 1) (fun x _ => by simp)
      rw [List.length_range'] at this
      omega) (fun fuel l => go_n (by omega) rfl) (fun p hp fuel l hl => go_d (by omega) (go_o (hin p hp l hl) rfl)) c.2.2.2.2.length 0 (k + 20) [] (by omega) (by omega) (by simp; omega)
  rw [List.nil_append] at hout
  exact go_o (v := ((((c.1, c.2.1, c.2.2.1, c.2.2.2.1, c.2.2.2.2, ()), ()), ()))) rfl (go_o (alive_ok k) (go_f rfl (go_o (v := ((segsL c S, ()), ((0 : Int), (), (), (), (), ()), ())) (go_o hout rfl) (go_d rfl rfl))))

/-- Are a catalog's shifts such as may be? -/
def shifts (c : Cat) : Prop := ∀ p < c.2.2.2.2.length, 0 ≤ (c.2.2.2.2.getD p p0).2.2.2.2.2 ∧ (c.2.2.2.2.getD p p0).2.2.2.2.2 < c.1
theorem shifts_of {c : Cat} (h : anyN (badPro c) 0 c.2.2.2.2.length = false) : shifts c := by
  intro p hp
  have h1 : badPro c p = false := by
    cases hb : badPro c p with
    | false => rfl
    | true =>
      have := (anyN_iff (p := badPro c) (i := 0) (d := c.2.2.2.2.length)).2 ⟨p, by omega, by omega, hb⟩
      rw [h] at this
      cases this
  unfold badPro at h1
  rw [Bool.or_eq_false_iff] at h1
  have h2 : okP c (c.2.2.2.2.getD p p0) = true := by simpa using h1.1
  unfold okP at h2
  simp only [Bool.and_eq_true, Bool.not_eq_true', decide_eq_false_iff_not] at h2
  obtain ⟨_, _, _, _, a, b, _⟩ := h2
  exact ⟨by omega, by omega⟩
theorem nodesL_in {c : Cat} {m S n : Nat} (F : Fine c m S n) (hs : shifts c) (p s : Nat) (hp : p < c.2.2.2.2.length) (hS : s < S) : ∀ x ∈ nodesL c m ((p : Int), (s : Int)), 0 ≤ x ∧ x < (n : Int) := by
  intro x hx
  obtain ⟨a, b⟩ := hs p hp
  have f1 := F.fn
  have f2 := F.n1
  have f3 := F.n8
  have f4 := F.s8
  have f5 := F.m8
  unfold nodesL at hx
  simp only [List.mem_flatMap, List.mem_range', List.mem_singleton] at hx
  obtain ⟨j, ⟨i, hi, rfl⟩, rfl⟩ := hx
  rw [Int.toNat_natCast]
  generalize (c.2.2.2.2.getD p p0).2.2.2.2.2 = sh at a b
  have e1 : IntKind.i64.wrap ((s : Int) + sh) = (s : Int) + sh := by rw [wrap_i64] <;> omega
  have e2 : IntKind.i64.wrap ((s : Int) + sh + ((0 + 1 * i : Nat) : Int)) = (s : Int) + sh + ((0 + 1 * i : Nat) : Int) := by rw [wrap_i64] <;> omega
  rw [e1, e2, f1, Int.tmod_eq_emod_of_nonneg (by omega)]
  exact ⟨Int.emod_nonneg _ (by omega), Int.emod_lt_of_pos _ (by omega)⟩

def liveAt (live : List Bool) (x : Int) : Bool := decide (x < (live.length : Int)) && live.getD x.toNat false
def anyLive (live : List Bool) (l : List Int) : Bool := anyN (fun i => liveAt live (l.getD i 0)) 0 l.length
theorem containsL_ok (N : Nat) (l : List Int) (live : List Bool) (h0 : ∀ x ∈ l, 0 ≤ x) (hl : l.length ≤ 1000000) (hN : l.length < N) : slices_ContainsFunc_int_int_c.run N l live = some (anyLive live l, ()) := by
  refine find (go := fun fuel i => slices_IndexFunc_int_int_c_0.go N fuel l live (l.length : Int) i) (by omega) (fun fuel => go_n (by omega) rfl) (fun i hi fuel => ?_) hN
  have hx := h0 _ (getD_mem hi 0)
  refine go_d (by omega) (go_t (inB_nat hi) (go_d (by rw [Int.toNat_natCast]; exact hi) ?_))
  rw [Int.toNat_natCast]
  refine go_o (v := (liveAt live (l.getD i 0), ())) ?_ ?_
  · unfold liveAt
    by_cases h : l.getD i 0 < (live.length : Int)
    · rw [decide_eq_true h]
      exact go_d h (go_t (inB_t hx h) rfl)
    · rw [decide_eq_false h]
      exact go_n h rfl
  · cases liveAt live (l.getD i 0) <;> rfl
abbrev YD (v : Bool) (n : Int) : (Bool × Unit) × (Int × Unit × Unit × Unit × Unit × Unit × Unit × Unit) × Unit := ((v, ()), (n, (), (), (), (), (), (), ()), ())
def deadAt (c : Cat) (m : Nat) (live : List Bool) (a : Int × Int) : Bool := !anyLive live (nodesL c m a)
theorem ccovered_ok (N : Nat) (hN : 100 < N) {c : Cat} {m S n : Nat} (F : Fine c m S n) (hs : shifts c) (live : List Bool) : catalog_Covered_b.run N c live = some (!anyN (fun p => anyN (fun s => deadAt c m live ((p : Int), (s : Int))) 0 S) 0 c.2.2.2.2.length, ()) := by
  have h5 := F.s8
  have h8 := F.p8
  have hm := F.m8
  have fs := F.fs
  have hin : ∀ p < c.2.2.2.2.length, catalog_Segments_f1_d_0_0.go N N 0 c.1 c.2.1 c.2.2.1 c.2.2.2.1 c.2.2.2.2 live false (p : Int) c.2.1 0 = some (if anyN (fun s => deadAt c m live ((p : Int), (s : Int))) 0 S = true then .inl (YD false 1) else .inr (YD false 0)) := by
    intro p hp
    refine scanG (go := fun fuel s => catalog_Segments_f1_d_0_0.go N fuel 0 c.1 c.2.1 c.2.2.1 c.2.2.2.1 c.2.2.2.2 live false (p : Int) c.2.1 s) (n := S) (X := .inl (YD false 1)) (Y := .inr (YD false 0)) (by omega) (fun fuel => go_n (by omega) rfl) (fun s hs2 fuel => ?_) S 0 N (by omega) (by omega)
    have hn := nodesL_len c m ((p : Int), (s : Int))
    refine go_d (by omega) (go_d rfl ?_)
    refine go_o (v := if deadAt c m live ((p : Int), (s : Int)) = true then .inr ((false, ()), ()) else .inl ((false, ()), ())) (go_o (cnodes_ok N hN F p s hp hs2) (go_o (containsL_ok N _ live (fun x hx => (nodesL_in F hs p s hp hs2 x hx).1) (by omega) (by omega)) ?_)) ?_
    · unfold deadAt
      cases anyLive live (nodesL c m ((p : Int), (s : Int))) <;> rfl
    · cases deadAt c m live ((p : Int), (s : Int)) <;> rfl
  have hout := scanG (go := fun fuel p => catalog_Segments_f1_d_0.go N fuel 0 c.1 c.2.1 c.2.2.1 c.2.2.2.1 c.2.2.2.2 live false c.1 c.2.1 c.2.2.1 c.2.2.2.1 c.2.2.2.2 (c.2.2.2.2.length : Int) p) (n := c.2.2.2.2.length) (p := fun p => anyN (fun s => deadAt c m live ((p : Int), (s : Int))) 0 S) (X := .inl (YD false 1)) (Y := .inr (YD false 0)) (by omega) (fun fuel => go_n (by omega) rfl) (fun p hp fuel => by
    refine go_d (by omega) (go_o (hin p hp) ?_)
    show _ = if anyN (fun s => deadAt c m live ((p : Int), (s : Int))) 0 S = true then _ else _
    cases anyN (fun s => deadAt c m live ((p : Int), (s : Int))) 0 S <;> rfl) c.2.2.2.2.length 0 N (by omega) (by omega)
  refine go_o (v := ((((c.1, c.2.1, c.2.2.1, c.2.2.2.1, c.2.2.2.2, ()), ()), ()))) rfl ?_
  cases hq : anyN (fun p => anyN (fun s => deadAt c m live ((p : Int), (s : Int))) 0 S) 0 c.2.2.2.2.length with
  | true =>
    rw [hq] at hout
    exact go_o (v := YD false 1) (go_o hout rfl) (go_n (by decide) (go_d rfl rfl))
  | false =>
    rw [hq] at hout
    exact go_o (v := YD false 0) (go_o hout rfl) (go_d rfl rfl)
theorem rlive_ok (N : Nat) (l : List Int) (live : List Bool) (h0 : ∀ x ∈ l, 0 ≤ x) (hl : l.length ≤ 1000000) : ∀ (d i fuel : Nat) (st : Bool), l.length = i + d → d < fuel → ref_Covered_0_0.go N fuel live st l (i : Int) = some (st || anyN (fun i => liveAt live (l.getD i 0)) i d, ())
  | _, _, 0, _, _, h => absurd h (Nat.not_lt_zero _)
  | 0, i, fuel + 1, st, e, hf => by
    rw [anyN, Bool.or_false]
    exact go_n (by omega) rfl
  | d + 1, i, fuel + 1, st, e, hf => by
    have hi : i < l.length := by omega
    have hx := h0 _ (getD_mem hi 0)
    refine go_d (by omega) ?_
    cases st with
    | true =>
      refine go_t rfl ?_
      rw [wrap_succ i (by omega)]
      exact (rlive_ok N l live h0 hl d (i + 1) fuel true (by omega) (by omega)).trans (by simp)
    | false =>
      refine go_f rfl (go_t (inB_nat hi) (go_d (by rw [Int.toNat_natCast]; exact hi) ?_))
      rw [Int.toNat_natCast, wrap_succ i (by omega), anyN, Bool.false_or]
      by_cases h : l.getD i 0 < (live.length : Int)
      · refine go_d h (go_t (inB_nat hi) (go_d hi (go_t (inB_t hx h) ?_)))
        rw [rlive_ok N l live h0 hl d (i + 1) fuel _ (by omega) (by omega)]
        unfold liveAt
        rw [decide_eq_true h, Bool.true_and]
      · refine go_n h ?_
        rw [rlive_ok N l live h0 hl d (i + 1) fuel _ (by omega) (by omega)]
        unfold liveAt
        rw [decide_eq_false h, Bool.false_and]
theorem rcovered_ok (N : Nat) (hN : 100 < N) {c : Cat} {m S n : Nat} (F : Fine c m S n) (hs : shifts c) (live : List Bool) : ref_Covered.run N c live = some (!anyN (fun p => anyN (fun s => deadAt c m live ((p : Int), (s : Int))) 0 S) 0 c.2.2.2.2.length, ()) := by
  have hl := segsL_len (c := c) (S := S) F.p8 F.s8
  have hm := F.m8
  have h := scan (go := fun fuel i => ref_Covered_0.go N fuel live c.1 c.2.1 c.2.2.1 c.2.2.2.1 c.2.2.2.2 (segsL c S) i) (v := false) (n := (segsL c S).length) (p := fun i => deadAt c m live ((segsL c S).getD i ((0 : Int), (0 : Int)))) (N := N) (by omega) (fun fuel => go_n (by omega) rfl) (fun i hi fuel => by
    obtain ⟨p, s, hp, hs2, e⟩ := segsL_in (getD_mem hi ((0 : Int), (0 : Int)))
    have hn := nodesL_len c m ((p : Int), (s : Int))
    refine go_d (by omega) (go_t (inB_nat hi) (go_d (by rw [Int.toNat_natCast]; exact hi) ?_))
    rw [Int.toNat_natCast, e]
    refine go_o (rnodes_ok N hN F p s hp hs2) (go_o (rlive_ok N _ live (fun x hx => (nodesL_in F hs p s hp hs2 x hx).1) (by omega) (nodesL c m ((p : Int), (s : Int))).length 0 N false (by omega) (by omega)) ?_)
    unfold deadAt anyLive
    rw [Bool.false_or]
    cases anyN (fun i => liveAt live ((nodesL c m ((p : Int), (s : Int))).getD i 0)) 0 (nodesL c m ((p : Int), (s : Int))).length <;> rfl) (by omega)
  have e : anyN (fun i => deadAt c m live ((segsL c S).getD i ((0 : Int), (0 : Int)))) 0 (segsL c S).length = anyN (fun p => anyN (fun s => deadAt c m live ((p : Int), (s : Int))) 0 S) 0 c.2.2.2.2.length := by
    rw [Bool.eq_iff_iff, anyN_iff, anyN_iff]
    constructor
    · rintro ⟨i, _, hi, hd⟩
      obtain ⟨p, s, hp, hs2, e⟩ := segsL_in (getD_mem (show i < (segsL c S).length by omega) ((0 : Int), (0 : Int)))
      rw [e] at hd
      exact ⟨p, by omega, by omega, anyN_iff.2 ⟨s, by omega, by omega, hd⟩⟩
    · rintro ⟨p, _, hp, hd⟩
      obtain ⟨s, _, hs2, hd⟩ := anyN_iff.1 hd
      have hmem : ((p : Int), (s : Int)) ∈ segsL c S := by
        unfold segsL
        simp only [List.mem_flatMap, List.mem_range', List.mem_singleton]
        exact ⟨p, ⟨p, by omega, by omega⟩, s, ⟨s, by omega, by omega⟩, rfl⟩
      obtain ⟨i, hi, he⟩ := List.mem_iff_getElem.1 hmem
      refine ⟨i, by omega, by omega, ?_⟩
      rw [List.getD_eq_getElem?_getD, List.getElem?_eq_getElem hi]
      show deadAt c m live (segsL c S)[i] = true
      rw [he]
      exact hd
  rw [e] at h
  refine go_o (rsegs_ok N hN F) ?_
  cases hq : anyN (fun p => anyN (fun s => deadAt c m live ((p : Int), (s : Int))) 0 S) 0 c.2.2.2.2.length with
  | true =>
    rw [hq] at h
    exact go_o h rfl
  | false =>
    rw [hq] at h
    exact go_o h rfl
theorem nodes_same (N : Nat) (hN : 100 < N) {c : Cat} {m S n : Nat} (F : Fine c m S n) (a : Int × Int) : ∃ l, catalog_Nodes.run N c a = some (l, ()) ∧ ref_Nodes.run N c a = some (l, ()) ∧ l.length ≤ 8 := by
  have fs := F.fs
  have fn := F.fn
  have f2 := F.n1
  have hm := F.m8
  obtain ⟨p, s⟩ := a
  by_cases h1 : p < 0
  · exact ⟨[], go_d h1 rfl, go_d h1 rfl, by simp⟩
  by_cases h2 : p ≥ (c.2.2.2.2.length : Int)
  · exact ⟨[], go_n h1 (go_d h2 rfl), go_n h1 (go_d h2 rfl), by simp⟩
  by_cases h3 : s < 0
  · exact ⟨[], go_n h1 (go_n h2 (go_d h3 rfl)), go_n h1 (go_n h2 (go_d h3 rfl)), by simp⟩
  by_cases h4 : s ≥ c.2.1
  · exact ⟨[], go_n h1 (go_n h2 (go_n h3 (go_d h4 rfl))), go_n h1 (go_n h2 (go_n h3 (go_d h4 rfl))), by simp⟩
  obtain ⟨x, rfl⟩ := Int.eq_ofNat_of_zero_le (show 0 ≤ p by omega)
  obtain ⟨y, rfl⟩ := Int.eq_ofNat_of_zero_le (show 0 ≤ s by omega)
  exact ⟨_, cnodes_ok N hN F x y (by omega) (by omega), rnodes_ok N hN F x y (by omega) (by omega), Nat.le_trans (nodesL_len ..) hm⟩
theorem ofL_len {c : Cat} {m S n : Nat} (F : Fine c m S n) (node : Int) : (ofL c m S node).length ≤ 64 := by
  have h5 := F.s8
  have h8 := F.p8
  have := flat_le (l := List.range' 0 c.2.2.2.2.length) (f := fun p : Nat => (List.range' 0 S).flatMap fun s : Nat => pick c m node ((p : Int), (s : Int))) (C := 8) (fun p _ => by
    have := flat_le (l := List.range' 0 S) (f := fun s : Nat => pick c m node ((p : Int), (s : Int))) (C := 1) (fun x _ => pick_len ..)
    rw [List.length_range'] at this
    omega)
  rw [List.length_range'] at this
  unfold ofL
  omega
theorem catalog_lies (k : Nat) (hk : 2000000000 ≤ k) (c : Cat) (a : Int × Int) (live : List Bool) (hs : small 1000000000 c) : law_CatalogLies.run (k + 20) c a live = some (true, ()) := by
  obtain ⟨v, _, h2, h3⟩ := check_ok k hk c hs
  by_cases hv : v = 0
  · subst hv
    obtain ⟨F, hb, _⟩ := h3 rfl
    have hsh := shifts_of hb
    have fn := F.fn
    have f8 := F.n8
    have hN : 100 < k + 20 := by omega
    have hsl := segsL_len (c := c) (S := c.2.1.toNat) F.p8 F.s8
    obtain ⟨l, n1, n2, n3⟩ := nodes_same (k + 20) hN F a
    have loop := scan (go := fun fuel i => law_CatalogLies_0.go (k + 20) fuel c.1 c.2.1 c.2.2.1 c.2.2.2.1 c.2.2.2.2 (i - 1)) (v := false) (n := c.1.toNat + 2) (p := fun _ => false) (N := k + 20) (by omega) (fun fuel => go_n (by omega) rfl) (fun i hi fuel => by
      have ho := ofL_len F ((i : Int) - 1)
      refine go_d (by omega) (go_o (cof_ok (k + 20) hN F ((i : Int) - 1)) (go_o (rof_ok (k + 20) hN F ((i : Int) - 1)) (go_o (sameS_ok (k + 20) _ (by omega) (by omega)) (go_f rfl ?_))))
      rw [if_neg (by decide)]
      have e1 : IntKind.i64.wrap ((i : Int) - 1 + 1) = IntKind.i64.wrap ((i : Int) + 1) - 1 := by rw [wrap_succ i (by omega), wrap_i64] <;> omega
      rw [e1]) (by omega)
    rw [anyN_none] at loop
    refine go_o h2 (go_nd rfl (go_o (segments_ok k (by omega) F) (go_f rfl (go_o loop (go_o (alive_ok k) (go_t rfl (go_o (rsegs_ok (k + 20) hN F) (go_o (sameS_ok (k + 20) _ (by omega) (by omega)) (go_t rfl (go_o n1 (go_o n2 (go_o (sameI_ok (k + 20) l (by omega) (by omega)) (go_t rfl (go_o (ccovered_ok (k + 20) hN F hsh live) (go_o (rcovered_ok (k + 20) hN F hsh live) ?_)))))))))))))))
    simp
  · exact go_o h2 (go_nn hv (go_o (alive_ok k) rfl))
end Go.Hay.Ytnaaaldeadjohaa
