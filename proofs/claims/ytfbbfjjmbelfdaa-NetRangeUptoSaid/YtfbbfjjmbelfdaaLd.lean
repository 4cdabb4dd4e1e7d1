/- Clones go their own ways; a range over one's messages tells what there was when it began. Conditions: sizes below a bound. -/
import Derived.Test.YtfbbfjjmbelfdaaLc
set_option linter.unusedVariables false
set_option linter.unusedSimpArgs false
namespace Go.Hay.Ytfbbfjjmbelfdaa
open Go Go.Hay Go.Proofs

/-- What holds of a net and its clone while they go their ways. -/
theorem clones_step (k M : Nat) (r : Int) (l : List Msg) (o : Op) (hF : Fine r M l) (hl : l.length ≤ 1073741824) (hlk : l.length < k) (hM : M ≤ 1073741824) (hMk : M < k) (ho : o.2.2.2.length ≤ M) :
    law_step.run (k + 3) r l (r, l) o = some ((r, stepL r l o, ()), (r, stepL r l o), true, ()) :=
  step_ok k r l o hF.room (by omega) hlk (fun m hm => by have := hF.raw m hm; omega) (fun m hm => by have := hF.raw m hm; omega) (by omega) (by omega)

theorem clones0_ok (k M : Nat) (r : Int) (ah one two : List Op) (h1 : one.length ≤ 536870912) (h2 : two.length ≤ 536870912) (hM : M ≤ 1073741824) (hMk : M < k) (ho1 : ∀ o ∈ one, o.2.2.2.length ≤ M) (ho2 : ∀ o ∈ two, o.2.2.2.length ≤ M) :
    ∀ (d i : Nat) (a b : List Msg) (fuel : Nat), max one.length two.length ≤ i + d → Fine r M a → Fine r M b → a.length ≤ 536870912 + i → b.length ≤ 536870912 + i → i ≤ max one.length two.length → a.length + d < k → b.length + d < k → d < fuel →
    ∃ a' b', law_NetClones_0.go (k + 3) fuel ah one two r a r a r b r b (i : Int) = some (.inr ((r, a', ()), (r, b', ()), (r, a', ()), (r, b', ()), ())) ∧ Fine r M a' ∧ Fine r M b' ∧ a'.length ≤ a.length + d ∧ b'.length ≤ b.length + d
  | _, _, _, _, 0, _, _, _, _, _, _, _, _, h => absurd h (Nat.not_lt_zero _)
  | 0, i, a, b, fuel + 1, hi, ha, hb, hla, hlb, him, hka, hkb, hf => by
    refine ⟨a, b, go_o (v := .inr ()) (go_n (by omega) (go_n (by omega) rfl)) rfl, ha, hb, by omega, by omega⟩
  | d + 1, i, a, b, fuel + 1, hi, ha, hb, hla, hlb, him, hka, hkb, hf => by
    by_cases hend : max one.length two.length ≤ i
    · exact ⟨a, b, go_o (v := .inr ()) (go_n (by omega) (go_n (by omega) rfl)) rfl, ha, hb, by omega, by omega⟩
    have hgo : law_NetClones_0_0.run (k + 3) ah one two (i : Int) = some (.inl ()) := by
      by_cases h : i < one.length
      · exact go_d (by omega) rfl
      · exact go_n (by omega) (go_d (by omega) rfl)
    -- the one
    have hA : ∃ a', law_NetClones_0_1.run (k + 3) ah one two r a r a (i : Int) = some (.inl ((r, a', ()), (r, a', ()), ())) ∧ Fine r M a' ∧ a'.length ≤ a.length + 1 := by
      by_cases h : i < one.length
      · have ho : (one.getD ((i : Int)).toNat ((0 : Int), (0 : Int), (0 : Int), ([] : List UInt8))).2.2.2.length ≤ M := by
          rw [Int.toNat_natCast, List.getD_eq_getElem?_getD, List.getElem?_eq_getElem h]
          exact ho1 _ (List.getElem_mem h)
        obtain ⟨g1, g2⟩ := ha.step ho
        exact ⟨_, go_d (by omega) (go_t (inB_nat h) (go_o (clones_step k M r a _ ha (by omega) (by omega) hM hMk ho) rfl)), g1, g2⟩
      · exact ⟨a, go_n (by omega) rfl, ha, by omega⟩
    have hB : ∃ b', (∀ {y}, (law_NetClones_0.go (k + 3) fuel ah one two r (Classical.choose hA) r (Classical.choose hA) r b' r b' (IntKind.i64.wrap ((i : Int) + (1 : Int)))) = y →
        (bif decide ((i : Int) < (two.length : Int)) then
              bif inB (i : Int) two.length then
                obind (law_step.run (k + 3) r b (r, b) (two.getD ((i : Int)).toNat ((0 : Int), (0 : Int), (0 : Int), ([] : List UInt8)))) fun ((room8, l8, _), v1, b1, _) =>
                  bif !b1 then
                    some (.inl ((r, Classical.choose hA, ()), (v1.1, v1.2, ()), false, ()))
                  else law_NetClones_0.go (k + 3) fuel ah one two r (Classical.choose hA) r (Classical.choose hA) room8 l8 v1.1 v1.2 (IntKind.i64.wrap ((i : Int) + (1 : Int)))
              else none
            else law_NetClones_0.go (k + 3) fuel ah one two r (Classical.choose hA) r (Classical.choose hA) r b r b (IntKind.i64.wrap ((i : Int) + (1 : Int)))) = y) ∧ Fine r M b' ∧ b'.length ≤ b.length + 1 := by
      by_cases h : i < two.length
      · have ho : (two.getD ((i : Int)).toNat ((0 : Int), (0 : Int), (0 : Int), ([] : List UInt8))).2.2.2.length ≤ M := by
          rw [Int.toNat_natCast, List.getD_eq_getElem?_getD, List.getElem?_eq_getElem h]
          exact ho2 _ (List.getElem_mem h)
        obtain ⟨g1, g2⟩ := hb.step ho
        exact ⟨_, fun hy => go_d (by omega) (go_t (inB_nat h) (go_o (clones_step k M r b _ hb (by omega) (by omega) hM hMk ho) hy)), g1, g2⟩
      · exact ⟨b, fun hy => go_n (by omega) hy, hb, by omega⟩
    obtain ⟨g1, g2, g3⟩ := Classical.choose_spec hA
    obtain ⟨b1, q1, q2, q3⟩ := hB
    obtain ⟨a', b', e1, e2, e3, e4, e5⟩ := clones0_ok k M r ah one two h1 h2 hM hMk ho1 ho2 d (i + 1) (Classical.choose hA) b1 fuel (by omega) g2 q2 (by omega) (by omega) (by omega) (by omega) (by omega) (by omega)
    refine ⟨a', b', go_o hgo (go_o g1 (q1 ?_)), e2, e3, by omega, by omega⟩
    rw [wrap_succ i (by omega)]
    exact e1

theorem net_clones (k M : Nat) (room : Int) (ah one two : List Op) (h0 : ah.length ≤ 268435456) (h1 : one.length ≤ 268435456) (h2 : two.length ≤ 268435456) (hM : M ≤ 1073741824) (hMk : M < k) (ho : ∀ o ∈ ah, o.2.2.2.length ≤ M)
    (ho1 : ∀ o ∈ one, o.2.2.2.length ≤ M) (ho2 : ∀ o ∈ two, o.2.2.2.length ≤ M) (hk : ah.length + one.length + two.length < k) : law_NetClones.run (k + 3) room (ah, one, two) = some (true, ()) := by
  refine go_o (begun_ok k room) (go_f rfl (go_o (new_ok _ room) (go_o (run_ok k M _ [] ah (by omega) (by simp) hM hMk (fine_nil room M) ho (by simp; omega)) (go_f rfl ?_))))
  obtain ⟨g1, g2⟩ := (fine_nil room M).run ho
  simp only [List.length_nil, Nat.zero_add] at g2
  generalize runL (max room 0) [] ah = l at g1 g2
  obtain ⟨a', b', e1, e2, e3, e4, e5⟩ := clones0_ok k M (max room 0) ah one two (by omega) (by omega) hM hMk ho1 ho2 (max one.length two.length) 0 l l (k + 3) (by omega) g1 g1 (by omega) (by omega) (by omega) (by omega) (by omega) (by omega)
  refine go_o (v := ((max room 0, l, ()), ())) (go_o (clone_l_ok _ l (by omega)) rfl) (go_o e1 (go_o (stands_ok _ _ _ a' (by omega) (fun m hm => by have := e2.raw m hm; omega) (by omega)) (go_t rfl (go_o (stands_ok _ _ _ b' (by omega) (fun m hm => by have := e3.raw m hm; omega) (by omega)) rfl))))

/- Ranges. -/
theorem broken_ok (N : Nat) (to : Int) (L : List Msg) (hL : L.length ≤ 1099511627776) (hb : ∀ m ∈ L, m.2.length ≤ 1099511627776) : ∀ (suf pre : List Msg) (fuel : Nat), L = pre ++ suf → suf.length < fuel →
    slices_All_net_one_net_one_1_f1_c_0.go N fuel 0 to 0 L (L.length : Int) (pre.length : Int) = some (.inr ((0, (), (), (), (), (), ()), (0, (), (), (), ()), ())) ∨
    slices_All_net_one_net_one_1_f1_c_0.go N fuel 0 to 0 L (L.length : Int) (pre.length : Int) = some (.inl ((1, (), (), (), (), (), ()), (2, (), (), (), ()), ()))
  | _, _, 0, _, h => absurd h (Nat.not_lt_zero _)
  | [], pre, fuel + 1, e, hf => .inl (go_n (by rw [e]; simp) rfl)
  | m :: suf, pre, fuel + 1, e, hf => by
    have hlt : pre.length < L.length := by rw [e]; simp
    have hgd : L.getD ((pre.length : Int)).toNat ((0 : Int), ([] : List UInt8)) = m := by rw [e]; exact getD_mid _ _ _ _
    have hm : m ∈ L := by rw [e]; simp
    have start : ∀ {y}, (obind (Y5.run N to 0 (pre.length : Int) m.1 m.2) fun y => match y with
            | .inl ((v, _, _, _, _), _) =>
                slices_All_net_one_net_one_1_f1_c_0.go N fuel (0 : Int) to v L (L.length : Int) (IntKind.i64.wrap ((pre.length : Int) + (1 : Int)))
            | .inr ((v1, _, _, _, _), _) =>
                some (.inl (((1 : Int), (), (), (), (), (), ()), (v1, (), (), (), ()), ()))) = y → slices_All_net_one_net_one_1_f1_c_0.go N (fuel + 1) 0 to 0 L (L.length : Int) (pre.length : Int) = y := fun {y} h => by
      refine go_d (by omega) (go_t (inB_nat hlt) (go_d (by rw [Int.toNat_natCast]; exact hlt) (go_d rfl ?_)))
      rw [hgd]
      exact h
    by_cases h : m.1 = to
    · exact .inr (start (go_o (v := .inr ((2, (), (), (), ()), ())) (go_d h (go_o (clone_b_ok N m.2 (hb m hm)) (go_d rfl (go_o (v := ()) rfl rfl)))) rfl))
    · have ih := broken_ok N to L hL hb suf (pre ++ [m]) fuel (by rw [e]; simp) (by simp at hf; omega)
      rw [show ((pre ++ [m]).length : Int) = ((pre.length + 1 : Nat) : Int) by simp] at ih
      have hs : ∀ {y}, slices_All_net_one_net_one_1_f1_c_0.go N fuel 0 to 0 L (L.length : Int) ((pre.length + 1 : Nat) : Int) = y → slices_All_net_one_net_one_1_f1_c_0.go N (fuel + 1) 0 to 0 L (L.length : Int) (pre.length : Int) = y := fun {y} hy => by
        refine start (go_o (v := .inl ((0, (), (), (), ()), ())) (go_n h rfl) ?_)
        show slices_All_net_one_net_one_1_f1_c_0.go N fuel 0 to 0 L (L.length : Int) (IntKind.i64.wrap ((pre.length : Int) + (1 : Int))) = y
        rw [wrap_succ pre.length (by omega)]
        exact hy
      rcases ih with ih | ih
      · exact .inl (hs ih)
      · exact .inr (hs ih)
theorem range0_ok (N : Nat) (to r : Int) (L : List Msg) (hL : L.length ≤ 1099511627776) (hb : ∀ m ∈ L, m.2.length ≤ 1099511627776) (hN : L.length < N) : law_NetRange_0.run N to r L = some ((r, L, ()), ()) := by
  refine go_o rfl ?_
  rcases broken_ok N to L hL hb L [] N rfl hN with h | h
  · refine go_o (v := ((0, (), (), (), ()), ())) (go_o (clone_l_ok N L hL) (go_o rfl (go_o (v := ((0, (), (), (), (), (), ()), (0, (), (), (), ()), ())) (go_o h rfl) (go_d rfl rfl)))) (go_d rfl rfl)
  · refine go_o (v := ((2, (), (), (), ()), ())) (go_o (clone_l_ok N L hL) (go_o rfl (go_o (v := ((1, (), (), (), (), (), ()), (2, (), (), (), ()), ())) (go_o h rfl) (go_n (by omega) (go_d rfl rfl))))) (go_n (by omega) (go_d rfl rfl))

theorem scan_ok (N : Nat) (to r : Int) (L : List Msg) (hL : L.length ≤ 1099511627776) (i : Nat) (hi : i < L.length) (ht : (L.getD i d0).1 = to) : ∀ (d k fuel : Nat), i = k + d → (∀ j : Nat, k ≤ j → j < i → (L.getD j d0).1 ≠ to) → d < fuel →
    Y6_0.go N fuel to r L (k : Int) = some (((i : Int), ()), ())
  | _, _, 0, _, _, h => absurd h (Nat.not_lt_zero _)
  | 0, k, fuel + 1, hk, hn, hf => by
    have : k = i := by omega
    subst this
    exact go_d (by omega) (go_t (inB_nat hi) (go_nd (by rw [Int.toNat_natCast]; exact ht) rfl))
  | d + 1, k, fuel + 1, hk, hn, hf => by
    refine go_d (by omega) (go_t (inB_nat (by omega)) (go_nn (by rw [Int.toNat_natCast]; exact hn k (Nat.le_refl _) (by omega)) ?_))
    rw [wrap_succ k (by omega)]
    exact scan_ok N to r L hL i hi ht d (k + 1) fuel (by omega) (fun j h1 h2 => hn j (by omega) h2) (by omega)
theorem rest_ok (N : Nat) (to r : Int) (t6 : Bool) (L : List Msg) (hL : L.length ≤ 1099511627776) : ∀ (d k fuel : Nat), L.length = k + d → (∀ j : Nat, k ≤ j → j < L.length → (L.getD j d0).1 ≠ to) → d < fuel →
    law_NetRange_1.go N fuel to t6 r L (k : Int) = some (.inr ((t6, ()), ((L.length : Int), ()), ()))
  | _, _, 0, _, _, h => absurd h (Nat.not_lt_zero _)
  | 0, k, fuel + 1, hk, hn, hf => by
    have : k = L.length := by omega
    subst this
    exact go_n (by omega) rfl
  | d + 1, k, fuel + 1, hk, hn, hf => by
    refine go_d (by omega) (go_t (inB_nat (by omega)) (go_n (by rw [Int.toNat_natCast]; exact hn k (Nat.le_refl _) (by omega)) ?_))
    rw [wrap_succ k (by omega)]
    exact rest_ok N to r t6 L hL d (k + 1) fuel (by omega) (fun j h1 h2 => hn j (by omega) h2) (by omega)

/-- The net behind a round. -/
def roundL (r to : Int) (l : List Msg) : List Msg := sendL r (dropL l 0) (to, [1, 2, 3])
theorem Fine.round {r to : Int} {M : Nat} {l : List Msg} (h : Fine r M l) (hM : 3 ≤ M) : Fine r M (roundL r to l) ∧ (roundL r to l).length ≤ l.length + 1 := by
  have hd := dropL_len l 0
  have hr := h.room
  have hs := sendL_len (r := r) (l := dropL l 0) (m := (to, [1, 2, 3])) (by omega)
  refine ⟨⟨hs.1, fun m hm => ?_⟩, by unfold roundL; omega⟩
  rcases sendL_mem hm with hm | rfl
  · exact h.raw m (dropL_mem hm)
  · simpa using hM

theorem range_ok (k M : Nat) (to r : Int) (L : List Msg) (hL : L.length ≤ 536870912) (hLk : L.length < k) (hM3 : 3 ≤ M) (hM : M ≤ 1073741824) (hF : Fine r M L) : ∀ (suf pre : List Msg) (n : Nat) (l : List Msg) (fuel : Nat), L = pre ++ suf → n ≤ pre.length → (∀ j : Nat, n ≤ j → j < pre.length → (L.getD j d0).1 ≠ to) → Fine r M l → l.length ≤ 536870912 + pre.length → suf.length < fuel →
    ∃ (l' : List Msg) (n' : Nat), slices_All_net_one_net_one_1_f1_d_0.go (k + 3) fuel 0 to 0 to false r l r L (n : Int) L (L.length : Int) (pre.length : Int) = some (.inr ((false, ()), (r, l', ()), ((n' : Int), ()), (0, (), (), (), (), (), ()), (0, (), (), (), (), (), (), (), (), ()), ())) ∧
      n' ≤ L.length ∧ ∀ j : Nat, n' ≤ j → j < L.length → (L.getD j d0).1 ≠ to
  | _, _, _, _, 0, _, _, _, _, _, h => absurd h (Nat.not_lt_zero _)
  | [], pre, n, l, fuel + 1, e, hn, hno, hl, hll, hf => by
    have : L.length = pre.length := by rw [e]; simp
    exact ⟨l, n, go_n (by omega) rfl, by omega, fun j h1 h2 => hno j h1 (by omega)⟩
  | m :: suf, pre, n, l, fuel + 1, e, hn, hno, hl, hll, hf => by
    have hlt : pre.length < L.length := by rw [e]; simp
    have hgd : L.getD ((pre.length : Int)).toNat ((0 : Int), ([] : List UInt8)) = m := by rw [e]; exact getD_mid _ _ _ _
    have hgd' : L.getD pre.length d0 = m := by rw [Int.toNat_natCast] at hgd; exact hgd
    have hm : m ∈ L := by rw [e]; simp
    have hraw := hF.raw m hm
    have hp1 : ((pre ++ [m]).length : Int) = ((pre.length + 1 : Nat) : Int) := by simp
    have hp2 : (pre ++ [m]).length = pre.length + 1 := by simp
    by_cases h : m.1 = to
    · obtain ⟨g1, g2⟩ := hl.round (to := to) hM3
      have hd := dropL_len l 0
      have hround : Y6.run (k + 3) to false r l r L (n : Int) (pre.length : Int) m.2 = some (.inl ((false, ()), (r, roundL r to l, ()), (((pre.length + 1 : Nat) : Int), ()), ())) := by
        refine go_o (scan_ok (k + 3) to r L (by omega) pre.length hlt (by rw [hgd']; exact h) (pre.length - n) n (k + 3) (by omega) hno (by omega)) (go_n (by omega) (go_nd rfl (go_t (inB_nat hlt) ?_)))
        rw [hgd]
        refine go_nd rfl (go_o (take_ok k r l 0 (fun m hm => by have := hl.raw m hm; omega) (by omega)) (go_o (send_ok _ r _ _ _ (by simp) (by omega)) ?_))
        rw [wrap_succ pre.length (by omega)]
        rfl
      obtain ⟨l', n', q1, q2, q3⟩ := range_ok k M to r L hL hLk hM3 hM hF suf (pre ++ [m]) (pre.length + 1) (roundL r to l) fuel (by rw [e]; simp) (by omega) (fun j h1 h2 => by omega) g1 (by omega) (by simp at hf; omega)
      refine ⟨l', n', ?_, q2, q3⟩
      refine go_d (by omega) (go_t (inB_nat hlt) (go_d (by rw [Int.toNat_natCast]; exact hlt) (go_d rfl ?_)))
      rw [hgd]
      refine go_o (v := .inl ((false, ()), (r, roundL r to l, ()), (((pre.length + 1 : Nat) : Int), ()), (0, (), (), (), (), (), (), (), (), ()), ())) (go_d h (go_o (clone_b_ok _ m.2 (by omega)) (go_d rfl (go_o hround rfl)))) ?_
      show slices_All_net_one_net_one_1_f1_d_0.go (k + 3) fuel 0 to 0 to false r (roundL r to l) r L ((pre.length + 1 : Nat) : Int) L (L.length : Int) (IntKind.i64.wrap ((pre.length : Int) + (1 : Int))) = _
      rw [wrap_succ pre.length (by omega), ← hp1]
      rw [hp1] at q1 ⊢
      exact q1
    · obtain ⟨l', n', q1, q2, q3⟩ := range_ok k M to r L hL hLk hM3 hM hF suf (pre ++ [m]) n l fuel (by rw [e]; simp) (by omega) (fun j h1 h2 => by
        by_cases hj : j = pre.length
        · rw [hj, hgd']; exact h
        · exact hno j h1 (by omega)) hl (by omega) (by simp at hf; omega)
      refine ⟨l', n', ?_, q2, q3⟩
      refine go_d (by omega) (go_t (inB_nat hlt) (go_d (by rw [Int.toNat_natCast]; exact hlt) (go_d rfl ?_)))
      rw [hgd]
      refine go_o (v := .inl ((false, ()), (r, l, ()), ((n : Int), ()), (0, (), (), (), (), (), (), (), (), ()), ())) (go_n h rfl) ?_
      show slices_All_net_one_net_one_1_f1_d_0.go (k + 3) fuel 0 to 0 to false r l r L (n : Int) L (L.length : Int) (IntKind.i64.wrap ((pre.length : Int) + (1 : Int))) = _
      rw [wrap_succ pre.length (by omega)]
      rw [hp1] at q1
      exact q1

theorem net_range (k M : Nat) (room : Int) (s : List Op) (to : Int) (hs : s.length ≤ 536870912) (hM3 : 3 ≤ M) (hM : M ≤ 1073741824) (hMk : M < k) (ho : ∀ o ∈ s, o.2.2.2.length ≤ M) (hk : s.length < k) : law_NetRange.run (k + 3) room s to = some (true, ()) := by
  refine go_o (begun_ok k room) (go_f rfl (go_o (new_ok _ room) (go_o (run_ok k M _ [] s (by omega) (by simp) hM hMk (fine_nil room M) ho (by simp; omega)) (go_f rfl ?_))))
  obtain ⟨g1, g2⟩ := (fine_nil room M).run ho
  simp only [List.length_nil, Nat.zero_add] at g2
  generalize runL (max room 0) [] s = l at g1 g2
  have hb : ∀ m ∈ l, m.2.length ≤ 1099511627776 := fun m hm => by have := g1.raw m hm; omega
  obtain ⟨l', n', q1, q2, q3⟩ := range_ok k M to (max room 0) l (by omega) (by omega) hM3 hM g1 l [] 0 l (k + 3) rfl (by simp) (fun j h1 h2 => by simp at h2) g1 (by omega) (by omega)
  refine go_o (range0_ok _ to _ l (by omega) hb (by omega)) (go_o rfl (go_o (v := ((false, ()), (max room 0, l', ()), ((n' : Int), ()), (0, (), (), (), (), (), (), (), (), ()), ())) ?_ (go_d rfl (go_o (rest_ok _ to _ false l (by omega) (l.length - n') n' (k + 3) (by omega) q3 (by omega)) rfl))))
  exact go_o (clone_l_ok _ l (by omega)) (go_o rfl (go_o (v := ((false, ()), (max room 0, l', ()), ((n' : Int), ()), (0, (), (), (), (), (), ()), (0, (), (), (), (), (), (), (), (), ()), ())) (go_o q1 rfl) (go_d rfl rfl)))
end Go.Hay.Ytfbbfjjmbelfdaa
