/- The laws of the net over plain lists. Conditions: sizes below a bound. -/
import Derived.Test.YtfbbfjjmbelfdaaLb
set_option linter.unusedVariables false
set_option linter.unusedSimpArgs false
namespace Go.Hay.Ytfbbfjjmbelfdaa
open Go Go.Hay Go.Proofs

theorem fine_nil (room : Int) (M : Nat) : Fine (max room 0) M [] := ⟨by simp; omega, fun m hm => by cases hm⟩

theorem net_all (k M : Nat) (room : Int) (s : List Op) (hs : s.length ≤ 1073741824) (hM : M ≤ 1073741824) (hMk : M < k) (ho : ∀ o ∈ s, o.2.2.2.length ≤ M) (hk : s.length < k) : law_NetAll.run (k + 3) room s = some (true, ()) :=
  go_o (begun_ok k room) (go_f rfl (go_o (new_ok _ room) (go_o (run_ok k M _ [] s hs (by simp) hM hMk (fine_nil room M) ho (by simpa using hk)) rfl)))

theorem dropL_last (l : List Msg) (m : Msg) : dropL (l ++ [m]) (l.length : Int) = l ∧ there (l ++ [m]) (l.length : Int) = true := by
  have h : there (l ++ [m]) (l.length : Int) = true := there_pos (by simp)
  refine ⟨?_, h⟩
  unfold dropL
  rw [if_pos h, Int.toNat_natCast]
  simp

/-- What is sent last and dropped is gone. -/
theorem undone_end (k : Nat) (r e : Int) (l l2 : List Msg) (hl : l.length ≤ 1073741824) (hb : ∀ m ∈ l, m.2.length ≤ 1073741824) (hlk : l.length < k)
    (h : (e ≠ 0 ∧ l2 = l) ∨ (e = 0 ∧ ∃ m, l2 = l ++ [m])) :
    (bif !(decide (e = (0 : Int))) then
                obind (law_stands.run (k + 3) r l2 (r, l)) fun (b2, _) =>
                  some (b2, ())
              else
                obind (net_Net_Len.run (k + 3) r l2) fun (n2, _) =>
                  obind (net_Net_Drop.run (k + 3) r l2 (IntKind.i64.wrap (n2 - (1 : Int)))) fun ((room6, l5, _), b3, _) =>
                    bif b3 then
                      obind (law_stands.run (k + 3) room6 l5 (r, l)) fun (b4, _) =>
                        some (b4, ())
                    else some (false, ())) = some (true, ()) := by
  have hst : law_stands.run (k + 3) r l (r, l) = some (true, ()) := stands_ok _ r r l (by omega) (fun m hm => by have := hb m hm; omega) (by omega)
  rcases h with ⟨h1, rfl⟩ | ⟨rfl, m, rfl⟩
  · exact go_nn h1 (go_o hst rfl)
  · refine go_nd rfl (go_o (len_ok _ r _) ?_)
    have w : IntKind.i64.wrap (((l ++ [m]).length : Int) - 1) = (l.length : Int) := by
      rw [wrap_i64] <;> simp <;> omega
    show obind (net_Net_Drop.run (k + 3) r (l ++ [m]) (IntKind.i64.wrap (((l ++ [m]).length : Int) - 1))) _ = _
    rw [w]
    obtain ⟨g1, g2⟩ := dropL_last l m
    refine go_o (drop_ok k r (l ++ [m]) (l.length : Int) (by simp; omega)) ?_
    rw [g1, g2]
    exact go_t rfl (go_o hst rfl)

theorem net_undone (k M : Nat) (room : Int) (s : List Op) (o : Op) (hs : s.length ≤ 1073741823) (hM : M ≤ 1073741824) (hMk : M < k) (ho : ∀ o ∈ s, o.2.2.2.length ≤ M) (ho1 : o.2.2.2.length ≤ M) (hk : s.length + 1 < k) : law_NetUndone.run (k + 3) room s o = some (true, ()) := by
  refine go_o (begun_ok k room) (go_f rfl (go_o (new_ok _ room) (go_o (run_ok k M _ [] s (by omega) (by simp) hM hMk (fine_nil room M) ho (by simp; omega)) (go_f rfl ?_))))
  obtain ⟨g1, g2⟩ := (fine_nil room M).run ho
  simp only [List.length_nil, Nat.zero_add] at g2
  generalize runL (max room 0) [] s = l at g1 g2
  have hl : l.length ≤ 1073741824 := by omega
  have hb : ∀ m ∈ l, m.2.length ≤ 1073741824 := fun m hm => by have := g1.raw m hm; omega
  have hsend : ∀ m, (sendE (max room 0) l ≠ 0 ∧ sendL (max room 0) l m = l) ∨ (sendE (max room 0) l = 0 ∧ ∃ m', sendL (max room 0) l m = l ++ [m']) := fun m => by
    unfold sendE sendL
    by_cases h : (l.length : Int) = max room 0
    · left; rw [if_pos h, if_pos h]; exact ⟨by omega, rfl⟩
    · right; rw [if_neg h, if_neg h]; exact ⟨rfl, m, rfl⟩
  by_cases h0 : o.1 = 0
  · refine go_o (go_d h0 (go_o (send_b_ok _ _ l _ _ (by omega) (by omega)) rfl)) ?_
    exact undone_end k _ _ l _ hl hb (by omega) (hsend _)
  · refine go_o (go_n h0 (go_o (double_ok _ _ l _ (fun m hm => by have := hb m hm; omega) (by omega)) rfl)) ?_
    refine undone_end k _ _ l _ hl hb (by omega) ?_
    unfold doubleE doubleL
    cases ht : there l o.2.2.1 with
    | true => exact hsend _
    | false => left; exact ⟨by simp, rfl⟩

/- Counts. -/
theorem count0_ok (N : Nat) (l : List (List UInt8)) (hl : l.length ≤ 1099511627776) (b : List UInt8) : ∀ (suf pre : List (List UInt8)) (fuel : Nat), l = pre ++ suf → suf.length < fuel →
    law_count_0.go N fuel l b ((pre.count b : Nat) : Int) (l.length : Int) (pre.length : Int) = some (((l.count b : Nat) : Int), ())
  | _, _, 0, _, h => absurd h (Nat.not_lt_zero _)
  | [], pre, fuel + 1, e, hf => by rw [List.append_nil] at e; subst e; exact go_n (by omega) rfl
  | x :: suf, pre, fuel + 1, e, hf => by
    have hlt : pre.length < l.length := by rw [e]; simp
    have hgd : l.getD ((pre.length : Int)).toNat ([] : List UInt8) = x := by rw [e]; exact getD_mid _ _ _ _
    have hc : pre.count b ≤ pre.length := List.count_le_length
    refine go_d (by omega) (go_t (inB_nat hlt) (go_d (by rw [Int.toNat_natCast]; exact hlt) ?_))
    rw [hgd, wrap_succ pre.length (by omega)]
    have ih := count0_ok N l hl b suf (pre ++ [x]) fuel (by rw [e]; simp) (by simp at hf; omega)
    rw [show ((pre ++ [x]).length : Int) = ((pre.length + 1 : Nat) : Int) by simp] at ih
    by_cases h : x = b
    · refine go_d h ?_
      rw [wrap_succ _ (by omega)]
      rw [show (pre ++ [x]).count b = pre.count b + 1 by rw [List.count_append, h]; simp] at ih
      exact ih
    · refine go_n h ?_
      rw [show (pre ++ [x]).count b = pre.count b by rw [List.count_append]; simp [h]] at ih
      exact ih
theorem count_ok (N : Nat) (l : List (List UInt8)) (hl : l.length ≤ 1099511627776) (b : List UInt8) (hN : l.length < N) : law_count.run N l b = some (((l.count b : Nat) : Int), ()) :=
  go_o (count0_ok N l hl b l [] N rfl hN) rfl

theorem counts2_ok (N : Nat) (i o r : List (List UInt8)) (hi : i.length ≤ 1073741824) (ho : o.length ≤ 1073741824) (hr : r.length ≤ 1073741824) (hp : i.Perm (o ++ r)) (hN : i.length < N) : ∀ (suf pre : List (List UInt8)) (fuel : Nat), i = pre ++ suf → suf.length < fuel →
    law_NetCounts_2.go N fuel i o r (i.length : Int) (pre.length : Int) = some (.inr ())
  | _, _, 0, _, h => absurd h (Nat.not_lt_zero _)
  | [], pre, fuel + 1, e, hf => go_n (by rw [e]; simp) rfl
  | x :: suf, pre, fuel + 1, e, hf => by
    have hlt : pre.length < i.length := by rw [e]; simp
    have hgd : i.getD ((pre.length : Int)).toNat ([] : List UInt8) = x := by rw [e]; exact getD_mid _ _ _ _
    have hlen := hp.length_eq
    rw [List.length_append] at hlen
    refine go_d (by omega) (go_t (inB_nat hlt) (go_d (by rw [Int.toNat_natCast]; exact hlt) ?_))
    rw [hgd, wrap_succ pre.length (by omega)]
    refine go_o (count_ok N i (by omega) x hN) (go_o (count_ok N o (by omega) x (by omega)) (go_o (count_ok N r (by omega) x (by omega)) ?_))
    have hc := hp.count_eq x
    rw [List.count_append] at hc
    have h1 : o.count x ≤ o.length := List.count_le_length
    have h2 : r.count x ≤ r.length := List.count_le_length
    refine go_nd (by rw [wrap_i64] <;> omega) ?_
    have ih := counts2_ok N i o r hi ho hr hp hN suf (pre ++ [x]) fuel (by rw [e]; simp) (by simp at hf; omega)
    rw [show ((pre ++ [x]).length : Int) = ((pre.length + 1 : Nat) : Int) by simp] at ih
    exact ih

theorem counts1_ok (N : Nat) (r : Int) (l : List Msg) (hl : l.length ≤ 1073741824) (hb : ∀ m ∈ l, m.2.length ≤ 1099511627776) : ∀ (suf pre : List Msg) (fuel : Nat), l = pre ++ suf → suf.length < fuel →
    law_NetCounts_1.go N fuel r l (pre.map (·.2)) (l.length : Int) (pre.length : Int) = some (l.map (·.2), ())
  | _, _, 0, _, h => absurd h (Nat.not_lt_zero _)
  | [], pre, fuel + 1, e, hf => by rw [List.append_nil] at e; subst e; exact go_n (by omega) rfl
  | m :: suf, pre, fuel + 1, e, hf => by
    have hlt : pre.length < l.length := by rw [e]; simp
    have hat : atL l (pre.length : Int) = m := by
      unfold atL
      rw [if_pos (there_pos hlt), e]
      exact getD_mid _ _ _ _
    refine go_d (by omega) (go_o (at_ok N r l _ hb) (go_t (room_t (by rw [List.length_map]; omega) (by rw [List.length_map]; omega)) ?_))
    rw [hat, wrap_succ pre.length (by omega)]
    have ih := counts1_ok N r l hl hb suf (pre ++ [m]) fuel (by rw [e]; simp) (by simp at hf; omega)
    rw [show ((pre ++ [m]).length : Int) = ((pre.length + 1 : Nat) : Int) by simp, List.map_append] at ih
    exact ih

theorem drop_perm {l : List Msg} {i : Int} (h : there l i = true) : l.Perm (atL l i :: dropL l i) := by
  obtain ⟨h0, h1⟩ := there_t h
  have hlt : i.toNat < l.length := by omega
  unfold atL dropL
  rw [if_pos h, if_pos h, List.getD_eq_getElem?_getD, List.getElem?_eq_getElem hlt]
  have e : l = l.take i.toNat ++ l[i.toNat] :: l.drop (i.toNat + 1) := by
    rw [List.getElem_cons_drop, List.take_append_drop]
  conv => lhs; rw [e]
  exact List.perm_middle

abbrev raws (l : List Msg) : List (List UInt8) := l.map (·.2)
/-- One call: the net's list, what was laid in, what was taken out. -/
theorem counts_step (k : Nat) (r : Int) (l : List Msg) (i o : List (List UInt8)) (s : List Op) (p : Op) (j : Nat) (hj : j < s.length) (hp : s.getD ((j : Int)).toNat ((0 : Int), (0 : Int), (0 : Int), ([] : List UInt8)) = p)
    (hr : (l.length : Int) ≤ r) (hl : l.length ≤ 1073741824) (hb : ∀ m ∈ l, m.2.length ≤ 1099511627776) (hi : i.length ≤ 1073741824) (ho : o.length ≤ 1073741824) (hraw : p.2.2.2.length ≤ 1099511627776) (hperm : i.Perm (o ++ raws l)) :
    ∃ l1 i1 o1, law_NetCounts_0_0.run (k + 3) r l i o s (j : Int) = some (.inl ((r, l1, ()), i1, o1, ())) ∧ i1.Perm (o1 ++ raws l1) ∧ (l1.length : Int) ≤ r ∧ l1.length ≤ l.length + 1 ∧ i1.length ≤ i.length + 1 ∧ o1.length ≤ o.length + 1 ∧
      ∀ m ∈ l1, m ∈ l ∨ m = (p.2.1, p.2.2.2) := by
  have hat := at_ok (k + 3) r l p.2.2.1 hb
  have room24 : ∀ n : Nat, n ≤ 1073741824 → room (n + 1) 24 = true := fun n h => room_t (by omega) (by omega)
  have start : ∀ {y}, (obind (net_Net_At.run (k + 3) r l p.2.2.1) fun (n_, l1, b, _) =>
      bif decide (p.1 = (0 : Int)) then
        obind (net_Net_Send_b.run (k + 3) r l p.2.1 p.2.2.2) fun ((room1, l2, _), n1, _) =>
          bif decide (n1 = (0 : Int)) then
            bif room (i.length + 1) 24 then
              some (.inl ((room1, l2, ()), i ++ ([p.2.2.2] : List (List UInt8)), o, ()))
            else none
          else some (.inl ((room1, l2, ()), i, o, ()))
      else
        bif decide (p.1 = (2 : Int)) then
          obind (net_Net_Take.run (k + 3) r l p.2.2.1) fun ((room2, l3, _), n2, l4, b1, _) =>
            bif b1 then
              bif room (o.length + 1) 24 then
                some (.inl ((room2, l3, ()), i, o ++ ([l4] : List (List UInt8)), ()))
              else none
            else some (.inl ((room2, l3, ()), i, o, ()))
        else
          bif decide (p.1 = (3 : Int)) then
            obind (net_Net_Drop.run (k + 3) r l p.2.2.1) fun ((room3, l5, _), b2, _) =>
              bif !(b2 == b) then
                some (.inr ((room3, l5, ()), false, ()))
              else
                bif b then
                  bif room (o.length + 1) 24 then
                    some (.inl ((room3, l5, ()), i, o ++ ([l1] : List (List UInt8)), ()))
                  else none
                else some (.inl ((room3, l5, ()), i, o, ()))
          else
            bif decide (p.1 = (4 : Int)) then
              obind (net_Net_Double.run (k + 3) r l p.2.2.1) fun ((room4, l6, _), n3, _) =>
                bif decide (n3 = (0 : Int)) then
                  bif room (i.length + 1) 24 then
                    some (.inl ((room4, l6, ()), i ++ ([l1] : List (List UInt8)), o, ()))
                  else none
                else some (.inl ((room4, l6, ()), i, o, ()))
            else some (.inl ((r, l, ()), i, o, ()))) = some y → law_NetCounts_0_0.run (k + 3) r l i o s (j : Int) = some y := fun {y} h => by
    refine go_t (inB_nat hj) ?_
    rw [hp]
    exact h
  by_cases h0 : p.1 = 0
  · by_cases hf : (l.length : Int) = r
    · refine ⟨l, i, o, start (go_o hat (go_d h0 (go_o (send_b_ok _ r l _ _ hraw (by omega)) ?_))), hperm, hr, by omega, by omega, by omega, fun m hm => .inl hm⟩
      unfold sendE sendL
      rw [if_pos hf, if_pos hf]
      exact go_n (by omega) rfl
    · refine ⟨l ++ [(p.2.1, p.2.2.2)], i ++ [p.2.2.2], o, start (go_o hat (go_d h0 (go_o (send_b_ok _ r l _ _ hraw (by omega)) ?_))), ?_, by simp; omega, by simp, by simp, by omega, fun m hm => by simpa using hm⟩
      · unfold sendE sendL
        rw [if_neg hf, if_neg hf]
        exact go_d rfl (go_t (room24 _ hi) rfl)
      · simp only [raws, List.map_append, List.map_cons, List.map_nil]
        rw [← List.append_assoc]
        exact hperm.append_right _
  have h0' : ∀ {y}, _ → _ := fun {y} h => start (go_o hat (go_n h0 h : _ = some y))
  by_cases h2 : p.1 = 2
  · cases ht : there l p.2.2.1 with
    | true =>
      have hd := drop_perm ht
      refine ⟨dropL l p.2.2.1, i, o ++ [(atL l p.2.2.1).2], h0' (go_d h2 (go_o (take_ok k r l _ hb (by omega)) ?_)), ?_, ?_, ?_, by omega, by simp, fun m hm => .inl (dropL_mem hm)⟩
      · rw [ht]; exact go_t rfl (go_t (room24 _ ho) rfl)
      · refine hperm.trans ?_
        rw [List.append_assoc]
        exact (hd.map (fun m : Msg => m.2)).append_left o
      · have := dropL_len l p.2.2.1; omega
      · have := dropL_len l p.2.2.1; omega
    | false =>
      refine ⟨l, i, o, h0' (go_d h2 (go_o (take_ok k r l _ hb (by omega)) ?_)), hperm, hr, by omega, by omega, by omega, fun m hm => .inl hm⟩
      unfold dropL
      rw [ht]
      rfl
  have h2' : ∀ {y}, _ → _ := fun {y} h => h0' (go_n h2 h : _ = some y)
  by_cases h3 : p.1 = 3
  · cases ht : there l p.2.2.1 with
    | true =>
      have hd := drop_perm ht
      refine ⟨dropL l p.2.2.1, i, o ++ [(atL l p.2.2.1).2], h2' (go_d h3 (go_o (drop_ok k r l _ (by omega)) ?_)), ?_, ?_, ?_, by omega, by simp, fun m hm => .inl (dropL_mem hm)⟩
      · rw [ht]; exact go_f rfl (go_t rfl (go_t (room24 _ ho) rfl))
      · refine hperm.trans ?_
        rw [List.append_assoc]
        exact (hd.map (fun m : Msg => m.2)).append_left o
      · have := dropL_len l p.2.2.1; omega
      · have := dropL_len l p.2.2.1; omega
    | false =>
      refine ⟨l, i, o, h2' (go_d h3 (go_o (drop_ok k r l _ (by omega)) ?_)), hperm, hr, by omega, by omega, by omega, fun m hm => .inl hm⟩
      unfold dropL
      rw [ht]
      rfl
  have h3' : ∀ {y}, _ → _ := fun {y} h => h2' (go_n h3 h : _ = some y)
  by_cases h4 : p.1 = 4
  · have hdb := double_ok (k + 3) r l p.2.2.1 hb (by omega)
    by_cases hz : doubleE r l p.2.2.1 = 0
    · have hx : there l p.2.2.1 = true ∧ ¬ (l.length : Int) = r := by
        unfold doubleE sendE at hz
        by_cases ht : there l p.2.2.1 = true
        · rw [if_pos ht] at hz
          refine ⟨ht, fun h => ?_⟩
          rw [if_pos h] at hz; omega
        · rw [if_neg ht] at hz; omega
      have hL : doubleL r l p.2.2.1 = l ++ [atL l p.2.2.1] := by
        unfold doubleL sendL
        rw [if_pos hx.1, if_neg hx.2]
      refine ⟨l ++ [atL l p.2.2.1], i ++ [(atL l p.2.2.1).2], o, h3' (go_d h4 (go_o hdb (go_d hz (go_t (room24 _ hi) ?_)))), ?_, by simp; omega, by simp, by simp, by omega, fun m hm => ?_⟩
      · rw [hL]
      · simp only [raws, List.map_append, List.map_cons, List.map_nil]
        rw [← List.append_assoc]
        exact hperm.append_right _
      · rcases List.mem_append.1 hm with hm | hm
        · exact .inl hm
        · left
          rw [List.mem_singleton.1 hm]
          exact atL_mem hx.1
    · have hL : doubleL r l p.2.2.1 = l := by
        unfold doubleL doubleE sendE at *
        by_cases ht : there l p.2.2.1 = true
        · rw [if_pos ht] at hz ⊢
          unfold sendL
          by_cases h : (l.length : Int) = r
          · rw [if_pos h]
          · rw [if_neg h] at hz; exact absurd rfl hz
        · rw [if_neg ht]
      refine ⟨l, i, o, h3' (go_d h4 (go_o hdb (go_n hz ?_))), hperm, hr, by omega, by omega, by omega, fun m hm => .inl hm⟩
      rw [hL]
  · exact ⟨l, i, o, h3' (go_n h4 rfl), hperm, hr, by omega, by omega, by omega, fun m hm => .inl hm⟩

theorem counts0_ok (k M : Nat) (r : Int) (s : List Op) (hs : s.length ≤ 536870912) (hM : M ≤ 1073741824) (hraw : ∀ o ∈ s, o.2.2.2.length ≤ M) : ∀ (suf pre : List Op) (l : List Msg) (i o : List (List UInt8)) (fuel : Nat), s = pre ++ suf → (l.length : Int) ≤ r → l.length ≤ pre.length → i.length ≤ pre.length → o.length ≤ pre.length →
    (∀ m ∈ l, m.2.length ≤ M) → i.Perm (o ++ raws l) → suf.length < fuel →
    ∃ l1 i1 o1, law_NetCounts_0.go (k + 3) fuel r l i o s (s.length : Int) (pre.length : Int) = some (.inr ((r, l1, ()), i1, o1, ())) ∧ i1.Perm (o1 ++ raws l1) ∧ l1.length ≤ s.length ∧ i1.length ≤ s.length ∧ o1.length ≤ s.length ∧ ∀ m ∈ l1, m.2.length ≤ M
  | _, _, _, _, _, 0, _, _, _, _, _, _, _, h => absurd h (Nat.not_lt_zero _)
  | [], pre, l, i, o, fuel + 1, e, hr, hl, hi, ho, hb, hp, hf => by
    have : s.length = pre.length := by rw [e]; simp
    exact ⟨l, i, o, go_n (by omega) rfl, hp, by omega, by omega, by omega, hb⟩
  | p :: suf, pre, l, i, o, fuel + 1, e, hr, hl, hi, ho, hb, hp, hf => by
    have hlt : pre.length < s.length := by rw [e]; simp
    have hgd : s.getD ((pre.length : Int)).toNat ((0 : Int), (0 : Int), (0 : Int), ([] : List UInt8)) = p := by rw [e]; exact getD_mid _ _ _ _
    have hpr := hraw p (by rw [e]; simp)
    obtain ⟨l1, i1, o1, g1, g2, g3, g4, g5, g6, g7⟩ := counts_step k r l i o s p pre.length hlt hgd hr (by omega) (fun m hm => by have := hb m hm; omega) (by omega) (by omega) (by omega) hp
    have ih := counts0_ok k M r s hs hM hraw suf (pre ++ [p]) l1 i1 o1 fuel (by rw [e]; simp) g3 (by simp; omega) (by simp; omega) (by simp; omega) (fun m hm => by
      rcases g7 m hm with h | rfl
      · exact hb m h
      · exact hpr) g2 (by simp at hf; omega)
    obtain ⟨l2, i2, o2, q1, q2⟩ := ih
    refine ⟨l2, i2, o2, go_d (by omega) (go_o g1 ?_), q2⟩
    rw [show ((pre ++ [p]).length : Int) = ((pre.length + 1 : Nat) : Int) by simp] at q1
    show law_NetCounts_0.go (k + 3) fuel r l1 i1 o1 s (s.length : Int) (IntKind.i64.wrap ((pre.length : Int) + 1)) = _
    rw [wrap_succ pre.length (by omega)]
    exact q1

theorem net_counts (k M : Nat) (room : Int) (s : List Op) (hs : s.length ≤ 536870912) (hM : M ≤ 1073741824) (hraw : ∀ o ∈ s, o.2.2.2.length ≤ M) (hk : s.length < k) : law_NetCounts.run (k + 3) room s = some (true, ()) := by
  refine go_o (begun_ok k room) (go_f rfl ?_)
  obtain ⟨l, i, o, g1, g2, g3, g4, g5, g6⟩ := counts0_ok k M (max room 0) s hs hM hraw s [] [] [] [] (k + 3) rfl (by simp; omega) (by simp) (by simp) (by simp) (fun m hm => by cases hm) List.Perm.nil (by omega)
  have hlen := g2.length_eq
  rw [List.length_append, List.length_map] at hlen
  refine go_o g1 (go_o (len_ok _ _ l) (go_o (counts1_ok (k + 3) _ l (by omega) (fun m hm => by have := g6 m hm; omega) l [] (k + 3) rfl (by omega)) (go_o (counts2_ok (k + 3) i o (raws l) (by omega) (by omega) (by rw [List.length_map]; omega) g2 (by omega) i [] (k + 3) rfl (by omega)) ?_)))
  show some (decide ((i.length : Int) = IntKind.i64.wrap ((o.length : Int) + ((raws l).length : Int))), ()) = _
  rw [List.length_map, wrap_i64 (by omega) (by omega), decide_eq_true (by omega)]
end Go.Hay.Ytfbbfjjmbelfdaa
