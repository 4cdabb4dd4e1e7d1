/- Loops over bytes, the reference's Out, what is asked and told, each step of a script, whole scripts. Conditions: sizes below a bound. -/
import Derived.Test.YtfbbfjjmbelfdaaLa
set_option linter.unusedVariables false
set_option linter.unusedSimpArgs false
namespace Go.Hay.Ytfbbfjjmbelfdaa
open Go Go.Hay Go.Proofs

theorem bytes0 (N n : Nat) (hn : n ≤ 1099511627776) : ∀ (d fuel : Nat) (b : List UInt8) (k : Nat), b.length = n → n = k + d → d < fuel → law_step_0.go N fuel b (n : Int) (k : Int) = some ()
  | _, 0, _, _, _, _, h => absurd h (Nat.not_lt_zero _)
  | 0, fuel + 1, b, k, hb, hk, _ => go_n (by omega) rfl
  | d + 1, fuel + 1, b, k, hb, hk, hf => by
    have h1 : inB (k : Int) b.length = true := inB_nat (by omega)
    refine go_d (by omega) (go_t h1 (go_d (by rw [Int.toNat_natCast]; omega) (go_t h1 (go_d (by rw [Int.toNat_natCast]; omega) ?_))))
    rw [wrap_succ k (by omega)]
    exact bytes0 N n hn d fuel _ (k + 1) (by rw [List.length_set]; exact hb) (by omega) (by omega)
theorem bytes1 (N n : Nat) (hn : n ≤ 1099511627776) : ∀ (d fuel : Nat) (b : List UInt8) (k : Nat), b.length = n → n = k + d → d < fuel → law_step_1.go N fuel b (n : Int) (k : Int) = some ()
  | _, 0, _, _, _, _, h => absurd h (Nat.not_lt_zero _)
  | 0, fuel + 1, b, k, hb, hk, _ => go_n (by omega) rfl
  | d + 1, fuel + 1, b, k, hb, hk, hf => by
    have h1 : inB (k : Int) b.length = true := inB_nat (by omega)
    refine go_d (by omega) (go_t h1 (go_d (by rw [Int.toNat_natCast]; omega) (go_t h1 (go_d (by rw [Int.toNat_natCast]; omega) ?_))))
    rw [wrap_succ k (by omega)]
    exact bytes1 N n hn d fuel _ (k + 1) (by rw [List.length_set]; exact hb) (by omega) (by omega)
theorem bytesY (N n : Nat) (hn : n ≤ 1099511627776) : ∀ (d fuel : Nat) (b : List UInt8) (k : Nat), b.length = n → n = k + d → d < fuel → Y0_0.go N fuel b (n : Int) (k : Int) = some ()
  | _, 0, _, _, _, _, h => absurd h (Nat.not_lt_zero _)
  | 0, fuel + 1, b, k, hb, hk, _ => go_n (by omega) rfl
  | d + 1, fuel + 1, b, k, hb, hk, hf => by
    have h1 : inB (k : Int) b.length = true := inB_nat (by omega)
    refine go_d (by omega) (go_t h1 (go_d (by rw [Int.toNat_natCast]; omega) (go_t h1 (go_d (by rw [Int.toNat_natCast]; omega) ?_))))
    rw [wrap_succ k (by omega)]
    exact bytesY N n hn d fuel _ (k + 1) (by rw [List.length_set]; exact hb) (by omega) (by omega)

theorem getD_mid {α : Type} (pre : List α) (x : α) (suf : List α) (d : α) : (pre ++ x :: suf).getD ((pre.length : Int)).toNat d = x := by simp
theorem split_len {α : Type} (pre : List α) (x : α) (suf : List α) : pre ++ x :: suf = (pre ++ [x]) ++ suf := by simp

/-- All but the one at a place. -/
def butL (i : Int) : Nat → List Msg → List Msg
  | _, [] => []
  | k, m :: l => if (k : Int) = i then butL i (k + 1) l else m :: butL i (k + 1) l
theorem out0_ok (N : Nat) (R i : Int) : ∀ (suf pre acc : List Msg) (fuel : Nat), (pre ++ suf).length ≤ 1099511627776 → acc.length ≤ pre.length → suf.length < fuel →
    ref_Out_0.go N fuel i R (pre ++ suf) acc (pre.length : Int) = some (acc ++ butL i pre.length suf, ())
  | _, _, _, 0, _, _, h => absurd h (Nat.not_lt_zero _)
  | [], pre, acc, fuel + 1, hl, ha, hf => by
    rw [List.append_nil, show butL i pre.length [] = [] from rfl, List.append_nil]
    exact go_n (by omega) rfl
  | m :: suf, pre, acc, fuel + 1, hl, ha, hf => by
    simp only [List.length_append, List.length_cons] at hl hf
    refine go_d (by simp only [List.length_append, List.length_cons]; omega) ?_
    rw [wrap_succ pre.length (by omega), split_len]
    have hL : ((pre ++ [m]) ++ suf).length ≤ 1099511627776 := by simp; omega
    have e : ((pre.length + 1 : Nat) : Int) = ((pre ++ [m]).length : Int) := by simp
    rw [e]
    by_cases h : (pre.length : Int) = i
    · refine go_nd h ?_
      rw [out0_ok N R i suf (pre ++ [m]) acc fuel hL (by simp; omega) (by omega)]
      simp [butL, h]
    · refine go_nn h (go_t (inB_nat (by simp)) (go_t (room_t (by omega) (by omega)) ?_))
      rw [show (pre ++ [m] ++ suf).getD ((pre.length : Int)).toNat ((0 : Int), ([] : List UInt8)) = m by rw [← split_len]; exact getD_mid _ _ _ _]
      rw [out0_ok N R i suf (pre ++ [m]) (acc ++ [m]) fuel hL (by simp; omega) (by omega)]
      simp [butL, h]
theorem butL_ne (i : Int) : ∀ (k : Nat) (l : List Msg), i < (k : Int) → butL i k l = l
  | _, [], _ => rfl
  | k, m :: l, h => by
    simp only [butL]
    rw [if_neg (by omega), butL_ne i (k + 1) l (by omega)]
theorem butL_at (i : Nat) : ∀ (k : Nat) (l : List Msg), k ≤ i → i - k < l.length → butL (i : Int) k l = l.take (i - k) ++ l.drop (i - k + 1)
  | k, [], _, h => absurd h (Nat.not_lt_zero _)
  | k, m :: l, hk, h => by
    simp only [butL]
    by_cases e : k = i
    · subst e
      rw [if_pos rfl, butL_ne _ _ _ (by omega)]
      simp
    · rw [if_neg (by omega), butL_at i (k + 1) l (by omega) (by simp at h; omega)]
      rw [show i - k = (i - (k + 1)) + 1 by omega]
      simp
theorem out_ok (N : Nat) (R : Int) (l : List Msg) (i : Int) (hi : there l i = true) (hl : l.length ≤ 1099511627776) (hN : l.length < N) : ref_Out.run N (R, l) i = some ((R, dropL l i), ()) := by
  refine go_o (out0_ok N R i l [] [] N hl (by simp) hN) ?_
  obtain ⟨h0, h1⟩ := there_t hi
  obtain ⟨n, rfl⟩ : ∃ n : Nat, i = n := ⟨i.toNat, by omega⟩
  unfold dropL
  rw [if_pos hi, List.nil_append, List.length_nil, butL_at n 0 l (by omega) (by omega)]
  rfl

theorem asked_ok (N : Nat) (r : Int) (l : List Msg) (i : Int) : law_asked.run N (atL l i).1 (atL l i).2 (there l i) (r, l) i = some (true, ()) := by
  refine go_o (ref_there_ok N r l i) ?_
  unfold atL
  cases h : there l i with
  | false => rfl
  | true =>
    obtain ⟨h0, h1⟩ := there_t h
    exact go_f rfl (go_t (inB_t h0 h1) (go_d rfl (go_t (inB_t h0 h1) (go_d rfl rfl))))

theorem there_pos {l : List Msg} {k : Nat} (h : k < l.length) : there l (k : Int) = true := by simp [there, h]
theorem there_end (l : List Msg) : there l (l.length : Int) = false := by simp [there]

theorem stands0_ok (N : Nat) (r : Int) (l : List Msg) (hl : l.length ≤ 1099511627776) (hb : ∀ m ∈ l, m.2.length ≤ 1099511627776) : ∀ (suf pre : List Msg) (fuel : Nat), l = pre ++ suf → suf.length < fuel →
    law_stands_0.go N fuel r l l (l.length : Int) (pre.length : Int) = some (.inr ())
  | _, _, 0, _, h => absurd h (Nat.not_lt_zero _)
  | [], pre, fuel + 1, e, hf => go_n (by rw [e]; simp) rfl
  | m :: suf, pre, fuel + 1, e, hf => by
    have hlt : pre.length < l.length := by rw [e]; simp
    have hat : atL l (pre.length : Int) = m := by
      unfold atL
      rw [if_pos (there_pos hlt), e]
      exact getD_mid _ _ _ _
    have hgd : l.getD ((pre.length : Int)).toNat ((0 : Int), ([] : List UInt8)) = m := by rw [e]; exact getD_mid _ _ _ _
    refine go_d (by omega) (go_t (inB_nat hlt) (go_o (at_ok N r l _ hb) ?_))
    rw [hat, there_pos hlt, hgd, wrap_succ pre.length (by omega)]
    refine go_nd rfl (go_nd rfl (go_f rfl ?_))
    have := stands0_ok N r l hl hb suf (pre ++ [m]) fuel (by rw [e]; simp) (by simp at hf; omega)
    rwa [show ((pre ++ [m]).length : Int) = ((pre.length + 1 : Nat) : Int) by simp] at this
theorem stands_ok (N : Nat) (r R : Int) (l : List Msg) (hl : l.length ≤ 1099511627776) (hb : ∀ m ∈ l, m.2.length ≤ 1099511627776) (hN : l.length < N) : law_stands.run N r l (R, l) = some (true, ()) := by
  refine go_o (stands0_ok N r l hl hb l [] N rfl hN) (go_o (at_ok N r l _ hb) (go_o (len_ok N r l) (go_d rfl ?_)))
  rw [there_end]; rfl

/-- The places of one's messages. -/
def ix (to : Int) : Nat → List Msg → List Int
  | _, [] => []
  | k, m :: l => if m.1 = to then (k : Int) :: ix to (k + 1) l else ix to (k + 1) l
theorem told0_ok (N : Nat) (to : Int) : ∀ (suf pre : List Msg) (acc : List Int) (fuel : Nat), (pre ++ suf).length ≤ 1099511627776 → acc.length ≤ pre.length → suf.length < fuel →
    law_told_0.go N fuel to acc (pre ++ suf) ((pre ++ suf).length : Int) (pre.length : Int) = some ((acc ++ ix to pre.length suf, ()), ())
  | _, _, _, 0, _, _, h => absurd h (Nat.not_lt_zero _)
  | [], pre, acc, fuel + 1, hl, ha, hf => by
    rw [List.append_nil, show ix to pre.length [] = [] from rfl, List.append_nil]
    exact go_n (by omega) rfl
  | m :: suf, pre, acc, fuel + 1, hl, ha, hf => by
    have hl' := hl
    simp only [List.length_append, List.length_cons] at hl' hf
    refine go_d (by simp only [List.length_append, List.length_cons]; omega) (go_t (inB_nat (by simp)) ?_)
    rw [getD_mid, wrap_succ pre.length (by omega)]
    have hL : ((pre ++ [m]) ++ suf).length ≤ 1099511627776 := by simp; omega
    have e : ((pre.length + 1 : Nat) : Int) = ((pre ++ [m]).length : Int) := by simp
    by_cases h : m.1 = to
    · refine go_d h (go_t (room_t (by omega) (by omega)) ?_)
      have ih := told0_ok N to suf (pre ++ [m]) (acc ++ [(pre.length : Int)]) fuel hL (by simp; omega) (by omega)
      rw [← split_len, ← e] at ih
      rw [ih]
      simp [ix, h]
    · refine go_n h ?_
      have ih := told0_ok N to suf (pre ++ [m]) acc fuel hL (by simp; omega) (by omega)
      rw [← split_len, ← e] at ih
      rw [ih]
      simp [ix, h]

theorem round_ok (N : Nat) (R : Int) (L : List Msg) (A : List Int) (i : Nat) (B : List Int) (raw : List UInt8) (hi : i < L.length) (hr : (L.getD i ((0 : Int), ([] : List UInt8))).2 = raw) (hA : (A ++ (i : Int) :: B).length ≤ 1099511627776)
    (hraw : raw.length ≤ 1099511627776) (hN : raw.length < N) :
    Y0.run N R L false (A ++ (i : Int) :: B) (A.length : Int) (i : Int) raw = some (.inl ((false, ()), (((A.length + 1 : Nat) : Int), ()), ())) := by
  have hlt : A.length < (A ++ (i : Int) :: B).length := by simp
  refine go_n (by omega) (go_t (inB_nat hlt) (go_d (by rw [Int.toNat_natCast]; exact hlt) ?_))
  rw [getD_mid]
  refine go_nd rfl (go_t (inB_nat hi) ?_)
  rw [Int.toNat_natCast, hr]
  refine go_nd rfl (go_o (bytesY N raw.length hraw raw.length N raw 0 rfl (by omega) hN) ?_)
  rw [wrap_succ A.length (by omega)]

theorem all_ok (N : Nat) (to R : Int) (L : List Msg) (hL : L.length ≤ 1099511627776) (hb : ∀ m ∈ L, m.2.length ≤ 1099511627776) (hN : ∀ m ∈ L, m.2.length < N) : ∀ (suf pre : List Msg) (A : List Int) (fuel : Nat), L = pre ++ suf → suf.length < fuel →
    (A ++ ix to pre.length suf).length ≤ 1099511627776 →
    slices_All_net_one_net_one_1_f1_0.go N fuel 0 to 0 R L false (A ++ ix to pre.length suf) (A.length : Int) L (L.length : Int) (pre.length : Int) =
      some (.inr ((false, ()), ((((A ++ ix to pre.length suf).length : Nat) : Int), ()), (0, (), (), (), (), (), ()), (0, (), (), (), (), (), (), (), ()), ()))
  | _, _, _, 0, _, h, _ => absurd h (Nat.not_lt_zero _)
  | [], pre, A, fuel + 1, e, hf, hA => by
    rw [show ix to pre.length [] = [] from rfl, List.append_nil]
    exact go_n (by rw [e]; simp) rfl
  | m :: suf, pre, A, fuel + 1, e, hf, hA => by
    have hlt : pre.length < L.length := by rw [e]; simp
    have hgd : L.getD ((pre.length : Int)).toNat ((0 : Int), ([] : List UInt8)) = m := by rw [e]; exact getD_mid _ _ _ _
    have hgd' : L.getD pre.length ((0 : Int), ([] : List UInt8)) = m := by rw [Int.toNat_natCast] at hgd; exact hgd
    have hm : m ∈ L := by rw [e]; simp
    refine go_d (by omega) (go_t (inB_nat hlt) (go_d (by rw [Int.toNat_natCast]; exact hlt) (go_d rfl ?_)))
    rw [hgd, wrap_succ pre.length (by omega)]
    have e1 : ((pre.length + 1 : Nat) : Int) = ((pre ++ [m]).length : Int) := by simp
    have e2 : pre.length + 1 = (pre ++ [m]).length := by simp
    by_cases h : m.1 = to
    · have hix : ix to pre.length (m :: suf) = (pre.length : Int) :: ix to (pre.length + 1) suf := by simp [ix, h]
      rw [hix] at hA ⊢
      refine go_o (v := .inl ((false, ()), (((A.length + 1 : Nat) : Int), ()), (0, (), (), (), (), (), (), (), ()), ())) ?_ ?_
      · refine go_d h (go_o (clone_b_ok N m.2 (hb m hm)) (go_d rfl (go_o (round_ok N R L A pre.length _ m.2 hlt (by rw [hgd']) hA (hb m hm) (hN m hm)) rfl)))
      · have ih := all_ok N to R L hL hb hN suf (pre ++ [m]) (A ++ [(pre.length : Int)]) fuel (by rw [e]; simp) (by simp at hf; omega) (by rw [← e2]; simpa using hA)
        rw [← e2] at ih
        rw [show A ++ [(pre.length : Int)] ++ ix to (pre.length + 1) suf = A ++ (pre.length : Int) :: ix to (pre.length + 1) suf by simp] at ih
        rw [show (((A ++ [(pre.length : Int)]).length : Nat) : Int) = ((A.length + 1 : Nat) : Int) by simp] at ih
        exact ih
    · have hix : ix to pre.length (m :: suf) = ix to (pre.length + 1) suf := by simp [ix, h]
      rw [hix] at hA ⊢
      refine go_o (v := .inl ((false, ()), ((A.length : Int), ()), (0, (), (), (), (), (), (), (), ()), ())) (go_n h rfl) ?_
      have ih := all_ok N to R L hL hb hN suf (pre ++ [m]) A fuel (by rw [e]; simp) (by simp at hf; omega) (by rw [← e2]; exact hA)
      rw [← e2] at ih
      exact ih

theorem ix_len (to : Int) : ∀ (k : Nat) (l : List Msg), (ix to k l).length ≤ l.length
  | _, [] => Nat.le_refl _
  | k, m :: l => by
    have := ix_len to (k + 1) l
    simp only [ix]
    split <;> simp only [List.length_cons] <;> omega
theorem told_ok (N : Nat) (R to : Int) (L : List Msg) (hL : L.length ≤ 1099511627776) (hb : ∀ m ∈ L, m.2.length ≤ 1099511627776) (hN : ∀ m ∈ L, m.2.length < N) (hlN : L.length < N) : law_told.run N R L (R, L) to = some ((R, L, ()), true, ()) := by
  have h0 := ix_len to 0 L
  refine go_o (told0_ok N to L [] [] N hL (by simp) hlN) (go_o rfl (go_o (v := ((false, ()), (((ix to 0 L).length : Int), ()), (0, (), (), (), (), (), (), (), ()), ())) ?_ ?_))
  · refine go_o (clone_l_ok N L hL) (go_o rfl (go_o (v := ((false, ()), (((ix to 0 L).length : Int), ()), (0, (), (), (), (), (), ()), (0, (), (), (), (), (), (), (), ()), ())) ?_ (go_d rfl rfl)))
    exact go_o (all_ok N to R L hL hb hN L [] [] N rfl hlN (by simp; omega)) rfl
  · refine go_d rfl ?_
    simp

abbrev Op := Int × Int × Int × List UInt8
/-- The list behind a call. -/
def stepL (r : Int) (l : List Msg) (o : Op) : List Msg :=
  if o.1 = 0 then sendL r l (o.2.1, o.2.2.2) else if o.1 = 1 then l else if o.1 = 2 then dropL l o.2.2.1 else if o.1 = 3 then dropL l o.2.2.1 else if o.1 = 4 then doubleL r l o.2.2.1 else l

theorem step_ok (k : Nat) (r : Int) (l : List Msg) (o : Op) (hr : (l.length : Int) ≤ r) (hl : l.length ≤ 1099511627776) (hlN : l.length < k) (hb : ∀ m ∈ l, m.2.length ≤ 1099511627776) (hN : ∀ m ∈ l, m.2.length < k)
    (ho : o.2.2.2.length ≤ 1099511627776) (hoN : o.2.2.2.length < k) : law_step.run (k + 3) r l (r, l) o = some ((r, stepL r l o, ()), (r, stepL r l o), true, ()) := by
  have hd : dropL l o.2.2.1 = dropL l o.2.2.1 := rfl
  unfold stepL
  by_cases h0 : o.1 = 0
  · rw [if_pos h0]
    refine go_d h0 (go_t (room_t (by omega) (by omega)) (go_o (send_ok _ r l _ _ ho hl) (go_o (bytes0 _ _ ho o.2.2.2.length _ _ 0 rfl (by omega) (by omega)) (go_o (ref_send_ok _ r l _ _ hr hl) ?_))))
    simp
  rw [if_neg h0]
  refine go_n h0 ?_
  by_cases h1 : o.1 = 1
  · rw [if_pos h1]
    have ha : (atL l o.2.2.1).2.length ≤ 1099511627776 ∧ (atL l o.2.2.1).2.length < k := by
      cases ht : there l o.2.2.1 with
      | true => exact ⟨hb _ (atL_mem ht), hN _ (atL_mem ht)⟩
      | false => simp [atL, ht]; omega
    exact go_d h1 (go_o (at_ok _ r l _ hb) (go_o (asked_ok _ r l _) (go_o (bytes1 _ _ ha.1 (atL l o.2.2.1).2.length _ _ 0 rfl (by omega) (by omega)) rfl)))
  rw [if_neg h1]
  refine go_n h1 ?_
  by_cases h2 : o.1 = 2
  · rw [if_pos h2]
    refine go_d h2 (go_o (take_ok k r l _ hb hl) (go_o (asked_ok _ r l _) (go_o (ref_there_ok _ r l _) ?_)))
    cases ht : there l o.2.2.1 with
    | true => exact go_t rfl (go_o (out_ok _ r l _ ht hl (by omega)) rfl)
    | false => unfold dropL; rw [ht]; rfl
  rw [if_neg h2]
  refine go_n h2 ?_
  by_cases h3 : o.1 = 3
  · rw [if_pos h3]
    refine go_d h3 (go_o (drop_ok k r l _ hl) (go_o (ref_there_ok _ r l _) ?_))
    cases ht : there l o.2.2.1 with
    | true => exact go_t rfl (go_o (out_ok _ r l _ ht hl (by omega)) rfl)
    | false => unfold dropL; rw [ht]; rfl
  rw [if_neg h3]
  refine go_n h3 ?_
  by_cases h4 : o.1 = 4
  · rw [if_pos h4]
    refine go_d h4 (go_o (double_ok _ r l _ hb hl) (go_o (ref_double_ok _ r l _ hr hl) ?_))
    simp
  rw [if_neg h4]
  refine go_n h4 ?_
  by_cases h5 : o.1 = 5
  · exact go_d h5 (go_o (told_ok _ r _ l hl hb (fun m hm => by have := hN m hm; omega) (by omega)) rfl)
  refine go_n h5 ?_
  by_cases h7 : o.1 = 7
  · exact go_d h7 (go_o (v := ((r, l, ()), ())) (go_o (clone_l_ok _ l hl) rfl) rfl)
  · exact go_n h7 (go_o (stands_ok _ r r l hl hb (by omega)) rfl)

/-- What holds of a net's list all along a script: it is within its room; it has no more than so many messages; each has few bytes. -/
structure Fine (r : Int) (M : Nat) (l : List Msg) : Prop where
  room : (l.length : Int) ≤ r
  raw : ∀ m ∈ l, m.2.length ≤ M

theorem Fine.step {r : Int} {M : Nat} {l : List Msg} (h : Fine r M l) {o : Op} (ho : o.2.2.2.length ≤ M) : Fine r M (stepL r l o) ∧ (stepL r l o).length ≤ l.length + 1 := by
  have hs := sendL_len (m := (o.2.1, o.2.2.2)) h.room
  have hd : (dropL l o.2.2.1).length ≤ l.length := dropL_len _ _
  have hr := h.room
  unfold stepL
  split
  · refine ⟨⟨hs.1, fun m hm => ?_⟩, hs.2⟩
    rcases sendL_mem hm with hm | rfl
    · exact h.raw m hm
    · exact ho
  split
  · exact ⟨h, by omega⟩
  split
  · exact ⟨⟨by omega, fun m hm => h.raw m (dropL_mem hm)⟩, by omega⟩
  split
  · exact ⟨⟨by omega, fun m hm => h.raw m (dropL_mem hm)⟩, by omega⟩
  split
  · exact ⟨⟨(doubleL_len h.room).1, fun m hm => h.raw m (doubleL_mem hm)⟩, (doubleL_len h.room).2⟩
  · exact ⟨h, by omega⟩

/-- The list behind a script. -/
def runL (r : Int) (l : List Msg) (s : List Op) : List Msg := s.foldl (stepL r) l
theorem Fine.run {r : Int} {M : Nat} : ∀ {s : List Op} {l : List Msg}, Fine r M l → (∀ o ∈ s, o.2.2.2.length ≤ M) → Fine r M (runL r l s) ∧ (runL r l s).length ≤ l.length + s.length
  | [], l, h, _ => ⟨h, by simp [runL]⟩
  | o :: s, l, h, ho => by
    have h1 := h.step (ho o (by simp))
    have h2 := Fine.run (s := s) h1.1 fun p hp => ho p (by simp [hp])
    refine ⟨h2.1, ?_⟩
    have h3 := h2.2
    simp only [runL, List.foldl_cons, List.length_cons] at h3 ⊢
    omega

theorem run0_ok (k M : Nat) (r R1 : Int) (L1 : List Msg) (s : List Op) (hs : s.length ≤ 1073741824) (hM : M ≤ 1073741824) (hMk : M < k) : ∀ (suf pre : List Op) (l : List Msg) (fuel : Nat), s = pre ++ suf → Fine r M l → l.length ≤ 1073741824 + pre.length → (∀ o ∈ suf, o.2.2.2.length ≤ M) → l.length + suf.length < k → suf.length < fuel →
    law_run_0.go (k + 3) fuel r l r l R1 L1 s (s.length : Int) (pre.length : Int) = some (.inr ((r, runL r l suf, ()), (R1, L1, ()), (r, runL r l suf, ()), ()))
  | _, _, _, 0, _, _, _, _, _, h => absurd h (Nat.not_lt_zero _)
  | [], pre, l, fuel + 1, e, hF, hl, ho, hk, hf => go_n (by rw [e]; simp) rfl
  | o :: suf, pre, l, fuel + 1, e, hF, hl, ho, hk, hf => by
    have hlt : pre.length < s.length := by rw [e]; simp
    have hgd : s.getD ((pre.length : Int)).toNat ((0 : Int), (0 : Int), (0 : Int), ([] : List UInt8)) = o := by rw [e]; exact getD_mid _ _ _ _
    have ho1 := ho o (by simp)
    obtain ⟨g1, g2⟩ := hF.step ho1
    simp only [List.length_cons] at hk hf
    refine go_d (by omega) (go_t (inB_nat hlt) ?_)
    rw [hgd]
    refine go_o (step_ok k r l o hF.room (by omega) (by omega) (fun m hm => by have := hF.raw m hm; omega) (fun m hm => by have := hF.raw m hm; omega) (by omega) (by omega)) (go_f rfl ?_)
    rw [wrap_succ pre.length (by omega)]
    have ih := run0_ok k M r R1 L1 s hs hM hMk suf (pre ++ [o]) (stepL r l o) fuel (by rw [e]; simp) g1 (by simp; omega) (fun p hp => ho p (by simp [hp])) (by omega) (by omega)
    rw [show ((pre ++ [o]).length : Int) = ((pre.length + 1 : Nat) : Int) by simp] at ih
    exact ih
theorem run_ok (k M : Nat) (r : Int) (l : List Msg) (s : List Op) (hs : s.length ≤ 1073741824) (hl : l.length ≤ 1073741824) (hM : M ≤ 1073741824) (hMk : M < k) (hF : Fine r M l) (ho : ∀ o ∈ s, o.2.2.2.length ≤ M) (hk : l.length + s.length < k) :
    law_run.run (k + 3) r l (r, l) s = some ((r, runL r l s, ()), (r, runL r l s), true, ()) := by
  obtain ⟨g1, g2⟩ := hF.run ho
  exact go_o (run0_ok k M r 0 [] s hs hM hMk s [] l (k + 3) rfl hF (by simp; omega) ho hk (by omega)) (go_o (stands_ok _ r r _ (by omega) (fun m hm => by have := g1.raw m hm; omega) (by omega)) rfl)
end Go.Hay.Ytfbbfjjmbelfdaa
