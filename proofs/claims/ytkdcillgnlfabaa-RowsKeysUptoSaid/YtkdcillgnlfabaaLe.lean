/- Keys, read; rows that are the same; what is written is read as it was. Conditions: sizes below a bound. -/
import Derived.Test.YtkdcillgnlfabaaLd
set_option linter.unusedVariables false
set_option linter.unusedSimpArgs false
namespace Go.Hay.Ytkdcillgnlfabaa
open Go Go.Hay Go.Proofs

theorem drop_two (b : List UInt8) (i : Nat) (h : i + 1 < b.length) : b.drop i = b.getD i 0 :: b.getD (i + 1) 0 :: b.drop (i + 2) := by
  rw [List.drop_eq_getElem_cons (by omega), List.drop_eq_getElem_cons h]
  simp [List.getD_eq_getElem?_getD, List.getElem?_eq_getElem (show i < b.length by omega), List.getElem?_eq_getElem h]
theorem txt_short {b : List UInt8} (h : b.length < 2) : txt b = none := by
  cases b with
  | nil => rfl
  | cons c r =>
    cases r with
    | nil => rfl
    | cons d r => simp only [List.length_cons] at h; omega

abbrev FV := Int × Bool × Int × List UInt8 × Unit
abbrev fz : FV := ((0 : Int), false, (0 : Int), ([] : List UInt8), ())
theorem ref_front1_ok (N : Nat) (b : List UInt8) (hb : b.length ≤ 1099511627776) : ∀ (n i : Nat) (s : List UInt8) (fuel : Nat), (b.drop i).length ≤ n → (b.drop i).length < fuel → s.length ≤ i → i ≤ b.length →
    match txt (b.drop i) with
    | some (t, q) => ref_front_1.go N fuel b 0 false 0 [] s (i : Int) = some (.inl (((3 : Int), false, (0 : Int), s ++ t, ()), ((b.length - q.length : Nat) : Int), ()))
    | none => ref_front_1.go N fuel b 0 false 0 [] s (i : Int) = some (.inr (fz, ())) ∨ ref_front_1.go N fuel b 0 false 0 [] s (i : Int) = some (.inl (fz, (0 : Int), ()))
  | _, _, _, 0, _, h, _, _ => absurd h (Nat.not_lt_zero _)
  | n, i, s, fuel + 1, hn, hf, hs, hi => by
    rw [List.length_drop] at hn hf
    by_cases h : i + 1 < b.length
    · have e := drop_two b i h
      generalize hc : b.getD i (0 : UInt8) = c at e
      generalize hd : b.getD (i + 1) (0 : UInt8) = d at e
      have hcl := c.toNat_lt
      have hdl := d.toNat_lt
      have w1 := wrap_succ i (by omega)
      have i0 : inB (i : Int) b.length = true := inB_nat (by omega)
      have i1 : inB ((i + 1 : Nat) : Int) b.length = true := inB_nat h
      have g0 : b.getD ((i : Int)).toNat (0 : UInt8) = c := by rw [Int.toNat_natCast]; exact hc
      have g1 : b.getD (((i + 1 : Nat) : Int)).toNat (0 : UInt8) = d := by rw [Int.toNat_natCast]; exact hd
      have hr1 : room (s.length + 1) 1 = true := room_t (by omega) (by omega)
      have hlt : IntKind.i64.wrap ((i : Int) + 1) < (b.length : Int) := by rw [w1]; omega
      rw [e]
      cases n with
      | zero => omega
      | succ n =>
        simp only [txt]
        by_cases h0 : c.toNat = 0
        · rw [if_pos h0]
          by_cases h1 : d.toNat = 255
          · rw [if_pos h1]
            have ih := ref_front1_ok N b hb n (i + 2) (s ++ [c]) fuel (by rw [List.length_drop]; omega) (by rw [List.length_drop]; omega) (by simp; omega) (by omega)
            have st : ∀ {y}, ref_front_1.go N fuel b 0 false 0 [] (s ++ [c]) ((i + 2 : Nat) : Int) = y → ref_front_1.go N (fuel + 1) b 0 false 0 [] s (i : Int) = y := fun {y} hy => by
              refine go_d hlt (go_o (v := (Sum.inl (fz, ()) : (FV × Unit) ⊕ (FV × Int × Unit))) ?_ (go_o (v := (Sum.inl (fz, ()) : (FV × Unit) ⊕ (FV × Int × Unit))) ?_ (go_t i0 (go_t hr1 (go_t i0 ?_)))))
              · refine go_t i0 ?_
                rw [g0]
                refine go_d (by omega) ?_
                rw [w1]
                refine go_t i1 ?_
                rw [g1]
                exact go_n (by omega) rfl
              · refine go_t i0 ?_
                rw [g0]
                refine go_d (by omega) ?_
                rw [w1]
                refine go_t i1 ?_
                rw [g1]
                exact go_nd (by omega) rfl
              · rw [g0]
                refine go_d (by omega) ?_
                rw [u8_byte', w1, wrap_succ (i + 1) (by omega)]
                exact hy
            cases hq : txt (b.drop (i + 2)) with
            | none =>
              rw [hq] at ih
              rcases ih with ih | ih
              · exact .inl (st ih)
              · exact .inr (st ih)
            | some p =>
              obtain ⟨t, q⟩ := p
              rw [hq] at ih
              refine st (Eq.trans ih ?_)
              simp
          · rw [if_neg h1]
            by_cases h2 : d.toNat = 0
            · rw [if_pos h2]
              refine go_d hlt (go_o (v := (Sum.inr (((3 : Int), false, (0 : Int), s, ()), IntKind.i64.wrap ((i : Int) + 2), ()) : (FV × Unit) ⊕ (FV × Int × Unit))) ?_ ?_)
              · refine go_t i0 ?_
                rw [g0]
                refine go_d (by omega) ?_
                rw [w1]
                refine go_t i1 ?_
                rw [g1]
                exact go_d (by omega) rfl
              · show some (Sum.inl (((3 : Int), false, (0 : Int), s, ()), IntKind.i64.wrap ((i : Int) + 2), ())) = _
                rw [show IntKind.i64.wrap ((i : Int) + 2) = ((i + 2 : Nat) : Int) by rw [wrap_i64] <;> omega, List.length_drop, show b.length - (b.length - (i + 2)) = i + 2 by omega, List.append_nil]
            · rw [if_neg h2]
              refine .inr (go_d hlt (go_o (v := (Sum.inl (fz, ()) : (FV × Unit) ⊕ (FV × Int × Unit))) ?_ (go_o (v := (Sum.inr (fz, (0 : Int), ()) : (FV × Unit) ⊕ (FV × Int × Unit))) ?_ rfl)))
              · refine go_t i0 ?_
                rw [g0]
                refine go_d (by omega) ?_
                rw [w1]
                refine go_t i1 ?_
                rw [g1]
                exact go_n (by omega) rfl
              · refine go_t i0 ?_
                rw [g0]
                refine go_d (by omega) ?_
                rw [w1]
                refine go_t i1 ?_
                rw [g1]
                exact go_nn (by omega) rfl
        · rw [if_neg h0]
          have ih := ref_front1_ok N b hb n (i + 1) (s ++ [c]) fuel (by rw [List.length_drop]; omega) (by rw [List.length_drop]; omega) (by simp; omega) (by omega)
          have e1 : b.drop (i + 1) = d :: b.drop (i + 2) := by
            have := congrArg List.tail e
            simpa using this
          rw [e1] at ih
          have st : ∀ {y}, ref_front_1.go N fuel b 0 false 0 [] (s ++ [c]) ((i + 1 : Nat) : Int) = y → ref_front_1.go N (fuel + 1) b 0 false 0 [] s (i : Int) = y := fun {y} hy => by
            refine go_d hlt (go_o (v := (Sum.inl (fz, ()) : (FV × Unit) ⊕ (FV × Int × Unit))) ?_ (go_o (v := (Sum.inl (fz, ()) : (FV × Unit) ⊕ (FV × Int × Unit))) ?_ (go_t i0 (go_t hr1 (go_t i0 ?_)))))
            · refine go_t i0 ?_
              rw [g0]
              exact go_n (by omega) rfl
            · refine go_t i0 ?_
              rw [g0]
              exact go_n (by omega) rfl
            · rw [g0]
              refine go_n (by omega) ?_
              rw [u8_byte', w1]
              exact hy
          cases hq : txt (d :: b.drop (i + 2)) with
          | none =>
            rw [hq] at ih
            rcases ih with ih | ih
            · exact .inl (st ih)
            · exact .inr (st ih)
          | some p =>
            obtain ⟨t, q⟩ := p
            rw [hq] at ih
            refine st (Eq.trans ih ?_)
            simp
    · rw [txt_short (by rw [List.length_drop]; omega)]
      refine .inl (go_n ?_ rfl)
      rw [wrap_succ i (by omega)]
      omega

def frR (b : List UInt8) : Option (V × Int × Unit) := match fr1 b with | none => some (v0, 0, ()) | some (v, n) => some (v, (n : Int), ())
theorem ref_front_ok (k : Nat) (b : List UInt8) (hb : b.length ≤ 1099511627776) (hk : b.length < k) : ref_front.run (k + 9) b = frR b := by
  unfold frR
  cases b with
  | nil => rfl
  | cons c r =>
    have hl : (c :: r).length = r.length + 1 := rfl
    have hc := c.toNat_lt
    have i0 : inB (0 : Int) (c :: r).length = true := inB_t (by omega) (by rw [hl]; omega)
    refine go_n (by rw [hl]; omega) ?_
    simp only [fr1]
    by_cases h2 : c.toNat = 2
    · rw [if_pos h2]
      by_cases h3 : 8 ≤ r.length
      · rw [if_pos h3]
        refine go_o (v := (Sum.inr (((2 : Int), false, IntKind.i64.wrap (IntKind.u64.wrap (((toNum (r.take 8) : Nat) : Int) - 9223372036854775808)), ([] : List UInt8), ()), (9 : Int), ()) : (FV × Unit) ⊕ (FV × Int × Unit))) ?_ rfl
        exact go_t i0 (go_d (by show ((c.toNat : Nat) : Int) = 2; omega) (go_d (by rw [hl]; omega) (go_t (okB_t (by omega) (by omega) (by rw [hl]; omega)) (go_o (said_ok k (r.take 8) (by rw [List.length_take]; omega)) rfl))))
      · rw [if_neg h3]
        refine go_o (v := (Sum.inl (fz, ()) : (FV × Unit) ⊕ (FV × Int × Unit))) (go_t i0 (go_d (by show ((c.toNat : Nat) : Int) = 2; omega) (go_n (by rw [hl]; omega) rfl))) ?_
        exact go_t i0 (go_n (by show ¬ ((c.toNat : Nat) : Int) < 2; omega) (go_t i0 (go_nn (by show ¬ ((c.toNat : Nat) : Int) = 3; omega) rfl)))
    rw [if_neg h2]
    refine go_o (v := (Sum.inl (fz, ()) : (FV × Unit) ⊕ (FV × Int × Unit))) (go_t i0 (go_n (by show ¬ ((c.toNat : Nat) : Int) = 2; omega) rfl)) (go_t i0 ?_)
    by_cases h1 : c.toNat < 2
    · rw [if_pos h1]
      refine go_d (by show ((c.toNat : Nat) : Int) < 2; omega) ?_
      rw [front_ok k (c :: r) hb]
      unfold frontR
      cases dec1 (c :: r) with
      | none => rfl
      | some p => obtain ⟨v, n⟩ := p; rfl
    rw [if_neg h1]
    refine go_n (by show ¬ ((c.toNat : Nat) : Int) < 2; omega) (go_t i0 ?_)
    by_cases h3 : c.toNat = 3
    · rw [if_pos h3]
      refine go_nd (by show ((c.toNat : Nat) : Int) = 3; omega) ?_
      have ht := ref_front1_ok (k + 9) (c :: r) hb r.length 1 [] (k + 9) (by simp) (by simp; rw [hl] at hk; omega) (by simp) (by rw [hl]; omega)
      have e : (c :: r).drop 1 = r := rfl
      rw [e] at ht
      cases hq : txt r with
      | none =>
        rw [hq] at ht
        rcases ht with ht | ht
        · exact go_o ht rfl
        · exact go_o ht rfl
      | some p =>
        obtain ⟨t, q⟩ := p
        rw [hq] at ht
        exact go_o ht rfl
    · rw [if_neg h3]
      exact go_nn (by show ¬ ((c.toNat : Nat) : Int) = 3; omega) rfl

/-- Values out of a key. -/
def unk : Nat → List UInt8 → Option (List V)
  | 0, b => if b.length = 0 then some [] else none
  | n + 1, b => if b.length = 0 then some [] else match fr1 b with
    | none => none
    | some (v, m) => match unk n (b.drop m) with
      | none => none
      | some l => some (v :: l)
def short (v : V) : Bool := decide (v.2.2.2.length ≤ 64)
def bad : List V × Int × Unit := ([], 30, ())

theorem ref_unkey0_ok (k : Nat) (b : List UInt8) (hb : b.length ≤ 1099511627776) (hk : b.length < k) : ∀ (n at_ : Nat) (row : List V) (fuel : Nat), (b.drop at_).length ≤ n → at_ ≤ b.length → row.length ≤ 16 → n < fuel →
    ref_Unkey_0.go (k + 9) fuel b row (at_ : Int) = match unk n (b.drop at_) with
      | none => some (.inl bad)
      | some l => if l.all short = true ∧ row.length + l.length ≤ 16 then some (.inr (row ++ l, ())) else some (.inl bad)
  | _, _, _, 0, _, _, _, h => absurd h (Nat.not_lt_zero _)
  | n, at_, row, fuel + 1, hn, ha, hr, hf => by
    rw [List.length_drop] at hn
    by_cases he : at_ = b.length
    · have hz : (b.drop at_).length = 0 := by rw [List.length_drop]; omega
      have hu : unk n (b.drop at_) = some [] := by cases n <;> simp only [unk] <;> rw [if_pos hz]
      rw [hu]
      simp only [List.all_nil, List.length_nil, Nat.add_zero, true_and, if_pos hr, List.append_nil]
      exact go_n (by omega) rfl
    · cases n with
      | zero => omega
      | succ n =>
        have hz : ¬ (b.drop at_).length = 0 := by rw [List.length_drop]; omega
        simp only [unk]
        rw [if_neg hz]
        refine go_d (by omega) (go_t (okB_t (by omega) (by omega) (Int.le_refl _)) ?_)
        rw [Int.toNat_natCast, ref_front_ok k (b.drop at_) (by rw [List.length_drop]; omega) (by rw [List.length_drop]; omega)]
        unfold frR
        cases h : fr1 (b.drop at_) with
        | none => exact go_o rfl (go_d rfl rfl)
        | some p =>
          obtain ⟨v, m⟩ := p
          have hm := fr1_le h
          rw [List.length_drop] at hm
          refine go_o rfl (go_n (by show ¬ ((m : Nat) : Int) = 0; omega) ?_)
          have ih := ref_unkey0_ok k b hb hk n (at_ + m) (row ++ [v]) fuel
          rw [← List.drop_drop] at ih
          simp only
          by_cases hs : v.2.2.2.length > 64
          · have hv : short v = false := by unfold short; exact decide_eq_false (by omega)
            refine go_d (by show ((v.2.2.2.length : Nat) : Int) > 64; omega) ?_
            cases unk n ((b.drop at_).drop m) with
            | none => rfl
            | some l => simp [hv]; rfl
          · have hv : short v = true := by unfold short; exact decide_eq_true (by omega)
            refine go_n (by show ¬ ((v.2.2.2.length : Nat) : Int) > 64; omega) ?_
            by_cases h16 : row.length = 16
            · refine go_d (by omega) ?_
              cases unk n ((b.drop at_).drop m) with
              | none => rfl
              | some l =>
                have : ¬ (row.length + (l.length + 1) ≤ 16) := by omega
                simp [this]; rfl
            · refine go_n (by omega) (go_t (room_t (by omega) (by omega)) ?_)
              show ref_Unkey_0.go (k + 9) fuel b (row ++ [v]) (IntKind.i64.wrap ((at_ : Int) + ((m : Nat) : Int))) = _
              rw [show IntKind.i64.wrap ((at_ : Int) + ((m : Nat) : Int)) = ((at_ + m : Nat) : Int) by rw [wrap_i64] <;> omega]
              refine (ih (by rw [List.length_drop, List.length_drop]; omega) (by omega) (by simp; omega) (by omega)).trans ?_
              cases unk n ((b.drop at_).drop m) with
              | none => rfl
              | some l =>
                simp only [List.all_cons, hv, Bool.true_and, List.length_append, List.length_cons, List.length_nil, List.append_assoc, List.cons_append, List.nil_append, Nat.zero_add]
                rw [show row.length + 1 + l.length = row.length + (l.length + 1) by omega]

theorem unkey0_ok (k : Nat) : ∀ (n : Nat) (b : List UInt8) (row : List V) (fuel : Nat), b.length ≤ 1099511627776 → b.length < k → b.length ≤ n → row.length ≤ 16 → n < fuel →
    match unk n b with
      | none => rows_Unkey_0.go (k + 9) fuel row b = some (.inl bad)
      | some l => rows_Unkey_0.go (k + 9) fuel row b = if row.length + l.length ≤ 16 then some (.inr (row ++ l, ())) else some (.inl bad)
  | _, _, _, 0, _, _, _, _, h => absurd h (Nat.not_lt_zero _)
  | n, b, row, fuel + 1, hb, hk, hn, hr, hf => by
    by_cases he : b.length = 0
    · have hu : unk n b = some [] := by cases n <;> simp only [unk] <;> rw [if_pos he]
      rw [hu]
      simp only [List.length_nil, Nat.add_zero, if_pos hr, List.append_nil]
      exact go_n (by omega) rfl
    · cases n with
      | zero => omega
      | succ n =>
        simp only [unk]
        rw [if_neg he]
        have h1 := unkey1_ok k b hb (by omega) hk
        cases h : fr1 b with
        | none =>
          rw [h] at h1
          obtain ⟨v, q, h1⟩ := h1
          exact go_d (by omega) (go_o h1 (go_t rfl rfl))
        | some p =>
          obtain ⟨v, m⟩ := p
          rw [h] at h1
          have hm := fr1_le h
          simp only
          have ih := unkey0_ok k n (b.drop m) (row ++ [v]) fuel (by rw [List.length_drop]; omega) (by rw [List.length_drop]; omega) (by rw [List.length_drop]; omega)
          by_cases h16 : row.length = 16
          · have st : rows_Unkey_0.go (k + 9) (fuel + 1) row b = some (.inl bad) := go_d (by omega) (go_o h1 (go_f rfl (go_d (by omega) rfl)))
            cases unk n (b.drop m) with
            | none => exact st
            | some l =>
              have : ¬ (row.length + (l.length + 1) ≤ 16) := by omega
              simp [this, st]
          · have st : ∀ {y}, rows_Unkey_0.go (k + 9) fuel (row ++ [v]) (b.drop m) = y → rows_Unkey_0.go (k + 9) (fuel + 1) row b = y := fun {y} hy =>
              go_d (by omega) (go_o h1 (go_f rfl (go_n (by omega) (go_t (room_t (by omega) (by omega)) hy))))
            have ih := ih (by simp; omega) (by omega)
            cases hq : unk n (b.drop m) with
            | none =>
              rw [hq] at ih
              exact st ih
            | some l =>
              rw [hq] at ih
              refine st (Eq.trans ih ?_)
              simp only [List.length_append, List.length_cons, List.length_nil, List.append_assoc, List.cons_append, List.nil_append, Nat.zero_add]
              rw [show row.length + 1 + l.length = row.length + (l.length + 1) by omega]

/- Numbers there and back. -/
theorem num8_nat (x : Nat) : num8 (x : Int) = [UInt8.ofNat (x / 72057594037927936 % 256), UInt8.ofNat (x / 281474976710656 % 256), UInt8.ofNat (x / 1099511627776 % 256), UInt8.ofNat (x / 4294967296 % 256), UInt8.ofNat (x / 16777216 % 256), UInt8.ofNat (x / 65536 % 256), UInt8.ofNat (x / 256 % 256), UInt8.ofNat (x % 256)] := by
  have key : ∀ p : Nat, 0 < p → Hay.u8 (IntKind.u8.wrap ((x : Int).fdiv (p : Int))) = UInt8.ofNat (x / p % 256) := by
    intro p hp
    have e : (x : Int).fdiv (p : Int) = ((x / p : Nat) : Int) := by
      rw [Int.fdiv_eq_ediv_of_nonneg _ (Int.natCast_nonneg p)]
      rfl
    rw [e, w_u8]
    have e2 : ((x / p : Nat) : Int) % 256 = ((x / p % 256 : Nat) : Int) := by omega
    rw [e2]
    show UInt8.ofNat (Int.toNat ((x / p % 256 : Nat) : Int)) = _
    rw [Int.toNat_natCast]
  have h := fun s => key (2 ^ s) (Nat.two_pow_pos s)
  simp only [num8, List.map_cons, List.map_nil]
  have c : ∀ s : Nat, ((2 ^ s : Nat) : Int) = (2 : Int) ^ s := fun s => by simp
  rw [← c 56, ← c 48, ← c 40, ← c 32, ← c 24, ← c 16, ← c 8, ← c 0, h 56, h 48, h 40, h 32, h 24, h 16, h 8, h 0]
  simp
theorem toNum_num8 (x : Nat) (hx : x < 18446744073709551616) : toNum (num8 (x : Int)) = x := by
  rw [num8_nat]
  have q2 : x / 65536 = x / 256 / 256 := by rw [Nat.div_div_eq_div_mul]
  have q3 : x / 16777216 = x / 65536 / 256 := by rw [Nat.div_div_eq_div_mul]
  have q4 : x / 4294967296 = x / 16777216 / 256 := by rw [Nat.div_div_eq_div_mul]
  have q5 : x / 1099511627776 = x / 4294967296 / 256 := by rw [Nat.div_div_eq_div_mul]
  have q6 : x / 281474976710656 = x / 1099511627776 / 256 := by rw [Nat.div_div_eq_div_mul]
  have q7 : x / 72057594037927936 = x / 281474976710656 / 256 := by rw [Nat.div_div_eq_div_mul]
  have h7 : x / 72057594037927936 < 256 := Nat.div_lt_of_lt_mul (by omega)
  have r : ∀ a : Nat, a / 256 * 256 + a % 256 = a := fun a => by omega
  simp only [toNum, List.foldl_cons, List.foldl_nil, UInt8.toNat_ofNat', Nat.reducePow, Nat.mod_mod, Nat.zero_mul, Nat.zero_add]
  rw [Nat.mod_eq_of_lt h7, q7, r, q6, r, q5, r, q4, r, q3, r, q2, r, r]
theorem list8 {l : List UInt8} (h : l.length = 8) : ∃ a b c d e f g i, l = [a, b, c, d, e, f, g, i] := by
  match l, h with
  | [a, b, c, d, e, f, g, i], _ => exact ⟨a, b, c, d, e, f, g, i, rfl⟩
theorem num8_aux (n a b c d x f g i : Nat) (hb : b < 256) (hc : c < 256) (hd : d < 256) (hx : x < 256) (hf : f < 256) (hg : g < 256) (hi : i < 256) (e : n = ((((((a * 256 + b) * 256 + c) * 256 + d) * 256 + x) * 256 + f) * 256 + g) * 256 + i) :
    n / 256 = (((((a * 256 + b) * 256 + c) * 256 + d) * 256 + x) * 256 + f) * 256 + g ∧ n / 65536 = ((((a * 256 + b) * 256 + c) * 256 + d) * 256 + x) * 256 + f ∧ n / 16777216 = (((a * 256 + b) * 256 + c) * 256 + d) * 256 + x ∧
    n / 4294967296 = ((a * 256 + b) * 256 + c) * 256 + d ∧ n / 1099511627776 = (a * 256 + b) * 256 + c ∧ n / 281474976710656 = a * 256 + b ∧ n / 72057594037927936 = a := by
  obtain ⟨t1, h1⟩ : ∃ t, t = a * 256 + b := ⟨_, rfl⟩
  rw [← h1] at e ⊢
  obtain ⟨t2, h2⟩ : ∃ t, t = t1 * 256 + c := ⟨_, rfl⟩
  rw [← h2] at e ⊢
  obtain ⟨t3, h3⟩ : ∃ t, t = t2 * 256 + d := ⟨_, rfl⟩
  rw [← h3] at e ⊢
  obtain ⟨t4, h4⟩ : ∃ t, t = t3 * 256 + x := ⟨_, rfl⟩
  rw [← h4] at e ⊢
  obtain ⟨t5, h5⟩ : ∃ t, t = t4 * 256 + f := ⟨_, rfl⟩
  rw [← h5] at e ⊢
  obtain ⟨t6, h6⟩ : ∃ t, t = t5 * 256 + g := ⟨_, rfl⟩
  rw [← h6] at e ⊢
  have q1 : n / 256 = t6 := by omega
  have q2 : n / 65536 = t5 := by rw [show (65536 : Nat) = 256 * 256 from rfl, ← Nat.div_div_eq_div_mul, q1]; omega
  have q3 : n / 16777216 = t4 := by rw [show (16777216 : Nat) = 65536 * 256 from rfl, ← Nat.div_div_eq_div_mul, q2]; omega
  have q4 : n / 4294967296 = t3 := by rw [show (4294967296 : Nat) = 16777216 * 256 from rfl, ← Nat.div_div_eq_div_mul, q3]; omega
  have q5 : n / 1099511627776 = t2 := by rw [show (1099511627776 : Nat) = 4294967296 * 256 from rfl, ← Nat.div_div_eq_div_mul, q4]; omega
  have q6 : n / 281474976710656 = t1 := by rw [show (281474976710656 : Nat) = 1099511627776 * 256 from rfl, ← Nat.div_div_eq_div_mul, q5]; omega
  have q7 : n / 72057594037927936 = a := by rw [show (72057594037927936 : Nat) = 281474976710656 * 256 from rfl, ← Nat.div_div_eq_div_mul, q6]; omega
  exact ⟨q1, q2, q3, q4, q5, q6, q7⟩
theorem num8_toNum {l : List UInt8} (h : l.length = 8) : num8 ((toNum l : Nat) : Int) = l := by
  obtain ⟨a, b, c, d, x, f, g, i, rfl⟩ := list8 h
  rw [num8_nat]
  have ha := a.toNat_lt
  have hb := b.toNat_lt
  have hc := c.toNat_lt
  have hd := d.toNat_lt
  have hx := x.toNat_lt
  have hf := f.toNat_lt
  have hg := g.toNat_lt
  have hi := i.toNat_lt
  have q : ∀ (x : UInt8) (n : Nat), n = x.toNat → UInt8.ofNat n = x := fun x n hn => by rw [hn]; simp
  have e : toNum [a, b, c, d, x, f, g, i] = ((((((a.toNat * 256 + b.toNat) * 256 + c.toNat) * 256 + d.toNat) * 256 + x.toNat) * 256 + f.toNat) * 256 + g.toNat) * 256 + i.toNat := by
    simp only [toNum, List.foldl_cons, List.foldl_nil, Nat.zero_mul, Nat.zero_add]
  obtain ⟨q1, q2, q3, q4, q5, q6, q7⟩ := num8_aux _ _ _ _ _ _ _ _ _ hb hc hd hx hf hg hi e
  rw [q1, q2, q3, q4, q5, q6, q7, e, q a _ (Nat.mod_eq_of_lt ha), q b _ (by omega), q c _ (by omega), q d _ (by omega), q x _ (by omega), q f _ (by omega), q g _ (by omega), q i _ (by omega)]
end Go.Hay.Ytkdcillgnlfabaa
