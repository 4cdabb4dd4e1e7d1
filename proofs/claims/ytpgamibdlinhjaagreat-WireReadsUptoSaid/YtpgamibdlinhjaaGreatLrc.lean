/- Rows as bytes, read. Conditions: sizes below a bound. -/
import Derived.Test.YtpgamibdlinhjaaGreatLrb
set_option linter.unusedVariables false
set_option linter.unusedSimpArgs false
namespace Go.Hay.YtpgamibdlinhjaaGreat.Rw
open Go Go.Hay Go.Proofs

/-- What bytes say, the highest first. -/
def toNum (l : List UInt8) : Nat := l.foldl (fun n c => n * 256 + c.toNat) 0
theorem fC86 (l : List UInt8) (c : UInt8) : toNum (l ++ [c]) = toNum l * 256 + c.toNat := by simp [toNum]
theorem fB68 (l : List UInt8) : toNum l < 256 ^ l.length := by
  have : ∀ (r : List UInt8) (n m : Nat), n < 256 ^ m → r.foldl (fun n c => n * 256 + c.toNat) n < 256 ^ (m + r.length) := by
    intro r
    induction r with
    | nil => intro n m h; simpa using h
    | cons c r ih =>
      intro n m h
      have hc := c.toNat_lt
      have := ih (n * 256 + c.toNat) (m + 1) (by rw [Nat.pow_succ]; omega)
      simp only [List.foldl_cons, List.length_cons]
      rw [show m + (r.length + 1) = m + 1 + r.length by omega]
      exact this
  have h := this l 0 0 (by simp)
  rw [Nat.zero_add] at h
  exact h
theorem fB97 {l : List UInt8} (h : l.length ≤ 8) : toNum l < 18446744073709551616 := by
  have h1 := fB68 l
  have h2 : 256 ^ l.length ≤ 256 ^ 8 := Nat.pow_le_pow_right (by omega) h
  omega

theorem fB123 (n : Nat) (c : UInt8) (h : n < 72057594037927936) :
    IntKind.u64.wrap (((BitVec.ofInt 64 (IntKind.u64.wrap ((n : Int) * 256)) ||| BitVec.ofInt 64 (IntKind.u64.wrap ((c.toNat : Nat) : Int))).toNat : Nat) : Int) = ((n * 256 + c.toNat : Nat) : Int) := by
  have hc := c.toNat_lt
  have e1 : IntKind.u64.wrap ((n : Int) * 256) = ((n * 256 : Nat) : Int) := by rw [w_u64]; omega
  have e2 : IntKind.u64.wrap ((c.toNat : Nat) : Int) = ((c.toNat : Nat) : Int) := by rw [w_u64]; omega
  rw [e1, e2, BitVec.ofInt_natCast, BitVec.ofInt_natCast, BitVec.toNat_or, BitVec.toNat_ofNat, BitVec.toNat_ofNat, Nat.mod_eq_of_lt (by omega), Nat.mod_eq_of_lt (by omega)]
  have e3 : n * 256 ||| c.toNat = n * 256 + c.toNat := by
    have := Nat.two_pow_add_eq_or_of_lt (i := 8) (b := c.toNat) (by omega) n
    rw [show (2 : Nat) ^ 8 * n = n * 256 by omega] at this
    exact this.symm
  rw [e3, w_u64]
  omega

theorem fD119 (N : Nat) (b : List UInt8) (hb : 8 ≤ b.length) : ∀ (d i fuel : Nat), i + d = 8 → d < fuel → fD48.go N fuel b ((toNum (b.take i) : Nat) : Int) (i : Int) = some (((toNum (b.take 8) : Nat) : Int), ())
  | _, _, 0, _, h => absurd h (Nat.not_lt_zero _)
  | 0, i, fuel + 1, e, hf => by
    have : i = 8 := by omega
    subst this
    exact go_n (by omega) rfl
  | d + 1, i, fuel + 1, e, hf => by
    have hlt : i < b.length := by omega
    have h1 := fB68 (b.take i)
    rw [List.length_take] at h1
    have h2 : toNum (b.take i) < 72057594037927936 := Nat.lt_of_lt_of_le h1 (by
      have : 256 ^ min i b.length ≤ 256 ^ 7 := Nat.pow_le_pow_right (by omega) (by omega)
      omega)
    refine go_d (by omega) (go_t (inB_nat hlt) ?_)
    rw [fB123 _ _ h2, wrap_succ i (by omega)]
    have e2 : toNum (b.take i) * 256 + (b.getD ((i : Int)).toNat (0 : UInt8)).toNat = toNum (b.take (i + 1)) := by
      rw [Int.toNat_natCast, List.getD_eq_getElem?_getD, List.getElem?_eq_getElem hlt, ← fC86]
      rw [List.take_add_one, List.getElem?_eq_getElem hlt]
      rfl
    rw [e2]
    exact fD119 N b hb d (i + 1) fuel (by omega) (by omega)
theorem fB150 (k : Nat) (b : List UInt8) (hb : 8 ≤ b.length) : fD34.run (k + 9) b = some (((toNum (b.take 8) : Nat) : Int), ()) :=
  go_o (fD119 (k + 9) b hb 8 0 (k + 9) rfl (by omega)) rfl
theorem fC133 (N : Nat) (b : List UInt8) (hb : b.length = 8) : ∀ (d i fuel : Nat), i + d = 8 → d < fuel → fD42.go N fuel b ((toNum (b.take i) : Nat) : Int) (i : Int) = some (((toNum b : Nat) : Int), ())
  | _, _, 0, _, h => absurd h (Nat.not_lt_zero _)
  | 0, i, fuel + 1, e, hf => by
    have : i = 8 := by omega
    subst this
    rw [List.take_of_length_le (by omega)]
    exact go_n (by omega) rfl
  | d + 1, i, fuel + 1, e, hf => by
    have hlt : i < b.length := by omega
    have h1 := fB68 (b.take i)
    rw [List.length_take] at h1
    have h2 : toNum (b.take i) < 72057594037927936 := Nat.lt_of_lt_of_le h1 (by
      have : 256 ^ min i b.length ≤ 256 ^ 7 := Nat.pow_le_pow_right (by omega) (by omega)
      omega)
    refine go_d (by omega) (go_t (inB_nat hlt) ?_)
    have hc := (b.getD ((i : Int)).toNat (0 : UInt8)).toNat_lt
    have e2 : toNum (b.take i) * 256 + (b.getD ((i : Int)).toNat (0 : UInt8)).toNat = toNum (b.take (i + 1)) := by
      rw [Int.toNat_natCast, List.getD_eq_getElem?_getD, List.getElem?_eq_getElem hlt, ← fC86]
      rw [List.take_add_one, List.getElem?_eq_getElem hlt]
      rfl
    have e3 : IntKind.u64.wrap (IntKind.u64.wrap (((toNum (b.take i) : Nat) : Int) * 256) + IntKind.u64.wrap (((b.getD ((i : Int)).toNat (0 : UInt8)).toNat : Nat) : Int)) = ((toNum (b.take (i + 1)) : Nat) : Int) := by
      rw [← e2, w_u64, w_u64, w_u64]
      omega
    rw [e3, wrap_succ i (by omega)]
    exact fC133 N b hb d (i + 1) fuel (by omega) (by omega)
theorem fA163 (k : Nat) (b : List UInt8) (hb : b.length = 8) : fB30.run (k + 9) b = some (((toNum b : Nat) : Int), ()) :=
  go_o (fC133 (k + 9) b hb 8 0 (k + 9) rfl (by omega)) rfl

/-- The value with whose bytes some begin, and how many these are. -/
def dec1 : List UInt8 → Option (V × Nat)
  | [] => none
  | c :: r =>
    if c.toNat = 0 then some ((0, false, 0, []), 1)
    else if c.toNat = 1 then (match r with | [] => none | d :: _ => if d.toNat ≤ 1 then some ((1, decide (d.toNat = 1), 0, []), 2) else none)
    else if c.toNat = 2 then (if 8 ≤ r.length then some ((2, false, IntKind.i64.wrap ((toNum (r.take 8) : Nat) : Int), []), 9) else none)
    else if c.toNat = 3 then (match r with | [] => none | d :: t => if d.toNat ≤ 64 ∧ d.toNat ≤ t.length then some ((3, false, 0, t.take d.toNat), d.toNat + 2) else none)
    else none

theorem fB162 {b : List UInt8} {v : V} {n : Nat} (h : dec1 b = some (v, n)) : 0 < n ∧ n ≤ b.length := by
  unfold dec1 at h
  split at h
  · cases h
  · rename_i c r
    split at h
    · simp at h; simp; omega
    split at h
    · split at h
      · cases h
      · split at h
        · simp at h; simp; omega
        · cases h
    split at h
    · split at h
      · simp at h; simp; omega
      · cases h
    split at h
    · split at h
      · cases h
      · split at h
        · simp at h; simp; omega
        · cases h
    · cases h

theorem fC87 (c : UInt8) : IntKind.i64.wrap ((c.toNat : Nat) : Int) = ((c.toNat : Nat) : Int) := by
  have := c.toNat_lt
  exact wrap_nat _ (by omega)

/-- What is told of reading a value: it, what is left, whether there was one. -/
def readR (b : List UInt8) : Option (V × List UInt8 × Bool × Unit) := match dec1 b with | none => some (v0, [], false, ()) | some (v, n) => some (v, b.drop n, true, ())
theorem fA123 (k : Nat) (b : List UInt8) (hb : b.length ≤ 1099511627776) : fA14.run (k + 9) b = readR b := by
  unfold readR
  cases b with
  | nil => rfl
  | cons c r =>
    simp only [List.length_cons] at hb
    have hc := c.toNat_lt
    refine go_n (by simp only [List.length_cons]; omega) (go_t (inB_t (by omega) (by simp only [List.length_cons]; omega)) (go_t (okB_t (by omega) (by simp only [List.length_cons]; omega) (by simp only [List.length_cons]; omega)) ?_))
    simp only [List.drop_succ_cons, List.drop_zero, List.getD_cons_zero, fC87, dec1]
    by_cases h0 : c.toNat = 0
    · rw [if_pos h0]
      exact go_d (by omega) (go_o rfl rfl)
    rw [if_neg h0]
    refine go_n (by omega) ?_
    by_cases h1 : c.toNat = 1
    · rw [if_pos h1]
      have r1 : fD65.run (k + 9) r (c.toNat : Int) = some (false, ()) := go_n (by omega) rfl
      have r2 : fB62.run (k + 9) r (c.toNat : Int) = some (false, ()) := go_n (by omega) rfl
      cases r with
      | nil => exact go_o (v := (false, ())) (go_d (by omega) (go_n (by simp) rfl)) (go_o r1 (go_o r2 rfl))
      | cons d t =>
        have hd := d.toNat_lt
        have hl : (d :: t).length = t.length + 1 := rfl
        have r0 : fD70.run (k + 9) (d :: t) (c.toNat : Int) = some (decide (d.toNat ≤ 1), ()) := by
          refine go_d (by omega) (go_d (by rw [hl]; omega) (go_t (inB_t (by omega) (by rw [hl]; omega)) ?_))
          show some (decide (((d.toNat : Nat) : Int) ≤ 1), ()) = _
          by_cases h : d.toNat ≤ 1
          · rw [decide_eq_true h, decide_eq_true (by omega)]
          · rw [decide_eq_false h, decide_eq_false (by omega)]
        refine go_o r0 ?_
        by_cases h2 : d.toNat ≤ 1
        · simp only [if_pos h2]
          refine go_t (decide_eq_true h2) (go_t (inB_t (by omega) (by rw [hl]; omega)) (go_o rfl (go_t (okB_t (by omega) (by rw [hl]; omega) (Int.le_refl _)) ?_)))
          show some (((1 : Int), decide (((d.toNat : Nat) : Int) = 1), (0 : Int), ([] : List UInt8)), t, true, ()) = _
          have : decide (((d.toNat : Nat) : Int) = 1) = decide (d.toNat = 1) := by
            by_cases h : d.toNat = 1
            · rw [decide_eq_true h, decide_eq_true (by omega)]
            · rw [decide_eq_false h, decide_eq_false (by omega)]
          rw [this]
          rfl
        · simp only [if_neg h2]
          exact go_f (decide_eq_false h2) (go_o r1 (go_o r2 rfl))
    rw [if_neg h1]
    refine go_o (v := (false, ())) (go_n (by omega) rfl) ?_
    refine go_f rfl ?_
    by_cases h2 : c.toNat = 2
    · rw [if_pos h2]
      have r1 : fD65.run (k + 9) r (c.toNat : Int) = some (decide (8 ≤ r.length), ()) := by
        refine go_d (by omega) ?_
        show some (decide (((r.length : Nat) : Int) ≥ 8), ()) = _
        by_cases h : 8 ≤ r.length
        · rw [decide_eq_true h, decide_eq_true (by omega)]
        · rw [decide_eq_false h, decide_eq_false (by omega)]
      have r2 : fB62.run (k + 9) r (c.toNat : Int) = some (false, ()) := go_n (by omega) rfl
      refine go_o r1 ?_
      by_cases h3 : 8 ≤ r.length
      · rw [if_pos h3]
        exact go_t (decide_eq_true h3) (go_o (fB150 k r h3) (go_o rfl (go_t (okB_t (by omega) (by omega) (Int.le_refl _)) rfl)))
      · rw [if_neg h3]
        exact go_f (decide_eq_false h3) (go_o r2 rfl)
    rw [if_neg h2]
    refine go_o (v := (false, ())) (go_n (by omega) rfl) ?_
    refine go_f rfl ?_
    by_cases h3 : c.toNat = 3
    · rw [if_pos h3]
      cases r with
      | nil => exact go_o (v := (false, ())) (go_d (by omega) (go_n (by simp) rfl)) rfl
      | cons d t =>
        have hd := d.toNat_lt
        have hl : (d :: t).length = t.length + 1 := rfl
        simp only [List.length_cons] at hb
        have r2 : fB62.run (k + 9) (d :: t) (c.toNat : Int) = some (decide (d.toNat ≤ 64 ∧ d.toNat ≤ t.length), ()) := by
          refine go_d (by omega) (go_d (by rw [hl]; omega) (go_t (inB_t (by omega) (by rw [hl]; omega)) ?_))
          by_cases h4 : d.toNat ≤ 64
          · refine go_d (by show ((d.toNat : Nat) : Int) ≤ 64; omega) (go_t (inB_t (by omega) (by rw [hl]; omega)) ?_)
            show some (decide (((t.length + 1 : Nat) : Int) > IntKind.i64.wrap ((d.toNat : Nat) : Int)), ()) = _
            rw [fC87]
            by_cases h5 : d.toNat ≤ t.length
            · rw [decide_eq_true (And.intro h4 h5), decide_eq_true (by omega)]
            · rw [decide_eq_false (p := d.toNat ≤ 64 ∧ d.toNat ≤ t.length) (fun h => h5 h.2), decide_eq_false (by omega)]
          · rw [decide_eq_false (p := d.toNat ≤ 64 ∧ d.toNat ≤ t.length) (fun h => h4 h.1)]
            exact go_n (by show ¬ ((d.toNat : Nat) : Int) ≤ 64; omega) rfl
        refine go_o r2 ?_
        by_cases h4 : d.toNat ≤ 64 ∧ d.toNat ≤ t.length
        · simp only [if_pos h4]
          have w8 : IntKind.u8.wrap ((1 : Int) + ((d.toNat : Nat) : Int)) = ((d.toNat + 1 : Nat) : Int) := by rw [w_u8]; omega
          refine go_t (decide_eq_true h4) (go_t (inB_t (by omega) (by rw [hl]; omega)) ?_)
          show (bif okB 1 (IntKind.u8.wrap ((1 : Int) + ((d.toNat : Nat) : Int))) (t.length + 1) then obind (fA68.run (k + 9) (((d :: t).take (IntKind.u8.wrap ((1 : Int) + ((d.toNat : Nat) : Int))).toNat).drop 1)) fun (v3, _) => (bif inB 0 (t.length + 1) then (bif okB (IntKind.u8.wrap ((1 : Int) + ((d.toNat : Nat) : Int))) ((t.length + 1 : Nat) : Int) (t.length + 1) then some (v3, (d :: t).drop (IntKind.u8.wrap ((1 : Int) + ((d.toNat : Nat) : Int))).toNat, true, ()) else none) else none) else none) = _
          rw [w8]
          refine go_t (okB_t (by omega) (by omega) (by omega)) (go_o rfl (go_t (inB_t (by omega) (by omega)) (go_t (okB_t (by omega) (by omega) (by omega)) ?_)))
          rw [Int.toNat_natCast]
          rfl
        · simp only [if_neg h4]
          exact go_f (decide_eq_false h4) rfl
    · rw [if_neg h3]
      exact go_o (v := (false, ())) (go_n (by omega) rfl) rfl

def frontR (b : List UInt8) : Option (V × Int × Unit) := match dec1 b with | none => some (v0, 0, ()) | some (v, n) => some (v, (n : Int), ())
theorem fD153 (k : Nat) (b : List UInt8) (hb : b.length ≤ 1099511627776) : fD8.run (k + 9) b = frontR b := by
  unfold frontR
  cases b with
  | nil => rfl
  | cons c r =>
    simp only [List.length_cons] at hb
    have hc := c.toNat_lt
    have hl : (c :: r).length = r.length + 1 := rfl
    simp only [dec1]
    by_cases h0 : c.toNat = 0
    · rw [if_pos h0]
      refine go_o (v := (.inr (((0 : Int), false, (0 : Int), ([] : List UInt8), ()), (1 : Int), ()) : ((Int × Bool × Int × List UInt8 × Unit) × Unit) ⊕ ((Int × Bool × Int × List UInt8 × Unit) × Int × Unit)))
        (go_d (by rw [hl]; omega) (go_t (inB_t (by omega) (by rw [hl]; omega)) (go_d (by show ((c.toNat : Nat) : Int) = 0; omega) rfl))) rfl
    rw [if_neg h0]
    refine go_o (v := (.inl (((0 : Int), false, (0 : Int), ([] : List UInt8), ()), ()) : ((Int × Bool × Int × List UInt8 × Unit) × Unit) ⊕ ((Int × Bool × Int × List UInt8 × Unit) × Int × Unit)))
        (go_d (by rw [hl]; omega) (go_t (inB_t (by omega) (by rw [hl]; omega)) (go_n (by show ¬ ((c.toNat : Nat) : Int) = 0; omega) rfl))) ?_
    by_cases h1 : c.toNat = 1
    · rw [if_pos h1]
      cases r with
      | nil => rfl
      | cons d t =>
        have hd := d.toNat_lt
        have hl : (c :: d :: t).length = t.length + 2 := rfl
        by_cases h2 : d.toNat ≤ 1
        · simp only [if_pos h2]
          refine go_o (v := (true, ())) (go_d (by rw [hl]; omega) (go_t (inB_t (by omega) (by rw [hl]; omega)) (go_d (by show ((c.toNat : Nat) : Int) = 1; omega) (go_t (inB_t (by omega) (by rw [hl]; omega)) ?_)))) ?_
          · show some (decide (((d.toNat : Nat) : Int) < 2), ()) = _
            rw [decide_eq_true (by omega)]
          · refine go_t rfl (go_t (inB_t (by omega) (by rw [hl]; omega)) ?_)
            show some (((1 : Int), decide (((d.toNat : Nat) : Int) = 1), (0 : Int), ([] : List UInt8)), (2 : Int), ()) = _
            have : decide (((d.toNat : Nat) : Int) = 1) = decide (d.toNat = 1) := by by_cases h : d.toNat = 1 <;> simp [h] <;> omega
            rw [this]
            rfl
        · simp only [if_neg h2]
          refine go_o (v := (false, ())) (go_d (by rw [hl]; omega) (go_t (inB_t (by omega) (by rw [hl]; omega)) (go_d (by show ((c.toNat : Nat) : Int) = 1; omega) (go_t (inB_t (by omega) (by rw [hl]; omega)) ?_)))) ?_
          · show some (decide (((d.toNat : Nat) : Int) < 2), ()) = _
            rw [decide_eq_false (by omega)]
          · refine go_o (v := (.inl (((0 : Int), false, (0 : Int), ([] : List UInt8), ()), ()) : ((Int × Bool × Int × List UInt8 × Unit) × Unit) ⊕ ((Int × Bool × Int × List UInt8 × Unit) × Int × Unit))) ?_ ?_
            · by_cases h8 : ((c :: d :: t).length : Int) > 8
              · exact go_d h8 (go_t (inB_t (by omega) (by rw [hl]; omega)) (go_n (by show ¬ ((c.toNat : Nat) : Int) = 2; omega) rfl))
              · exact go_n h8 rfl
            · exact go_o (v := (false, ())) (go_d (by rw [hl]; omega) (go_t (inB_t (by omega) (by rw [hl]; omega)) (go_n (by show ¬ ((c.toNat : Nat) : Int) = 3; omega) rfl))) rfl
    rw [if_neg h1]
    have f1 : fA71.run (k + 9) (c :: r) = some (false, ()) := by
      by_cases h : ((c :: r).length : Int) > 1
      · exact go_d h (go_t (inB_t (by omega) (by rw [hl]; omega)) (go_n (by show ¬ ((c.toNat : Nat) : Int) = 1; omega) rfl))
      · exact go_n h rfl
    refine go_o f1 ?_
    by_cases h2 : c.toNat = 2
    · rw [if_pos h2]
      by_cases h3 : 8 ≤ r.length
      · rw [if_pos h3]
        refine go_o (v := (.inr (((2 : Int), false, IntKind.i64.wrap ((toNum (r.take 8) : Nat) : Int), ([] : List UInt8), ()), (9 : Int), ()) : ((Int × Bool × Int × List UInt8 × Unit) × Unit) ⊕ ((Int × Bool × Int × List UInt8 × Unit) × Int × Unit))) ?_ rfl
        exact go_d (by rw [hl]; omega) (go_t (inB_t (by omega) (by rw [hl]; omega)) (go_d (by show ((c.toNat : Nat) : Int) = 2; omega) (go_t (okB_t (by omega) (by omega) (by rw [hl]; omega)) (go_o (fA163 k (r.take 8) (by rw [List.length_take]; omega)) rfl))))
      · rw [if_neg h3]
        refine go_o (v := (.inl (((0 : Int), false, (0 : Int), ([] : List UInt8), ()), ()) : ((Int × Bool × Int × List UInt8 × Unit) × Unit) ⊕ ((Int × Bool × Int × List UInt8 × Unit) × Int × Unit))) (go_n (by rw [hl]; omega) rfl) ?_
        refine go_o (v := (false, ())) ?_ rfl
        by_cases h : ((c :: r).length : Int) > 1
        · exact go_d h (go_t (inB_t (by omega) (by rw [hl]; omega)) (go_n (by show ¬ ((c.toNat : Nat) : Int) = 3; omega) rfl))
        · exact go_n h rfl
    rw [if_neg h2]
    have f2 : fC71.run (k + 9) (c :: r) 0 false 0 [] = some (.inl (((0 : Int), false, (0 : Int), ([] : List UInt8), ()), ())) := by
      by_cases h : ((c :: r).length : Int) > 8
      · exact go_d h (go_t (inB_t (by omega) (by rw [hl]; omega)) (go_n (by show ¬ ((c.toNat : Nat) : Int) = 2; omega) rfl))
      · exact go_n h rfl
    refine go_o f2 ?_
    by_cases h3 : c.toNat = 3
    · rw [if_pos h3]
      cases r with
      | nil => rfl
      | cons d t =>
        have hd := d.toNat_lt
        have hl : (c :: d :: t).length = t.length + 2 := rfl
        simp only [List.length_cons] at hb
        have w2 : IntKind.i64.wrap ((2 : Int) + ((d.toNat : Nat) : Int)) = ((d.toNat + 2 : Nat) : Int) := by rw [wrap_i64] <;> omega
        have e3 : ∀ {y}, some (decide (((t.length + 2 : Nat) : Int) ≥ ((d.toNat + 2 : Nat) : Int)), ()) = y → d.toNat ≤ 64 → fC70.run (k + 9) (c :: d :: t) = y := fun {y} h h4 => by
          refine go_d (by rw [hl]; omega) (go_t (inB_t (by omega) (by rw [hl]; omega)) (go_d (by show ((c.toNat : Nat) : Int) = 3; omega) (go_t (inB_t (by omega) (by rw [hl]; omega)) (go_d (by show ((d.toNat : Nat) : Int) ≤ 64; omega) (go_t (inB_t (by omega) (by rw [hl]; omega)) ?_)))))
          show some (decide (((t.length + 2 : Nat) : Int) ≥ IntKind.i64.wrap ((2 : Int) + IntKind.i64.wrap ((d.toNat : Nat) : Int))), ()) = _
          rw [fC87, w2]
          exact h
        by_cases h4 : d.toNat ≤ 64
        · by_cases h5 : d.toNat ≤ t.length
          · simp only [if_pos (And.intro h4 h5)]
            refine go_o (v := (true, ())) (e3 (by rw [decide_eq_true (by omega)]) h4) (go_t rfl (go_t (inB_t (by omega) (by rw [hl]; omega)) ?_))
            show (bif okB 2 (IntKind.i64.wrap ((2 : Int) + IntKind.i64.wrap ((d.toNat : Nat) : Int))) (t.length + 2) then some (((3 : Int), false, (0 : Int), ((c :: d :: t).take (IntKind.i64.wrap ((2 : Int) + IntKind.i64.wrap ((d.toNat : Nat) : Int))).toNat).drop 2), IntKind.i64.wrap ((2 : Int) + IntKind.i64.wrap ((d.toNat : Nat) : Int)), ()) else none) = _
            rw [fC87, w2, Int.toNat_natCast]
            exact go_t (okB_t (by omega) (by omega) (by omega)) rfl
          · simp only [if_neg (fun h : d.toNat ≤ 64 ∧ d.toNat ≤ t.length => h5 h.2)]
            exact go_o (v := (false, ())) (e3 (by rw [decide_eq_false (by omega)]) h4) rfl
        · simp only [if_neg (fun h : d.toNat ≤ 64 ∧ d.toNat ≤ t.length => h4 h.1)]
          refine go_o (v := (false, ())) (go_d (by rw [hl]; omega) (go_t (inB_t (by omega) (by rw [hl]; omega)) (go_d (by show ((c.toNat : Nat) : Int) = 3; omega) (go_t (inB_t (by omega) (by rw [hl]; omega)) (go_n (by show ¬ ((d.toNat : Nat) : Int) ≤ 64; omega) rfl))))) rfl
    · rw [if_neg h3]
      refine go_o (v := (false, ())) ?_ rfl
      by_cases h : ((c :: r).length : Int) > 1
      · exact go_d h (go_t (inB_t (by omega) (by rw [hl]; omega)) (go_n (by show ¬ ((c.toNat : Nat) : Int) = 3; omega) rfl))
      · exact go_n h rfl
end Go.Hay.YtpgamibdlinhjaaGreat.Rw
