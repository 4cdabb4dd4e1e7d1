/- Rows and keys out of bytes: what the functions that read them come to. Conditions: sizes below a bound. -/
import Derived.Test.YtpgamibdlinhjaaGreatLrc
set_option linter.unusedVariables false
set_option linter.unusedSimpArgs false
namespace Go.Hay.YtpgamibdlinhjaaGreat.Rw
open Go Go.Hay Go.Proofs

/-- So many values out of bytes, and what is left. -/
def decL : Nat → List UInt8 → Option (List V × List UInt8)
  | 0, b => some ([], b)
  | n + 1, b => match dec1 b with
    | none => none
    | some (v, m) => match decL n (b.drop m) with
      | none => none
      | some (l, r) => some (v :: l, r)

theorem fB121 (k : Nat) (n : Nat) (hn : n ≤ 255) : ∀ (d i : Nat) (b : List UInt8) (row : List V) (fuel : Nat), n = i + d → b.length ≤ 1099511627776 → row.length = i → d < fuel →
    fC32.go (k + 9) fuel b row (n : Int) (i : Int) = match decL d b with | none => some (.inl ([], 30, ())) | some (l, r) => some (.inr (r, row ++ l, ()))
  | _, _, _, _, 0, _, _, _, h => absurd h (Nat.not_lt_zero _)
  | 0, i, b, row, fuel + 1, e, hb, hr, hf => by
    simp only [decL, List.append_nil]
    exact go_n (by omega) rfl
  | d + 1, i, b, row, fuel + 1, e, hb, hr, hf => by
    refine go_d (by omega) ?_
    rw [fA123 k b hb]
    unfold readR
    simp only [decL]
    cases h : dec1 b with
    | none => exact go_o rfl (go_t rfl rfl)
    | some p =>
      obtain ⟨v, m⟩ := p
      refine go_o rfl (go_f rfl (go_t (room_t (by omega) (by omega)) ?_))
      have ih := fB121 k n hn d (i + 1) (b.drop m) (row ++ [v]) fuel (by omega) (by rw [List.length_drop]; omega) (by simp [hr]) (by omega)
      rw [wrap_succ i (by omega)]
      refine ih.trans ?_
      simp only
      cases decL d (b.drop m) with
      | none => rfl
      | some q => obtain ⟨l, r⟩ := q; simp

/-- What is told of reading a row. -/
def decode (b : List UInt8) : Option (List V) :=
  match b with
  | [] => none
  | c :: r => if c.toNat > 16 then none else match decL c.toNat r with
    | none => none
    | some (l, q) => if q.length > 0 then none else some l
def decR (b : List UInt8) : Option (List V × Int × Unit) := match decode b with | none => some ([], 30, ()) | some l => some (l, 0, ())

theorem fC96 (k : Nat) (hk : 256 ≤ k) (b : List UInt8) (hb : b.length ≤ 1099511627776) : fA25.run (k + 9) b = decR b := by
  unfold decR decode
  cases b with
  | nil => rfl
  | cons c r =>
    have hl : (c :: r).length = r.length + 1 := rfl
    rw [hl] at hb
    have hc := c.toNat_lt
    refine go_n (by rw [hl]; omega) (go_t (inB_t (by omega) (by rw [hl]; omega)) ?_)
    by_cases h : c.toNat > 16
    · simp only [if_pos h]
      exact go_d (by show ((c.toNat : Nat) : Int) > 16; omega) rfl
    · simp only [if_neg h]
      refine go_n (by show ¬ ((c.toNat : Nat) : Int) > 16; omega) (go_t (inB_t (by omega) (by rw [hl]; omega)) (go_t (okB_t (by omega) (by rw [hl]; omega) (Int.le_refl _)) ?_))
      have hd := fB121 k c.toNat (by omega) c.toNat 0 r [] (k + 9) (by omega) (by omega) rfl (by omega)
      simp only [List.nil_append] at hd
      show obind (fC32.go (k + 9) (k + 9) r [] (IntKind.i64.wrap ((c.toNat : Nat) : Int)) 0) _ = _
      rw [fC87]
      have hd' : fC32.go (k + 9) (k + 9) r [] ((c.toNat : Nat) : Int) 0 = _ := hd
      rw [hd']
      cases decL c.toNat r with
      | none => rfl
      | some q =>
        obtain ⟨l, q⟩ := q
        refine go_o rfl ?_
        by_cases hq : q.length > 0
        · simp only [if_pos hq]
          exact go_d (by omega) rfl
        · simp only [if_neg hq]
          exact go_n (by omega) rfl

theorem fA100 (k : Nat) (b : List UInt8) (hb : b.length ≤ 1099511627776) (hb0 : 0 < b.length) : ∀ (d i jO_ : Nat) (row : List V) (fuel : Nat), (b.getD 0 (0 : UInt8)).toNat = i + d → jO_ ≤ b.length → row.length = i → d < fuel →
    fC18.go (k + 9) fuel b row (jO_ : Int) (i : Int) = match decL d (b.drop jO_) with | none => some (.inl ([], 30, ())) | some (l, r) => some (.inr (row ++ l, ((b.length - r.length : Nat) : Int), ()))
  | _, _, _, _, 0, _, _, _, h => absurd h (Nat.not_lt_zero _)
  | 0, i, jO_, row, fuel + 1, e, ha, hr, hf => by
    have hc := (b.getD 0 (0 : UInt8)).toNat_lt
    simp only [decL, List.append_nil]
    refine go_t (inB_t (by omega) (by omega)) ?_
    rw [fC87]
    refine go_n (by omega) ?_
    rw [List.length_drop, show b.length - (b.length - jO_) = jO_ by omega]
  | d + 1, i, jO_, row, fuel + 1, e, ha, hr, hf => by
    have hc := (b.getD 0 (0 : UInt8)).toNat_lt
    refine go_t (inB_t (by omega) (by omega)) ?_
    rw [fC87]
    refine go_d (by omega) (go_t (okB_t (by omega) (by omega) (Int.le_refl _)) ?_)
    rw [Int.toNat_natCast, fD153 k (b.drop jO_) (by rw [List.length_drop]; omega)]
    unfold frontR
    simp only [decL]
    cases h : dec1 (b.drop jO_) with
    | none => exact go_o rfl (go_d rfl rfl)
    | some p =>
      obtain ⟨v, m⟩ := p
      have hm := fB162 h
      rw [List.length_drop] at hm
      refine go_o rfl (go_n (by show ¬ ((m : Nat) : Int) = 0; omega) (go_t (room_t (by omega) (by omega)) ?_))
      have ih := fA100 k b hb hb0 d (i + 1) (jO_ + m) (row ++ [v]) fuel (by omega) (by omega) (by simp [hr]) (by omega)
      rw [wrap_succ i (by omega)]
      show fC18.go (k + 9) fuel b (row ++ [v]) (IntKind.i64.wrap ((jO_ : Int) + ((m : Nat) : Int))) ((i + 1 : Nat) : Int) = _
      rw [show IntKind.i64.wrap ((jO_ : Int) + ((m : Nat) : Int)) = ((jO_ + m : Nat) : Int) by rw [wrap_i64] <;> omega]
      rw [← List.drop_drop] at ih
      refine ih.trans ?_
      simp only
      cases decL d ((b.drop jO_).drop m) with
      | none => rfl
      | some q => obtain ⟨l, r⟩ := q; simp

theorem fB124 : ∀ {n : Nat} {b : List UInt8} {l : List V} {r : List UInt8}, decL n b = some (l, r) → r.length ≤ b.length ∧ l.length = n
  | 0, b, l, r, h => by simp [decL] at h; obtain ⟨rfl, rfl⟩ := h; exact ⟨Nat.le_refl _, rfl⟩
  | n + 1, b, l, r, h => by
    simp only [decL] at h
    split at h
    · cases h
    · rename_i v m hd
      split at h
      · cases h
      · rename_i l' r' hd'
        simp only [Option.some.injEq, Prod.mk.injEq] at h
        obtain ⟨rfl, rfl⟩ := h
        obtain ⟨h1, h2⟩ := fB124 hd'
        rw [List.length_drop] at h1
        exact ⟨by omega, by simp [h2]⟩

theorem fB132 (k : Nat) (hk : 256 ≤ k) (b : List UInt8) (hb : b.length ≤ 1099511627776) : fC19.run (k + 9) b = decR b := by
  unfold decR decode
  cases b with
  | nil => rfl
  | cons c r =>
    have hl : (c :: r).length = r.length + 1 := rfl
    have hc := c.toNat_lt
    refine go_n (by rw [hl]; omega) (go_t (inB_t (by omega) (by rw [hl]; omega)) ?_)
    by_cases h : c.toNat > 16
    · simp only [if_pos h]
      exact go_d (by show ((c.toNat : Nat) : Int) > 16; omega) rfl
    · simp only [if_neg h]
      refine go_n (by show ¬ ((c.toNat : Nat) : Int) > 16; omega) ?_
      have hd := fA100 k (c :: r) hb (by rw [hl]; omega) c.toNat 0 1 [] (k + 9) (by show c.toNat = _; omega) (by rw [hl]; omega) rfl (by omega)
      have hd' : fC18.go (k + 9) (k + 9) (c :: r) [] 1 0 = match decL c.toNat r with | none => some (.inl ([], 30, ())) | some (l, r') => some (.inr ([] ++ l, (((c :: r).length - r'.length : Nat) : Int), ())) := hd
      rw [hd']
      cases hq0 : decL c.toNat r with
      | none => rfl
      | some q =>
        obtain ⟨l, q⟩ := q
        have hq1 := (fB124 hq0).1
        refine go_o rfl ?_
        by_cases hq : q.length > 0
        · simp only [if_pos hq]
          exact go_d (by rw [hl]; omega) rfl
        · simp only [if_neg hq]
          exact go_n (by rw [hl]; omega) rfl

/- Keys. -/
/-- A key's text, and what is left. -/
def txt : List UInt8 → Option (List UInt8 × List UInt8)
  | c :: d :: r =>
    if c.toNat = 0 then (if d.toNat = 255 then (match txt r with | none => none | some (s, q) => some (c :: s, q)) else if d.toNat = 0 then some ([], r) else none)
    else match txt (d :: r) with | none => none | some (s, q) => some (c :: s, q)
  | _ => none

/-- The value with whose bytes in a key some begin, and how many these are. -/
def fr1 : List UInt8 → Option (V × Nat)
  | [] => none
  | c :: r =>
    if c.toNat = 2 then (if 8 ≤ r.length then some ((2, false, IntKind.i64.wrap (IntKind.u64.wrap (((toNum (r.take 8) : Nat) : Int) - 9223372036854775808)), []), 9) else none)
    else if c.toNat < 2 then dec1 (c :: r)
    else if c.toNat = 3 then (match txt r with | none => none | some (s, q) => some ((3, false, 0, s), (c :: r).length - q.length))
    else none
end Go.Hay.YtpgamibdlinhjaaGreat.Rw
