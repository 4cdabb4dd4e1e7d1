/- Rows and keys out of bytes: what the functions that read them come to. Conditions: sizes below a bound. -/
import Derived.Test.YtpgamibdlinhjaaLrc
set_option linter.unusedVariables false
set_option linter.unusedSimpArgs false
namespace Go.Hay.Ytpgamibdlinhjaa.Rw
open Go Go.Hay Go.Proofs

/-- So many values out of bytes, and what is left. -/
def decL : Nat → List UInt8 → Option (List V × List UInt8)
  | 0, b => some ([], b)
  | n + 1, b => match dec1 b with
    | none => none
    | some (v, m) => match decL n (b.drop m) with
      | none => none
      | some (l, r) => some (v :: l, r)

theorem decode0_ok (k : Nat) (n : Nat) (hn : n ≤ 255) : ∀ (d i : Nat) (b : List UInt8) (row : List V) (fuel : Nat), n = i + d → b.length ≤ 1099511627776 → row.length = i → d < fuel →
    rows_Decode_0.go (k + 9) fuel b row (n : Int) (i : Int) = match decL d b with | none => some (.inl ([], 30, ())) | some (l, r) => some (.inr (r, row ++ l, ()))
  | _, _, _, _, 0, _, _, _, h => absurd h (Nat.not_lt_zero _)
  | 0, i, b, row, fuel + 1, e, hb, hr, hf => by
    simp only [decL, List.append_nil]
    exact go_n (by omega) rfl
  | d + 1, i, b, row, fuel + 1, e, hb, hr, hf => by
    refine go_d (by omega) ?_
    rw [read_ok k b hb]
    unfold readR
    simp only [decL]
    cases h : dec1 b with
    | none => exact go_o rfl (go_t rfl rfl)
    | some p =>
      obtain ⟨v, m⟩ := p
      refine go_o rfl (go_f rfl (go_t (room_t (by omega) (by omega)) ?_))
      have ih := decode0_ok k n hn d (i + 1) (b.drop m) (row ++ [v]) fuel (by omega) (by rw [List.length_drop]; omega) (by simp [hr]) (by omega)
      rw [wrap_succ i (by omega)]
      refine ih.trans ?_
      simp only
      cases decL d (b.drop m) with
      | none => rfl
      | some q => obtain ⟨l, r⟩ := q; simp

/-- What is told of reading a row. -/
def decode (b : List UInt8) : Option (List V) :=
  match b with
  | [] => none
  | c :: r => if c.toNat > 16 then none else match decL c.toNat r with
    | none => none
    | some (l, q) => if q.length > 0 then none else some l
def decR (b : List UInt8) : Option (List V × Int × Unit) := match decode b with | none => some ([], 30, ()) | some l => some (l, 0, ())

theorem decode_ok (k : Nat) (hk : 256 ≤ k) (b : List UInt8) (hb : b.length ≤ 1099511627776) : rows_Decode.run (k + 9) b = decR b := by
  unfold decR decode
  cases b with
  | nil => rfl
  | cons c r =>
    have hl : (c :: r).length = r.length + 1 := rfl
    rw [hl] at hb
    have hc := c.toNat_lt
    refine go_n (by rw [hl]; omega) (go_t (inB_t (by omega) (by rw [hl]; omega)) ?_)
    by_cases h : c.toNat > 16
    · simp only [if_pos h]
      exact go_d (by show ((c.toNat : Nat) : Int) > 16; omega) rfl
    · simp only [if_neg h]
      refine go_n (by show ¬ ((c.toNat : Nat) : Int) > 16; omega) (go_t (inB_t (by omega) (by rw [hl]; omega)) (go_t (okB_t (by omega) (by rw [hl]; omega) (Int.le_refl _)) ?_))
      have hd := decode0_ok k c.toNat (by omega) c.toNat 0 r [] (k + 9) (by omega) (by omega) rfl (by omega)
      simp only [List.nil_append] at hd
      show obind (rows_Decode_0.go (k + 9) (k + 9) r [] (IntKind.i64.wrap ((c.toNat : Nat) : Int)) 0) _ = _
      rw [byte_i64]
      have hd' : rows_Decode_0.go (k + 9) (k + 9) r [] ((c.toNat : Nat) : Int) 0 = _ := hd
      rw [hd']
      cases decL c.toNat r with
      | none => rfl
      | some q =>
        obtain ⟨l, q⟩ := q
        refine go_o rfl ?_
        by_cases hq : q.length > 0
        · simp only [if_pos hq]
          exact go_d (by omega) rfl
        · simp only [if_neg hq]
          exact go_n (by omega) rfl

theorem decL_le : ∀ {n : Nat} {b : List UInt8} {l : List V} {r : List UInt8}, decL n b = some (l, r) → r.length ≤ b.length ∧ l.length = n
  | 0, b, l, r, h => by simp [decL] at h; obtain ⟨rfl, rfl⟩ := h; exact ⟨Nat.le_refl _, rfl⟩
  | n + 1, b, l, r, h => by
    simp only [decL] at h
    split at h
    · cases h
    · rename_i v m hd
      split at h
      · cases h
      · rename_i l' r' hd'
        simp only [Option.some.injEq, Prod.mk.injEq] at h
        obtain ⟨rfl, rfl⟩ := h
        obtain ⟨h1, h2⟩ := decL_le hd'
        rw [List.length_drop] at h1
        exact ⟨by omega, by simp [h2]⟩

/- Keys. -/
/-- A key's text, and what is left. -/
def txt : List UInt8 → Option (List UInt8 × List UInt8)
  | c :: d :: r =>
    if c.toNat = 0 then (if d.toNat = 255 then (match txt r with | none => none | some (s, q) => some (c :: s, q)) else if d.toNat = 0 then some ([], r) else none)
    else match txt (d :: r) with | none => none | some (s, q) => some (c :: s, q)
  | _ => none

theorem byte_zero {c : UInt8} (h : c.toNat = 0) : c = 0 := UInt8.toNat_inj.1 h
theorem byte_ff {c : UInt8} (h : c.toNat = 255) : c = 255 := UInt8.toNat_inj.1 h

theorem txt_le : ∀ (n : Nat) {b s q : List UInt8}, b.length ≤ n → txt b = some (s, q) → q.length + 2 ≤ b.length ∧ s.length + q.length + 2 ≤ b.length
  | n, [], s, q, hn, h => by simp [txt] at h
  | n, [c], s, q, hn, h => by simp [txt] at h
  | 0, c :: d :: r, s, q, hn, h => by simp at hn
  | n + 1, c :: d :: r, s, q, hn, h => by
    simp only [txt] at h
    simp only [List.length_cons] at hn ⊢
    split at h
    · split at h
      · split at h
        · cases h
        · rename_i t p hp
          simp only [Option.some.injEq, Prod.mk.injEq] at h
          obtain ⟨rfl, rfl⟩ := h
          have := txt_le n (by omega) hp
          simp only [List.length_cons]; omega
      · split at h
        · simp only [Option.some.injEq, Prod.mk.injEq] at h
          obtain ⟨rfl, rfl⟩ := h
          simp
        · cases h
    · split at h
      · cases h
      · rename_i t p hp
        simp only [Option.some.injEq, Prod.mk.injEq] at h
        obtain ⟨rfl, rfl⟩ := h
        have := txt_le n (by simp; omega) hp
        simp only [List.length_cons] at this ⊢; omega

/-- The value with whose bytes in a key some begin, and how many these are. -/
def fr1 : List UInt8 → Option (V × Nat)
  | [] => none
  | c :: r =>
    if c.toNat = 2 then (if 8 ≤ r.length then some ((2, false, IntKind.i64.wrap (IntKind.u64.wrap (((toNum (r.take 8) : Nat) : Int) - 9223372036854775808)), []), 9) else none)
    else if c.toNat < 2 then dec1 (c :: r)
    else if c.toNat = 3 then (match txt r with | none => none | some (s, q) => some ((3, false, 0, s), (c :: r).length - q.length))
    else none
theorem fr1_le {b : List UInt8} {v : V} {n : Nat} (h : fr1 b = some (v, n)) : 0 < n ∧ n ≤ b.length := by
  unfold fr1 at h
  split at h
  · cases h
  · rename_i c r
    split at h
    · split at h
      · simp at h; simp; omega
      · cases h
    split at h
    · exact dec1_le h
    split at h
    · split at h
      · cases h
      · rename_i s q hq
        have := txt_le r.length (Nat.le_refl _) hq
        simp only [Option.some.injEq, Prod.mk.injEq] at h
        obtain ⟨_, rfl⟩ := h
        simp only [List.length_cons]; omega
    · cases h

theorem txt_drop : ∀ (n : Nat) {b s q : List UInt8}, b.length ≤ n → txt b = some (s, q) → b.drop (b.length - q.length) = q
  | n, [], s, q, hn, h => by simp [txt] at h
  | n, [c], s, q, hn, h => by simp [txt] at h
  | 0, c :: d :: r, s, q, hn, h => by simp at hn
  | n + 1, c :: d :: r, s, q, hn, h => by
    have hle := (txt_le _ (Nat.le_refl _) h).1
    simp only [txt] at h
    simp only [List.length_cons] at hn hle ⊢
    split at h
    · split at h
      · split at h
        · cases h
        · rename_i t p hp
          simp only [Option.some.injEq, Prod.mk.injEq] at h
          obtain ⟨rfl, rfl⟩ := h
          have h1 := txt_drop n (by omega) hp
          have h2 := (txt_le _ (Nat.le_refl _) hp).1
          rw [show r.length + 1 + 1 - p.length = (r.length - p.length) + 2 by omega]
          exact h1
      · split at h
        · simp only [Option.some.injEq, Prod.mk.injEq] at h
          obtain ⟨rfl, rfl⟩ := h
          rw [show r.length + 1 + 1 - r.length = 2 by omega]
          rfl
        · cases h
    · split at h
      · cases h
      · rename_i t p hp
        simp only [Option.some.injEq, Prod.mk.injEq] at h
        obtain ⟨rfl, rfl⟩ := h
        have h1 := txt_drop n (by simp; omega) hp
        have h2 := (txt_le _ (Nat.le_refl _) hp).1
        simp only [List.length_cons] at h1 h2
        rw [show r.length + 1 + 1 - p.length = (r.length + 1 - p.length) + 1 by omega]
        exact h1

end Go.Hay.Ytpgamibdlinhjaa.Rw
