/- Rows and keys out of bytes: what the functions that read them come to. Conditions: sizes below a bound. -/
import Derived.Test.YtkdcillgnlfabaaLc
set_option linter.unusedVariables false
set_option linter.unusedSimpArgs false
namespace Go.Hay.Ytkdcillgnlfabaa
open Go Go.Hay Go.Proofs

/-- So many values out of bytes, and what is left. -/
def decL : Nat → List UInt8 → Option (List V × List UInt8)
  | 0, b => some ([], b)
  | n + 1, b => match dec1 b with
    | none => none
    | some (v, m) => match decL n (b.drop m) with
      | none => none
      | some (l, r) => some (v :: l, r)

theorem decode0_ok (k : Nat) (n : Nat) (hn : n ≤ 255) : ∀ (d i : Nat) (b : List UInt8) (row : List V) (fuel : Nat), n = i + d → b.length ≤ 1099511627776 → row.length = i → d < fuel →
    rows_Decode_0.go (k + 9) fuel b row (n : Int) (i : Int) = match decL d b with | none => some (.inl ([], 30, ())) | some (l, r) => some (.inr (r, row ++ l, ()))
  | _, _, _, _, 0, _, _, _, h => absurd h (Nat.not_lt_zero _)
  | 0, i, b, row, fuel + 1, e, hb, hr, hf => by
    simp only [decL, List.append_nil]
    exact go_n (by omega) rfl
  | d + 1, i, b, row, fuel + 1, e, hb, hr, hf => by
    refine go_d (by omega) ?_
    rw [read_ok k b hb]
    unfold readR
    simp only [decL]
    cases h : dec1 b with
    | none => exact go_o rfl (go_t rfl rfl)
    | some p =>
      obtain ⟨v, m⟩ := p
      refine go_o rfl (go_f rfl (go_t (room_t (by omega) (by omega)) ?_))
      have ih := decode0_ok k n hn d (i + 1) (b.drop m) (row ++ [v]) fuel (by omega) (by rw [List.length_drop]; omega) (by simp [hr]) (by omega)
      rw [wrap_succ i (by omega)]
      refine ih.trans ?_
      simp only
      cases decL d (b.drop m) with
      | none => rfl
      | some q => obtain ⟨l, r⟩ := q; simp

/-- What is told of reading a row. -/
def decode (b : List UInt8) : Option (List V) :=
  match b with
  | [] => none
  | c :: r => if c.toNat > 16 then none else match decL c.toNat r with
    | none => none
    | some (l, q) => if q.length > 0 then none else some l
def decR (b : List UInt8) : Option (List V × Int × Unit) := match decode b with | none => some ([], 30, ()) | some l => some (l, 0, ())

theorem decode_ok (k : Nat) (hk : 256 ≤ k) (b : List UInt8) (hb : b.length ≤ 1099511627776) : rows_Decode.run (k + 9) b = decR b := by
  unfold decR decode
  cases b with
  | nil => rfl
  | cons c r =>
    have hl : (c :: r).length = r.length + 1 := rfl
    rw [hl] at hb
    have hc := c.toNat_lt
    refine go_n (by rw [hl]; omega) (go_t (inB_t (by omega) (by rw [hl]; omega)) ?_)
    by_cases h : c.toNat > 16
    · simp only [if_pos h]
      exact go_d (by show ((c.toNat : Nat) : Int) > 16; omega) rfl
    · simp only [if_neg h]
      refine go_n (by show ¬ ((c.toNat : Nat) : Int) > 16; omega) (go_t (inB_t (by omega) (by rw [hl]; omega)) (go_t (okB_t (by omega) (by rw [hl]; omega) (Int.le_refl _)) ?_))
      have hd := decode0_ok k c.toNat (by omega) c.toNat 0 r [] (k + 9) (by omega) (by omega) rfl (by omega)
      simp only [List.nil_append] at hd
      show obind (rows_Decode_0.go (k + 9) (k + 9) r [] (IntKind.i64.wrap ((c.toNat : Nat) : Int)) 0) _ = _
      rw [byte_i64]
      have hd' : rows_Decode_0.go (k + 9) (k + 9) r [] ((c.toNat : Nat) : Int) 0 = _ := hd
      rw [hd']
      cases decL c.toNat r with
      | none => rfl
      | some q =>
        obtain ⟨l, q⟩ := q
        refine go_o rfl ?_
        by_cases hq : q.length > 0
        · simp only [if_pos hq]
          exact go_d (by omega) rfl
        · simp only [if_neg hq]
          exact go_n (by omega) rfl

theorem ref_decode0_ok (k : Nat) (b : List UInt8) (hb : b.length ≤ 1099511627776) (hb0 : 0 < b.length) : ∀ (d i at_ : Nat) (row : List V) (fuel : Nat), (b.getD 0 (0 : UInt8)).toNat = i + d → at_ ≤ b.length → row.length = i → d < fuel →
    ref_Decode_0.go (k + 9) fuel b row (at_ : Int) (i : Int) = match decL d (b.drop at_) with | none => some (.inl ([], 30, ())) | some (l, r) => some (.inr (row ++ l, ((b.length - r.length : Nat) : Int), ()))
  | _, _, _, _, 0, _, _, _, h => absurd h (Nat.not_lt_zero _)
  | 0, i, at_, row, fuel + 1, e, ha, hr, hf => by
    have hc := (b.getD 0 (0 : UInt8)).toNat_lt
    simp only [decL, List.append_nil]
    refine go_t (inB_t (by omega) (by omega)) ?_
    rw [byte_i64]
    refine go_n (by omega) ?_
    rw [List.length_drop, show b.length - (b.length - at_) = at_ by omega]
  | d + 1, i, at_, row, fuel + 1, e, ha, hr, hf => by
    have hc := (b.getD 0 (0 : UInt8)).toNat_lt
    refine go_t (inB_t (by omega) (by omega)) ?_
    rw [byte_i64]
    refine go_d (by omega) (go_t (okB_t (by omega) (by omega) (Int.le_refl _)) ?_)
    rw [Int.toNat_natCast, front_ok k (b.drop at_) (by rw [List.length_drop]; omega)]
    unfold frontR
    simp only [decL]
    cases h : dec1 (b.drop at_) with
    | none => exact go_o rfl (go_d rfl rfl)
    | some p =>
      obtain ⟨v, m⟩ := p
      have hm := dec1_le h
      rw [List.length_drop] at hm
      refine go_o rfl (go_n (by show ¬ ((m : Nat) : Int) = 0; omega) (go_t (room_t (by omega) (by omega)) ?_))
      have ih := ref_decode0_ok k b hb hb0 d (i + 1) (at_ + m) (row ++ [v]) fuel (by omega) (by omega) (by simp [hr]) (by omega)
      rw [wrap_succ i (by omega)]
      show ref_Decode_0.go (k + 9) fuel b (row ++ [v]) (IntKind.i64.wrap ((at_ : Int) + ((m : Nat) : Int))) ((i + 1 : Nat) : Int) = _
      rw [show IntKind.i64.wrap ((at_ : Int) + ((m : Nat) : Int)) = ((at_ + m : Nat) : Int) by rw [wrap_i64] <;> omega]
      rw [← List.drop_drop] at ih
      refine ih.trans ?_
      simp only
      cases decL d ((b.drop at_).drop m) with
      | none => rfl
      | some q => obtain ⟨l, r⟩ := q; simp

theorem decL_le : ∀ {n : Nat} {b : List UInt8} {l : List V} {r : List UInt8}, decL n b = some (l, r) → r.length ≤ b.length ∧ l.length = n
  | 0, b, l, r, h => by simp [decL] at h; obtain ⟨rfl, rfl⟩ := h; exact ⟨Nat.le_refl _, rfl⟩
  | n + 1, b, l, r, h => by
    simp only [decL] at h
    split at h
    · cases h
    · rename_i v m hd
      split at h
      · cases h
      · rename_i l' r' hd'
        simp only [Option.some.injEq, Prod.mk.injEq] at h
        obtain ⟨rfl, rfl⟩ := h
        obtain ⟨h1, h2⟩ := decL_le hd'
        rw [List.length_drop] at h1
        exact ⟨by omega, by simp [h2]⟩

theorem ref_decode_ok (k : Nat) (hk : 256 ≤ k) (b : List UInt8) (hb : b.length ≤ 1099511627776) : ref_Decode.run (k + 9) b = decR b := by
  unfold decR decode
  cases b with
  | nil => rfl
  | cons c r =>
    have hl : (c :: r).length = r.length + 1 := rfl
    have hc := c.toNat_lt
    refine go_n (by rw [hl]; omega) (go_t (inB_t (by omega) (by rw [hl]; omega)) ?_)
    by_cases h : c.toNat > 16
    · simp only [if_pos h]
      exact go_d (by show ((c.toNat : Nat) : Int) > 16; omega) rfl
    · simp only [if_neg h]
      refine go_n (by show ¬ ((c.toNat : Nat) : Int) > 16; omega) ?_
      have hd := ref_decode0_ok k (c :: r) hb (by rw [hl]; omega) c.toNat 0 1 [] (k + 9) (by show c.toNat = _; omega) (by rw [hl]; omega) rfl (by omega)
      have hd' : ref_Decode_0.go (k + 9) (k + 9) (c :: r) [] 1 0 = match decL c.toNat r with | none => some (.inl ([], 30, ())) | some (l, r') => some (.inr ([] ++ l, (((c :: r).length - r'.length : Nat) : Int), ())) := hd
      rw [hd']
      cases hq0 : decL c.toNat r with
      | none => rfl
      | some q =>
        obtain ⟨l, q⟩ := q
        have hq1 := (decL_le hq0).1
        refine go_o rfl ?_
        by_cases hq : q.length > 0
        · simp only [if_pos hq]
          exact go_d (by rw [hl]; omega) rfl
        · simp only [if_neg hq]
          exact go_n (by rw [hl]; omega) rfl

/- Keys. -/
/-- A key's text, and what is left. -/
def txt : List UInt8 → Option (List UInt8 × List UInt8)
  | c :: d :: r =>
    if c.toNat = 0 then (if d.toNat = 255 then (match txt r with | none => none | some (s, q) => some (c :: s, q)) else if d.toNat = 0 then some ([], r) else none)
    else match txt (d :: r) with | none => none | some (s, q) => some (c :: s, q)
  | _ => none

theorem byte_zero {c : UInt8} (h : c.toNat = 0) : c = 0 := UInt8.toNat_inj.1 h
theorem byte_ff {c : UInt8} (h : c.toNat = 255) : c = 255 := UInt8.toNat_inj.1 h

theorem text0_ok (N : Nat) : ∀ (n : Nat) (b s : List UInt8) (fuel : Nat), b.length ≤ n → b.length < fuel → s.length + b.length ≤ 1099511627776 →
    match txt b with
    | some (t, q) => rows_text_0.go N fuel b s = some (.inl (s ++ t, q, true, ()))
    | none => rows_text_0.go N fuel b s = some (.inr ()) ∨ ∃ t q, rows_text_0.go N fuel b s = some (.inl (t, q, false, ()))
  | n, [], s, 0, hn, hf, hs => by simp at hf
  | n, [], s, fuel + 1, hn, hf, hs => .inl (go_n (by simp) rfl)
  | n, [c], s, 0, hn, hf, hs => by simp at hf
  | n, [c], s, fuel + 1, hn, hf, hs => .inl (go_n (by simp) rfl)
  | n, c :: d :: r, s, 0, hn, hf, hs => by simp at hf
  | 0, c :: d :: r, s, fuel + 1, hn, hf, hs => by simp at hn
  | n + 1, c :: d :: r, s, fuel + 1, hn, hf, hs => by
    have hl : (c :: d :: r).length = r.length + 2 := rfl
    rw [hl] at hn hf hs
    have hc := c.toNat_lt
    have hd := d.toNat_lt
    have i0 : inB (0 : Int) (c :: d :: r).length = true := inB_t (by omega) (by rw [hl]; omega)
    have i1 : inB (1 : Int) (c :: d :: r).length = true := inB_t (by omega) (by rw [hl]; omega)
    have o1 : okB (1 : Int) ((c :: d :: r).length : Int) (c :: d :: r).length = true := okB_t (by omega) (by rw [hl]; omega) (Int.le_refl _)
    have o2 : okB (2 : Int) ((c :: d :: r).length : Int) (c :: d :: r).length = true := okB_t (by omega) (by rw [hl]; omega) (Int.le_refl _)
    have hr1 : room (s.length + 1) 1 = true := room_t (by omega) (by omega)
    simp only [txt]
    by_cases h0 : c.toNat = 0
    · have z : decide ((((c :: d :: r).getD 0 (0 : UInt8)).toNat : Int) = (0 : Int)) = true := decide_eq_true (by show ((c.toNat : Nat) : Int) = 0; omega)
      rw [if_pos h0]
      have st : ∀ {y}, (bif decide (((d.toNat : Nat) : Int) = (255 : Int)) then
              rows_text_0.go N fuel r (s ++ [0])
            else some (.inl (s, r, decide (((d.toNat : Nat) : Int) = (0 : Int)), ()))) = y → rows_text_0.go N (fuel + 1) (c :: d :: r) s = y := fun {y} h => by
        refine go_d (by rw [hl]; omega) (go_t i0 (go_f (by rw [z]; rfl) (go_t i1 ?_)))
        by_cases h255 : d.toNat = 255
        · rw [decide_eq_true (show ((d.toNat : Nat) : Int) = 255 by omega)] at h
          exact go_d (by show ((d.toNat : Nat) : Int) = 255; omega) (go_t hr1 (go_t o2 h))
        · rw [decide_eq_false (show ¬ ((d.toNat : Nat) : Int) = 255 by omega)] at h
          exact go_n (by show ¬ ((d.toNat : Nat) : Int) = 255; omega) (go_t o2 (go_t i1 h))
      by_cases h1 : d.toNat = 255
      · rw [if_pos h1]
        have c0 := byte_zero h0
        have ih := text0_ok N n r (s ++ [0]) fuel (by omega) (by omega) (by simp; omega)
        cases hq : txt r with
        | none =>
          rw [hq] at ih
          rcases ih with ih | ⟨t, q, ih⟩
          · exact .inl (st (by rw [decide_eq_true (show ((d.toNat : Nat) : Int) = 255 by omega)]; exact ih))
          · exact .inr ⟨t, q, st (by rw [decide_eq_true (show ((d.toNat : Nat) : Int) = 255 by omega)]; exact ih)⟩
        | some p =>
          obtain ⟨t, q⟩ := p
          rw [hq] at ih
          refine st ?_
          rw [decide_eq_true (show ((d.toNat : Nat) : Int) = 255 by omega)]
          refine Eq.trans ih ?_
          rw [c0]; simp
      · rw [if_neg h1]
        by_cases h2 : d.toNat = 0
        · rw [if_pos h2]
          refine st ?_
          rw [decide_eq_false (show ¬ ((d.toNat : Nat) : Int) = 255 by omega), decide_eq_true (show ((d.toNat : Nat) : Int) = 0 by omega)]
          simp
        · rw [if_neg h2]
          refine .inr ⟨s, r, st ?_⟩
          rw [decide_eq_false (show ¬ ((d.toNat : Nat) : Int) = 255 by omega), decide_eq_false (show ¬ ((d.toNat : Nat) : Int) = 0 by omega)]
          rfl
    · rw [if_neg h0]
      have st : ∀ {y}, rows_text_0.go N fuel (d :: r) (s ++ [c]) = y → rows_text_0.go N (fuel + 1) (c :: d :: r) s = y := fun {y} h => by
        refine go_d (by rw [hl]; omega) (go_t i0 (go_nn (by show ¬ ((c.toNat : Nat) : Int) = 0; omega) (go_t i0 (go_t hr1 (go_t o1 ?_)))))
        show rows_text_0.go N fuel (d :: r) (s ++ [Hay.u8 ((c.toNat : Nat) : Int)]) = _
        rw [u8_byte']
        exact h
      have ih := text0_ok N n (d :: r) (s ++ [c]) fuel (by simp; omega) (by simp; omega) (by simp; omega)
      cases hq : txt (d :: r) with
      | none =>
        rw [hq] at ih
        rcases ih with ih | ⟨t, q, ih⟩
        · exact .inl (st ih)
        · exact .inr ⟨t, q, st ih⟩
      | some p =>
        obtain ⟨t, q⟩ := p
        rw [hq] at ih
        refine st (Eq.trans ih ?_)
        simp
theorem text_ok (N : Nat) (b : List UInt8) (hb : b.length ≤ 1099511627776) (hN : b.length < N) :
    match txt b with
    | some (t, q) => rows_text.run N b = some (t, q, true, ())
    | none => ∃ t q, rows_text.run N b = some (t, q, false, ()) := by
  have h := text0_ok N b.length b [] N (Nat.le_refl _) hN (by simpa using hb)
  cases hq : txt b with
  | none =>
    rw [hq] at h
    rcases h with h | ⟨t, q, h⟩
    · exact ⟨[], [], go_o h rfl⟩
    · exact ⟨t, q, go_o h rfl⟩
  | some p =>
    obtain ⟨t, q⟩ := p
    rw [hq] at h
    exact go_o h rfl
theorem txt_le : ∀ (n : Nat) {b s q : List UInt8}, b.length ≤ n → txt b = some (s, q) → q.length + 2 ≤ b.length ∧ s.length + q.length + 2 ≤ b.length
  | n, [], s, q, hn, h => by simp [txt] at h
  | n, [c], s, q, hn, h => by simp [txt] at h
  | 0, c :: d :: r, s, q, hn, h => by simp at hn
  | n + 1, c :: d :: r, s, q, hn, h => by
    simp only [txt] at h
    simp only [List.length_cons] at hn ⊢
    split at h
    · split at h
      · split at h
        · cases h
        · rename_i t p hp
          simp only [Option.some.injEq, Prod.mk.injEq] at h
          obtain ⟨rfl, rfl⟩ := h
          have := txt_le n (by omega) hp
          simp only [List.length_cons]; omega
      · split at h
        · simp only [Option.some.injEq, Prod.mk.injEq] at h
          obtain ⟨rfl, rfl⟩ := h
          simp
        · cases h
    · split at h
      · cases h
      · rename_i t p hp
        simp only [Option.some.injEq, Prod.mk.injEq] at h
        obtain ⟨rfl, rfl⟩ := h
        have := txt_le n (by simp; omega) hp
        simp only [List.length_cons] at this ⊢; omega

/-- The value with whose bytes in a key some begin, and how many these are. -/
def fr1 : List UInt8 → Option (V × Nat)
  | [] => none
  | c :: r =>
    if c.toNat = 2 then (if 8 ≤ r.length then some ((2, false, IntKind.i64.wrap (IntKind.u64.wrap (((toNum (r.take 8) : Nat) : Int) - 9223372036854775808)), []), 9) else none)
    else if c.toNat < 2 then dec1 (c :: r)
    else if c.toNat = 3 then (match txt r with | none => none | some (s, q) => some ((3, false, 0, s), (c :: r).length - q.length))
    else none
theorem fr1_le {b : List UInt8} {v : V} {n : Nat} (h : fr1 b = some (v, n)) : 0 < n ∧ n ≤ b.length := by
  unfold fr1 at h
  split at h
  · cases h
  · rename_i c r
    split at h
    · split at h
      · simp at h; simp; omega
      · cases h
    split at h
    · exact dec1_le h
    split at h
    · split at h
      · cases h
      · rename_i s q hq
        have := txt_le r.length (Nat.le_refl _) hq
        simp only [Option.some.injEq, Prod.mk.injEq] at h
        obtain ⟨_, rfl⟩ := h
        simp only [List.length_cons]; omega
    · cases h

theorem txt_drop : ∀ (n : Nat) {b s q : List UInt8}, b.length ≤ n → txt b = some (s, q) → b.drop (b.length - q.length) = q
  | n, [], s, q, hn, h => by simp [txt] at h
  | n, [c], s, q, hn, h => by simp [txt] at h
  | 0, c :: d :: r, s, q, hn, h => by simp at hn
  | n + 1, c :: d :: r, s, q, hn, h => by
    have hle := (txt_le _ (Nat.le_refl _) h).1
    simp only [txt] at h
    simp only [List.length_cons] at hn hle ⊢
    split at h
    · split at h
      · split at h
        · cases h
        · rename_i t p hp
          simp only [Option.some.injEq, Prod.mk.injEq] at h
          obtain ⟨rfl, rfl⟩ := h
          have h1 := txt_drop n (by omega) hp
          have h2 := (txt_le _ (Nat.le_refl _) hp).1
          rw [show r.length + 1 + 1 - p.length = (r.length - p.length) + 2 by omega]
          exact h1
      · split at h
        · simp only [Option.some.injEq, Prod.mk.injEq] at h
          obtain ⟨rfl, rfl⟩ := h
          rw [show r.length + 1 + 1 - r.length = 2 by omega]
          rfl
        · cases h
    · split at h
      · cases h
      · rename_i t p hp
        simp only [Option.some.injEq, Prod.mk.injEq] at h
        obtain ⟨rfl, rfl⟩ := h
        have h1 := txt_drop n (by simp; omega) hp
        have h2 := (txt_le _ (Nat.le_refl _) hp).1
        simp only [List.length_cons] at h1 h2
        rw [show r.length + 1 + 1 - p.length = (r.length + 1 - p.length) + 1 by omega]
        exact h1

/-- One value out of a key. -/
theorem unkey1_ok (k : Nat) (b : List UInt8) (hb : b.length ≤ 1099511627776) (hb0 : 0 < b.length) (hk : b.length < k) :
    match fr1 b with
    | some (v, n) => rows_Unkey_0_1.run (k + 9) b 0 false 0 [] true = some ((v.1, v.2.1, v.2.2.1, v.2.2.2, ()), b.drop n, true, ())
    | none => ∃ v q, rows_Unkey_0_1.run (k + 9) b 0 false 0 [] true = some (v, q, false, ()) := by
  cases b with
  | nil => simp at hb0
  | cons c r =>
    have hl : (c :: r).length = r.length + 1 := rfl
    have hc := c.toNat_lt
    have i0 : inB (0 : Int) (c :: r).length = true := inB_t (by omega) (by rw [hl]; omega)
    have o1 : okB (1 : Int) ((c :: r).length : Int) (c :: r).length = true := okB_t (by omega) (by rw [hl]; omega) (Int.le_refl _)
    rw [hl] at hb hk
    simp only [fr1]
    by_cases h2 : c.toNat = 2
    · rw [if_pos h2]
      have r0 : rows_Unkey_0_1_0.run (k + 9) (c :: r) = some (decide (8 ≤ r.length), ()) := by
        refine go_t i0 (go_d (by show ((c.toNat : Nat) : Int) = 2; omega) ?_)
        rw [hl]
        by_cases h : 8 ≤ r.length
        · rw [decide_eq_true h, decide_eq_true (by omega)]
        · rw [decide_eq_false h, decide_eq_false (by omega)]
      by_cases h3 : 8 ≤ r.length
      · rw [if_pos h3]
        exact go_o r0 (go_t (decide_eq_true h3) (go_t o1 (go_o (number_ok k r h3) (go_o rfl (go_t (okB_t (by omega) (by rw [hl]; omega) (Int.le_refl _)) rfl)))))
      · rw [if_neg h3]
        have hd : dec1 (c :: r) = none := by simp [dec1, h2, h3]
        have hr := read_ok k (c :: r) (by rw [hl]; omega)
        unfold readR at hr
        rw [hd] at hr
        exact ⟨_, _, go_o r0 (go_f (decide_eq_false h3) (go_t i0 (go_n (by show ¬ ((c.toNat : Nat) : Int) = 3; omega) (go_o hr rfl))))⟩
    rw [if_neg h2]
    have r0 : rows_Unkey_0_1_0.run (k + 9) (c :: r) = some (false, ()) := go_t i0 (go_n (by show ¬ ((c.toNat : Nat) : Int) = 2; omega) rfl)
    by_cases h1 : c.toNat < 2
    · rw [if_pos h1]
      have hr := read_ok k (c :: r) (by rw [hl]; omega)
      unfold readR at hr
      cases hd : dec1 (c :: r) with
      | none =>
        rw [hd] at hr
        exact ⟨_, _, go_o r0 (go_f rfl (go_t i0 (go_n (by show ¬ ((c.toNat : Nat) : Int) = 3; omega) (go_o hr rfl))))⟩
      | some p =>
        obtain ⟨v, n⟩ := p
        rw [hd] at hr
        exact go_o r0 (go_f rfl (go_t i0 (go_n (by show ¬ ((c.toNat : Nat) : Int) = 3; omega) (go_o hr rfl))))
    rw [if_neg h1]
    by_cases h3 : c.toNat = 3
    · rw [if_pos h3]
      have ht := text_ok (k + 9) r (by omega) (by omega)
      cases hq : txt r with
      | none =>
        rw [hq] at ht
        obtain ⟨t, q, ht⟩ := ht
        exact ⟨_, _, go_o r0 (go_f rfl (go_t i0 (go_d (by show ((c.toNat : Nat) : Int) = 3; omega) (go_t o1 (go_o ht (go_o rfl rfl))))))⟩
      | some p =>
        obtain ⟨t, q⟩ := p
        rw [hq] at ht
        have h5 := (txt_le _ (Nat.le_refl _) hq).1
        have h6 := txt_drop _ (Nat.le_refl _) hq
        refine go_o r0 (go_f rfl (go_t i0 (go_d (by show ((c.toNat : Nat) : Int) = 3; omega) (go_t o1 (go_o ht (go_o rfl ?_))))))
        rw [hl, show r.length + 1 - q.length = (r.length - q.length) + 1 by omega]
        show some (((3 : Int), false, (0 : Int), t, ()), q, true, ()) = some (((3 : Int), false, (0 : Int), t, ()), r.drop (r.length - q.length), true, ())
        rw [h6]
    · rw [if_neg h3]
      have hd : dec1 (c :: r) = none := by
        have h0 : ¬ c.toNat = 0 := by omega
        have h1' : ¬ c.toNat = 1 := by omega
        simp [dec1, h0, h1', h2, h3]
      have hr := read_ok k (c :: r) (by rw [hl]; omega)
      unfold readR at hr
      rw [hd] at hr
      exact ⟨_, _, go_o r0 (go_f rfl (go_t i0 (go_n (by show ¬ ((c.toNat : Nat) : Int) = 3; omega) (go_o hr rfl))))⟩
end Go.Hay.Ytkdcillgnlfabaa
