/- Rows as bytes, there and back. Conditions: numbers that fit. -/
import Derived.Test.YtkdcillgnlfabaaLf
set_option linter.unusedVariables false
set_option linter.unusedSimpArgs false
namespace Go.Hay.Ytkdcillgnlfabaa
open Go Go.Hay Go.Proofs

def fitsV (v : V) : Prop := -9223372036854775808 ≤ v.2.2.1 ∧ v.2.2.1 < 9223372036854775808
def fitsL (l : List V) : Prop := ∀ v ∈ l, fitsV v
theorem fits_i64 {v : V} (h : fits .i64 v.2.2.1 = true) : fitsV v := by
  have : -9223372036854775808 ≤ v.2.2.1 ∧ v.2.2.1 < 9223372036854775808 := by simpa [fits] using h
  exact this

theorem u64_nat (n : Int) : ∃ x : Nat, IntKind.u64.wrap n = (x : Int) ∧ x < 18446744073709551616 := ⟨(n % 18446744073709551616).toNat, by rw [w_u64]; omega, by omega⟩
theorem back_num {n : Int} (h1 : -9223372036854775808 ≤ n) (h2 : n < 9223372036854775808) : IntKind.i64.wrap ((toNum (num8 (IntKind.u64.wrap n)) : Nat) : Int) = n := by
  obtain ⟨x, hx, hl⟩ := u64_nat n
  rw [hx, toNum_num8 x hl, ← hx, w_u64, w_i64]
  omega
theorem back_key {n : Int} (h1 : -9223372036854775808 ≤ n) (h2 : n < 9223372036854775808) : IntKind.i64.wrap (IntKind.u64.wrap (((toNum (num8 (IntKind.u64.wrap (IntKind.u64.wrap n + 9223372036854775808))) : Nat) : Int) - 9223372036854775808)) = n := by
  obtain ⟨x, hx, hl⟩ := u64_nat (IntKind.u64.wrap n + 9223372036854775808)
  rw [hx, toNum_num8 x hl, ← hx, w_u64, w_u64, w_u64, w_i64]
  omega
theorem forth_num {l : List UInt8} (h : l.length = 8) : num8 (IntKind.u64.wrap (IntKind.i64.wrap ((toNum l : Nat) : Int))) = l := by
  have := toNum_lt8 (l := l) (by omega)
  have e : IntKind.u64.wrap (IntKind.i64.wrap ((toNum l : Nat) : Int)) = ((toNum l : Nat) : Int) := by rw [w_u64, w_i64]; omega
  rw [e, num8_toNum h]
theorem forth_key {l : List UInt8} (h : l.length = 8) : num8 (IntKind.u64.wrap (IntKind.u64.wrap (IntKind.i64.wrap (IntKind.u64.wrap (((toNum l : Nat) : Int) - 9223372036854775808))) + 9223372036854775808)) = l := by
  have := toNum_lt8 (l := l) (by omega)
  have e : IntKind.u64.wrap (IntKind.u64.wrap (IntKind.i64.wrap (IntKind.u64.wrap (((toNum l : Nat) : Int) - 9223372036854775808))) + 9223372036854775808) = ((toNum l : Nat) : Int) := by rw [w_u64, w_u64, w_i64, w_u64]; omega
  rw [e, num8_toNum h]
theorem i64_range (x : Int) : -9223372036854775808 ≤ IntKind.i64.wrap x ∧ IntKind.i64.wrap x < 9223372036854775808 := by rw [w_i64]; omega

theorem take_num8 (x : Int) (r : List UInt8) : (num8 x ++ r).take 8 = num8 x := by
  rw [List.take_left' (num8_len x)]

/-- What is written is read. -/
theorem dec1_enc1 {v : V} (hv : right v = true) (hf : fitsV v) (r : List UInt8) : dec1 (enc1 v ++ r) = some (v, (enc1 v).length) := by
  rcases right_cases hv with rfl | ⟨c, rfl⟩ | ⟨n, rfl⟩ | ⟨s, rfl, hs⟩
  · rfl
  · cases c <;> rfl
  · have e : enc1 ((2 : Int), false, n, ([] : List UInt8)) = 2 :: num8 (IntKind.u64.wrap n) := rfl
    have hl : 8 ≤ (num8 (IntKind.u64.wrap n) ++ r).length := by rw [List.length_append, num8_len]; omega
    rw [e, List.cons_append]
    show (if 8 ≤ (num8 (IntKind.u64.wrap n) ++ r).length then some (((2 : Int), false, IntKind.i64.wrap ((toNum ((num8 (IntKind.u64.wrap n) ++ r).take 8) : Nat) : Int), ([] : List UInt8)), 9) else none) = _
    rw [if_pos hl, take_num8, back_num hf.1 hf.2, List.length_cons, num8_len]
  · have e : enc1 ((3 : Int), false, (0 : Int), s) = 3 :: UInt8.ofNat s.length :: s := rfl
    have hn : (UInt8.ofNat s.length).toNat = s.length := by rw [UInt8.toNat_ofNat']; omega
    rw [e]
    show (if (UInt8.ofNat s.length).toNat ≤ 64 ∧ (UInt8.ofNat s.length).toNat ≤ (s ++ r).length then some (((3 : Int), false, (0 : Int), (s ++ r).take (UInt8.ofNat s.length).toNat), (UInt8.ofNat s.length).toNat + 2) else none) = _
    rw [hn, if_pos ⟨hs, by simp⟩, List.take_left' rfl]
    simp

theorem byte_of {c : UInt8} {n : Nat} (h : c.toNat = n) : c = UInt8.ofNat n := by rw [← h]; simp

/-- What is read is written so. -/
theorem dec1_inv {b : List UInt8} {v : V} {m : Nat} (h : dec1 b = some (v, m)) : right v = true ∧ fitsV v ∧ enc1 v = b.take m := by
  unfold dec1 at h
  split at h
  · cases h
  · rename_i c r
    split at h
    · rename_i h0
      cases h
      exact ⟨rfl, ⟨by decide, by decide⟩, by rw [byte_of h0]; rfl⟩
    split at h
    · rename_i h1
      split at h
      · cases h
      · rename_i d t
        split at h
        · rename_i hd
          cases h
          refine ⟨by simp [right], ⟨by show (-9223372036854775808 : Int) ≤ 0; omega, by show (0 : Int) < _; omega⟩, ?_⟩
          rw [byte_of h1]
          by_cases hd1 : d.toNat = 1
          · rw [byte_of hd1]; rfl
          · have hd0 : d.toNat = 0 := by omega
            rw [byte_of hd0]; rfl
        · cases h
    split at h
    · rename_i h2
      split at h
      · rename_i hl
        cases h
        refine ⟨by simp [right], i64_range _, ?_⟩
        rw [byte_of h2]
        show (2 : UInt8) :: num8 (IntKind.u64.wrap (IntKind.i64.wrap ((toNum (r.take 8) : Nat) : Int))) = _
        rw [forth_num (by rw [List.length_take]; omega)]
        rfl
      · cases h
    split at h
    · rename_i h3
      split at h
      · cases h
      · rename_i d t
        split at h
        · rename_i hd
          cases h
          have hl : (t.take d.toNat).length = d.toNat := by rw [List.length_take]; omega
          refine ⟨?_, ⟨by show (-9223372036854775808 : Int) ≤ 0; omega, by show (0 : Int) < _; omega⟩, ?_⟩
          · have : (t.take d.toNat).length ≤ 64 := by omega
            simp [right]; omega
          · rw [byte_of h3]
            show (3 : UInt8) :: UInt8.ofNat (t.take d.toNat).length :: t.take d.toNat = _
            rw [hl]
            simp
        · cases h
    · cases h

theorem fitsL_cons {v : V} {l : List V} (h : fitsL (v :: l)) : fitsV v ∧ fitsL l := ⟨h v (List.mem_cons_self ..), fun x hx => h x (List.mem_cons_of_mem _ hx)⟩
theorem decL_encs : ∀ {row : List V}, row.all right = true → fitsL row → ∀ r, decL row.length (encs row ++ r) = some (row, r)
  | [], _, _, r => rfl
  | v :: row, hr, hf, r => by
    simp only [List.all_cons, Bool.and_eq_true] at hr
    obtain ⟨f1, f2⟩ := fitsL_cons hf
    have e : encs (v :: row) ++ r = enc1 v ++ (encs row ++ r) := by simp [encs]
    rw [e]
    simp only [List.length_cons, decL, dec1_enc1 hr.1 f1, List.drop_left, decL_encs hr.2 f2]
theorem decL_inv : ∀ {n : Nat} {b : List UInt8} {l : List V} {r : List UInt8}, decL n b = some (l, r) → l.all right = true ∧ fitsL l ∧ encs l ++ r = b
  | 0, b, l, r, h => by
    simp [decL] at h
    obtain ⟨rfl, rfl⟩ := h
    exact ⟨rfl, fun v hv => absurd hv (List.not_mem_nil), rfl⟩
  | n + 1, b, l, r, h => by
    simp only [decL] at h
    split at h
    · cases h
    · rename_i v m hd
      split at h
      · cases h
      · rename_i l' r' hd'
        simp only [Option.some.injEq, Prod.mk.injEq] at h
        obtain ⟨rfl, rfl⟩ := h
        obtain ⟨h1, h2, h3⟩ := dec1_inv hd
        obtain ⟨i1, i2, i3⟩ := decL_inv hd'
        refine ⟨by simp only [List.all_cons, h1, i1, Bool.and_self], fun x hx => ?_, ?_⟩
        · rcases List.mem_cons.1 hx with rfl | hx
          · exact h2
          · exact i2 x hx
        · have e : encs (v :: l') ++ r' = enc1 v ++ (encs l' ++ r') := by simp [encs]
          rw [e, i3, h3, List.take_append_drop]

theorem decode_enc {row : List V} (h : rights row = true) (hf : fitsL row) : decode (enc row) = some row := by
  obtain ⟨h1, h2⟩ := rights_inv h
  have hn : (UInt8.ofNat row.length).toNat = row.length := by rw [UInt8.toNat_ofNat']; omega
  have := decL_encs h1 hf []
  rw [List.append_nil] at this
  show (if (UInt8.ofNat row.length).toNat > 16 then none else match decL (UInt8.ofNat row.length).toNat (encs row) with | none => none | some (l, q) => if q.length > 0 then none else some l) = _
  rw [hn, if_neg (by omega), this]
  rfl
theorem decode_inv {b : List UInt8} {l : List V} (h : decode b = some l) : rights l = true ∧ fitsL l ∧ enc l = b := by
  unfold decode at h
  split at h
  · cases h
  · rename_i c r
    split at h
    · cases h
    · split at h
      · cases h
      · rename_i l' q hd
        split at h
        · cases h
        · rename_i hq
          cases h
          obtain ⟨h1, h2, h3⟩ := decL_inv hd
          have hl := (decL_le hd).2
          have hq0 : q = [] := List.eq_nil_of_length_eq_zero (by omega)
          subst hq0
          rw [List.append_nil] at h3
          refine ⟨?_, h2, ?_⟩
          · unfold rights; rw [h1]; simp; omega
          · unfold enc; rw [hl, h3, ← byte_of rfl]
/-- What some bytes begin with is no other row. -/
theorem enc_prefix {l row : List V} (hl : rights l = true) (hr : rights row = true) (fl : fitsL l) (fr : fitsL row) {x : List UInt8} (h : enc l ++ x = enc row) : l = row ∧ x = [] := by
  obtain ⟨l1, l2⟩ := rights_inv hl
  obtain ⟨r1, r2⟩ := rights_inv hr
  unfold enc at h
  rw [List.cons_append, List.cons.injEq] at h
  obtain ⟨h1, h2⟩ := h
  have e : l.length = row.length := by
    have := congrArg UInt8.toNat h1
    rw [UInt8.toNat_ofNat', UInt8.toNat_ofNat'] at this
    omega
  have d1 := decL_encs l1 fl x
  have d2 := decL_encs r1 fr []
  rw [List.append_nil, ← h2, ← e, d1] at d2
  simp only [Option.some.injEq, Prod.mk.injEq] at d2
  exact d2
theorem enc_len {row : List V} (h : rights row = true) : (enc row).length ≤ 1057 := by
  obtain ⟨r1, r2⟩ := rights_inv h
  have := encs_len r1
  simp only [enc, List.length_cons]
  omega

theorem rows_prefix (k : Nat) (hk : 256 ≤ k) (row : List V) (cut : Int) (more : List UInt8) (hf : fitsL row) (hl : row.length ≤ 1073741824) (hN : row.length < k) (hm : more.length ≤ 1073741824) : law_RowsPrefix.run (k + 9) row cut more = some (true, ()) := by
  have he := encode_ok k row (by omega) hN
  unfold encR at he
  cases h : rights row with
  | false =>
    rw [h] at he
    exact go_o he (go_t rfl (go_o (alive_ok k hk) rfl))
  | true =>
    rw [h] at he
    have len := enc_len h
    refine go_o he (go_f rfl ?_)
    by_cases h0 : cut < 0
    · exact go_d h0 (go_o (alive_ok k hk) rfl)
    refine go_n h0 ?_
    by_cases h1 : cut ≥ ((enc row).length : Int)
    · exact go_d h1 (go_o (alive_ok k hk) rfl)
    refine go_n h1 (go_t (okB_t (by omega) (by omega) (by omega)) ?_)
    have d1 : decode (((enc row).drop 0).take (cut - (0 : Int)).toNat) = none := by
      cases hd : decode (((enc row).drop 0).take (cut - (0 : Int)).toNat) with
      | none => rfl
      | some l =>
        obtain ⟨i1, i2, i3⟩ := decode_inv hd
        have := enc_prefix i1 h i2 hf (x := (enc row).drop (cut - (0 : Int)).toNat) (by rw [i3, List.drop_zero, List.take_append_drop])
        have := congrArg List.length this.2
        rw [List.length_drop, List.length_nil] at this
        omega
    have r1 : rows_Decode.run (k + 9) (((enc row).drop 0).take (cut - (0 : Int)).toNat) = some ([], 30, ()) := by
      rw [decode_ok k hk _ (by rw [List.length_take, List.length_drop]; omega), decR, d1]
    refine go_o r1 (go_t (room_t (by omega) (by omega)) (go_t (room_t (by omega) (by omega)) ?_))
    have r2 := decode_ok k hk (enc row ++ more) (by rw [List.length_append]; omega)
    by_cases hm0 : more.length = 0
    · obtain ⟨l, e, hd, _⟩ := decR_same (enc row ++ more)
      refine go_o (r2.trans hd) (go_o (alive_ok k hk) (go_t rfl (go_d rfl (go_d (by omega) rfl))))
    · have d2 : decode (enc row ++ more) = none := by
        cases hd : decode (enc row ++ more) with
        | none => rfl
        | some l =>
          obtain ⟨i1, i2, i3⟩ := decode_inv hd
          have := enc_prefix h i1 hf i2 (x := more) i3.symm
          exact absurd (congrArg List.length this.2) hm0
      rw [decR, d2] at r2
      exact go_o r2 (go_o (alive_ok k hk) (go_t rfl (go_d rfl (go_n (by omega) rfl))))
end Go.Hay.Ytkdcillgnlfabaa
