/- Rows as bytes, there and back. Conditions: numbers that fit. -/
import Derived.Test.YtpgamibdlinhjaaGreatLrd
set_option linter.unusedVariables false
set_option linter.unusedSimpArgs false
namespace Go.Hay.YtpgamibdlinhjaaGreat.Rw
open Go Go.Hay Go.Proofs

theorem fA138 (x : Nat) : num8 (x : Int) = [UInt8.ofNat (x / 72057594037927936 % 256), UInt8.ofNat (x / 281474976710656 % 256), UInt8.ofNat (x / 1099511627776 % 256), UInt8.ofNat (x / 4294967296 % 256), UInt8.ofNat (x / 16777216 % 256), UInt8.ofNat (x / 65536 % 256), UInt8.ofNat (x / 256 % 256), UInt8.ofNat (x % 256)] := by
  have key : ∀ p : Nat, 0 < p → Hay.u8 (IntKind.u8.wrap ((x : Int).fdiv (p : Int))) = UInt8.ofNat (x / p % 256) := by
    intro p hp
    have e : (x : Int).fdiv (p : Int) = ((x / p : Nat) : Int) := by
      rw [Int.fdiv_eq_ediv_of_nonneg _ (Int.natCast_nonneg p)]
      rfl
    rw [e, w_u8]
    have e2 : ((x / p : Nat) : Int) % 256 = ((x / p % 256 : Nat) : Int) := by omega
    rw [e2]
    show UInt8.ofNat (Int.toNat ((x / p % 256 : Nat) : Int)) = _
    rw [Int.toNat_natCast]
  have h := fun s => key (2 ^ s) (Nat.two_pow_pos s)
  simp only [num8, List.map_cons, List.map_nil]
  have c : ∀ s : Nat, ((2 ^ s : Nat) : Int) = (2 : Int) ^ s := fun s => by simp
  rw [← c 56, ← c 48, ← c 40, ← c 32, ← c 24, ← c 16, ← c 8, ← c 0, h 56, h 48, h 40, h 32, h 24, h 16, h 8, h 0]
  simp
theorem fA146 (x : Nat) (hx : x < 18446744073709551616) : toNum (num8 (x : Int)) = x := by
  rw [fA138]
  have q2 : x / 65536 = x / 256 / 256 := by rw [Nat.div_div_eq_div_mul]
  have q3 : x / 16777216 = x / 65536 / 256 := by rw [Nat.div_div_eq_div_mul]
  have q4 : x / 4294967296 = x / 16777216 / 256 := by rw [Nat.div_div_eq_div_mul]
  have q5 : x / 1099511627776 = x / 4294967296 / 256 := by rw [Nat.div_div_eq_div_mul]
  have q6 : x / 281474976710656 = x / 1099511627776 / 256 := by rw [Nat.div_div_eq_div_mul]
  have q7 : x / 72057594037927936 = x / 281474976710656 / 256 := by rw [Nat.div_div_eq_div_mul]
  have h7 : x / 72057594037927936 < 256 := Nat.div_lt_of_lt_mul (by omega)
  have r : ∀ a : Nat, a / 256 * 256 + a % 256 = a := fun a => by omega
  simp only [toNum, List.foldl_cons, List.foldl_nil, UInt8.toNat_ofNat', Nat.reducePow, Nat.mod_mod, Nat.zero_mul, Nat.zero_add]
  rw [Nat.mod_eq_of_lt h7, q7, r, q6, r, q5, r, q4, r, q3, r, q2, r, r]
theorem list8 {l : List UInt8} (h : l.length = 8) : ∃ a b c d e f g i, l = [a, b, c, d, e, f, g, i] := by
  match l, h with
  | [a, b, c, d, e, f, g, i], _ => exact ⟨a, b, c, d, e, f, g, i, rfl⟩
theorem fA157 (n a b c d x f g i : Nat) (hb : b < 256) (hc : c < 256) (hd : d < 256) (hx : x < 256) (hf : f < 256) (hg : g < 256) (hi : i < 256) (e : n = ((((((a * 256 + b) * 256 + c) * 256 + d) * 256 + x) * 256 + f) * 256 + g) * 256 + i) :
    n / 256 = (((((a * 256 + b) * 256 + c) * 256 + d) * 256 + x) * 256 + f) * 256 + g ∧ n / 65536 = ((((a * 256 + b) * 256 + c) * 256 + d) * 256 + x) * 256 + f ∧ n / 16777216 = (((a * 256 + b) * 256 + c) * 256 + d) * 256 + x ∧
    n / 4294967296 = ((a * 256 + b) * 256 + c) * 256 + d ∧ n / 1099511627776 = (a * 256 + b) * 256 + c ∧ n / 281474976710656 = a * 256 + b ∧ n / 72057594037927936 = a := by
  obtain ⟨t1, h1⟩ : ∃ t, t = a * 256 + b := ⟨_, rfl⟩
  rw [← h1] at e ⊢
  obtain ⟨t2, h2⟩ : ∃ t, t = t1 * 256 + c := ⟨_, rfl⟩
  rw [← h2] at e ⊢
  obtain ⟨t3, h3⟩ : ∃ t, t = t2 * 256 + d := ⟨_, rfl⟩
  rw [← h3] at e ⊢
  obtain ⟨t4, h4⟩ : ∃ t, t = t3 * 256 + x := ⟨_, rfl⟩
  rw [← h4] at e ⊢
  obtain ⟨t5, h5⟩ : ∃ t, t = t4 * 256 + f := ⟨_, rfl⟩
  rw [← h5] at e ⊢
  obtain ⟨t6, h6⟩ : ∃ t, t = t5 * 256 + g := ⟨_, rfl⟩
  rw [← h6] at e ⊢
  have q1 : n / 256 = t6 := by omega
  have q2 : n / 65536 = t5 := by rw [show (65536 : Nat) = 256 * 256 from rfl, ← Nat.div_div_eq_div_mul, q1]; omega
  have q3 : n / 16777216 = t4 := by rw [show (16777216 : Nat) = 65536 * 256 from rfl, ← Nat.div_div_eq_div_mul, q2]; omega
  have q4 : n / 4294967296 = t3 := by rw [show (4294967296 : Nat) = 16777216 * 256 from rfl, ← Nat.div_div_eq_div_mul, q3]; omega
  have q5 : n / 1099511627776 = t2 := by rw [show (1099511627776 : Nat) = 4294967296 * 256 from rfl, ← Nat.div_div_eq_div_mul, q4]; omega
  have q6 : n / 281474976710656 = t1 := by rw [show (281474976710656 : Nat) = 1099511627776 * 256 from rfl, ← Nat.div_div_eq_div_mul, q5]; omega
  have q7 : n / 72057594037927936 = a := by rw [show (72057594037927936 : Nat) = 281474976710656 * 256 from rfl, ← Nat.div_div_eq_div_mul, q6]; omega
  exact ⟨q1, q2, q3, q4, q5, q6, q7⟩
theorem fC146 {l : List UInt8} (h : l.length = 8) : num8 ((toNum l : Nat) : Int) = l := by
  obtain ⟨a, b, c, d, x, f, g, i, rfl⟩ := list8 h
  rw [fA138]
  have ha := a.toNat_lt
  have hb := b.toNat_lt
  have hc := c.toNat_lt
  have hd := d.toNat_lt
  have hx := x.toNat_lt
  have hf := f.toNat_lt
  have hg := g.toNat_lt
  have hi := i.toNat_lt
  have q : ∀ (x : UInt8) (n : Nat), n = x.toNat → UInt8.ofNat n = x := fun x n hn => by rw [hn]; simp
  have e : toNum [a, b, c, d, x, f, g, i] = ((((((a.toNat * 256 + b.toNat) * 256 + c.toNat) * 256 + d.toNat) * 256 + x.toNat) * 256 + f.toNat) * 256 + g.toNat) * 256 + i.toNat := by
    simp only [toNum, List.foldl_cons, List.foldl_nil, Nat.zero_mul, Nat.zero_add]
  obtain ⟨q1, q2, q3, q4, q5, q6, q7⟩ := fA157 _ _ _ _ _ _ _ _ _ hb hc hd hx hf hg hi e
  rw [q1, q2, q3, q4, q5, q6, q7, e, q a _ (Nat.mod_eq_of_lt ha), q b _ (by omega), q c _ (by omega), q d _ (by omega), q x _ (by omega), q f _ (by omega), q g _ (by omega), q i _ (by omega)]
def fitsV (v : V) : Prop := -9223372036854775808 ≤ v.2.2.1 ∧ v.2.2.1 < 9223372036854775808
def fitsL (l : List V) : Prop := ∀ v ∈ l, fitsV v
theorem fC159 (n : Int) : ∃ x : Nat, IntKind.u64.wrap n = (x : Int) ∧ x < 18446744073709551616 := ⟨(n % 18446744073709551616).toNat, by rw [w_u64]; omega, by omega⟩
theorem fA159 {n : Int} (h1 : -9223372036854775808 ≤ n) (h2 : n < 9223372036854775808) : IntKind.i64.wrap ((toNum (num8 (IntKind.u64.wrap n)) : Nat) : Int) = n := by
  obtain ⟨x, hx, hl⟩ := fC159 n
  rw [hx, fA146 x hl, ← hx, w_u64, w_i64]
  omega
theorem fC153 {l : List UInt8} (h : l.length = 8) : num8 (IntKind.u64.wrap (IntKind.i64.wrap ((toNum l : Nat) : Int))) = l := by
  have := fB97 (l := l) (by omega)
  have e : IntKind.u64.wrap (IntKind.i64.wrap ((toNum l : Nat) : Int)) = ((toNum l : Nat) : Int) := by rw [w_u64, w_i64]; omega
  rw [e, fC146 h]
theorem fB151 (x : Int) : -9223372036854775808 ≤ IntKind.i64.wrap x ∧ IntKind.i64.wrap x < 9223372036854775808 := by rw [w_i64]; omega

theorem fC150 (x : Int) (r : List UInt8) : (num8 x ++ r).take 8 = num8 x := by
  rw [List.take_left' (fD87 x)]

/-- What is written is read. -/
theorem fA152 {v : V} (hv : right v = true) (hf : fitsV v) (r : List UInt8) : dec1 (enc1 v ++ r) = some (v, (enc1 v).length) := by
  rcases fD88 hv with rfl | ⟨c, rfl⟩ | ⟨n, rfl⟩ | ⟨s, rfl, hs⟩
  · rfl
  · cases c <;> rfl
  · have e : enc1 ((2 : Int), false, n, ([] : List UInt8)) = 2 :: num8 (IntKind.u64.wrap n) := rfl
    have hl : 8 ≤ (num8 (IntKind.u64.wrap n) ++ r).length := by rw [List.length_append, fD87]; omega
    rw [e, List.cons_append]
    show (if 8 ≤ (num8 (IntKind.u64.wrap n) ++ r).length then some (((2 : Int), false, IntKind.i64.wrap ((toNum ((num8 (IntKind.u64.wrap n) ++ r).take 8) : Nat) : Int), ([] : List UInt8)), 9) else none) = _
    rw [if_pos hl, fC150, fA159 hf.1 hf.2, List.length_cons, fD87]
  · have e : enc1 ((3 : Int), false, (0 : Int), s) = 3 :: UInt8.ofNat s.length :: s := rfl
    have hn : (UInt8.ofNat s.length).toNat = s.length := by rw [UInt8.toNat_ofNat']; omega
    rw [e]
    show (if (UInt8.ofNat s.length).toNat ≤ 64 ∧ (UInt8.ofNat s.length).toNat ≤ (s ++ r).length then some (((3 : Int), false, (0 : Int), (s ++ r).take (UInt8.ofNat s.length).toNat), (UInt8.ofNat s.length).toNat + 2) else none) = _
    rw [hn, if_pos ⟨hs, by simp⟩, List.take_left' rfl]
    simp

theorem fC88 {c : UInt8} {n : Nat} (h : c.toNat = n) : c = UInt8.ofNat n := by rw [← h]; simp

/-- What is read is written so. -/
theorem fD155 {b : List UInt8} {v : V} {m : Nat} (h : dec1 b = some (v, m)) : right v = true ∧ fitsV v ∧ enc1 v = b.take m := by
  unfold dec1 at h
  split at h
  · cases h
  · rename_i c r
    split at h
    · rename_i h0
      cases h
      exact ⟨rfl, ⟨by decide, by decide⟩, by rw [fC88 h0]; rfl⟩
    split at h
    · rename_i h1
      split at h
      · cases h
      · rename_i d t
        split at h
        · rename_i hd
          cases h
          refine ⟨by simp [right], ⟨by show (-9223372036854775808 : Int) ≤ 0; omega, by show (0 : Int) < _; omega⟩, ?_⟩
          rw [fC88 h1]
          by_cases hd1 : d.toNat = 1
          · rw [fC88 hd1]; rfl
          · have hd0 : d.toNat = 0 := by omega
            rw [fC88 hd0]; rfl
        · cases h
    split at h
    · rename_i h2
      split at h
      · rename_i hl
        cases h
        refine ⟨by simp [right], fB151 _, ?_⟩
        rw [fC88 h2]
        show (2 : UInt8) :: num8 (IntKind.u64.wrap (IntKind.i64.wrap ((toNum (r.take 8) : Nat) : Int))) = _
        rw [fC153 (by rw [List.length_take]; omega)]
        rfl
      · cases h
    split at h
    · rename_i h3
      split at h
      · cases h
      · rename_i d t
        split at h
        · rename_i hd
          cases h
          have hl : (t.take d.toNat).length = d.toNat := by rw [List.length_take]; omega
          refine ⟨?_, ⟨by show (-9223372036854775808 : Int) ≤ 0; omega, by show (0 : Int) < _; omega⟩, ?_⟩
          · have : (t.take d.toNat).length ≤ 64 := by omega
            simp [right]; omega
          · rw [fC88 h3]
            show (3 : UInt8) :: UInt8.ofNat (t.take d.toNat).length :: t.take d.toNat = _
            rw [hl]
            simp
        · cases h
    · cases h

theorem fD147 {v : V} {l : List V} (h : fitsL (v :: l)) : fitsV v ∧ fitsL l := ⟨h v (List.mem_cons_self ..), fun x hx => h x (List.mem_cons_of_mem _ hx)⟩
theorem fA128 : ∀ {row : List V}, row.all right = true → fitsL row → ∀ r, decL row.length (encs row ++ r) = some (row, r)
  | [], _, _, r => rfl
  | v :: row, hr, hf, r => by
    simp only [List.all_cons, Bool.and_eq_true] at hr
    obtain ⟨f1, f2⟩ := fD147 hf
    have e : encs (v :: row) ++ r = enc1 v ++ (encs row ++ r) := by simp [encs]
    rw [e]
    simp only [List.length_cons, decL, fA152 hr.1 f1, List.drop_left, fA128 hr.2 f2]
theorem fD133 : ∀ {n : Nat} {b : List UInt8} {l : List V} {r : List UInt8}, decL n b = some (l, r) → l.all right = true ∧ fitsL l ∧ encs l ++ r = b
  | 0, b, l, r, h => by
    simp [decL] at h
    obtain ⟨rfl, rfl⟩ := h
    exact ⟨rfl, fun v hv => absurd hv (List.not_mem_nil), rfl⟩
  | n + 1, b, l, r, h => by
    simp only [decL] at h
    split at h
    · cases h
    · rename_i v m hd
      split at h
      · cases h
      · rename_i l' r' hd'
        simp only [Option.some.injEq, Prod.mk.injEq] at h
        obtain ⟨rfl, rfl⟩ := h
        obtain ⟨h1, h2, h3⟩ := fD155 hd
        obtain ⟨i1, i2, i3⟩ := fD133 hd'
        refine ⟨by simp only [List.all_cons, h1, i1, Bool.and_self], fun x hx => ?_, ?_⟩
        · rcases List.mem_cons.1 hx with rfl | hx
          · exact h2
          · exact i2 x hx
        · have e : encs (v :: l') ++ r' = enc1 v ++ (encs l' ++ r') := by simp [encs]
          rw [e, i3, h3, List.take_append_drop]

theorem fC121 {row : List V} (h : rights row = true) (hf : fitsL row) : decode (enc row) = some row := by
  obtain ⟨h1, h2⟩ := fB90 h
  have hn : (UInt8.ofNat row.length).toNat = row.length := by rw [UInt8.toNat_ofNat']; omega
  have := fA128 h1 hf []
  rw [List.append_nil] at this
  show (if (UInt8.ofNat row.length).toNat > 16 then none else match decL (UInt8.ofNat row.length).toNat (encs row) with | none => none | some (l, q) => if q.length > 0 then none else some l) = _
  rw [hn, if_neg (by omega), this]
  rfl
theorem fB119 {b : List UInt8} {l : List V} (h : decode b = some l) : rights l = true ∧ fitsL l ∧ enc l = b := by
  unfold decode at h
  split at h
  · cases h
  · rename_i c r
    split at h
    · cases h
    · split at h
      · cases h
      · rename_i l' q hd
        split at h
        · cases h
        · rename_i hq
          cases h
          obtain ⟨h1, h2, h3⟩ := fD133 hd
          have hl := (fB124 hd).2
          have hq0 : q = [] := List.eq_nil_of_length_eq_zero (by omega)
          subst hq0
          rw [List.append_nil] at h3
          refine ⟨?_, h2, ?_⟩
          · unfold rights; rw [h1]; simp; omega
          · unfold enc; rw [hl, h3, ← fC88 rfl]
theorem fA141 {row : List V} (h : rights row = true) : (enc row).length ≤ 1057 := by
  obtain ⟨r1, r2⟩ := fB90 h
  have := fB135 r1
  simp only [enc, List.length_cons]
  omega

end Go.Hay.YtpgamibdlinhjaaGreat.Rw
