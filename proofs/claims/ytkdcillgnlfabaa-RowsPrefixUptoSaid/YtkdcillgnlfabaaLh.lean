/- Keys, there and back. Conditions: numbers that fit. -/
import Derived.Test.YtkdcillgnlfabaaLg
set_option linter.unusedVariables false
set_option linter.unusedSimpArgs false
namespace Go.Hay.Ytkdcillgnlfabaa
open Go Go.Hay Go.Proofs

theorem txt_esc : ∀ (s r : List UInt8), txt (esc s ++ [0, 0] ++ r) = some (s, r)
  | [], r => rfl
  | c :: s, r => by
    have ih := txt_esc s r
    by_cases h : c.toNat = 0
    · have e : esc (c :: s) ++ [0, 0] ++ r = c :: 255 :: (esc s ++ [0, 0] ++ r) := by simp [esc, h]
      rw [e]
      simp only [txt]
      rw [if_pos h, if_pos (by rfl), ih]
    · have e : esc (c :: s) ++ [0, 0] ++ r = c :: (esc s ++ [0, 0] ++ r) := by simp [esc, h]
      rw [e]
      cases hq : esc s ++ [0, 0] ++ r with
      | nil => simp at hq
      | cons d t =>
        simp only [txt]
        rw [if_neg h, ← hq, ih]
theorem txt_inv : ∀ (n : Nat) {b s q : List UInt8}, b.length ≤ n → txt b = some (s, q) → b = esc s ++ [0, 0] ++ q
  | n, [], s, q, hn, h => by simp [txt] at h
  | n, [c], s, q, hn, h => by simp [txt] at h
  | 0, c :: d :: r, s, q, hn, h => by simp at hn
  | n + 1, c :: d :: r, s, q, hn, h => by
    simp only [txt] at h
    simp only [List.length_cons] at hn
    split at h
    · rename_i h0
      split at h
      · rename_i h1
        split at h
        · cases h
        · rename_i t p hp
          simp only [Option.some.injEq, Prod.mk.injEq] at h
          obtain ⟨rfl, rfl⟩ := h
          have ih := txt_inv n (by omega) hp
          rw [ih, byte_ff h1]
          simp [esc, h0]
      · split at h
        · rename_i h2
          simp only [Option.some.injEq, Prod.mk.injEq] at h
          obtain ⟨rfl, rfl⟩ := h
          rw [byte_zero h0, byte_zero h2]
          rfl
        · cases h
    · rename_i h0
      split at h
      · cases h
      · rename_i t p hp
        simp only [Option.some.injEq, Prod.mk.injEq] at h
        obtain ⟨rfl, rfl⟩ := h
        have ih := txt_inv n (by simp; omega) hp
        rw [ih]
        simp [esc, h0]

theorem key1_two (n : Int) : key1 ((2 : Int), false, n, ([] : List UInt8)) = 2 :: num8 (IntKind.u64.wrap (IntKind.u64.wrap n + 9223372036854775808)) := rfl
theorem key1_three (s : List UInt8) : key1 ((3 : Int), false, (0 : Int), s) = 3 :: (esc s ++ [0, 0]) := rfl
theorem fr1_key1 {v : V} (hv : right v = true) (hf : fitsV v) (r : List UInt8) : fr1 (key1 v ++ r) = some (v, (key1 v).length) := by
  rcases right_cases hv with rfl | ⟨c, rfl⟩ | ⟨n, rfl⟩ | ⟨s, rfl, hs⟩
  · rfl
  · cases c <;> rfl
  · have hl : 8 ≤ (num8 (IntKind.u64.wrap (IntKind.u64.wrap n + 9223372036854775808)) ++ r).length := by rw [List.length_append, num8_len]; omega
    rw [key1_two, List.cons_append]
    show (if 8 ≤ (num8 (IntKind.u64.wrap (IntKind.u64.wrap n + 9223372036854775808)) ++ r).length then some (((2 : Int), false, IntKind.i64.wrap (IntKind.u64.wrap (((toNum ((num8 (IntKind.u64.wrap (IntKind.u64.wrap n + 9223372036854775808)) ++ r).take 8) : Nat) : Int) - 9223372036854775808)), ([] : List UInt8)), 9) else none) = _
    rw [if_pos hl, take_num8, back_key hf.1 hf.2, List.length_cons, num8_len]
  · rw [key1_three, List.cons_append]
    show (match txt (esc s ++ [0, 0] ++ r) with | none => none | some (t, q) => some (((3 : Int), false, (0 : Int), t), (3 :: (esc s ++ [0, 0] ++ r)).length - q.length)) = _
    rw [txt_esc]
    simp
    omega
theorem fr1_inv {b : List UInt8} {v : V} {m : Nat} (h : fr1 b = some (v, m)) (hs : short v = true) : right v = true ∧ fitsV v ∧ key1 v = b.take m := by
  unfold fr1 at h
  split at h
  · cases h
  · rename_i c r
    split at h
    · rename_i h2
      split at h
      · rename_i hl
        cases h
        refine ⟨by simp [right], i64_range _, ?_⟩
        rw [byte_of h2, key1_two, forth_key (by rw [List.length_take]; omega)]
        rfl
      · cases h
    split at h
    · rename_i h2 h1
      obtain ⟨i1, i2, i3⟩ := dec1_inv h
      refine ⟨i1, i2, ?_⟩
      rw [← i3]
      have hk : v.1 = 0 ∨ v.1 = 1 := by
        simp only [dec1] at h
        split at h
        · cases h; exact .inl rfl
        split at h
        · split at h
          · cases h
          · split at h
            · cases h; exact .inr rfl
            · cases h
        · omega
      unfold key1
      rw [if_neg (by omega), if_neg (by omega)]
    split at h
    · rename_i h3
      split at h
      · cases h
      · rename_i s q hq
        have hi := txt_inv _ (Nat.le_refl _) hq
        have hx := txt_le _ (Nat.le_refl _) hq
        simp only [Option.some.injEq, Prod.mk.injEq] at h
        obtain ⟨rfl, rfl⟩ := h
        refine ⟨?_, ⟨by show (-9223372036854775808 : Int) ≤ 0; omega, by show (0 : Int) < _; omega⟩, ?_⟩
        · have : s.length ≤ 64 := of_decide_eq_true hs
          simp [right]; omega
        · rw [key1_three, byte_of h3, show (UInt8.ofNat 3 :: r).length - q.length = (r.length - q.length) + 1 by rw [List.length_cons]; omega]
          have e : r.take (r.length - q.length) = esc s ++ [0, 0] := by
            rw [hi]
            exact List.take_left' (by simp only [List.length_append]; omega)
          show (3 : UInt8) :: (esc s ++ [0, 0]) = (3 : UInt8) :: r.take (r.length - q.length)
          rw [e]
    · cases h

theorem key1_pos {v : V} (h : right v = true) : 0 < (key1 v).length := by
  rcases right_cases h with rfl | ⟨c, rfl⟩ | ⟨n, rfl⟩ | ⟨s, rfl, hs⟩ <;> simp [key1, enc1]
theorem unk_key : ∀ {row : List V}, row.all right = true → fitsL row → ∀ n, (key row).length ≤ n → unk n (key row) = some row
  | [], _, _, n, _ => by cases n <;> rfl
  | v :: row, hr, hf, 0, hn => by
    simp only [List.all_cons, Bool.and_eq_true] at hr
    have := key1_pos hr.1
    simp only [key, List.flatMap_cons, List.length_append] at hn
    omega
  | v :: row, hr, hf, n + 1, hn => by
    simp only [List.all_cons, Bool.and_eq_true] at hr
    obtain ⟨f1, f2⟩ := fitsL_cons hf
    have h1 := key1_pos hr.1
    have e : key (v :: row) = key1 v ++ key row := by simp [key]
    rw [e] at hn ⊢
    rw [List.length_append] at hn
    simp only [unk]
    rw [if_neg (by rw [List.length_append]; omega), fr1_key1 hr.1 f1]
    simp only [List.drop_left]
    rw [unk_key hr.2 f2 n (by omega)]
theorem unk_inv : ∀ {n : Nat} {b : List UInt8} {l : List V}, unk n b = some l → l.all short = true → l.all right = true ∧ fitsL l ∧ key l = b
  | 0, b, l, h, hs => by
    simp only [unk] at h
    split at h
    · rename_i hb
      cases h
      exact ⟨rfl, fun v hv => absurd hv (List.not_mem_nil), (List.eq_nil_of_length_eq_zero hb).symm⟩
    · cases h
  | n + 1, b, l, h, hs => by
    simp only [unk] at h
    split at h
    · rename_i hb
      cases h
      exact ⟨rfl, fun v hv => absurd hv (List.not_mem_nil), (List.eq_nil_of_length_eq_zero hb).symm⟩
    · split at h
      · cases h
      · rename_i v m hd
        split at h
        · cases h
        · rename_i l' hd'
          simp only [Option.some.injEq] at h
          subst h
          simp only [List.all_cons, Bool.and_eq_true] at hs
          obtain ⟨h1, h2, h3⟩ := fr1_inv hd hs.1
          obtain ⟨i1, i2, i3⟩ := unk_inv hd' hs.2
          refine ⟨by simp only [List.all_cons, h1, i1, Bool.and_self], fun x hx => ?_, ?_⟩
          · rcases List.mem_cons.1 hx with rfl | hx
            · exact h2
            · exact i2 x hx
          · have e : key (v :: l') = key1 v ++ key l' := by simp [key]
            rw [e, i3, h3, List.take_append_drop]
theorem right_short {v : V} (h : right v = true) : short v = true := by
  rcases right_cases h with rfl | ⟨c, rfl⟩ | ⟨n, rfl⟩ | ⟨s, rfl, hs⟩
  · rfl
  · rfl
  · rfl
  · exact decide_eq_true hs
theorem all_short : ∀ {l : List V}, l.all right = true → l.all short = true
  | [], _ => rfl
  | v :: l, h => by
    simp only [List.all_cons, Bool.and_eq_true] at h ⊢
    exact ⟨right_short h.1, all_short h.2⟩

/-- The row of a key. -/
def unkey (b : List UInt8) : Option (List V) := match unk b.length b with | none => none | some l => if l.all short = true ∧ l.length ≤ 16 then some l else none
def unkR (b : List UInt8) : Option (List V × Int × Unit) := match unkey b with | none => some ([], 30, ()) | some l => some (l, 0, ())
theorem unkey_inv {b : List UInt8} {l : List V} (h : unkey b = some l) : rights l = true ∧ fitsL l ∧ key l = b := by
  unfold unkey at h
  split at h
  · cases h
  · rename_i l' hq
    split at h
    · rename_i hs
      cases h
      obtain ⟨h1, h2, h3⟩ := unk_inv hq hs.1
      exact ⟨by unfold rights; rw [h1]; simpa using hs.2, h2, h3⟩
    · cases h
theorem unkey_key {row : List V} (h : rights row = true) (hf : fitsL row) : unkey (key row) = some row := by
  obtain ⟨h1, h2⟩ := rights_inv h
  unfold unkey
  rw [unk_key h1 hf _ (Nat.le_refl _)]
  simp only
  rw [if_pos ⟨all_short h1, h2⟩]
theorem key_inj {a b : List V} (ha : rights a = true) (hb : rights b = true) (fa : fitsL a) (fb : fitsL b) (h : key a = key b) : a = b := by
  have h1 := unkey_key ha fa
  rw [h, unkey_key hb fb] at h1
  exact (Option.some.inj h1).symm
theorem enc_inj {a b : List V} (ha : rights a = true) (hb : rights b = true) (fa : fitsL a) (fb : fitsL b) (h : enc a = enc b) : a = b := by
  have h1 := decode_enc ha fa
  rw [h, decode_enc hb fb] at h1
  exact (Option.some.inj h1).symm

theorem unkR_few (b : List UInt8) : ∃ l e, unkR b = some (l, e, ()) ∧ l.length ≤ 16 := by
  unfold unkR
  cases h : unkey b with
  | none => exact ⟨_, _, rfl, by simp⟩
  | some l => exact ⟨_, _, rfl, (rights_inv (unkey_inv h).1).2⟩
theorem ref_unkey_ok (k : Nat) (b : List UInt8) (hb : b.length ≤ 1099511627776) (hk : b.length < k) : ref_Unkey.run (k + 9) b = unkR b := by
  have h := ref_unkey0_ok k b hb hk b.length 0 [] (k + 9) (by simp) (by omega) (by simp) (by omega)
  rw [show ((0 : Nat) : Int) = 0 from rfl] at h
  unfold unkR unkey
  rw [List.drop_zero] at h
  cases hu : unk b.length b with
  | none =>
    rw [hu] at h
    exact go_o h rfl
  | some l =>
    rw [hu] at h
    simp only [List.length_nil, Nat.zero_add, List.nil_append] at h
    simp only
    by_cases hs : l.all short = true ∧ l.length ≤ 16
    · rw [if_pos hs] at h ⊢
      exact go_o h rfl
    · rw [if_neg hs] at h ⊢
      exact go_o h rfl
theorem unkey_ok (k : Nat) (hk5 : 65 ≤ k) (b : List UInt8) (hb : b.length ≤ 1099511627776) (hk : b.length < k) : rows_Unkey.run (k + 9) b = unkR b := by
  have h := unkey0_ok k b.length b [] (k + 9) hb hk (Nat.le_refl _) (by simp) (by omega)
  unfold unkR unkey
  cases hu : unk b.length b with
  | none =>
    rw [hu] at h
    exact go_o h rfl
  | some l =>
    rw [hu] at h
    simp only [List.length_nil, Nat.zero_add, List.nil_append] at h
    simp only
    by_cases h16 : l.length ≤ 16
    · rw [if_pos h16] at h
      have hK := key_b_ok k hk5 l (by omega) (by omega)
      unfold keyR at hK
      by_cases hs : l.all short = true
      · obtain ⟨h1, h2, h3⟩ := unk_inv hu hs
        have hr : rights l = true := by unfold rights; rw [h1]; simpa using h16
        rw [if_pos hr] at hK
        rw [if_pos ⟨hs, h16⟩]
        exact go_o h (go_o hK (go_nd rfl (go_o rfl (go_nd h3 rfl))))
      · have hr : ¬ rights l = true := fun h => hs (all_short (rights_inv h).1)
        rw [if_neg hr] at hK
        rw [if_neg (fun h => hs h.1)]
        exact go_o h (go_o hK rfl)
    · rw [if_neg h16] at h
      rw [if_neg (fun h => h16 h.2)]
      exact go_o h rfl

theorem rows_keys (k : Nat) (hk : 256 ≤ k) (row : List V) (b : List UInt8) (hl : row.length ≤ 1099511627776) (hN : row.length < k) (hb : b.length ≤ 1099511627776) (hbk : b.length < k) : law_RowsKeys.run (k + 9) row b = some (true, ()) := by
  obtain ⟨l, e, hd, hll⟩ := unkR_few b
  refine go_o (v := if rights row = true then (key row, 0, ()) else ([], 30, ())) (by rw [key_ok k (by omega) row hl hN]; unfold keyR; split <;> rfl) ?_
  refine go_o (v := if rights row = true then (key row, 0, ()) else ([], 30, ())) (by rw [ref_key_ok k (by omega) row hl hN]; unfold keyR; split <;> rfl) ?_
  refine go_o ((unkey_ok k (by omega) b hb hbk).trans hd) (go_o ((ref_unkey_ok k b hb hbk).trans hd) (go_o (alive_ok k hk) ?_))
  refine go_t rfl (go_d rfl (go_d rfl (go_o (same_ok _ l l (by omega) (by omega)) ?_)))
  simp

theorem key_len {row : List V} (h : rights row = true) : (key row).length ≤ 2096 := by
  obtain ⟨r1, r2⟩ := rights_inv h
  have : ∀ {l : List V}, l.all right = true → (key l).length ≤ 131 * l.length := by
    intro l
    induction l with
    | nil => intro _; simp [key]
    | cons v l ih =>
      intro h
      simp only [List.all_cons, Bool.and_eq_true] at h
      have h1 := key1_len h.1
      have h2 := ih h.2
      simp only [key, List.flatMap_cons, List.length_append, List.length_cons] at h2 ⊢
      omega
  have := this r1
  omega

theorem rows_back (k : Nat) (hk : 4096 ≤ k) (row : List V) (b : List UInt8) (hf : fitsL row) (hl : row.length ≤ 1099511627776) (hN : row.length < k) (hb : b.length ≤ 1099511627776) (hbk : b.length < k) : law_RowsBack.run (k + 9) row b = some (true, ()) := by
  have back0 : ∀ x e kk, encR row = some (x, e, ()) → keyR row = some (kk, e, ()) → law_RowsBack_0.run (k + 9) row x e kk = some (.inl ()) := by
    intro x e kk h1 h2
    unfold encR at h1
    unfold keyR at h2
    by_cases hr : rights row = true
    · rw [if_pos hr] at h1 h2
      cases h1
      cases h2
      have el := enc_len hr
      have kl := key_len hr
      have d1 : rows_Decode.run (k + 9) (enc row) = some (row, 0, ()) := by rw [decode_ok k (by omega) _ (by omega), decR, decode_enc hr hf]
      have d2 : rows_Unkey.run (k + 9) (key row) = some (row, 0, ()) := by rw [unkey_ok k (by omega) _ (by omega) (by omega), unkR, unkey_key hr hf]
      have s := same_b_ok (k + 9) row row hl (by omega)
      rw [decide_eq_true rfl] at s
      exact go_d rfl (go_o d1 (go_o d2 (go_nd rfl (go_nd rfl (go_o s (go_f rfl (go_o s (go_f rfl rfl))))))))
    · rw [if_neg hr] at h1 h2
      cases h1
      exact go_n (by decide) rfl
  have back1 : ∀ l e, decR b = some (l, e, ()) → law_RowsBack_1.run (k + 9) b l e = some (.inl ()) := by
    intro l e h
    unfold decR at h
    cases hd : decode b with
    | none =>
      rw [hd] at h
      cases h
      exact go_n (by decide) rfl
    | some q =>
      rw [hd] at h
      cases h
      obtain ⟨h1, h2, h3⟩ := decode_inv hd
      have h16 := (rights_inv h1).2
      have hE := encode_b_ok k l (by omega) (by omega)
      unfold encR at hE
      rw [if_pos h1] at hE
      exact go_d rfl (go_o hE (go_nd rfl (go_nd h3 rfl)))
  obtain ⟨x, e, kk, h1, h2⟩ : ∃ x e kk, encR row = some (x, e, ()) ∧ keyR row = some (kk, e, ()) := by
    unfold encR keyR
    by_cases hr : rights row = true
    · rw [if_pos hr, if_pos hr]; exact ⟨_, _, _, rfl, rfl⟩
    · rw [if_neg hr, if_neg hr]; exact ⟨_, _, _, rfl, rfl⟩
  obtain ⟨l, g, hd, hll⟩ := decR_same b
  refine go_o ((encode_ok k row hl hN).trans h1) (go_o ((key_ok k (by omega) row hl hN).trans h2) (go_o (alive_ok k (by omega)) (go_f rfl (go_nd rfl (go_o (back0 x e kk h1 h2) (go_o ((decode_ok k (by omega) b hb).trans hd) (go_o (back1 l g hd) ?_)))))))
  have hu := unkey_ok k (by omega) b hb hbk
  unfold unkR at hu
  cases hq : unkey b with
  | none =>
    rw [hq] at hu
    exact go_o hu rfl
  | some q =>
    rw [hq] at hu
    obtain ⟨i1, i2, i3⟩ := unkey_inv hq
    have h16 := (rights_inv i1).2
    have hK := key_b_ok k (by omega) q (by omega) (by omega)
    unfold keyR at hK
    rw [if_pos i1, i3] at hK
    refine go_o hu (go_nd rfl (go_o hK (go_d rfl ?_)))
    rw [decide_eq_true rfl]
end Go.Hay.Ytkdcillgnlfabaa
