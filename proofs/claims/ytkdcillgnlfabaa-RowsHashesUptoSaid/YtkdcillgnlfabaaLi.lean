/- Keys stand as their rows; hashes; rows apart. Conditions: numbers that fit. -/
import Derived.Test.YtkdcillgnlfabaaLh
set_option linter.unusedVariables false
set_option linter.unusedSimpArgs false
namespace Go.Hay.Ytkdcillgnlfabaa
open Go Go.Hay Go.Proofs

theorem bl_cons (a b : UInt8) (x y : List UInt8) : Op.bytesLess (a :: x) (b :: y) = if a = b then Op.bytesLess x y else decide (a.toNat < b.toNat) := by
  have e : decide (a < b) = decide (a.toNat < b.toNat) := by simp [UInt8.lt_iff_toNat_lt]
  rw [Op.bytesLess, e]
  by_cases h : a = b
  · subst h; simp
  · simp [h]
theorem bl_pre : ∀ (p x y : List UInt8), Op.bytesLess (p ++ x) (p ++ y) = Op.bytesLess x y
  | [], _, _ => rfl
  | c :: p, x, y => by rw [List.cons_append, List.cons_append, bl_cons, if_pos rfl, bl_pre p]
theorem bl_self : ∀ x : List UInt8, Op.bytesLess x x = false
  | [] => rfl
  | c :: x => by rw [bl_cons, if_pos rfl, bl_self x]
theorem bl_other : ∀ {x y : List UInt8}, x ≠ y → Op.bytesLess y x = !Op.bytesLess x y
  | [], [], h => absurd rfl h
  | [], _ :: _, _ => rfl
  | _ :: _, [], _ => rfl
  | a :: x, b :: y, h => by
    rw [bl_cons, bl_cons]
    by_cases e : a = b
    · subst e
      rw [if_pos rfl, if_pos rfl]
      exact bl_other (fun h2 => h (by rw [h2]))
    · rw [if_neg e, if_neg (fun h => e h.symm)]
      have : a.toNat ≠ b.toNat := fun h => e (UInt8.toNat_inj.1 h)
      by_cases h2 : a.toNat < b.toNat
      · rw [decide_eq_true h2, decide_eq_false (by omega)]; rfl
      · rw [decide_eq_false h2, decide_eq_true (by omega)]; rfl

def numF (n : Nat) (l : List UInt8) : Nat := l.foldl (fun n c => n * 256 + c.toNat) n
theorem numF_range : ∀ (l : List UInt8) (n : Nat), n * 256 ^ l.length ≤ numF n l ∧ numF n l < (n + 1) * 256 ^ l.length
  | [], n => by simp [numF]
  | c :: l, n => by
    have hc := c.toNat_lt
    obtain ⟨h1, h2⟩ := numF_range l (n * 256 + c.toNat)
    have e : numF n (c :: l) = numF (n * 256 + c.toNat) l := rfl
    rw [e, List.length_cons, Nat.pow_succ]
    generalize 256 ^ l.length = P at h1 h2 ⊢
    have e1 : (n * 256 + c.toNat) * P = n * P * 256 + c.toNat * P := by rw [Nat.add_mul, Nat.mul_right_comm]
    have e2 : (n * 256 + c.toNat + 1) * P = n * P * 256 + c.toNat * P + P := by rw [Nat.add_mul, e1, Nat.one_mul]
    have e3 : n * (P * 256) = n * P * 256 := by rw [Nat.mul_assoc]
    have e4 : (n + 1) * (P * 256) = n * P * 256 + P * 256 := by rw [Nat.add_mul, e3, Nat.one_mul]
    have h3 : c.toNat * P ≤ 255 * P := Nat.mul_le_mul_right P (by omega)
    rw [e1] at h1
    rw [e2] at h2
    rw [e3, e4]
    omega
theorem bl_num : ∀ {l m : List UInt8}, l.length = m.length → l ≠ m → ∀ (n : Nat) (p q : List UInt8), Op.bytesLess (l ++ p) (m ++ q) = decide (numF n l < numF n m)
  | [], [], _, h, _, _, _ => absurd rfl h
  | [], _ :: _, e, _, _, _, _ => by simp at e
  | _ :: _, [], e, _, _, _, _ => by simp at e
  | c :: l, d :: m, e, h, n, p, q => by
    rw [List.cons_append, List.cons_append, bl_cons]
    have el : l.length = m.length := by simpa using e
    have e1 : numF n (c :: l) = numF (n * 256 + c.toNat) l := rfl
    have e2 : numF n (d :: m) = numF (n * 256 + d.toNat) m := rfl
    rw [e1, e2]
    by_cases hc : c = d
    · subst hc
      rw [if_pos rfl]
      exact bl_num el (fun h2 => h (by rw [h2])) _ p q
    · rw [if_neg hc]
      have hne : c.toNat ≠ d.toNat := fun h => hc (UInt8.toNat_inj.1 h)
      obtain ⟨a1, a2⟩ := numF_range l (n * 256 + c.toNat)
      obtain ⟨b1, b2⟩ := numF_range m (n * 256 + d.toNat)
      rw [← el] at b1 b2
      by_cases hlt : c.toNat < d.toNat
      · have := Nat.mul_le_mul_right (256 ^ l.length) (show n * 256 + c.toNat + 1 ≤ n * 256 + d.toNat by omega)
        rw [decide_eq_true hlt, decide_eq_true (by omega)]
      · have := Nat.mul_le_mul_right (256 ^ l.length) (show n * 256 + d.toNat + 1 ≤ n * 256 + c.toNat by omega)
        rw [decide_eq_false hlt, decide_eq_false (by omega)]

theorem esc_cons (c : UInt8) (s : List UInt8) : ∃ r, esc (c :: s) ++ [0, 0] = c :: r ∧ (c.toNat = 0 → r = 255 :: (esc s ++ [0, 0])) ∧ (c.toNat ≠ 0 → r = esc s ++ [0, 0]) := by
  by_cases h : c.toNat = 0
  · exact ⟨255 :: (esc s ++ [0, 0]), by simp [esc, h], fun _ => rfl, fun h2 => absurd h h2⟩
  · exact ⟨esc s ++ [0, 0], by simp [esc, h], fun h2 => absurd h2 h, fun _ => rfl⟩
theorem bl_esc : ∀ {s t : List UInt8}, s ≠ t → ∀ x y, Op.bytesLess (esc s ++ [0, 0] ++ x) (esc t ++ [0, 0] ++ y) = Op.bytesLess s t
  | [], [], h, _, _ => absurd rfl h
  | [], d :: t, _, x, y => by
    obtain ⟨r, e, e1, e2⟩ := esc_cons d t
    rw [e]
    show Op.bytesLess (0 :: 0 :: x) (d :: (r ++ y)) = true
    rw [bl_cons]
    by_cases h : d.toNat = 0
    · rw [if_pos (byte_zero h).symm, e1 h, List.cons_append, bl_cons]
      rfl
    · rw [if_neg (fun h2 => h (by rw [← h2]; rfl))]
      exact decide_eq_true (by show 0 < d.toNat; omega)
  | c :: s, [], _, x, y => by
    obtain ⟨r, e, e1, e2⟩ := esc_cons c s
    rw [e]
    show Op.bytesLess (c :: (r ++ x)) (0 :: 0 :: y) = false
    rw [bl_cons]
    by_cases h : c.toNat = 0
    · rw [if_pos (byte_zero h), e1 h, List.cons_append, bl_cons]
      rfl
    · rw [if_neg (fun h2 => h (by rw [h2]; rfl))]
      exact decide_eq_false (by show ¬ c.toNat < 0; omega)
  | c :: s, d :: t, h, x, y => by
    obtain ⟨r, e, e1, e2⟩ := esc_cons c s
    obtain ⟨r', e', e1', e2'⟩ := esc_cons d t
    rw [e, e', List.cons_append, List.cons_append, bl_cons, bl_cons]
    by_cases hc : c = d
    · subst hc
      rw [if_pos rfl, if_pos rfl]
      have hs : s ≠ t := fun h2 => h (by rw [h2])
      by_cases h0 : c.toNat = 0
      · rw [e1 h0, e1' h0, List.cons_append, List.cons_append, bl_cons, if_pos rfl]
        exact bl_esc hs x y
      · rw [e2 h0, e2' h0]
        exact bl_esc hs x y
    · rw [if_neg hc, if_neg hc]

/-- Which of two values stands first? -/
def less (a b : V) : Bool :=
  if a.1 = b.1 then (if a.1 = 1 then !a.2.1 && b.2.1 else if a.1 = 2 then decide (a.2.2.1 < b.2.2.1) else if a.1 = 3 then Op.bytesLess a.2.2.2 b.2.2.2 else false) else decide (a.1 < b.1)
theorem less_ok (N : Nat) (a b : V) : ref_less.run N a b = some (less a b, ()) := by
  unfold less
  by_cases h : a.1 = b.1
  · rw [if_pos h]
    refine go_nd h ?_
    by_cases h1 : a.1 = 1
    · rw [if_pos h1]
      refine go_d h1 ?_
      cases a.2.1 <;> simp
    rw [if_neg h1]
    refine go_n h1 ?_
    by_cases h2 : a.1 = 2
    · rw [if_pos h2]
      exact go_d h2 rfl
    rw [if_neg h2]
    refine go_n h2 ?_
    by_cases h3 : a.1 = 3
    · rw [if_pos h3]
      exact go_d h3 rfl
    · rw [if_neg h3]
      exact go_n h3 rfl
  · rw [if_neg h]
    exact go_nn h rfl
theorem less_self (a : V) : less a a = false := by
  unfold less
  rw [if_pos rfl]
  split
  · cases a.2.1 <;> rfl
  split
  · exact decide_eq_false (by omega)
  split
  · exact bl_self _
  · rfl
theorem key1_less {v w : V} (hv : right v = true) (hw : right w = true) (fv : fitsV v) (fw : fitsV w) (h : v ≠ w) (x y : List UInt8) : Op.bytesLess (key1 v ++ x) (key1 w ++ y) = less v w := by
  rcases right_cases hv with rfl | ⟨c, rfl⟩ | ⟨n, rfl⟩ | ⟨s, rfl, hs⟩ <;> rcases right_cases hw with rfl | ⟨d, rfl⟩ | ⟨m, rfl⟩ | ⟨t, rfl, ht⟩
  · exact absurd rfl h
  · rfl
  · rfl
  · rfl
  · rfl
  · cases c <;> cases d
    · exact absurd rfl h
    · rfl
    · rfl
    · exact absurd rfl h
  · rfl
  · rfl
  · rfl
  · rfl
  · have hn : n ≠ m := fun e => h (by rw [e])
    have fv1 : -9223372036854775808 ≤ n ∧ n < 9223372036854775808 := fv
    have fw1 : -9223372036854775808 ≤ m ∧ m < 9223372036854775808 := fw
    rw [key1_two, key1_two, List.cons_append, List.cons_append, bl_cons, if_pos rfl]
    show _ = decide (n < m)
    obtain ⟨a, ha, al⟩ := u64_nat (IntKind.u64.wrap n + 9223372036854775808)
    obtain ⟨b, hb, bl⟩ := u64_nat (IntKind.u64.wrap m + 9223372036854775808)
    rw [ha, hb]
    rw [w_u64, w_u64] at ha hb
    have t1 := toNum_num8 a al
    have t2 := toNum_num8 b bl
    have hab : a ≠ b := by omega
    rw [bl_num (l := num8 (a : Int)) (m := num8 (b : Int)) rfl (fun e => hab (by rw [e, t2] at t1; exact t1.symm)) 0]
    have e1 : numF 0 (num8 (a : Int)) = a := t1
    have e2 : numF 0 (num8 (b : Int)) = b := t2
    rw [e1, e2]
    by_cases hl : n < m
    · rw [decide_eq_true hl, decide_eq_true (by omega)]
    · rw [decide_eq_false hl, decide_eq_false (by omega)]
  · rfl
  · rfl
  · rfl
  · rfl
  · have hn : s ≠ t := fun e => h (by rw [e])
    rw [key1_three, key1_three, List.cons_append, List.cons_append, bl_cons, if_pos rfl, bl_esc hn]
    rfl
theorem key1_inj {v w : V} (hv : right v = true) (hw : right w = true) (fv : fitsV v) (fw : fitsV w) (h : key1 v = key1 w) : v = w := by
  have h1 := fr1_key1 hv fv []
  rw [h, fr1_key1 hw fw []] at h1
  exact (Prod.mk.inj (Option.some.inj h1)).1.symm
theorem compare_ok (N : Nat) {v w : V} (hv : right v = true) (hw : right w = true) (fv : fitsV v) (fw : fitsV w) : ref_Compare.run N v w = some (if v = w then 0 else if less v w = true then -1 else 1, ()) := by
  refine go_o (less_ok N v w) (go_o (less_ok N w v) ?_)
  by_cases h : v = w
  · subst h
    rw [if_pos rfl]
    exact go_f (less_self v) (go_f (less_self v) rfl)
  · rw [if_neg h]
    have h1 := key1_less hv hw fv fw h [] []
    have h2 := key1_less hw hv fw fv (fun e => h e.symm) [] []
    rw [List.append_nil, List.append_nil] at h1 h2
    have h3 := bl_other (fun e => h (key1_inj hv hw fv fw e))
    rw [h2, h1] at h3
    cases hl : less v w with
    | true => exact go_t rfl rfl
    | false =>
      rw [hl] at h3
      exact go_f rfl (go_t h3 rfl)

/-- How two rows stand. -/
def cmp : List V → List V → Int
  | [], [] => 0
  | [], _ :: _ => -1
  | _ :: _, [] => 1
  | v :: a, w :: b => if v = w then cmp a b else if less v w = true then -1 else 1
theorem cmp_key : ∀ {a b : List V}, a.all right = true → b.all right = true → fitsL a → fitsL b → Op.bytesLess (key a) (key b) = decide (cmp a b < 0) ∧ (cmp a b = 0 ↔ a = b)
  | [], [], _, _, _, _ => by simp [cmp]; rfl
  | [], w :: b, _, hb, _, _ => by
    simp only [List.all_cons, Bool.and_eq_true] at hb
    have := key1_pos hb.1
    refine ⟨?_, by simp [cmp]⟩
    show Op.bytesLess [] (key1 w ++ key b) = true
    cases hq : key1 w ++ key b with
    | nil => have := congrArg List.length hq; rw [List.length_append, List.length_nil] at this; omega
    | cons c r => rfl
  | v :: a, [], ha, _, _, _ => by
    simp only [List.all_cons, Bool.and_eq_true] at ha
    have := key1_pos ha.1
    refine ⟨?_, by simp [cmp]⟩
    show Op.bytesLess (key1 v ++ key a) [] = false
    cases hq : key1 v ++ key a with
    | nil => rfl
    | cons c r => rfl
  | v :: a, w :: b, ha, hb, fa, fb => by
    simp only [List.all_cons, Bool.and_eq_true] at ha hb
    obtain ⟨f1, f2⟩ := fitsL_cons fa
    obtain ⟨g1, g2⟩ := fitsL_cons fb
    have e1 : key (v :: a) = key1 v ++ key a := by simp [key]
    have e2 : key (w :: b) = key1 w ++ key b := by simp [key]
    rw [e1, e2]
    by_cases h : v = w
    · subst h
      have ih := cmp_key ha.2 hb.2 f2 g2
      simp only [cmp, if_true]
      rw [bl_pre]
      exact ⟨ih.1, by rw [ih.2]; simp⟩
    · rw [key1_less ha.1 hb.1 f1 g1 h]
      simp only [cmp, if_neg h]
      cases less v w with
      | true => simp [h]
      | false => simp [h]
theorem rows0_ok (N : Nat) (a b : List V) (hl : a.length ≤ 1099511627776) : ∀ (s t pa pb : List V) (fuel : Nat), s.all right = true → t.all right = true → fitsL s → fitsL t → a = pa ++ s → b = pb ++ t → pa.length = pb.length → s.length < fuel →
    ref_Rows_0.go N fuel a b (pa.length : Int) = some (.inl (cmp s t, ())) ∨ (ref_Rows_0.go N fuel a b (pa.length : Int) = some (.inr ()) ∧ cmp s t = if s.length < t.length then -1 else 0)
  | _, _, _, _, 0, _, _, _, _, _, _, _, h => absurd h (Nat.not_lt_zero _)
  | [], t, pa, pb, fuel + 1, _, _, _, _, e1, e2, ep, hf => by
    refine .inr ⟨go_n (by rw [e1]; simp) rfl, ?_⟩
    cases t with
    | nil => rfl
    | cons w t => rfl
  | v :: s, [], pa, pb, fuel + 1, _, _, _, _, e1, e2, ep, hf => by
    have ha : pa.length < a.length := by rw [e1]; simp
    have hb : pa.length = b.length := by rw [e2, ep]; simp
    exact .inl (go_d (by omega) (go_d (by omega) rfl))
  | v :: s, w :: t, pa, pb, fuel + 1, hs, ht, fs, ft, e1, e2, ep, hf => by
    have ha : pa.length < a.length := by rw [e1]; simp
    have hb : pa.length < b.length := by rw [e2, ep]; simp
    have g1 : a.getD ((pa.length : Int)).toNat v0 = v := by rw [e1]; exact getD_mid _ _ _ _
    have g2 : b.getD ((pa.length : Int)).toNat v0 = w := by rw [e2, ep]; exact getD_mid _ _ _ _
    simp only [List.all_cons, Bool.and_eq_true] at hs ht
    obtain ⟨f1, f2⟩ := fitsL_cons fs
    obtain ⟨f3, f4⟩ := fitsL_cons ft
    have hC := compare_ok N hs.1 ht.1 f1 f3
    by_cases h : v = w
    · subst h
      rw [if_pos rfl] at hC
      have st : ∀ {y}, ref_Rows_0.go N fuel a b (((pa ++ [v]).length : Nat) : Int) = y → ref_Rows_0.go N (fuel + 1) a b (pa.length : Int) = y := fun {y} hy => by
        refine go_d (by omega) (go_n (by omega) (go_t (inB_nat ha) (go_t (inB_nat hb) ?_)))
        rw [g1, g2]
        refine go_o hC (go_nd rfl ?_)
        rw [wrap_succ pa.length (by omega)]
        rw [show ((pa ++ [v]).length : Int) = ((pa.length + 1 : Nat) : Int) by simp] at hy
        exact hy
      have ih := rows0_ok N a b hl s t (pa ++ [v]) (pb ++ [v]) fuel hs.2 ht.2 f2 f4 (by rw [e1]; simp) (by rw [e2]; simp) (by simp [ep]) (by simp at hf; omega)
      simp only [cmp, if_true, List.length_cons]
      rcases ih with ih | ⟨ih, ih2⟩
      · exact .inl (st ih)
      · refine .inr ⟨st ih, ?_⟩
        rw [ih2]
        by_cases hq : s.length < t.length
        · rw [if_pos hq, if_pos (by omega)]
        · rw [if_neg hq, if_neg (by omega)]
    · rw [if_neg h] at hC
      refine .inl (go_d (by omega) (go_n (by omega) (go_t (inB_nat ha) (go_t (inB_nat hb) ?_))))
      rw [g1, g2]
      refine go_o hC ?_
      simp only [cmp, if_neg h]
      cases less v w with
      | true => rfl
      | false => rfl
theorem ref_rows_ok (N : Nat) (a b : List V) (ha : a.all right = true) (hb : b.all right = true) (fa : fitsL a) (fb : fitsL b) (hl : a.length ≤ 1099511627776) (hN : a.length < N) : ref_Rows.run N a b = some (cmp a b, ()) := by
  have h := rows0_ok N a b hl a b [] [] N ha hb fa fb rfl rfl rfl hN
  rcases h with h | ⟨h, h2⟩
  · exact go_o h rfl
  · refine go_o h ?_
    rw [h2]
    by_cases hq : a.length < b.length
    · rw [if_pos hq]
      exact go_d (by omega) rfl
    · rw [if_neg hq]
      exact go_n (by omega) rfl

theorem rows_order (k : Nat) (hk : 256 ≤ k) (a b : List V) (fa : fitsL a) (fb : fitsL b) (hl : a.length ≤ 1099511627776) (hN : a.length < k) (hl2 : b.length ≤ 1099511627776) (hN2 : b.length < k) : law_RowsOrder.run (k + 9) a b = some (true, ()) := by
  have ka := key_ok k (by omega) a hl hN
  have kb := key_ok k (by omega) b hl2 hN2
  have al := alive_ok k hk
  unfold keyR at ka kb
  by_cases ra : rights a = true
  · rw [if_pos ra] at ka
    by_cases rb : rights b = true
    · rw [if_pos rb] at kb
      obtain ⟨a1, a2⟩ := rights_inv ra
      obtain ⟨b1, b2⟩ := rights_inv rb
      obtain ⟨c1, c2⟩ := cmp_key a1 b1 fa fb
      refine go_o ka (go_o kb (go_o al (go_f rfl (go_nd rfl (go_nd rfl (go_o (ref_rows_ok (k + 9) a b a1 b1 fa fb hl (by omega)) ?_))))))
      refine go_t (by rw [c1]; simp) ?_
      have e : decide (key a = key b) = decide (cmp a b = 0) := by
        by_cases h : a = b
        · rw [decide_eq_true (c2.2 h), decide_eq_true (by rw [h])]
        · rw [decide_eq_false (fun e => h (key_inj ra rb fa fb e)), decide_eq_false (fun e => h (c2.1 e))]
      rw [e]
      simp
    · rw [if_neg rb] at kb
      exact go_o ka (go_o kb (go_o al (go_f rfl (go_nd rfl (go_nn (by decide) (go_o al rfl))))))
  · rw [if_neg ra] at ka
    by_cases rb : rights b = true
    · rw [if_pos rb] at kb
      exact go_o ka (go_o kb (go_o al (go_f rfl (go_nn (by decide) (go_o al rfl)))))
    · rw [if_neg rb] at kb
      exact go_o ka (go_o kb (go_o al (go_f rfl (go_nn (by decide) (go_o al rfl)))))

/- Hashes. -/
def hstep (h : Int) (c : UInt8) : Int := IntKind.u64.wrap (IntKind.u64.wrap (((BitVec.ofInt 64 h ^^^ BitVec.ofInt 64 (IntKind.u64.wrap ((c.toNat : Nat) : Int))).toNat : Nat) : Int) * (1099511628211 : Int))
def hfold (h : Int) (l : List UInt8) : Int := l.foldl hstep h
theorem hfold_range : ∀ (l : List UInt8) (h : Int), 0 ≤ h → h < 18446744073709551616 → 0 ≤ hfold h l ∧ hfold h l < 18446744073709551616
  | [], h, h1, h2 => ⟨h1, h2⟩
  | c :: l, h, _, _ => hfold_range l (hstep h c) (by unfold hstep; rw [w_u64]; omega) (by unfold hstep; rw [w_u64]; omega)
theorem getD_mid' (pre : List UInt8) (x : UInt8) (suf : List UInt8) : (pre ++ x :: suf).getD ((pre.length : Int)).toNat 0 = x := getD_mid pre x suf 0
theorem hash0_ok (N : Nat) (b : List UInt8) (hb : b.length ≤ 1099511627776) : ∀ (suf pre : List UInt8) (h : Int) (fuel : Nat), b = pre ++ suf → suf.length < fuel →
    rows_Hash_0.go N fuel h b (b.length : Int) (pre.length : Int) = some (hfold h suf, ())
  | _, _, _, 0, _, h => absurd h (Nat.not_lt_zero _)
  | [], pre, h, fuel + 1, e, hf => go_n (by rw [e]; simp) rfl
  | c :: suf, pre, h, fuel + 1, e, hf => by
    have hlt : pre.length < b.length := by rw [e]; simp
    have hgd : b.getD ((pre.length : Int)).toNat (0 : UInt8) = c := by rw [e]; exact getD_mid' _ _ _
    refine go_d (by omega) (go_t (inB_nat hlt) (go_d (by rw [Int.toNat_natCast]; exact hlt) ?_))
    rw [hgd, wrap_succ pre.length (by omega)]
    have ih := hash0_ok N b hb suf (pre ++ [c]) (hstep h c) fuel (by rw [e]; simp) (by simp at hf; omega)
    rw [show ((pre ++ [c]).length : Int) = ((pre.length + 1 : Nat) : Int) by simp] at ih
    exact ih
theorem ref_hash0_ok (N : Nat) (b : List UInt8) (hb : b.length ≤ 1099511627776) : ∀ (suf pre : List UInt8) (h : Int) (fuel : Nat), b = pre ++ suf → suf.length < fuel →
    ref_Hash_0.go N fuel h b (pre.length : Int) = some (hfold h suf, ())
  | _, _, _, 0, _, h => absurd h (Nat.not_lt_zero _)
  | [], pre, h, fuel + 1, e, hf => go_n (by rw [e]; simp) rfl
  | c :: suf, pre, h, fuel + 1, e, hf => by
    have hlt : pre.length < b.length := by rw [e]; simp
    have hgd : b.getD ((pre.length : Int)).toNat (0 : UInt8) = c := by rw [e]; exact getD_mid' _ _ _
    refine go_d (by omega) (go_t (inB_nat hlt) (go_d (by rw [Int.toNat_natCast]; exact hlt) ?_))
    rw [hgd, wrap_succ pre.length (by omega)]
    have ih := ref_hash0_ok N b hb suf (pre ++ [c]) (hstep h c) fuel (by rw [e]; simp) (by simp at hf; omega)
    rw [show ((pre ++ [c]).length : Int) = ((pre.length + 1 : Nat) : Int) by simp] at ih
    exact ih
def hash (v : V) : Int := if right v = true then hfold 14695981039346656037 (enc1 v) else 0
theorem hash_range (v : V) : 0 ≤ hash v ∧ hash v < 18446744073709551616 := by
  unfold hash
  split
  · exact hfold_range _ _ (by omega) (by omega)
  · omega
theorem hash_ok (k : Nat) (hk : 256 ≤ k) (v : V) : rows_Hash.run (k + 9) v = some (hash v, ()) := by
  unfold hash
  refine go_o (right_ok _ v) ?_
  cases h : right v with
  | false => rfl
  | true =>
    have hl := enc1_len h
    have h1 := one_ok k [] v h (by simp)
    rw [List.nil_append] at h1
    exact go_f rfl (go_o h1 (go_o (hash0_ok (k + 9) (enc1 v) (by omega) (enc1 v) [] _ (k + 9) rfl (by omega)) rfl))
theorem ref_hash_ok (k : Nat) (hk : 256 ≤ k) (v : V) : ref_Hash.run (k + 9) v = some (hash v, ()) := by
  unfold hash
  refine go_o (ref_right1_ok _ v) ?_
  cases h : right v with
  | false => rfl
  | true =>
    have hl := enc1_len h
    exact go_f rfl (go_o (ref_one_ok k v h) (go_o (ref_hash0_ok (k + 9) (enc1 v) (by omega) (enc1 v) [] _ (k + 9) rfl (by omega)) rfl))
def seg (v : V) (many : Int) : Int := if many < 1 then 0 else IntKind.i64.wrap ((hash v).tmod (IntKind.u64.wrap many))
theorem seg_ok (k : Nat) (hk : 256 ≤ k) (v : V) (many : Int) (h2 : many < 9223372036854775808) : rows_Segment.run (k + 9) v many = some (seg v many, ()) := by
  unfold seg
  by_cases h : many < 1
  · rw [if_pos h]
    exact go_d h rfl
  · rw [if_neg h]
    exact go_n h (go_o (hash_ok k hk v) (go_nn (by rw [w_u64]; omega) rfl))
theorem ref_seg_ok (k : Nat) (hk : 256 ≤ k) (v : V) (many : Int) (h2 : many < 9223372036854775808) : ref_Segment.run (k + 9) v many = some (seg v many, ()) := by
  unfold seg
  by_cases h : many < 1
  · rw [if_pos h]
    exact go_d h rfl
  · rw [if_neg h]
    exact go_n h (go_o (ref_hash_ok k hk v) (go_nn (by rw [w_u64]; omega) rfl))
theorem seg_range (v : V) (many : Int) (h2 : many < 9223372036854775808) : 0 ≤ seg v many ∧ (¬ many < 1 → seg v many < many) := by
  unfold seg
  by_cases h : many < 1
  · rw [if_pos h]
    exact ⟨by omega, fun h3 => absurd h h3⟩
  · rw [if_neg h]
    obtain ⟨r1, r2⟩ := hash_range v
    have e : IntKind.u64.wrap many = many := by rw [w_u64]; omega
    rw [e, Int.tmod_eq_emod_of_nonneg r1]
    have m1 := Int.emod_nonneg (hash v) (show many ≠ 0 by omega)
    have m2 := Int.emod_lt_of_pos (hash v) (show 0 < many by omega)
    rw [wrap_i64 (by omega) (by omega)]
    exact ⟨m1, fun _ => m2⟩
theorem rows_hashes (k : Nat) (hk : 256 ≤ k) (v : V) (many : Int) (h2 : many < 9223372036854775808) : law_RowsHashes.run (k + 9) v many = some (true, ()) := by
  obtain ⟨r1, r2⟩ := seg_range v many h2
  refine go_o (seg_ok k hk v many h2) (go_o (alive_ok k hk) (go_t rfl (go_o (hash_ok k hk v) (go_o (ref_hash_ok k hk v) (go_d rfl (go_o (ref_seg_ok k hk v many h2) (go_d rfl (go_d r1 ?_))))))))
  by_cases h : many < 1
  · exact go_d h rfl
  · refine go_n h ?_
    rw [decide_eq_true (r2 h)]

theorem rows_apart (k : Nat) (hk : 256 ≤ k) (a b : List V) (many : Int) (fa : fitsL a) (fb : fitsL b) (hl : a.length ≤ 1099511627776) (hN : a.length < k) (hl2 : b.length ≤ 1099511627776) (hN2 : b.length < k) (h2 : many < 9223372036854775808) : law_RowsApart.run (k + 9) a b many = some (true, ()) := by
  have ea := encode_ok k a hl hN
  have eb := encode_ok k b hl2 hN2
  have ka := key_ok k (by omega) a hl hN
  have kb := key_ok k (by omega) b hl2 hN2
  have al := alive_ok k hk
  unfold keyR at ka kb
  unfold encR at ea eb
  by_cases ra : rights a = true
  · rw [if_pos ra] at ka ea
    by_cases rb : rights b = true
    · rw [if_pos rb] at kb eb
      have e1 : decide (enc a = enc b) = decide (a = b) := by
        by_cases h : a = b
        · rw [decide_eq_true h, decide_eq_true (by rw [h])]
        · rw [decide_eq_false (fun e => h (enc_inj ra rb fa fb e)), decide_eq_false h]
      have e2 : decide (key a = key b) = decide (a = b) := by
        by_cases h : a = b
        · rw [decide_eq_true h, decide_eq_true (by rw [h])]
        · rw [decide_eq_false (fun e => h (key_inj ra rb fa fb e)), decide_eq_false h]
      refine go_o ea (go_o eb (go_o ka (go_o kb (go_nd rfl (go_nd rfl (go_o (same_c_ok (k + 9) a b hl (by omega)) (go_f (by rw [e1]; simp) (go_f (by rw [e2]; simp) ?_))))))))
      by_cases ha : a.length = 0
      · exact go_d (by omega) (go_o al rfl)
      refine go_n (by omega) ?_
      by_cases hb : b.length = 0
      · exact go_d (by omega) (go_o al rfl)
      refine go_n (by omega) (go_t (inB_t (by omega) (by omega)) (go_t (inB_t (by omega) (by omega)) ?_))
      show (bif !same (a.getD 0 v0) (b.getD 0 v0) then _ else _) = _
      rw [same_eq]
      by_cases h : a.getD 0 v0 = b.getD 0 v0
      · refine go_nd h (go_o al (go_t rfl (go_t (inB_t (by omega) (by omega)) (go_o (seg_ok k hk (a.getD 0 v0) many h2) (go_t (inB_t (by omega) (by omega)) (go_o (seg_ok k hk (b.getD 0 v0) many h2) ?_))))))
        show some (decide (seg (a.getD 0 v0) many = seg (b.getD 0 v0) many), ()) = _
        rw [h, decide_eq_true rfl]
      · exact go_nn h (go_o al rfl)
    · rw [if_neg rb] at kb eb
      exact go_o ea (go_o eb (go_o ka (go_o kb (go_nd rfl (go_nn (by decide) (go_o al rfl))))))
  · rw [if_neg ra] at ka ea
    by_cases rb : rights b = true
    · rw [if_pos rb] at kb eb
      exact go_o ea (go_o eb (go_o ka (go_o kb (go_nn (by decide) (go_o al rfl)))))
    · rw [if_neg rb] at kb eb
      exact go_o ea (go_o eb (go_o ka (go_o kb (go_nn (by decide) (go_o al rfl)))))
end Go.Hay.Ytkdcillgnlfabaa
