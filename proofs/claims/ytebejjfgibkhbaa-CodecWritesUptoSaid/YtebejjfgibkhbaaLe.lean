/- What is written is read as it was; of a shorter beginning the reader fails. Conditions: sizes below a bound. -/
import Derived.Test.YtebejjfgibkhbaaLd
set_option linter.unusedVariables false
set_option linter.unusedSimpArgs false
namespace Go.Hay.Ytebejjfgibkhbaa
open Go Go.Hay Go.Proofs

/-- A thing's bytes. -/
def thB (t : Th) : List UInt8 :=
  if t.1 = 0 then numB 1 t.2.1.toNat else if t.1 = 1 then numB 4 t.2.1.toNat else if t.1 = 2 then numB 8 t.2.1.toNat else if t.1 = 3 then varB t.2.1.toNat else if t.1 = 4 then t.2.2.2 else if t.1 = 5 then textB t.2.2.2 else []
def fitT (t : Th) : Prop := 0 ≤ t.2.1 ∧ t.2.1 < 18446744073709551616 ∧ t.2.2.2.length ≤ 1000000000000
theorem thB_len (t : Th) : (thB t).length ≤ t.2.2.2.length + 9 := by
  have h1 := (varB_len t.2.1.toNat).1
  have h2 := textB_len t.2.2.2
  unfold thB
  repeat (split; · first | (rw [numB_len]; omega) | omega)
  simp
theorem th_cases (kd : Int) : kd = 0 ∨ kd = 1 ∨ kd = 2 ∨ kd = 3 ∨ kd = 4 ∨ kd = 5 ∨ (kd ≠ 0 ∧ kd ≠ 1 ∧ kd ≠ 2 ∧ kd ≠ 3 ∧ kd ≠ 4 ∧ kd ≠ 5) := by omega
theorem numB_one (n : Nat) : numB 1 n = [UInt8.ofNat (n % 256)] := by simp [numB]
theorem numB_word (n : Nat) : numB 4 (n % 4294967296) = numB 4 n := by
  have h := numB_add 4 (n / 4294967296) (n % 4294967296)
  rw [show n / 4294967296 * 256 ^ 4 + n % 4294967296 = n by omega] at h
  exact h.symm

theorem write_ok (k : Nat) (b : List UInt8) (t : Th) (ht : fitT t) (hb : b.length ≤ 1000000000000) : law_write.run (k + 9) b t = some ((b ++ thB t, ()), ()) := by
  obtain ⟨kd, n, m, B⟩ := t
  obtain ⟨f1, f2, f3⟩ := ht
  obtain ⟨x, rfl⟩ := Int.eq_ofNat_of_zero_le f1
  rcases th_cases kd with rfl | rfl | rfl | rfl | rfl | rfl | ⟨h0, h1, h2, h3, h4, h5⟩
  · refine go_d rfl (go_o (wr_byte _ b _ (by omega)) ?_)
    show some ((b ++ [Hay.u8 (IntKind.u8.wrap (x : Int))], ()), ()) = some ((b ++ numB 1 x, ()), ())
    rw [u8_nat, numB_one]
  · have e : IntKind.u64.wrap (IntKind.u32.wrap (x : Int)) = ((x % 4294967296 : Nat) : Int) := by rw [w_u32, w_u64]; omega
    have h := wr_high k (x % 4294967296) 4 b (by omega) (by omega)
    rw [← e] at h
    refine go_n (by simp) (go_d rfl (go_o (v := ((b ++ numB 4 (x % 4294967296), ()), ())) (go_o h rfl) ?_))
    show some ((b ++ numB 4 (x % 4294967296), ()), ()) = some ((b ++ numB 4 x, ()), ())
    rw [numB_word]
  · exact go_n (by simp) (go_n (by simp) (go_d rfl (go_o (v := ((b ++ numB 8 x, ()), ())) (go_o (wr_high k x 8 b (by omega) (by omega)) rfl) rfl)))
  · exact go_n (by simp) (go_n (by simp) (go_n (by simp) (go_d rfl (go_o (wr_var k x b (by omega)) rfl))))
  · have f4 : B.length ≤ 1000000000000 := f3
    exact go_n (by simp) (go_n (by simp) (go_n (by simp) (go_n (by simp) (go_d rfl (go_o (v := ((b ++ B, ()), ())) (go_t (room_t (by show (b.length + B.length) * 1 ≤ _; omega) (by show b.length + B.length ≤ _; omega)) rfl) rfl)))))
  · have f4 : B.length ≤ 1000000000000 := f3
    exact go_n (by simp) (go_n (by simp) (go_n (by simp) (go_n (by simp) (go_n (by simp) (go_d rfl (go_o (wr_text k b B (by omega) (by omega)) rfl))))))
  · have e : thB (kd, (x : Int), m, B) = [] := by simp [thB, h0, h1, h2, h3, h4, h5]
    rw [e, List.append_nil]
    exact go_n h0 (go_n h1 (go_n h2 (go_n h3 (go_n h4 (go_n h5 rfl)))))

theorem hi_pre (m n : Nat) (r : List UInt8) : hiX (numB m n ++ r) 0 m = ((r, 0), n % 256 ^ m) := by
  rw [hi_ok (by rw [List.length_append, numB_len]; omega), List.take_left' (numB_len m n), List.drop_left' (numB_len m n), toNum_numB]
theorem varX_pre (n : Nat) (hn : n < 18446744073709551616) (r : List UInt8) (most : Int) (h : (n : Int) ≤ most) : varX (varB n ++ r) most = .ok (n, (varB n).length) := by
  unfold varX
  rw [varD_varB n hn r]
  simp only
  rw [if_neg (by omega)]
theorem raw_pre (b r : List UInt8) : rawR (b ++ r) 0 (b.length : Int) = ((r, 0), b) := by
  unfold rawR
  rw [if_neg (by decide), if_neg (by omega), if_neg (by rw [List.length_append]; omega), Int.toNat_natCast, List.drop_left, List.take_left]
theorem text_pre (b r : List UInt8) (hb : b.length ≤ 1000000000000) (most : Int) (hm : (b.length : Int) ≤ most) : textR (textB b ++ r) 0 most = ((r, 0), b) := by
  unfold textR
  have e : textB b ++ r = varB b.length ++ (b ++ r) := by simp [textB]
  rw [if_neg (by decide), e, varX_pre b.length (by omega) _ most hm]
  simp only
  rw [List.drop_left, if_neg (by rw [List.length_append]; omega), List.take_left, ← List.drop_drop, List.drop_left, List.drop_left]

theorem back_ok (k : Nat) (t : Th) (ht : fitT t) (r : List UInt8) (hr : (thB t ++ r).length ≤ 10000000000000) : law_back.run (k + 9) (thB t ++ r) 0 t = some ((r, 0, ()), true, ()) := by
  obtain ⟨kd, n, m, B⟩ := t
  obtain ⟨f1, f2, f3⟩ := ht
  obtain ⟨x, rfl⟩ := Int.eq_ofNat_of_zero_le f1
  have f4 : B.length ≤ 1000000000000 := f3
  have f5 : (x : Int) < 18446744073709551616 := f2
  rcases th_cases kd with rfl | rfl | rfl | rfl | rfl | rfl | ⟨h0, h1, h2, h3, h4, h5⟩
  · have g := rd_high k (numB 1 x ++ r) 0 1 (by omega)
    rw [hi_pre] at g
    refine go_d rfl (go_o (v := ((r, 0, ()), Hay.u8 (IntKind.u8.wrap ((x % 256 ^ 1 : Nat) : Int)), ())) (go_o g rfl) ?_)
    show some ((r, 0, ()), decide ((((Hay.u8 (IntKind.u8.wrap ((x % 256 ^ 1 : Nat) : Int))).toNat : Nat) : Int) = IntKind.u8.wrap (x : Int)), ()) = _
    rw [decide_eq_true (by rw [u8_nat, UInt8.toNat_ofNat', w_u8]; omega)]
  · have g := rd_high k (numB 4 x ++ r) 0 4 (by omega)
    rw [hi_pre] at g
    refine go_n (by simp) (go_d rfl (go_o (v := ((r, 0, ()), IntKind.u32.wrap ((x % 256 ^ 4 : Nat) : Int), ())) (go_o g rfl) ?_))
    show some ((r, 0, ()), decide (IntKind.u32.wrap ((x % 256 ^ 4 : Nat) : Int) = IntKind.u32.wrap (x : Int)), ()) = _
    rw [decide_eq_true (by rw [w_u32, w_u32]; omega)]
  · have g := rd_high k (numB 8 x ++ r) 0 8 (by omega)
    rw [hi_pre] at g
    refine go_n (by simp) (go_n (by simp) (go_d rfl (go_o (v := ((r, 0, ()), ((x % 256 ^ 8 : Nat) : Int), ())) (go_o g rfl) ?_)))
    show some ((r, 0, ()), decide (((x % 256 ^ 8 : Nat) : Int) = (x : Int)), ()) = _
    rw [decide_eq_true (by omega)]
  · have g := rd_var k (varB x ++ r) 0 (x : Int)
    unfold varR at g
    rw [if_neg (by decide), varX_pre x (by omega) r (x : Int) (Int.le_refl _)] at g
    simp only at g
    rw [List.drop_left] at g
    refine go_n (by simp) (go_n (by simp) (go_n (by simp) (go_d rfl (go_o g ?_))))
    show some ((r, 0, ()), decide ((x : Int) = (x : Int)), ()) = _
    rw [decide_eq_true rfl]
  · have g := rd_raw (k + 9) (B ++ r) 0 (B.length : Int) (by have : (B ++ r).length ≤ 10000000000000 := hr; omega)
    rw [raw_pre] at g
    exact go_n (by simp) (go_n (by simp) (go_n (by simp) (go_n (by simp) (go_d rfl (go_o g (go_o (same_b_ok _ _ _ rfl) rfl))))))
  · have g := rd_text k (textB B ++ r) 0 (B.length : Int) (by have : (textB B ++ r).length ≤ 10000000000000 := hr; omega) (by omega)
    rw [text_pre B r f4 _ (Int.le_refl _)] at g
    exact go_n (by simp) (go_n (by simp) (go_n (by simp) (go_n (by simp) (go_n (by simp) (go_d rfl (go_o g (go_o (same_b_ok _ _ _ rfl) rfl)))))))
  · have e : thB (kd, (x : Int), m, B) = [] := by simp [thB, h0, h1, h2, h3, h4, h5]
    rw [e, List.nil_append]
    exact go_n h0 (go_n h1 (go_n h2 (go_n h3 (go_n h4 (go_n h5 rfl)))))

/-- Where a reader has failed it stays so. -/
theorem back_any (k : Nat) (t : Th) (ht : fitT t) (b : List UInt8) (hb : b.length ≤ 10000000000000) (e : Int) (e' : Int) (b' : List UInt8)
    (g0 : t.1 = 0 → (hiX b e 1).1 = (b', e')) (g1 : t.1 = 1 → (hiX b e 4).1 = (b', e')) (g2 : t.1 = 2 → (hiX b e 8).1 = (b', e')) (g3 : t.1 = 3 → (varR b e t.2.1).1 = (b', e'))
    (g4 : t.1 = 4 → (rawR b e (t.2.2.2.length : Int)).1 = (b', e')) (g5 : t.1 = 5 → (textR b e (t.2.2.2.length : Int)).1 = (b', e'))
    (g6 : t.1 ≠ 0 ∧ t.1 ≠ 1 ∧ t.1 ≠ 2 ∧ t.1 ≠ 3 ∧ t.1 ≠ 4 ∧ t.1 ≠ 5 → (b, e) = (b', e')) :
    ∃ ok, law_back.run (k + 9) b e t = some ((b', e', ()), ok, ()) := by
  obtain ⟨kd, n, m, B⟩ := t
  have f4 : B.length ≤ 1000000000000 := ht.2.2
  rcases th_cases kd with rfl | rfl | rfl | rfl | rfl | rfl | ⟨h0, h1, h2, h3, h4, h5⟩
  · have g := rd_high k b e 1 (by omega)
    rw [g0 rfl] at g
    exact ⟨_, go_d rfl (go_o (v := ((b', e', ()), Hay.u8 (IntKind.u8.wrap (((hiX b e 1).2 : Nat) : Int)), ())) (go_o g rfl) rfl)⟩
  · have g := rd_high k b e 4 (by omega)
    rw [g1 rfl] at g
    exact ⟨_, go_n (by simp) (go_d rfl (go_o (v := ((b', e', ()), IntKind.u32.wrap (((hiX b e 4).2 : Nat) : Int), ())) (go_o g rfl) rfl))⟩
  · have g := rd_high k b e 8 (by omega)
    rw [g2 rfl] at g
    exact ⟨_, go_n (by simp) (go_n (by simp) (go_d rfl (go_o (v := ((b', e', ()), (((hiX b e 8).2 : Nat) : Int), ())) (go_o g rfl) rfl)))⟩
  · have g := rd_var k b e n
    rw [g3 rfl] at g
    exact ⟨_, go_n (by simp) (go_n (by simp) (go_n (by simp) (go_d rfl (go_o g rfl))))⟩
  · have g := rd_raw (k + 9) b e (B.length : Int) (by omega)
    rw [g4 rfl] at g
    exact ⟨_, go_n (by simp) (go_n (by simp) (go_n (by simp) (go_n (by simp) (go_d rfl (go_o g (go_o (v := (_, ())) rfl rfl))))))⟩
  · have g := rd_text k b e (B.length : Int) (by omega) (by omega)
    rw [g5 rfl] at g
    exact ⟨_, go_n (by simp) (go_n (by simp) (go_n (by simp) (go_n (by simp) (go_n (by simp) (go_d rfl (go_o g (go_o (v := (_, ())) rfl rfl)))))))⟩
  · cases g6 ⟨h0, h1, h2, h3, h4, h5⟩
    exact ⟨_, go_n h0 (go_n h1 (go_n h2 (go_n h3 (go_n h4 (go_n h5 rfl)))))⟩
theorem back_bad (k : Nat) (t : Th) (ht : fitT t) (b : List UInt8) (hb : b.length ≤ 10000000000000) (e : Int) (he : e ≠ 0) : ∃ ok, law_back.run (k + 9) b e t = some ((b, e, ()), ok, ()) := by
  refine back_any k t ht b hb e e b ?_ ?_ ?_ ?_ ?_ ?_ (fun _ => rfl)
  · intro _; rw [hi_bad he]
  · intro _; rw [hi_bad he]
  · intro _; rw [hi_bad he]
  · intro _; unfold varR; rw [if_pos he]
  · intro _; unfold rawR; rw [if_pos he]
  · intro _; unfold textR; rw [if_pos he]
theorem back_cut (k : Nat) (t : Th) (ht : fitT t) (c : Nat) (hc : c < (thB t).length) : ∃ ok, law_back.run (k + 9) ((thB t).take c) 0 t = some (((thB t).take c, 10, ()), ok, ()) := by
  have hl := thB_len t
  have h3 := ht.2.2
  have h4 := ht.2.1
  have hx : ∀ m n, thB t = numB m n → (hiX ((thB t).take c) 0 m).1 = ((thB t).take c, 10) := by
    intro m n e
    rw [e, numB_len] at hc
    rw [hi_short (by rw [List.length_take, e, numB_len]; omega)]
  refine back_any k t ht _ (by rw [List.length_take]; omega) 0 10 _ ?_ ?_ ?_ ?_ ?_ ?_ ?_
  · intro h; exact hx 1 t.2.1.toNat (by simp [thB, h])
  · intro h; exact hx 4 t.2.1.toNat (by simp [thB, h])
  · intro h; exact hx 8 t.2.1.toNat (by simp [thB, h])
  · intro h
    have e : thB t = varB t.2.1.toNat := by simp [thB, h]
    rw [e] at hc ⊢
    unfold varR varX
    rw [if_neg (by decide), varD_cut _ (by omega) c hc]
  · intro h
    have e : thB t = t.2.2.2 := by simp [thB, h]
    rw [e] at hc ⊢
    unfold rawR
    rw [if_neg (by decide), if_neg (by omega), if_pos (by rw [List.length_take]; omega)]
  · intro h
    have e : thB t = textB t.2.2.2 := by simp [thB, h]
    rw [e] at hc ⊢
    unfold textR
    rw [if_neg (by decide)]
    unfold textB at hc ⊢
    rw [List.length_append] at hc
    by_cases hv : c < (varB t.2.2.2.length).length
    · rw [List.take_append_of_le_length (by omega)]
      unfold varX
      rw [varD_cut _ (by omega) c hv]
    · rw [List.take_append, List.take_of_length_le (by omega), varX_pre _ (by omega) _ _ (Int.le_refl _)]
      simp only
      rw [List.drop_left, if_pos (by rw [List.length_take]; omega)]
  · intro ⟨h0, h1, h2, h3, h4, h5⟩
    have e : thB t = [] := by simp [thB, h0, h1, h2, h3, h4, h5]
    rw [e] at hc
    simp at hc

def totT (l : List Th) : Nat := (l.map fun t => t.2.2.2.length + 9).sum
theorem totT_cons (t : Th) (l : List Th) : totT (t :: l) = t.2.2.2.length + 9 + totT l := by simp [totT]
theorem flatT_len : ∀ l : List Th, (l.flatMap thB).length ≤ totT l
  | [] => by simp [totT]
  | t :: l => by
    have h1 := thB_len t
    have h2 := flatT_len l
    rw [totT_cons, List.flatMap_cons, List.length_append]; omega
theorem back0_ok (k : Nat) (l : List Th) (hl : l.length ≤ 10000000000000) : ∀ (suf pre : List Th) (b : List UInt8) (fuel : Nat), l = pre ++ suf → (∀ t ∈ suf, fitT t) → b.length + totT suf ≤ 1000000000000 → suf.length < fuel →
    law_CodecBack_0.go (k + 9) fuel b l (l.length : Int) (pre.length : Int) = some ((b ++ suf.flatMap thB, ()), ())
  | _, _, _, 0, _, _, _, h => absurd h (Nat.not_lt_zero _)
  | [], pre, b, fuel + 1, hp, _, _, hf => go_n (by rw [hp]; simp) (by simp)
  | t :: suf, pre, b, fuel + 1, hp, hm, hb, hf => by
    have hlt : pre.length < l.length := by rw [hp]; simp
    have hgd : l.getD ((pre.length : Int)).toNat ((0 : Int), (0 : Int), (0 : Int), ([] : List UInt8)) = t := by rw [hp]; exact getD_mid _ _ _ _
    rw [totT_cons] at hb
    have h1 := thB_len t
    refine go_d (by omega) (go_t (inB_nat hlt) ?_)
    rw [hgd]
    refine go_o (write_ok k b t (hm t (List.mem_cons_self ..)) (by omega)) ?_
    rw [wrap_succ pre.length (by omega)]
    have ih := back0_ok k l hl suf (pre ++ [t]) (b ++ thB t) fuel (by rw [hp]; simp) (fun x hx => hm x (List.mem_cons_of_mem _ hx)) (by rw [List.length_append]; omega) (by simp at hf; omega)
    rw [show ((pre ++ [t]).length : Int) = ((pre.length + 1 : Nat) : Int) by simp] at ih
    exact ih.trans (by simp)
theorem back1_ok (k : Nat) (l : List Th) (hl : l.length ≤ 10000000000000) : ∀ (suf pre : List Th) (fuel : Nat), l = pre ++ suf → (∀ t ∈ suf, fitT t) → totT suf ≤ 1000000000000 → suf.length < fuel →
    law_CodecBack_1.go (k + 9) fuel (suf.flatMap thB) 0 l (l.length : Int) (pre.length : Int) = some (.inr (([], 0, ()), ()))
  | _, _, 0, _, _, _, h => absurd h (Nat.not_lt_zero _)
  | [], pre, fuel + 1, hp, _, _, hf => go_n (by rw [hp]; simp) rfl
  | t :: suf, pre, fuel + 1, hp, hm, hb, hf => by
    have hlt : pre.length < l.length := by rw [hp]; simp
    have hgd : l.getD ((pre.length : Int)).toNat ((0 : Int), (0 : Int), (0 : Int), ([] : List UInt8)) = t := by rw [hp]; exact getD_mid _ _ _ _
    have hfl := flatT_len (t :: suf)
    rw [totT_cons] at hb hfl
    refine go_d (by omega) (go_t (inB_nat hlt) ?_)
    rw [hgd]
    rw [List.flatMap_cons] at hfl ⊢
    refine go_o (back_ok k t (hm t (List.mem_cons_self ..)) _ (by omega)) (go_f rfl (go_o (v := (0, ())) rfl (go_nd rfl ?_)))
    rw [wrap_succ pre.length (by omega)]
    have ih := back1_ok k l hl suf (pre ++ [t]) fuel (by rw [hp]; simp) (fun x hx => hm x (List.mem_cons_of_mem _ hx)) (by omega) (by simp at hf; omega)
    rw [show ((pre ++ [t]).length : Int) = ((pre.length + 1 : Nat) : Int) by simp] at ih
    exact ih
theorem back2_bad (k : Nat) (l : List Th) (hl : l.length ≤ 10000000000000) (b : List UInt8) (hb : b.length ≤ 10000000000000) (e : Int) (he : e ≠ 0) : ∀ (suf pre : List Th) (fuel : Nat), l = pre ++ suf → (∀ t ∈ suf, fitT t) → suf.length < fuel →
    law_CodecBack_2.go (k + 9) fuel b e l (l.length : Int) (pre.length : Int) = some ((b, e, ()), ())
  | _, _, 0, _, _, h => absurd h (Nat.not_lt_zero _)
  | [], pre, fuel + 1, hp, _, hf => go_n (by rw [hp]; simp) rfl
  | t :: suf, pre, fuel + 1, hp, hm, hf => by
    have hlt : pre.length < l.length := by rw [hp]; simp
    have hgd : l.getD ((pre.length : Int)).toNat ((0 : Int), (0 : Int), (0 : Int), ([] : List UInt8)) = t := by rw [hp]; exact getD_mid _ _ _ _
    obtain ⟨ok, hk⟩ := back_bad k t (hm t (List.mem_cons_self ..)) b hb e he
    refine go_d (by omega) (go_t (inB_nat hlt) ?_)
    rw [hgd]
    refine go_o hk ?_
    rw [wrap_succ pre.length (by omega)]
    have ih := back2_bad k l hl b hb e he suf (pre ++ [t]) fuel (by rw [hp]; simp) (fun x hx => hm x (List.mem_cons_of_mem _ hx)) (by simp at hf; omega)
    rw [show ((pre ++ [t]).length : Int) = ((pre.length + 1 : Nat) : Int) by simp] at ih
    exact ih
theorem back2_ok (k : Nat) (l : List Th) (hl : l.length ≤ 10000000000000) : ∀ (suf pre : List Th) (c : Nat) (fuel : Nat), l = pre ++ suf → (∀ t ∈ suf, fitT t) → totT suf ≤ 1000000000000 → c < (suf.flatMap thB).length → suf.length < fuel →
    ∃ b, law_CodecBack_2.go (k + 9) fuel ((suf.flatMap thB).take c) 0 l (l.length : Int) (pre.length : Int) = some ((b, 10, ()), ())
  | _, _, _, 0, _, _, _, _, h => absurd h (Nat.not_lt_zero _)
  | [], pre, c, fuel + 1, hp, _, _, hc, hf => by simp at hc
  | t :: suf, pre, c, fuel + 1, hp, hm, hb, hc, hf => by
    have hlt : pre.length < l.length := by rw [hp]; simp
    have hgd : l.getD ((pre.length : Int)).toNat ((0 : Int), (0 : Int), (0 : Int), ([] : List UInt8)) = t := by rw [hp]; exact getD_mid _ _ _ _
    have hfl := flatT_len (t :: suf)
    have ht := hm t (List.mem_cons_self ..)
    have hm2 : ∀ x ∈ suf, fitT x := fun x hx => hm x (List.mem_cons_of_mem _ hx)
    rw [totT_cons] at hb hfl
    rw [List.flatMap_cons] at hfl hc ⊢
    rw [List.length_append] at hc hfl
    by_cases h : c < (thB t).length
    · rw [List.take_append_of_le_length (by omega)]
      obtain ⟨ok, hk⟩ := back_cut k t ht c h
      have ih := back2_bad k l hl ((thB t).take c) (by rw [List.length_take]; omega) 10 (by decide) suf (pre ++ [t]) fuel (by rw [hp]; simp) hm2 (by simp at hf; omega)
      rw [show ((pre ++ [t]).length : Int) = ((pre.length + 1 : Nat) : Int) by simp] at ih
      refine ⟨(thB t).take c, go_d (by omega) (go_t (inB_nat hlt) ?_)⟩
      rw [hgd]
      refine go_o hk ?_
      rw [wrap_succ pre.length (by omega)]
      exact ih
    · rw [List.take_append, List.take_of_length_le (by omega)]
      obtain ⟨b, ih⟩ := back2_ok k l hl suf (pre ++ [t]) (c - (thB t).length) fuel (by rw [hp]; simp) hm2 (by omega) (by omega) (by simp at hf; omega)
      rw [show ((pre ++ [t]).length : Int) = ((pre.length + 1 : Nat) : Int) by simp] at ih
      refine ⟨b, go_d (by omega) (go_t (inB_nat hlt) ?_)⟩
      rw [hgd]
      refine go_o (back_ok k t ht _ (by rw [List.length_append, List.length_take]; omega)) ?_
      rw [wrap_succ pre.length (by omega)]
      exact ih
theorem codec_back (k : Nat) (l : List Th) (cut : Int) (hl : l.length ≤ 10000000000000) (hlk : l.length < k) (hm : ∀ t ∈ l, fitT t) (ht : totT l ≤ 1000000000000) : law_CodecBack.run (k + 9) l cut = some (true, ()) := by
  have hfl := flatT_len l
  have h0 := back0_ok k l hl l [] [] (k + 9) rfl hm (by simpa using ht) (by omega)
  rw [List.nil_append] at h0
  have h1 := back1_ok k l hl l [] (k + 9) rfl hm ht (by omega)
  refine go_o (v := (([], ()), ())) rfl (go_o (alive_ok k) (go_f rfl (go_o h0 (go_o (bytes_ok _ _ (by omega)) (go_o (read_b_ok _ _ (by omega)) (go_o h1 (go_o (v := (0, ())) rfl (go_nd rfl (go_o (v := (0, ())) rfl (go_nd rfl ?_))))))))))
  by_cases c0 : cut < 0
  · exact go_d c0 rfl
  refine go_n c0 ?_
  by_cases c1 : cut ≥ ((l.flatMap thB).length : Int)
  · exact go_d c1 rfl
  refine go_n c1 (go_t (okB_t (by omega) (by omega) (by omega)) ?_)
  obtain ⟨b, h2⟩ := back2_ok k l hl l [] cut.toNat (k + 9) rfl hm ht (by omega) (by omega)
  rw [List.drop_zero, Int.sub_zero]
  refine go_o (read_ok _ _ (by rw [List.length_take]; omega)) (go_o h2 (go_o (v := (10, ())) rfl (go_d rfl (go_o (v := (10, ())) (go_n (by simp) rfl) rfl))))
end Go.Hay.Ytebejjfgibkhbaa
