/- Whatever is written stands in the bytes; frames of which a bit is turned. Conditions: sizes below a bound. -/
import Derived.Test.YtebejjfgibkhbaaLh
set_option linter.unusedVariables false
set_option linter.unusedSimpArgs false
namespace Go.Hay.Ytebejjfgibkhbaa
open Go Go.Hay Go.Proofs

/- Frames with one byte changed. -/
theorem sumN_set {l : List UInt8} {i : Nat} (h : i < l.length) {d : UInt8} (hd : l.getD i 0 ≠ d) : sumN (l.set i d) ≠ sumN l := by
  have hs := set_split h d
  have hne := sumN_byte (l.take i) (l.drop (i + 1)) hd
  rw [← hs.1, ← hs.2] at hne
  exact fun e => hne e.symm
theorem set_ne {l : List UInt8} {i : Nat} (h : i < l.length) {d : UInt8} (hd : l.getD i 0 ≠ d) : l.set i d ≠ l := by
  intro e
  apply hd
  have : (l.set i d).getD i 0 = l.getD i 0 := by rw [e]
  rw [← this, List.getD_eq_getElem?_getD, List.getElem?_set_self h]; rfl
theorem toNum_set {l : List UInt8} {i : Nat} (h : i < l.length) {d : UInt8} (hd : l.getD i 0 ≠ d) : toNum (l.set i d) ≠ toNum l := by
  intro e
  have h1 := numB_toNum (l.set i d)
  rw [List.length_set, e, numB_toNum] at h1
  exact set_ne h hd h1.symm
theorem getD_app_left (a b : List UInt8) {i : Nat} (h : i < a.length) : (a ++ b).getD i 0 = a.getD i 0 := by
  rw [List.getD_eq_getElem?_getD, List.getElem?_append_left h, List.getD_eq_getElem?_getD]
theorem getD_app_right (a b : List UInt8) {i : Nat} (h : a.length ≤ i) : (a ++ b).getD i 0 = b.getD (i - a.length) 0 := by
  rw [List.getD_eq_getElem?_getD, List.getElem?_append_right h, List.getD_eq_getElem?_getD]

theorem unf_turn (x : List UInt8) (hx : x.length ≤ 16777216) (i : Nat) (hi : i < (frame x).length) (d : UInt8) (hd : (frame x).getD i 0 ≠ d) : unf ((frame x).set i d) = ([], 0, 14) := by
  have fl := frame_len x
  have s1 := sumN_lt (numB 4 x.length)
  have s2 := sumN_lt x
  have lA := numB_len 4 x.length
  have lS := numB_len 4 (sumN (numB 4 x.length))
  have lX := numB_len 4 (sumN x)
  have e : frame x = numB 4 x.length ++ (numB 4 (sumN (numB 4 x.length)) ++ (x ++ numB 4 (sumN x))) := by simp [frame]
  have key : ∀ A S Y X : List UInt8, A.length = 4 → S.length = 4 → Y.length = x.length → X.length = 4 →
      (toNum S ≠ sumN A ∨ (toNum S = sumN A ∧ toNum A = x.length ∧ toNum X ≠ sumN Y)) → unf (A ++ (S ++ (Y ++ X))) = ([], 0, 14) := by
    intro A S Y X hA hS hY hX h
    have t1 : (A ++ (S ++ (Y ++ X))).take 4 = A := List.take_left' hA
    have t2 : (A ++ (S ++ (Y ++ X))).drop 4 = S ++ (Y ++ X) := List.drop_left' hA
    have t3 : (A ++ (S ++ (Y ++ X))).drop 8 = Y ++ X := by rw [show 8 = 4 + 4 from rfl, ← List.drop_drop, t2, List.drop_left' hS]
    have t4 : (A ++ (S ++ (Y ++ X))).drop (8 + x.length) = X := by rw [← List.drop_drop, t3, List.drop_left' hY]
    have hlen : (A ++ (S ++ (Y ++ X))).length = x.length + 12 := by simp only [List.length_append]; omega
    unfold unf
    rw [t1, t2, List.take_left' hS, if_neg (by omega)]
    rcases h with h | ⟨h1, h2, h3⟩
    · rw [if_pos h]
    · rw [if_neg (by simp [h1]), h2, if_neg (by omega), if_neg (by omega), t3, t4, List.take_left' hY, List.take_of_length_le (by omega), if_pos h3]
  rw [e] at hd hi ⊢
  simp only [List.length_append] at hi
  by_cases c1 : i < 4
  · rw [getD_app_left _ _ (by omega)] at hd
    rw [List.set_append_left _ _ (by omega)]
    refine key _ _ _ _ (by rw [List.length_set]; exact lA) lS rfl lX (.inl ?_)
    rw [numB_back _ s1]
    exact fun h => sumN_set (by omega) hd h.symm
  rw [getD_app_right _ _ (by omega), lA] at hd
  rw [List.set_append_right _ _ (by omega), lA]
  by_cases c2 : i - 4 < 4
  · rw [getD_app_left _ _ (by omega)] at hd
    rw [List.set_append_left _ _ (by omega)]
    refine key _ _ _ _ lA (by rw [List.length_set]; exact lS) rfl lX (.inl ?_)
    intro h
    refine toNum_set (l := numB 4 (sumN (numB 4 x.length))) (by omega) hd ?_
    rw [numB_back _ s1]
    exact h
  rw [getD_app_right _ _ (by omega), lS] at hd
  rw [List.set_append_right _ _ (by omega), lS]
  by_cases c3 : i - 4 - 4 < x.length
  · rw [getD_app_left _ _ (by omega)] at hd
    rw [List.set_append_left _ _ (by omega)]
    refine key _ _ _ _ lA lS (by rw [List.length_set]) lX (.inr ⟨numB_back _ s1, numB_back _ (by omega), ?_⟩)
    rw [numB_back _ s2]
    exact fun h => sumN_set (by omega) hd h.symm
  · rw [getD_app_right _ _ (by omega)] at hd
    rw [List.set_append_right _ _ (by omega)]
    refine key _ _ _ _ lA lS rfl (by rw [List.length_set]; exact lX) (.inr ⟨numB_back _ s1, numB_back _ (by omega), ?_⟩)
    intro h
    refine toNum_set (l := numB 4 (sumN x)) (by omega) hd ?_
    rw [numB_back _ s2]
    exact h

theorem codec_unframes (k : Nat) (b more : List UInt8) (at_ : Int) (hb : b.length ≤ 1048576) (hm : more.length ≤ 1048576) (hk : b.length + 12 + more.length < k) (h9 : 9 < k) (h2 : at_ < 9223372036854775808) :
    law_CodecUnframes.run (k + 20) b more at_ = some (true, ()) := by
  have fl := frame_len b
  have h1 := cd_unframe k (frame b ++ more) (by rw [List.length_append]; omega) (by rw [List.length_append]; omega) h9
  rw [unf_frame b more (by omega)] at h1
  refine go_o (cd_frame k b (by omega) (by omega) h9) (go_nd rfl (go_t (room_t (by omega) (by omega)) (go_t (room_t (by omega) (by omega)) (go_o h1 (go_o (alive_ok (k + 11)) (go_f rfl (go_nd rfl (go_nd (by simp only; omega) (go_o (same_b_ok _ _ _ rfl) (go_f rfl ?_))))))))))
  by_cases h0 : at_ < 0
  · exact go_d h0 rfl
  refine go_n h0 ?_
  obtain ⟨x, rfl⟩ := Int.eq_ofNat_of_zero_le (show 0 ≤ at_ by omega)
  have e1 : IntKind.i64.wrap ((x : Int).tdiv 8) = ((x / 8 : Nat) : Int) := by
    rw [Int.tdiv_eq_ediv_of_nonneg (by omega), wrap_i64] <;> omega
  have e2 : (x : Int).tmod 8 = ((x % 8 : Nat) : Int) := by
    rw [Int.tmod_eq_emod_of_nonneg (by omega)]; omega
  rw [e1, e2]
  by_cases hc : ((x / 8 : Nat) : Int) ≥ ((frame b).length : Int)
  · exact go_d hc rfl
  have hi : x / 8 < (frame b).length := by omega
  have h3 := cd_unframe k ((frame b).take (x / 8)) (by rw [List.length_take]; omega) (by rw [List.length_take]; omega) h9
  rw [unf_cut b (by omega) _ hi] at h3
  have h4 := cd_unframe k ((frame b).set (x / 8) (turn ((frame b).getD (x / 8) 0) ((x % 8 : Nat) : Int))) (by rw [List.length_set]; omega) (by rw [List.length_set]; omega) h9
  rw [unf_turn b (by omega) (x / 8) hi _ (turn_ne _ _ (by omega))] at h4
  refine go_n hc (go_t (okB_t (by omega) (by omega) (by omega)) ?_)
  rw [Int.sub_zero, List.drop_zero, Int.toNat_natCast]
  refine go_o h3 (go_nd rfl (go_nd rfl (go_t (inB_nat hi) (go_d hi (go_d (by omega) (go_t (inB_nat hi) (go_d hi (go_o h4 (go_d rfl (go_d rfl rfl))))))))))

/- Writing. -/
theorem law_bytes_ok (k : Nat) (t : Th) (ht : fitT t) : law_bytes.run (k + 9) t = some (thB t, ()) := by
  obtain ⟨kd, n, m, B⟩ := t
  obtain ⟨f1, f2, f3⟩ := ht
  obtain ⟨x, rfl⟩ := Int.eq_ofNat_of_zero_le f1
  have f2' : x < 18446744073709551616 := by
    have : (x : Int) < 18446744073709551616 := f2
    omega
  have m1 : (x : Int).tmod 256 = ((x % 256 : Nat) : Int) := by rw [Int.tmod_eq_emod_of_nonneg (by omega)]; omega
  have m4 : (x : Int).tmod 4294967296 = ((x % 4294967296 : Nat) : Int) := by rw [Int.tmod_eq_emod_of_nonneg (by omega)]; omega
  rcases th_cases kd with rfl | rfl | rfl | rfl | rfl | rfl | ⟨h0, h1, h2, h3, h4, h5⟩
  · have h := rf_number k (x % 256) 1 (by omega) (by omega)
    rw [← m1] at h
    refine go_d rfl (go_o h ?_)
    show some (numB 1 (x % 256), ()) = some (numB 1 x, ())
    rw [numB_one, numB_one, Nat.mod_mod]
  · have h := rf_number k (x % 4294967296) 4 (by omega) (by omega)
    rw [← m4] at h
    refine go_n (by simp) (go_d rfl (go_o h ?_))
    show some (numB 4 (x % 4294967296), ()) = some (numB 4 x, ())
    rw [numB_word]
  · exact go_n (by simp) (go_n (by simp) (go_d rfl (go_o (rf_number k x 8 (by omega) f2') rfl)))
  · exact go_n (by simp) (go_n (by simp) (go_n (by simp) (go_d rfl (go_o (rf_var k x f2') rfl))))
  · exact go_n (by simp) (go_n (by simp) (go_n (by simp) (go_n (by simp) (go_d rfl rfl))))
  · have f4 : B.length ≤ 1000000000000 := f3
    exact go_n (by simp) (go_n (by simp) (go_n (by simp) (go_n (by simp) (go_n (by simp) (go_d rfl (go_o (rf_text k B (by omega)) rfl))))))
  · have e : thB (kd, (x : Int), m, B) = [] := by simp [thB, h0, h1, h2, h3, h4, h5]
    rw [e]
    exact go_n h0 (go_n h1 (go_n h2 (go_n h3 (go_n h4 (go_n h5 rfl)))))

theorem writes00 (N : Nat) (a c m : Int) (n : Nat) (hn : n ≤ 10000000000000) : ∀ (d i : Nat) (own : List UInt8) (fuel : Nat), n = i + d → own.length = n → d < fuel → law_CodecWrites_0_0.go N fuel a c m own (n : Int) (i : Int) = some ()
  | _, _, _, 0, _, _, h => absurd h (Nat.not_lt_zero _)
  | 0, i, own, fuel + 1, e, hl, h => go_n (by omega) rfl
  | d + 1, i, own, fuel + 1, e, hl, h => by
    refine go_d (by omega) (go_t (inB_nat (by omega)) (go_d (by omega) (go_t (inB_nat (by omega)) (go_d (by omega) ?_))))
    rw [wrap_succ i (by omega)]
    exact writes00 N a c m n hn d (i + 1) _ fuel (by omega) (by rw [List.length_set]; exact hl) (by omega)
theorem writes1 (N : Nat) (n : Nat) (hn : n ≤ 10000000000000) : ∀ (d i : Nat) (own : List UInt8) (fuel : Nat), n = i + d → own.length = n → d < fuel → law_CodecWrites_1.go N fuel own (n : Int) (i : Int) = some ()
  | _, _, _, 0, _, _, h => absurd h (Nat.not_lt_zero _)
  | 0, i, own, fuel + 1, e, hl, h => go_n (by omega) rfl
  | d + 1, i, own, fuel + 1, e, hl, h => by
    refine go_d (by omega) (go_t (inB_nat (by omega)) (go_d (by omega) (go_t (inB_nat (by omega)) (go_d (by omega) ?_))))
    rw [wrap_succ i (by omega)]
    exact writes1 N n hn d (i + 1) _ fuel (by omega) (by rw [List.length_set]; exact hl) (by omega)

theorem writes0 (k : Nat) (l : List Th) (hl : l.length ≤ 10000000000000) : ∀ (suf pre : List Th) (b : List UInt8) (fuel : Nat), l = pre ++ suf → (∀ t ∈ suf, fitT t ∧ t.2.2.2.length < k) → b.length + totT suf ≤ 1000000000000 → suf.length < fuel →
    law_CodecWrites_0.go (k + 9) fuel b b l (l.length : Int) (pre.length : Int) = some (.inr ((b ++ suf.flatMap thB, ()), b ++ suf.flatMap thB, ()))
  | _, _, _, 0, _, _, _, h => absurd h (Nat.not_lt_zero _)
  | [], pre, b, fuel + 1, hp, _, _, hf => go_n (by rw [hp]; simp) (by simp)
  | t :: suf, pre, b, fuel + 1, hp, hm, hb, hf => by
    have hlt : pre.length < l.length := by rw [hp]; simp
    have hgd : l.getD ((pre.length : Int)).toNat ((0 : Int), (0 : Int), (0 : Int), ([] : List UInt8)) = t := by rw [hp]; exact getD_mid _ _ _ _
    rw [totT_cons] at hb
    have h1 := thB_len t
    obtain ⟨ht, htk⟩ := hm t (List.mem_cons_self ..)
    refine go_d (by omega) (go_t (inB_nat hlt) ?_)
    rw [hgd]
    have h2 := writes00 (k + 9) t.1 t.2.1 t.2.2.1 t.2.2.2.length (by omega) t.2.2.2.length 0 t.2.2.2 (k + 9) (by omega) rfl (by omega)
    refine go_t (room_t (by omega) (by omega)) (go_o (write_ok k b t ht (by omega)) (go_o h2 (go_o (law_bytes_ok k t ht) (go_t (room_t (by omega) (by omega)) (go_o (v := (((b ++ thB t).length : Int), ())) rfl (go_nd rfl ?_))))))
    rw [wrap_succ pre.length (by omega)]
    have ih := writes0 k l hl suf (pre ++ [t]) (b ++ thB t) fuel (by rw [hp]; simp) (fun x hx => hm x (List.mem_cons_of_mem _ hx)) (by rw [List.length_append]; omega) (by simp at hf; omega)
    rw [show ((pre ++ [t]).length : Int) = ((pre.length + 1 : Nat) : Int) by simp] at ih
    exact ih.trans (by simp)

theorem codec_writes (k : Nat) (l : List Th) (hl : l.length ≤ 10000000000000) (hlk : l.length < k) (hm : ∀ t ∈ l, fitT t ∧ t.2.2.2.length < k) (ht : totT l ≤ 1000000000000) (htk : totT l < k) : law_CodecWrites.run (k + 9) l = some (true, ()) := by
  have hfl := flatT_len l
  have h0 := writes0 k l hl l [] [] (k + 9) rfl hm (by simpa using ht) (by omega)
  rw [List.nil_append] at h0
  have h1 := writes1 (k + 9) (l.flatMap thB).length (by omega) (l.flatMap thB).length 0 (l.flatMap thB) (k + 9) (by omega) rfl (by omega)
  exact go_o (v := (([], ()), ())) rfl (go_o (alive_ok k) (go_f rfl (go_o h0 (go_o (bytes_ok _ _ (by omega)) (go_o (same_ok _ _ _ rfl) (go_o h1 (go_t rfl (go_o (bytes_ok _ _ (by omega)) (go_o (same_ok _ _ _ rfl) rfl)))))))))
end Go.Hay.Ytebejjfgibkhbaa
