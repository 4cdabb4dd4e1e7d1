/- Rows that are the same; what is written is read as it was; what is read is written so. Conditions: numbers that fit. -/
import Derived.Test.YtkdcillgnlfabaaLe
set_option linter.unusedVariables false
set_option linter.unusedSimpArgs false
namespace Go.Hay.Ytkdcillgnlfabaa
open Go Go.Hay Go.Proofs

/-- Are two values the same? -/
abbrev same (x y : V) : Bool := decide (x.1 = y.1) && ((x.2.1 == y.2.1) && (decide (x.2.2.1 = y.2.2.1) && (decide (x.2.2.2 = y.2.2.2) && true)))
theorem same_eq (x y : V) : same x y = decide (x = y) := by
  obtain ⟨a, b, c, d⟩ := x
  obtain ⟨e, f, g, h⟩ := y
  rw [Bool.eq_iff_iff]
  simp
theorem sr0_ok (N : Nat) (a b : List V) (hl : a.length ≤ 1099511627776) : ∀ (s t pa pb : List V) (fuel : Nat), a = pa ++ s → b = pb ++ t → pa.length = pb.length → s.length = t.length → s.length < fuel →
    ref_SameRow_0.go N fuel a b (pa.length : Int) = if s = t then some (.inr ()) else some (.inl (false, ()))
  | _, _, _, _, 0, _, _, _, _, h => absurd h (Nat.not_lt_zero _)
  | [], [], pa, pb, fuel + 1, e1, e2, ep, el, hf => go_n (by rw [e1]; simp) rfl
  | [], _ :: _, _, _, _ + 1, _, _, _, el, _ => by simp at el
  | _ :: _, [], _, _, _ + 1, _, _, _, el, _ => by simp at el
  | x :: s, y :: t, pa, pb, fuel + 1, e1, e2, ep, el, hf => by
    have ha : pa.length < a.length := by rw [e1]; simp
    have hb : pa.length < b.length := by rw [e2, ep]; simp
    have g1 : a.getD ((pa.length : Int)).toNat v0 = x := by rw [e1]; exact getD_mid _ _ _ _
    have g2 : b.getD ((pa.length : Int)).toNat v0 = y := by rw [e2, ep]; exact getD_mid _ _ _ _
    refine go_d (by omega) (go_t (inB_nat ha) (go_d (by rw [Int.toNat_natCast]; exact ha) (go_t (inB_nat hb) (go_d (by rw [Int.toNat_natCast]; exact hb) ?_))))
    rw [g1, g2]
    show (bif !same x y then _ else _) = _
    rw [same_eq]
    by_cases h : x = y
    · refine go_nd h ?_
      subst h
      have ih := sr0_ok N a b hl s t (pa ++ [x]) (pb ++ [x]) fuel (by rw [e1]; simp) (by rw [e2]; simp) (by simp [ep]) (by simpa using el) (by simp at hf; omega)
      rw [show ((pa ++ [x]).length : Int) = ((pa.length + 1 : Nat) : Int) by simp] at ih
      rw [wrap_succ pa.length (by omega), ih]
      simp
    · refine go_nn h ?_
      simp [h]
theorem same_ok (N : Nat) (a b : List V) (hl : a.length ≤ 1099511627776) (hN : a.length < N) : ref_SameRow.run N a b = some (decide (a = b), ()) := by
  by_cases h : a.length = b.length
  · refine go_nd (by omega) ?_
    have h0 := sr0_ok N a b hl a b [] [] N rfl rfl rfl h hN
    by_cases e : a = b
    · rw [if_pos e] at h0
      rw [decide_eq_true e]
      exact go_o h0 rfl
    · rw [if_neg e] at h0
      rw [decide_eq_false e]
      exact go_o h0 rfl
  · refine go_nn (by omega) ?_
    rw [decide_eq_false (fun e => h (by rw [e]))]
theorem sr_b0_ok (N : Nat) (a b : List V) (hl : a.length ≤ 1099511627776) : ∀ (s t pa pb : List V) (fuel : Nat), a = pa ++ s → b = pb ++ t → pa.length = pb.length → s.length = t.length → s.length < fuel →
    ref_SameRow_b_0.go N fuel a b (pa.length : Int) = if s = t then some (.inr ()) else some (.inl (false, ()))
  | _, _, _, _, 0, _, _, _, _, h => absurd h (Nat.not_lt_zero _)
  | [], [], pa, pb, fuel + 1, e1, e2, ep, el, hf => go_n (by rw [e1]; simp) rfl
  | [], _ :: _, _, _, _ + 1, _, _, _, el, _ => by simp at el
  | _ :: _, [], _, _, _ + 1, _, _, _, el, _ => by simp at el
  | x :: s, y :: t, pa, pb, fuel + 1, e1, e2, ep, el, hf => by
    have ha : pa.length < a.length := by rw [e1]; simp
    have hb : pa.length < b.length := by rw [e2, ep]; simp
    have g1 : a.getD ((pa.length : Int)).toNat v0 = x := by rw [e1]; exact getD_mid _ _ _ _
    have g2 : b.getD ((pa.length : Int)).toNat v0 = y := by rw [e2, ep]; exact getD_mid _ _ _ _
    refine go_d (by omega) (go_t (inB_nat ha) (go_d (by rw [Int.toNat_natCast]; exact ha) (go_t (inB_nat hb) ?_)))
    rw [g1, g2]
    show (bif !same x y then _ else _) = _
    rw [same_eq]
    by_cases h : x = y
    · refine go_nd h ?_
      subst h
      have ih := sr_b0_ok N a b hl s t (pa ++ [x]) (pb ++ [x]) fuel (by rw [e1]; simp) (by rw [e2]; simp) (by simp [ep]) (by simpa using el) (by simp at hf; omega)
      rw [show ((pa ++ [x]).length : Int) = ((pa.length + 1 : Nat) : Int) by simp] at ih
      rw [wrap_succ pa.length (by omega), ih]
      simp
    · refine go_nn h ?_
      simp [h]
theorem same_b_ok (N : Nat) (a b : List V) (hl : a.length ≤ 1099511627776) (hN : a.length < N) : ref_SameRow_b.run N a b = some (decide (a = b), ()) := by
  by_cases h : a.length = b.length
  · refine go_nd (by omega) ?_
    have h0 := sr_b0_ok N a b hl a b [] [] N rfl rfl rfl h hN
    by_cases e : a = b
    · rw [if_pos e] at h0
      rw [decide_eq_true e]
      exact go_o h0 rfl
    · rw [if_neg e] at h0
      rw [decide_eq_false e]
      exact go_o h0 rfl
  · refine go_nn (by omega) ?_
    rw [decide_eq_false (fun e => h (by rw [e]))]
theorem sr_c0_ok (N : Nat) (a b : List V) (hl : a.length ≤ 1099511627776) : ∀ (s t pa pb : List V) (fuel : Nat), a = pa ++ s → b = pb ++ t → pa.length = pb.length → s.length = t.length → s.length < fuel →
    ref_SameRow_c_0.go N fuel a b (pa.length : Int) = if s = t then some (.inr ()) else some (.inl (false, ()))
  | _, _, _, _, 0, _, _, _, _, h => absurd h (Nat.not_lt_zero _)
  | [], [], pa, pb, fuel + 1, e1, e2, ep, el, hf => go_n (by rw [e1]; simp) rfl
  | [], _ :: _, _, _, _ + 1, _, _, _, el, _ => by simp at el
  | _ :: _, [], _, _, _ + 1, _, _, _, el, _ => by simp at el
  | x :: s, y :: t, pa, pb, fuel + 1, e1, e2, ep, el, hf => by
    have ha : pa.length < a.length := by rw [e1]; simp
    have hb : pa.length < b.length := by rw [e2, ep]; simp
    have g1 : a.getD ((pa.length : Int)).toNat v0 = x := by rw [e1]; exact getD_mid _ _ _ _
    have g2 : b.getD ((pa.length : Int)).toNat v0 = y := by rw [e2, ep]; exact getD_mid _ _ _ _
    refine go_d (by omega) (go_t (inB_nat ha) (go_t (inB_nat hb) ?_))
    rw [g1, g2]
    show (bif !same x y then _ else _) = _
    rw [same_eq]
    by_cases h : x = y
    · refine go_nd h ?_
      subst h
      have ih := sr_c0_ok N a b hl s t (pa ++ [x]) (pb ++ [x]) fuel (by rw [e1]; simp) (by rw [e2]; simp) (by simp [ep]) (by simpa using el) (by simp at hf; omega)
      rw [show ((pa ++ [x]).length : Int) = ((pa.length + 1 : Nat) : Int) by simp] at ih
      rw [wrap_succ pa.length (by omega), ih]
      simp
    · refine go_nn h ?_
      simp [h]
theorem same_c_ok (N : Nat) (a b : List V) (hl : a.length ≤ 1099511627776) (hN : a.length < N) : ref_SameRow_c.run N a b = some (decide (a = b), ()) := by
  by_cases h : a.length = b.length
  · refine go_nd (by omega) ?_
    have h0 := sr_c0_ok N a b hl a b [] [] N rfl rfl rfl h hN
    by_cases e : a = b
    · rw [if_pos e] at h0
      rw [decide_eq_true e]
      exact go_o h0 rfl
    · rw [if_neg e] at h0
      rw [decide_eq_false e]
      exact go_o h0 rfl
  · refine go_nn (by omega) ?_
    rw [decide_eq_false (fun e => h (by rw [e]))]

theorem alive_ok (k : Nat) (hk : 256 ≤ k) : law_alive.run (k + 9) = some (true, ()) := by
  have h1 : encR [((2 : Int), false, (1 : Int), ([] : List UInt8))] = some (([1, 2, 0, 0, 0, 0, 0, 0, 0, 1] : List UInt8), 0, ()) := by kernel_rfl
  have h2 : decR [(1 : UInt8), (1 : UInt8), (1 : UInt8)] = some ([((1 : Int), true, (0 : Int), ([] : List UInt8))], 0, ()) := by kernel_rfl
  exact go_o ((encode_b_ok k _ (by simp) (by simp; omega)).trans h1) (go_o ((decode_ok k hk _ (by simp)).trans h2) rfl)

theorem decR_same (b : List UInt8) : ∃ l e, decR b = some (l, e, ()) ∧ l.length ≤ 16 := by
  unfold decR
  cases h : decode b with
  | none => exact ⟨_, _, rfl, by simp⟩
  | some l =>
    refine ⟨_, _, rfl, ?_⟩
    unfold decode at h
    split at h
    · cases h
    · split at h
      · cases h
      · split at h
        · cases h
        · rename_i l' q hd
          split at h
          · cases h
          · cases h
            have := (decL_le hd).2
            omega
theorem rows_codes (k : Nat) (hk : 256 ≤ k) (row : List V) (b : List UInt8) (hl : row.length ≤ 1099511627776) (hN : row.length < k) (hb : b.length ≤ 1099511627776) : law_RowsCodes.run (k + 9) row b = some (true, ()) := by
  obtain ⟨l, e, hd, hll⟩ := decR_same b
  have fin : (obind (law_alive.run (k + 9)) fun (b1, _) => bif b1 then obind (ref_SameRow.run (k + 9) l l) fun (b2, _) => bif b2 then (bif decide (e = e) then some (decide (b = b), ()) else some (false, ())) else some (false, ()) else some (false, ())) = some (true, ()) := by
    refine go_o (alive_ok k hk) (go_o (same_ok _ l l (by omega) (by omega)) ?_)
    simp
  refine go_o (v := if rights row = true then (enc row, 0, ()) else ([], 30, ())) (by rw [encode_ok k row hl hN]; unfold encR; split <;> rfl) ?_
  refine go_o (v := if rights row = true then (enc row, 0, ()) else ([], 30, ())) (by rw [ref_encode_ok k row hl hN]; unfold encR; split <;> rfl) ?_
  refine go_t (room_t (by omega) (by omega)) (go_o ((decode_ok k hk b hb).trans hd) (go_o ((ref_decode_ok k hk b hb).trans hd) (go_o (alive_ok k hk) ?_)))
  refine go_t rfl (go_d rfl (go_d rfl (go_o (same_ok _ l l (by omega) (by omega)) ?_)))
  simp
end Go.Hay.Ytkdcillgnlfabaa
