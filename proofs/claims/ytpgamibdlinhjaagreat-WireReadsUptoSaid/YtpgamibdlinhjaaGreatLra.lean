/- What the functions of values and rows that write come to. Conditions: sizes below a bound. -/
import Derived.Test.YtpgamibdlinhjaaGreatLa
import Derived.Test.YtpgamibdlinhjaaGreatHayPl
set_option linter.unusedVariables false
set_option linter.unusedSimpArgs false
namespace Go.Hay.YtpgamibdlinhjaaGreat.Rw
open Go Go.Hay Go.Proofs

abbrev V := Int × Bool × Int × List UInt8
abbrev v0 : V := ((0 : Int), false, (0 : Int), ([] : List UInt8))

/-- P2.1 -/
def right (v : V) : Bool :=
  if v.1 = 0 then decide (v = (0, false, 0, []))
  else if v.1 = 1 then decide (v = (1, v.2.1, 0, []))
  else if v.1 = 2 then decide (v = (2, false, v.2.2.1, []))
  else if v.1 = 3 then decide (v = (3, false, 0, v.2.2.2)) && decide (v.2.2.2.length ≤ 64)
  else false

theorem fD88 {v : V} (h : right v = true) : v = (0, false, 0, []) ∨ (∃ b, v = (1, b, 0, [])) ∨ (∃ n, v = (2, false, n, [])) ∨ ∃ s, v = (3, false, 0, s) ∧ s.length ≤ 64 := by
  unfold right at h
  split at h
  · exact .inl (of_decide_eq_true h)
  split at h
  · exact .inr (.inl ⟨_, of_decide_eq_true h⟩)
  split at h
  · exact .inr (.inr (.inl ⟨_, of_decide_eq_true h⟩))
  split at h
  · simp only [Bool.and_eq_true, decide_eq_true_eq] at h
    exact .inr (.inr (.inr ⟨_, h.1, h.2⟩))
  · cases h

theorem fD74 {α : Type} (pre : List α) (x : α) (suf : List α) (d : α) : (pre ++ x :: suf).getD ((pre.length : Int)).toNat d = x := by simp

/-- May a row be written? -/
def rights (row : List V) : Bool := row.all right && decide (row.length ≤ 16)

theorem fD131 (N : Nat) (v : V) : fC6.run N v = some (right v, ()) := by
  obtain ⟨k, b, n, s⟩ := v
  unfold right
  by_cases h0 : k = 0
  · subst h0
    refine go_o (go_n (by omega) rfl) (go_o (go_n (by omega) rfl) (go_o (go_n (by omega) rfl) (go_d (by omega) (go_d (by omega) ?_))))
    by_cases hs : b = false ∧ n = 0 ∧ s = []
    · obtain ⟨rfl, rfl, rfl⟩ := hs
      rfl
    · refine go_f ?_ ?_
      · simpa using hs
      · simpa using hs
  by_cases h1 : k = 1
  · subst h1
    refine go_o (go_d rfl rfl) (go_o (go_n (by omega) rfl) (go_o (go_n (by omega) rfl) (go_d (by omega) (go_d (by omega) ?_))))
    by_cases hs : n = 0 ∧ s = []
    · obtain ⟨rfl, rfl⟩ := hs
      refine go_t (by simp) ?_
      simp
    · refine go_f ?_ ?_
      · simpa using hs
      · simpa using hs
  by_cases h2 : k = 2
  · subst h2
    refine go_o (go_n (by omega) rfl) (go_o (go_d rfl rfl) (go_o (go_n (by omega) rfl) (go_d (by omega) (go_d (by omega) ?_))))
    by_cases hs : b = false ∧ s = []
    · obtain ⟨rfl, rfl⟩ := hs
      refine go_t (by simp) ?_
      simp
    · refine go_f ?_ ?_
      · simpa using hs
      · simpa using hs
  by_cases h3 : k = 3
  · subst h3
    refine go_o (go_n (by omega) rfl) (go_o (go_n (by omega) rfl) (go_o (go_d rfl rfl) (go_d (by omega) (go_d (by omega) ?_))))
    by_cases hs : b = false ∧ n = 0
    · obtain ⟨rfl, rfl⟩ := hs
      refine go_t (by simp) ?_
      simp; omega
    · refine go_f ?_ ?_
      · simpa using hs
      · simp
        intro h1 h2; exact (hs ⟨h1, h2⟩).elim
  · refine go_o (go_n h1 rfl) (go_o (go_n h2 rfl) (go_o (go_n h3 rfl) ?_))
    simp only [h0, h1, h2, h3, if_false]
    by_cases h : k ≥ 0
    · exact go_d h (go_n (by omega) rfl)
    · exact go_n h rfl

theorem fA105 (N : Nat) (row : List V) (hl : row.length ≤ 1099511627776) : ∀ (suf pre : List V) (fuel : Nat), row = pre ++ suf → suf.length < fuel →
    fA66.go N fuel row (pre.length : Int) = if suf.all right = true then some (.inr ()) else some (.inl (false, ()))
  | _, _, 0, _, h => absurd h (Nat.not_lt_zero _)
  | [], pre, fuel + 1, e, hf => go_n (by rw [e]; simp) rfl
  | v :: suf, pre, fuel + 1, e, hf => by
    have hlt : pre.length < row.length := by rw [e]; simp
    have hgd : row.getD ((pre.length : Int)).toNat v0 = v := by rw [e]; exact fD74 _ _ _ _
    refine go_d (by omega) (go_t (inB_nat hlt) ?_)
    rw [hgd]
    refine go_o (fD131 N v) ?_
    cases hv : right v with
    | false => refine go_t rfl ?_; simp [hv]
    | true =>
      refine go_f rfl ?_
      rw [wrap_succ pre.length (by omega)]
      have ih := fA105 N row hl suf (pre ++ [v]) fuel (by rw [e]; simp) (by simp at hf; omega)
      rw [show ((pre ++ [v]).length : Int) = ((pre.length + 1 : Nat) : Int) by simp] at ih
      rw [ih]
      simp only [List.all_cons, hv, Bool.true_and]
theorem fD136 (N : Nat) (row : List V) (hl : row.length ≤ 1099511627776) (hN : row.length < N) : fB56.run N row = some (rights row, ()) := by
  refine go_o (v := if row.all right = true then .inr () else .inl (false, ())) ?_ ?_
  · have := fA105 N row hl row [] N rfl hN
    rw [show ((([] : List V).length : Nat) : Int) = 0 from rfl] at this
    rw [this]
    split <;> rfl
  · unfold rights
    cases row.all right with
    | true => simp; omega
    | false => rfl

/-- A number's eight bytes. -/
def num8 (n : Int) : List UInt8 := [56, 48, 40, 32, 24, 16, 8, 0].map fun s => Hay.u8 (IntKind.u8.wrap (n.fdiv (2 ^ s)))
theorem fD87 (n : Int) : (num8 n).length = 8 := rfl

theorem fC152 (N k : Nat) (n : Int) : fD59.go N (k + 9) n (List.replicate 8 (0 : UInt8)) 0 = some (num8 n, ()) := by
  kernel_rfl
theorem fD157 (k : Nat) (b : List UInt8) (n : Int) (hb : b.length ≤ 1099511627776) : fD46.run (k + 9) b n = some (b ++ num8 n, ()) := by
  refine go_o (fC152 (k + 9) k n) ?_
  have e : ((num8 n).drop 0).take 8 = num8 n := rfl
  show (bif room (b.length + (((num8 n).drop 0).take 8).length) 1 then some (b ++ ((num8 n).drop 0).take 8, ()) else none) = _
  rw [e, fD87]
  exact go_t (room_t (by omega) (by omega)) rfl
theorem fC126 (N k : Nat) (n : Int) : fC30.go N (k + 9) n [] 56 = some (num8 n, ()) := by
  kernel_rfl
theorem fA132 (k : Nat) (n : Int) : fA18.run (k + 9) n = some (num8 n, ()) := go_o (fC126 (k + 9) k n) rfl

/-- A value's bytes. -/
def enc1 (v : V) : List UInt8 :=
  if v.1 = 0 then [0] else if v.1 = 1 then [1, if v.2.1 = true then 1 else 0] else if v.1 = 2 then 2 :: num8 (IntKind.u64.wrap v.2.2.1) else 3 :: UInt8.ofNat v.2.2.2.length :: v.2.2.2

theorem u8_len (n : Nat) (h : n < 256) : Hay.u8 (IntKind.u8.wrap (n : Int)) = UInt8.ofNat n := by
  rw [w_u8, Int.emod_eq_of_lt (by omega) (by omega)]
  simp [Hay.u8]

theorem one_ok (k : Nat) (b : List UInt8) (v : V) (hv : right v = true) (hb : b.length ≤ 1073741824) : fC82.run (k + 9) b v = some (b ++ enc1 v, ()) := by
  have hr : room (b.length + 1) 1 = true := room_t (by omega) (by omega)
  rcases fD88 hv with rfl | ⟨c, rfl⟩ | ⟨n, rfl⟩ | ⟨s, rfl, hs⟩
  · exact go_t hr (go_n (by omega) (go_n (by omega) (go_n (by omega) rfl)))
  · refine go_t hr (go_d rfl ?_)
    cases c with
    | true => refine go_t rfl (go_t (room_t (by simp; omega) (by simp; omega)) ?_); simp [enc1]; rfl
    | false => refine go_f rfl (go_t (room_t (by simp; omega) (by simp; omega)) ?_); simp [enc1]; rfl
  · refine go_t hr (go_n (by omega) (go_d rfl (go_o (fD157 k _ _ (by simp; omega)) ?_)))
    simp [enc1]; rfl
  · refine go_t hr (go_n (by omega) (go_n (by omega) (go_d rfl (go_t (room_t (by simp; omega) (by simp; omega)) (go_t (room_t (by simp; omega) (by simp; omega)) ?_)))))
    have e : Hay.u8 (IntKind.u8.wrap ((s.length : Nat) : Int)) = UInt8.ofNat s.length := u8_len s.length (by omega)
    simp only [e]
    simp [enc1]; rfl
theorem fA149 (k : Nat) (v : V) (hv : right v = true) : fA75.run (k + 9) v = some (enc1 v, ()) := by
  rcases fD88 hv with rfl | ⟨c, rfl⟩ | ⟨n, rfl⟩ | ⟨s, rfl, hs⟩
  · exact go_o (go_n (by omega) rfl) (go_n (by omega) (go_n (by omega) (go_n (by omega) rfl)))
  · cases c with
    | true => exact go_o (v := (.inr (([1, 1] : List UInt8), ()) : (List UInt8 × Unit) ⊕ (List UInt8 × Unit))) (go_d rfl (go_t rfl (go_t (room_t (by simp) (by simp)) rfl))) rfl
    | false => exact go_o (v := (.inl (([1] : List UInt8), ()) : (List UInt8 × Unit) ⊕ (List UInt8 × Unit))) (go_d rfl (go_f rfl rfl)) (go_d rfl (go_t (room_t (by simp) (by simp)) rfl))
  · refine go_o (go_n (by omega) rfl) (go_n (by omega) (go_d rfl (go_o (fA132 k _) (go_t (room_t (by rw [fD87]; simp) (by rw [fD87]; simp)) ?_))))
    rfl
  · refine go_o (go_n (by omega) rfl) (go_n (by omega) (go_n (by omega) (go_d rfl (go_t (room_t (by simp) (by simp)) (go_t (room_t (by simp; omega) (by simp; omega)) ?_)))))
    have e : Hay.u8 (IntKind.u8.wrap ((s.length : Nat) : Int)) = UInt8.ofNat s.length := u8_len s.length (by omega)
    simp only [e]
    rfl
end Go.Hay.YtpgamibdlinhjaaGreat.Rw
