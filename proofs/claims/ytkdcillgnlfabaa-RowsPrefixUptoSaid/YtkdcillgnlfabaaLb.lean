/- Rows and keys as bytes: what the functions that write them come to. Conditions: sizes below a bound. -/
import Derived.Test.YtkdcillgnlfabaaLa
set_option linter.unusedVariables false
set_option linter.unusedSimpArgs false
namespace Go.Hay.Ytkdcillgnlfabaa
open Go Go.Hay Go.Proofs

theorem enc1_len {v : V} (h : right v = true) : (enc1 v).length ≤ 66 := by
  rcases right_cases h with rfl | ⟨c, rfl⟩ | ⟨n, rfl⟩ | ⟨s, rfl, hs⟩ <;> simp [enc1, num8_len]
  omega
/-- A row's bytes. -/
def encs (row : List V) : List UInt8 := row.flatMap enc1
def enc (row : List V) : List UInt8 := UInt8.ofNat row.length :: encs row
theorem encs_len : ∀ {row : List V}, row.all right = true → (encs row).length ≤ 66 * row.length
  | [], _ => by simp [encs]
  | v :: row, h => by
    simp only [List.all_cons, Bool.and_eq_true] at h
    have h1 := enc1_len h.1
    have h2 := encs_len h.2
    simp only [encs, List.flatMap_cons, List.length_append, List.length_cons] at h2 ⊢
    omega
theorem rights_inv {row : List V} (h : rights row = true) : row.all right = true ∧ row.length ≤ 16 := by
  unfold rights at h
  simp only [Bool.and_eq_true, decide_eq_true_eq] at h
  exact h

theorem encode0_ok (k : Nat) (row : List V) (hl : row.length ≤ 16) : ∀ (suf pre : List V) (b : List UInt8) (fuel : Nat), row = pre ++ suf → suf.all right = true → b.length ≤ 1 + 66 * pre.length → suf.length < fuel →
    rows_Encode_0.go (k + 9) fuel b row (row.length : Int) (pre.length : Int) = some (b ++ encs suf, ())
  | _, _, _, 0, _, _, _, h => absurd h (Nat.not_lt_zero _)
  | [], pre, b, fuel + 1, e, _, _, _ => by
    rw [show encs [] = [] from rfl, List.append_nil]
    exact go_n (by rw [e]; simp) rfl
  | v :: suf, pre, b, fuel + 1, e, hr, hb, hf => by
    have hlt : pre.length < row.length := by rw [e]; simp
    have hgd : row.getD ((pre.length : Int)).toNat v0 = v := by rw [e]; exact getD_mid _ _ _ _
    simp only [List.all_cons, Bool.and_eq_true] at hr
    have h1 := enc1_len hr.1
    refine go_d (by omega) (go_t (inB_nat hlt) ?_)
    rw [hgd]
    refine go_o (one_ok k b v hr.1 (by omega)) ?_
    rw [wrap_succ pre.length (by omega)]
    have ih := encode0_ok k row hl suf (pre ++ [v]) (b ++ enc1 v) fuel (by rw [e]; simp) hr.2 (by simp; omega) (by simp at hf; omega)
    rw [show ((pre ++ [v]).length : Int) = ((pre.length + 1 : Nat) : Int) by simp] at ih
    exact ih.trans (by simp [encs])
theorem encode_b0_ok (k : Nat) (row : List V) (hl : row.length ≤ 16) : ∀ (suf pre : List V) (b : List UInt8) (fuel : Nat), row = pre ++ suf → suf.all right = true → b.length ≤ 1 + 66 * pre.length → suf.length < fuel →
    rows_Encode_b_0.go (k + 9) fuel b row (row.length : Int) (pre.length : Int) = some (b ++ encs suf, ())
  | _, _, _, 0, _, _, _, h => absurd h (Nat.not_lt_zero _)
  | [], pre, b, fuel + 1, e, _, _, _ => by
    rw [show encs [] = [] from rfl, List.append_nil]
    exact go_n (by rw [e]; simp) rfl
  | v :: suf, pre, b, fuel + 1, e, hr, hb, hf => by
    have hlt : pre.length < row.length := by rw [e]; simp
    have hgd : row.getD ((pre.length : Int)).toNat v0 = v := by rw [e]; exact getD_mid _ _ _ _
    simp only [List.all_cons, Bool.and_eq_true] at hr
    have h1 := enc1_len hr.1
    refine go_d (by omega) (go_t (inB_nat hlt) (go_d (by rw [Int.toNat_natCast]; exact hlt) ?_))
    rw [hgd]
    refine go_o (one_ok k b v hr.1 (by omega)) ?_
    rw [wrap_succ pre.length (by omega)]
    have ih := encode_b0_ok k row hl suf (pre ++ [v]) (b ++ enc1 v) fuel (by rw [e]; simp) hr.2 (by simp; omega) (by simp at hf; omega)
    rw [show ((pre ++ [v]).length : Int) = ((pre.length + 1 : Nat) : Int) by simp] at ih
    exact ih.trans (by simp [encs])
theorem ref_encode0_ok (k : Nat) (row : List V) (hl : row.length ≤ 16) : ∀ (suf pre : List V) (b : List UInt8) (fuel : Nat), row = pre ++ suf → suf.all right = true → b.length ≤ 1 + 66 * pre.length → suf.length < fuel →
    ref_Encode_0.go (k + 9) fuel row b (pre.length : Int) = some (b ++ encs suf, ())
  | _, _, _, 0, _, _, _, h => absurd h (Nat.not_lt_zero _)
  | [], pre, b, fuel + 1, e, _, _, _ => by
    rw [show encs [] = [] from rfl, List.append_nil]
    exact go_n (by rw [e]; simp) rfl
  | v :: suf, pre, b, fuel + 1, e, hr, hb, hf => by
    have hlt : pre.length < row.length := by rw [e]; simp
    have hgd : row.getD ((pre.length : Int)).toNat v0 = v := by rw [e]; exact getD_mid _ _ _ _
    simp only [List.all_cons, Bool.and_eq_true] at hr
    have h1 := enc1_len hr.1
    refine go_d (by omega) (go_t (inB_nat hlt) ?_)
    rw [hgd]
    refine go_o (ref_one_ok k v hr.1) (go_t (room_t (by omega) (by omega)) ?_)
    rw [wrap_succ pre.length (by omega)]
    have ih := ref_encode0_ok k row hl suf (pre ++ [v]) (b ++ enc1 v) fuel (by rw [e]; simp) hr.2 (by simp; omega) (by simp at hf; omega)
    rw [show ((pre ++ [v]).length : Int) = ((pre.length + 1 : Nat) : Int) by simp] at ih
    exact ih.trans (by simp [encs])

/-- What is told of writing a row. -/
def encR (row : List V) : Option (List UInt8 × Int × Unit) := if rights row = true then some (enc row, 0, ()) else some ([], 30, ())
theorem encode_ok (k : Nat) (row : List V) (hl : row.length ≤ 1099511627776) (hN : row.length < k) : rows_Encode.run (k + 9) row = encR row := by
  refine go_o (may_ok _ row hl (by omega)) ?_
  unfold encR
  cases h : rights row with
  | false => rfl
  | true =>
    obtain ⟨h1, h2⟩ := rights_inv h
    refine go_f rfl (go_o (v := (enc row, ())) ?_ rfl)
    have e : Hay.u8 (IntKind.u8.wrap ((row.length : Nat) : Int)) = UInt8.ofNat row.length := u8_len row.length (by omega)
    rw [e]
    exact encode0_ok k row h2 row [] [UInt8.ofNat row.length] (k + 9) rfl h1 (by simp) (by omega)
theorem encode_b_ok (k : Nat) (row : List V) (hl : row.length ≤ 1099511627776) (hN : row.length < k) : rows_Encode_b.run (k + 9) row = encR row := by
  refine go_o (may_b_ok _ row hl (by omega)) ?_
  unfold encR
  cases h : rights row with
  | false => rfl
  | true =>
    obtain ⟨h1, h2⟩ := rights_inv h
    refine go_f rfl (go_o (v := (enc row, ())) ?_ rfl)
    have e : Hay.u8 (IntKind.u8.wrap ((row.length : Nat) : Int)) = UInt8.ofNat row.length := u8_len row.length (by omega)
    rw [e]
    exact encode_b0_ok k row h2 row [] [UInt8.ofNat row.length] (k + 9) rfl h1 (by simp) (by omega)
theorem ref_encode_ok (k : Nat) (row : List V) (hl : row.length ≤ 1099511627776) (hN : row.length < k) : ref_Encode.run (k + 9) row = encR row := by
  refine go_o (ref_right_ok _ row hl (by omega)) ?_
  unfold encR
  cases h : rights row with
  | false => rfl
  | true =>
    obtain ⟨h1, h2⟩ := rights_inv h
    refine go_f rfl (go_o (v := (enc row, ())) ?_ rfl)
    have e : Hay.u8 (IntKind.u8.wrap ((row.length : Nat) : Int)) = UInt8.ofNat row.length := u8_len row.length (by omega)
    rw [e]
    exact ref_encode0_ok k row h2 row [] [UInt8.ofNat row.length] (k + 9) rfl h1 (by simp) (by omega)

/- Keys. -/
def esc (s : List UInt8) : List UInt8 := s.flatMap fun c => if c.toNat = 0 then [c, 255] else [c]
theorem esc_len : ∀ (s : List UInt8), (esc s).length ≤ 2 * s.length
  | [] => by simp [esc]
  | c :: s => by
    have := esc_len s
    simp only [esc, List.flatMap_cons, List.length_append, List.length_cons] at this ⊢
    split <;> simp only [List.length_cons, List.length_nil] <;> omega
/-- A value's bytes in a key. -/
def key1 (v : V) : List UInt8 :=
  if v.1 = 2 then 2 :: num8 (IntKind.u64.wrap (IntKind.u64.wrap v.2.2.1 + 9223372036854775808)) else if v.1 = 3 then 3 :: (esc v.2.2.2 ++ [0, 0]) else enc1 v
theorem key1_len {v : V} (h : right v = true) : (key1 v).length ≤ 131 := by
  rcases right_cases h with rfl | ⟨c, rfl⟩ | ⟨n, rfl⟩ | ⟨s, rfl, hs⟩
  · simp [key1, enc1]
  · simp [key1, enc1]
  · simp [key1, num8_len]
  · have := esc_len s
    simp [key1]; omega
def key (row : List V) : List UInt8 := row.flatMap key1

theorem u8_byte' (c : UInt8) : Hay.u8 (c.toNat : Int) = c := Hay.u8_byte c
theorem key00_ok (N : Nat) (kd : Int) (bo : Bool) (it : Int) (s : List UInt8) (hs : s.length ≤ 64) : ∀ (suf pre b : List UInt8) (fuel : Nat), s = pre ++ suf → b.length ≤ 1073741824 + 2 * pre.length → suf.length < fuel →
    rows_Key_0_0.go N fuel b kd bo it s (s.length : Int) (pre.length : Int) = some (b ++ esc suf, ())
  | _, _, _, 0, _, _, h => absurd h (Nat.not_lt_zero _)
  | [], pre, b, fuel + 1, e, _, _ => by
    rw [show esc [] = [] from rfl, List.append_nil]
    exact go_n (by rw [e]; simp) rfl
  | c :: suf, pre, b, fuel + 1, e, hb, hf => by
    have hlt : pre.length < s.length := by rw [e]; simp
    have hgd : s.getD ((pre.length : Int)).toNat (0 : UInt8) = c := by rw [e]; exact getD_mid _ _ _ _
    refine go_d (by omega) (go_t (inB_nat hlt) (go_t (room_t (by omega) (by omega)) (go_t (inB_nat hlt) ?_)))
    rw [hgd, u8_byte', wrap_succ pre.length (by omega)]
    by_cases h : c.toNat = 0
    · refine go_d (by omega) (go_t (room_t (by simp; omega) (by simp; omega)) ?_)
      have ih := key00_ok N kd bo it s hs suf (pre ++ [c]) (b ++ [c] ++ [255]) fuel (by rw [e]; simp) (by simp; omega) (by simp at hf; omega)
      rw [show ((pre ++ [c]).length : Int) = ((pre.length + 1 : Nat) : Int) by simp] at ih
      rw [ih]
      simp [esc, h]
    · refine go_n (by omega) ?_
      have ih := key00_ok N kd bo it s hs suf (pre ++ [c]) (b ++ [c]) fuel (by rw [e]; simp) (by simp; omega) (by simp at hf; omega)
      rw [show ((pre ++ [c]).length : Int) = ((pre.length + 1 : Nat) : Int) by simp] at ih
      rw [ih]
      simp [esc, h]
theorem key_b00_ok (N : Nat) (kd : Int) (bo : Bool) (it : Int) (s : List UInt8) (hs : s.length ≤ 64) : ∀ (suf pre b : List UInt8) (fuel : Nat), s = pre ++ suf → b.length ≤ 1073741824 + 2 * pre.length → suf.length < fuel →
    rows_Key_b_0_0.go N fuel b kd bo it s (s.length : Int) (pre.length : Int) = some (b ++ esc suf, ())
  | _, _, _, 0, _, _, h => absurd h (Nat.not_lt_zero _)
  | [], pre, b, fuel + 1, e, _, _ => by
    rw [show esc [] = [] from rfl, List.append_nil]
    exact go_n (by rw [e]; simp) rfl
  | c :: suf, pre, b, fuel + 1, e, hb, hf => by
    have hlt : pre.length < s.length := by rw [e]; simp
    have hgd : s.getD ((pre.length : Int)).toNat (0 : UInt8) = c := by rw [e]; exact getD_mid _ _ _ _
    refine go_d (by omega) (go_t (inB_nat hlt) (go_t (room_t (by omega) (by omega)) (go_t (inB_nat hlt) ?_)))
    rw [hgd, u8_byte', wrap_succ pre.length (by omega)]
    by_cases h : c.toNat = 0
    · refine go_d (by omega) (go_t (room_t (by simp; omega) (by simp; omega)) ?_)
      have ih := key_b00_ok N kd bo it s hs suf (pre ++ [c]) (b ++ [c] ++ [255]) fuel (by rw [e]; simp) (by simp; omega) (by simp at hf; omega)
      rw [show ((pre ++ [c]).length : Int) = ((pre.length + 1 : Nat) : Int) by simp] at ih
      rw [ih]
      simp [esc, h]
    · refine go_n (by omega) ?_
      have ih := key_b00_ok N kd bo it s hs suf (pre ++ [c]) (b ++ [c]) fuel (by rw [e]; simp) (by simp; omega) (by simp at hf; omega)
      rw [show ((pre ++ [c]).length : Int) = ((pre.length + 1 : Nat) : Int) by simp] at ih
      rw [ih]
      simp [esc, h]
theorem ref_key00_ok (N : Nat) (kd : Int) (bo : Bool) (it : Int) (s : List UInt8) (hs : s.length ≤ 64) : ∀ (suf pre b : List UInt8) (fuel : Nat), s = pre ++ suf → b.length ≤ 1073741824 + 2 * pre.length → suf.length < fuel →
    ref_Key_0_0.go N fuel b kd bo it s (pre.length : Int) = some (b ++ esc suf, ())
  | _, _, _, 0, _, _, h => absurd h (Nat.not_lt_zero _)
  | [], pre, b, fuel + 1, e, _, _ => by
    rw [show esc [] = [] from rfl, List.append_nil]
    exact go_n (by rw [e]; simp) rfl
  | c :: suf, pre, b, fuel + 1, e, hb, hf => by
    have hlt : pre.length < s.length := by rw [e]; simp
    have hgd : s.getD ((pre.length : Int)).toNat (0 : UInt8) = c := by rw [e]; exact getD_mid _ _ _ _
    refine go_d (by omega) (go_t (inB_nat hlt) (go_t (room_t (by omega) (by omega)) (go_t (inB_nat hlt) ?_)))
    rw [hgd, u8_byte', wrap_succ pre.length (by omega)]
    by_cases h : c.toNat = 0
    · refine go_d (by omega) (go_t (room_t (by simp; omega) (by simp; omega)) ?_)
      have ih := ref_key00_ok N kd bo it s hs suf (pre ++ [c]) (b ++ [c] ++ [255]) fuel (by rw [e]; simp) (by simp; omega) (by simp at hf; omega)
      rw [show ((pre ++ [c]).length : Int) = ((pre.length + 1 : Nat) : Int) by simp] at ih
      rw [ih]
      simp [esc, h]
    · refine go_n (by omega) ?_
      have ih := ref_key00_ok N kd bo it s hs suf (pre ++ [c]) (b ++ [c]) fuel (by rw [e]; simp) (by simp; omega) (by simp at hf; omega)
      rw [show ((pre ++ [c]).length : Int) = ((pre.length + 1 : Nat) : Int) by simp] at ih
      rw [ih]
      simp [esc, h]

theorem key0_ok (k : Nat) (hk : 65 ≤ k) (row : List V) (hl : row.length ≤ 16) : ∀ (suf pre : List V) (b : List UInt8) (fuel : Nat), row = pre ++ suf → suf.all right = true → b.length ≤ 131 * pre.length → suf.length < fuel →
    rows_Key_0.go (k + 9) fuel b row (row.length : Int) (pre.length : Int) = some (b ++ key suf, ())
  | _, _, _, 0, _, _, _, h => absurd h (Nat.not_lt_zero _)
  | [], pre, b, fuel + 1, e, _, _, _ => by
    rw [show key [] = [] from rfl, List.append_nil]
    exact go_n (by rw [e]; simp) rfl
  | v :: suf, pre, b, fuel + 1, e, hr, hb, hf => by
    have hlt : pre.length < row.length := by rw [e]; simp
    have hgd : row.getD ((pre.length : Int)).toNat v0 = v := by rw [e]; exact getD_mid _ _ _ _
    simp only [List.all_cons, Bool.and_eq_true] at hr
    have h1 := key1_len hr.1
    have ih := key0_ok k hk row hl suf (pre ++ [v]) (b ++ key1 v) fuel (by rw [e]; simp) hr.2 (by simp; omega) (by simp at hf; omega)
    rw [show ((pre ++ [v]).length : Int) = ((pre.length + 1 : Nat) : Int) by simp] at ih
    have goal : rows_Key_0.go (k + 9) fuel (b ++ key1 v) row (row.length : Int) (IntKind.i64.wrap ((pre.length : Int) + 1)) = some (b ++ key (v :: suf), ()) := by
      rw [wrap_succ pre.length (by omega), ih]
      simp [key]
    refine go_d (by omega) (go_t (inB_nat hlt) ?_)
    rw [hgd]
    rcases right_cases hr.1 with rfl | ⟨c, rfl⟩ | ⟨n, rfl⟩ | ⟨s, rfl, hs⟩
    · exact go_n (by omega) (go_n (by omega) (go_o (one_ok k b _ hr.1 (by omega)) goal))
    · exact go_n (by simp) (go_n (by simp) (go_o (one_ok k b _ hr.1 (by omega)) goal))
    · refine go_d rfl (go_t (room_t (by omega) (by omega)) (go_o (eight_ok k _ _ (by simp; omega)) ?_))
      refine Eq.trans ?_ goal
      simp [key1]; rfl
    · have he := esc_len s
      refine go_n (by simp) (go_d rfl (go_t (room_t (by omega) (by omega)) (go_o (key00_ok (k + 9) 3 false 0 s hs s [] (b ++ [3]) (k + 9) rfl (by simp; omega) (by omega)) (go_t (room_t (by simp; omega) (by simp; omega)) ?_))))
      refine Eq.trans ?_ goal
      simp [key1]
theorem key_b0_ok (k : Nat) (hk : 65 ≤ k) (row : List V) (hl : row.length ≤ 16) : ∀ (suf pre : List V) (b : List UInt8) (fuel : Nat), row = pre ++ suf → suf.all right = true → b.length ≤ 131 * pre.length → suf.length < fuel →
    rows_Key_b_0.go (k + 9) fuel b row (row.length : Int) (pre.length : Int) = some (b ++ key suf, ())
  | _, _, _, 0, _, _, _, h => absurd h (Nat.not_lt_zero _)
  | [], pre, b, fuel + 1, e, _, _, _ => by
    rw [show key [] = [] from rfl, List.append_nil]
    exact go_n (by rw [e]; simp) rfl
  | v :: suf, pre, b, fuel + 1, e, hr, hb, hf => by
    have hlt : pre.length < row.length := by rw [e]; simp
    have hgd : row.getD ((pre.length : Int)).toNat v0 = v := by rw [e]; exact getD_mid _ _ _ _
    simp only [List.all_cons, Bool.and_eq_true] at hr
    have h1 := key1_len hr.1
    have ih := key_b0_ok k hk row hl suf (pre ++ [v]) (b ++ key1 v) fuel (by rw [e]; simp) hr.2 (by simp; omega) (by simp at hf; omega)
    rw [show ((pre ++ [v]).length : Int) = ((pre.length + 1 : Nat) : Int) by simp] at ih
    have goal : rows_Key_b_0.go (k + 9) fuel (b ++ key1 v) row (row.length : Int) (IntKind.i64.wrap ((pre.length : Int) + 1)) = some (b ++ key (v :: suf), ()) := by
      rw [wrap_succ pre.length (by omega), ih]
      simp [key]
    refine go_d (by omega) (go_t (inB_nat hlt) (go_d (by rw [Int.toNat_natCast]; exact hlt) ?_))
    rw [hgd]
    rcases right_cases hr.1 with rfl | ⟨c, rfl⟩ | ⟨n, rfl⟩ | ⟨s, rfl, hs⟩
    · exact go_n (by omega) (go_n (by omega) (go_o (one_ok k b _ hr.1 (by omega)) goal))
    · exact go_n (by simp) (go_n (by simp) (go_o (one_ok k b _ hr.1 (by omega)) goal))
    · refine go_d rfl (go_t (room_t (by omega) (by omega)) (go_o (eight_ok k _ _ (by simp; omega)) ?_))
      refine Eq.trans ?_ goal
      simp [key1]; rfl
    · have he := esc_len s
      refine go_n (by simp) (go_d rfl (go_t (room_t (by omega) (by omega)) (go_o (key_b00_ok (k + 9) 3 false 0 s hs s [] (b ++ [3]) (k + 9) rfl (by simp; omega) (by omega)) (go_t (room_t (by simp; omega) (by simp; omega)) ?_))))
      refine Eq.trans ?_ goal
      simp [key1]
theorem ref_key0_ok (k : Nat) (hk : 65 ≤ k) (row : List V) (hl : row.length ≤ 16) : ∀ (suf pre : List V) (b : List UInt8) (fuel : Nat), row = pre ++ suf → suf.all right = true → b.length ≤ 131 * pre.length → suf.length < fuel →
    ref_Key_0.go (k + 9) fuel row b (pre.length : Int) = some (b ++ key suf, ())
  | _, _, _, 0, _, _, _, h => absurd h (Nat.not_lt_zero _)
  | [], pre, b, fuel + 1, e, _, _, _ => by
    rw [show key [] = [] from rfl, List.append_nil]
    exact go_n (by rw [e]; simp) rfl
  | v :: suf, pre, b, fuel + 1, e, hr, hb, hf => by
    have hlt : pre.length < row.length := by rw [e]; simp
    have hgd : row.getD ((pre.length : Int)).toNat v0 = v := by rw [e]; exact getD_mid _ _ _ _
    simp only [List.all_cons, Bool.and_eq_true] at hr
    have h1 := key1_len hr.1
    have h2 := enc1_len hr.1
    have ih := ref_key0_ok k hk row hl suf (pre ++ [v]) (b ++ key1 v) fuel (by rw [e]; simp) hr.2 (by simp; omega) (by simp at hf; omega)
    rw [show ((pre ++ [v]).length : Int) = ((pre.length + 1 : Nat) : Int) by simp] at ih
    have goal : ref_Key_0.go (k + 9) fuel row (b ++ key1 v) (IntKind.i64.wrap ((pre.length : Int) + 1)) = some (b ++ key (v :: suf), ()) := by
      rw [wrap_succ pre.length (by omega), ih]
      simp [key]
    refine go_d (by omega) (go_t (inB_nat hlt) ?_)
    rw [hgd]
    rcases right_cases hr.1 with rfl | ⟨c, rfl⟩ | ⟨n, rfl⟩ | ⟨s, rfl, hs⟩
    · exact go_d (by omega) (go_o (ref_one_ok k _ hr.1) (go_t (room_t (by omega) (by omega)) goal))
    · exact go_d (by simp) (go_o (ref_one_ok k _ hr.1) (go_t (room_t (by omega) (by omega)) goal))
    · refine go_n (by simp) (go_t (room_t (by omega) (by omega)) (go_d rfl (go_o (ref_number_ok k _) (go_t (room_t (by rw [num8_len]; simp; omega) (by rw [num8_len]; simp; omega)) ?_))))
      refine Eq.trans ?_ goal
      simp [key1]; rfl
    · have he := esc_len s
      refine go_n (by simp) (go_t (room_t (by omega) (by omega)) (go_n (by simp) (go_o (ref_key00_ok (k + 9) 3 false 0 s hs s [] (b ++ [3]) (k + 9) rfl (by simp; omega) (by omega)) (go_t (room_t (by simp; omega) (by simp; omega)) ?_))))
      refine Eq.trans ?_ goal
      simp [key1]

def keyR (row : List V) : Option (List UInt8 × Int × Unit) := if rights row = true then some (key row, 0, ()) else some ([], 30, ())
theorem key_ok (k : Nat) (hk : 65 ≤ k) (row : List V) (hl : row.length ≤ 1099511627776) (hN : row.length < k) : rows_Key.run (k + 9) row = keyR row := by
  refine go_o (may_ok _ row hl (by omega)) ?_
  unfold keyR
  cases h : rights row with
  | false => rfl
  | true =>
    obtain ⟨h1, h2⟩ := rights_inv h
    exact go_f rfl (go_o (key0_ok k hk row h2 row [] [] (k + 9) rfl h1 (by simp) (by omega)) rfl)
theorem key_b_ok (k : Nat) (hk : 65 ≤ k) (row : List V) (hl : row.length ≤ 1099511627776) (hN : row.length < k) : rows_Key_b.run (k + 9) row = keyR row := by
  refine go_o (may_b_ok _ row hl (by omega)) ?_
  unfold keyR
  cases h : rights row with
  | false => rfl
  | true =>
    obtain ⟨h1, h2⟩ := rights_inv h
    exact go_f rfl (go_o (key_b0_ok k hk row h2 row [] [] (k + 9) rfl h1 (by simp) (by omega)) rfl)
theorem ref_key_ok (k : Nat) (hk : 65 ≤ k) (row : List V) (hl : row.length ≤ 1099511627776) (hN : row.length < k) : ref_Key.run (k + 9) row = keyR row := by
  refine go_o (ref_right_ok _ row hl (by omega)) ?_
  unfold keyR
  cases h : rights row with
  | false => rfl
  | true =>
    obtain ⟨h1, h2⟩ := rights_inv h
    exact go_f rfl (go_o (ref_key0_ok k hk row h2 row [] [] (k + 9) rfl h1 (by simp) (by omega)) rfl)
end Go.Hay.Ytkdcillgnlfabaa
