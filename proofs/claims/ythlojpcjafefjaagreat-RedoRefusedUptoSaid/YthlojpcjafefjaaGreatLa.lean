/- Numbers as bytes: what the functions that write and read them come to. Conditions: sizes below a bound. -/
import Derived.Test.YthlojpcjafefjaaGreatFb
import Derived.Test.YthlojpcjafefjaaGreatHayDl
set_option linter.unusedVariables false
set_option linter.unusedSimpArgs false
namespace Go.Hay.YthlojpcjafefjaaGreat
open Go Go.Hay Go.Proofs

/-- A number in so many bytes. -/
def numB : Nat → Nat → List UInt8
  | 0, _ => []
  | m + 1, n => UInt8.ofNat (n / 256 ^ m % 256) :: numB m n
theorem fC4 : ∀ m n, (numB m n).length = m
  | 0, _ => rfl
  | m + 1, n => by simp [numB, fC4 m n]
/-- The number that bytes say. -/
def toNum (l : List UInt8) : Nat := l.foldl (fun n c => n * 256 + c.toNat) 0
theorem fD57 (l : List UInt8) (c : UInt8) : toNum (l ++ [c]) = toNum l * 256 + c.toNat := by simp [toNum]
theorem fD60 : ∀ (l : List UInt8) (n : Nat), l.foldl (fun n c => n * 256 + c.toNat) n = n * 256 ^ l.length + toNum l
  | [], n => by simp [toNum]
  | c :: l, n => by
    have h1 := fD60 l (n * 256 + c.toNat)
    have h2 := fD60 l (0 * 256 + c.toNat)
    have e : toNum (c :: l) = l.foldl (fun n c => n * 256 + c.toNat) (0 * 256 + c.toNat) := rfl
    rw [e, h2, List.foldl_cons, h1, List.length_cons, Nat.pow_succ]
    generalize 256 ^ l.length = P
    rw [Nat.add_mul, Nat.zero_mul, Nat.zero_add, Nat.mul_assoc n 256 P, Nat.mul_comm 256 P]
    omega
theorem fB57 (c : UInt8) (l : List UInt8) : toNum (c :: l) = c.toNat * 256 ^ l.length + toNum l := by
  have := fD60 l (0 * 256 + c.toNat)
  rw [Nat.zero_mul, Nat.zero_add] at this
  have e : toNum (c :: l) = l.foldl (fun n c => n * 256 + c.toNat) (0 * 256 + c.toNat) := rfl
  rw [e, Nat.zero_mul, Nat.zero_add, this]
theorem fB46 : ∀ l : List UInt8, toNum l < 256 ^ l.length
  | [] => by simp [toNum]
  | c :: l => by
    have := fB46 l
    have hc := c.toNat_lt
    rw [fB57, List.length_cons, Nat.pow_succ]
    have h2 : c.toNat * 256 ^ l.length ≤ 255 * 256 ^ l.length := Nat.mul_le_mul_right _ (by omega)
    omega
theorem fA49 : ∀ m n, toNum (numB m n) = n % 256 ^ m
  | 0, n => by simp [numB, toNum, Nat.mod_one]
  | m + 1, n => by
    have h : n % 256 ^ (m + 1) = n % 256 ^ m + 256 ^ m * (n / 256 ^ m % 256) := Nat.mod_pow_succ
    rw [numB, fB57, fC4, fA49 m n, UInt8.toNat_ofNat', h]
    rw [show n / 256 ^ m % 256 % 2 ^ 8 = n / 256 ^ m % 256 by omega, Nat.mul_comm, Nat.add_comm]
theorem fC78 : ∀ (m a t : Nat), numB m (a * 256 ^ m + t) = numB m t
  | 0, a, t => rfl
  | m + 1, a, t => by
    have e : a * 256 ^ (m + 1) = a * 256 * 256 ^ m := by rw [Nat.pow_succ, Nat.mul_assoc, Nat.mul_comm (256 ^ m)]
    have hp : 0 < 256 ^ m := Nat.pow_pos (by omega)
    rw [e, numB, fC78 m (a * 256) t, numB, Nat.mul_comm (a * 256) (256 ^ m), Nat.mul_add_div hp]
    rw [show (a * 256 + t / 256 ^ m) % 256 = t / 256 ^ m % 256 by omega]
theorem fB67 : ∀ l : List UInt8, numB l.length (toNum l) = l
  | [] => rfl
  | c :: l => by
    have hc := c.toNat_lt
    have hp : 0 < 256 ^ l.length := Nat.pow_pos (by omega)
    have hl := fB46 l
    rw [List.length_cons, numB, fB57, fC78, fB67 l, Nat.mul_comm, Nat.mul_add_div hp, Nat.div_eq_of_lt hl, Nat.add_zero, Nat.mod_eq_of_lt (by omega)]
    simp
theorem fB90 {m : Nat} (h : m ≤ 8) : 256 ^ m ≤ 18446744073709551616 := by
  have : 256 ^ m ≤ 256 ^ 8 := Nat.pow_le_pow_right (by omega) h
  omega
theorem fC72 {l : List UInt8} (h : l.length ≤ 8) : toNum l < 18446744073709551616 := by
  have := fB46 l
  have := fB90 h
  omega

theorem u8_nat (n : Nat) : Hay.u8 (IntKind.u8.wrap (n : Int)) = UInt8.ofNat (n % 256) := by
  rw [w_u8]
  show UInt8.ofNat (((n : Int) % 256).toNat) = _
  rw [show ((n : Int) % 256).toNat = n % 256 by omega]
theorem fB75 (a b : Nat) : ((a : Int).fdiv (b : Int)) = ((a / b : Nat) : Int) := by
  rw [Int.fdiv_eq_ediv_of_nonneg _ (Int.natCast_nonneg b)]; rfl

theorem fA79 (N n : Nat) : ∀ (m : Nat) (b : List UInt8) (fuel : Nat), m ≤ 8 → m < fuel → b.length + m ≤ 140737488355328 →
    fD10.go N fuel b (n : Int) (m : Int) = some ((b ++ numB m n, ()), ())
  | _, _, 0, _, h, _ => absurd h (Nat.not_lt_zero _)
  | 0, b, fuel + 1, hm, hf, hb => go_n (by omega) (by simp [numB])
  | m + 1, b, fuel + 1, hm, hf, hb => by
    have e1 : IntKind.i64.wrap (((m + 1 : Nat) : Int) - 1) = (m : Int) := by rw [wrap_i64] <;> omega
    refine go_d (by omega) ?_
    rw [e1]
    have e2 : IntKind.i64.wrap ((8 : Int) * (m : Int)) = ((8 * m : Nat) : Int) := by rw [wrap_i64] <;> omega
    rw [e2]
    refine go_d (by omega) (go_t (room_t (by omega) (by omega)) ?_)
    have e3 : (2 : Int) ^ (min (((8 * m : Nat) : Int)).toNat 64) = ((256 ^ m : Nat) : Int) := by
      rw [Int.toNat_natCast, Nat.min_eq_left (by omega), Int.pow_mul]
      simp
    rw [e3, fB75, u8_nat]
    refine (fA79 N n m _ fuel (by omega) (by omega) (by simp; omega)).trans ?_
    simp [numB]
theorem fD62 (k n m : Nat) (b : List UInt8) (hm : m ≤ 8) (hb : b.length ≤ 100000000000000) : fC2.run (k + 9) b (n : Int) (m : Int) = some ((b ++ numB m n, ()), ()) :=
  go_o (fA79 (k + 9) n m b (k + 9) hm (by omega) (by omega)) rfl

theorem fD78 (N : Nat) (i : Nat) (hi : i ≤ 8) : ∀ (d j x fuel : Nat), i = j + d → d < fuel → x < 18446744073709551616 → fB22.go N fuel (i : Int) (x : Int) (j : Int) = some (((x / 256 ^ d : Nat) : Int), ())
  | _, _, _, 0, _, h, _ => absurd h (Nat.not_lt_zero _)
  | 0, j, x, fuel + 1, e, hf, hx => go_n (by omega) (by simp)
  | d + 1, j, x, fuel + 1, e, hf, hx => by
    refine go_d (by omega) ?_
    have e1 : IntKind.u64.wrap ((x : Int).tdiv 256) = ((x / 256 : Nat) : Int) := by
      rw [Int.tdiv_eq_ediv_of_nonneg (by omega), w_u64]; omega
    rw [e1, wrap_succ j (by omega)]
    refine (fD78 N i hi d (j + 1) (x / 256) fuel (by omega) (by omega) (by omega)).trans ?_
    rw [Nat.div_div_eq_div_mul, Nat.pow_succ, Nat.mul_comm 256]
theorem fD82 (N n : Nat) (hN : 9 ≤ N) (hn : n < 18446744073709551616) : ∀ (m : Nat) (b : List UInt8) (fuel : Nat), m ≤ 8 → m < fuel → b.length + m ≤ 140737488355328 →
    fA11.go N fuel (n : Int) b ((m : Int) - 1) = some (b ++ numB m n, ())
  | _, _, 0, _, h, _ => absurd h (Nat.not_lt_zero _)
  | 0, b, fuel + 1, hm, hf, hb => go_n (by omega) (by simp [numB])
  | m + 1, b, fuel + 1, hm, hf, hb => by
    have e1 : ((m + 1 : Nat) : Int) - 1 = (m : Int) := by omega
    rw [e1]
    refine go_d (by omega) (go_o (fD78 N m (by omega) m 0 n N (by omega) (by omega) hn) (go_t (room_t (by omega) (by omega)) ?_))
    have e2 : IntKind.u8.wrap ((((n / 256 ^ m : Nat) : Int)).tmod 256) = ((n / 256 ^ m % 256 : Nat) : Int) := by
      rw [Int.tmod_eq_emod_of_nonneg (Int.natCast_nonneg _), w_u8]; omega
    have e3 : IntKind.i64.wrap ((m : Int) - 1) = (m : Int) - 1 := by rw [wrap_i64] <;> omega
    show fA11.go N fuel (n : Int) (b ++ [Hay.u8 (IntKind.u8.wrap ((((n / 256 ^ m : Nat) : Int)).tmod 256))]) (IntKind.i64.wrap ((m : Int) - 1)) = _
    rw [e2, e3]
    refine (fD82 N n hN hn m _ fuel (by omega) (by omega) (by simp; omega)).trans ?_
    have e4 : Hay.u8 ((n / 256 ^ m % 256 : Nat) : Int) = UInt8.ofNat (n / 256 ^ m % 256) := by
      show UInt8.ofNat (Int.toNat ((n / 256 ^ m % 256 : Nat) : Int)) = _
      rw [Int.toNat_natCast]
    rw [e4]
    simp [numB]
theorem fB48 (k n m : Nat) (hm : m ≤ 8) (hn : n < 18446744073709551616) : fA14.run (k + 9) (n : Int) (m : Int) = some (numB m n, ()) := by
  have e : IntKind.i64.wrap ((m : Int) - 1) = (m : Int) - 1 := by rw [wrap_i64] <;> omega
  refine go_o (v := (numB m n, ())) ?_ rfl
  rw [e]
  exact fD82 (k + 9) n (by omega) hn m [] (k + 9) hm (by omega) (by simp; omega)

/-- A number in as few bytes as may be. -/
def varB (n : Nat) : List UInt8 :=
  if n < 253 then [UInt8.ofNat n] else if n ≤ 65535 then 253 :: numB 2 n else if n ≤ 4294967295 then 254 :: numB 4 n else 255 :: numB 8 n
theorem fC47 (n : Nat) : (varB n).length ≤ 9 ∧ 1 ≤ (varB n).length := by
  unfold varB
  split
  · simp
  split
  · simp [fC4]
  split
  · simp [fC4]
  · simp [fC4]
theorem u8_byte' (c : UInt8) : Hay.u8 (c.toNat : Int) = c := Hay.u8_byte c
theorem fC61 (N : Nat) (b : List UInt8) (c : UInt8) (hb : b.length ≤ 100000000000000) : fA13.run N b c = some ((b ++ [c], ()), ()) := by
  refine go_t (room_t (by omega) (by omega)) ?_
  rw [u8_byte']
theorem wr_var (k n : Nat) (b : List UInt8) (hb : b.length ≤ 10000000000000) : fC6.run (k + 9) b (n : Int) = some ((b ++ varB n, ()), ()) := by
  unfold varB
  by_cases h1 : n < 253
  · rw [if_pos h1]
    have e : Hay.u8 (IntKind.u8.wrap (n : Int)) = UInt8.ofNat n := by rw [u8_nat, Nat.mod_eq_of_lt (by omega)]
    refine go_d (by omega) ?_
    rw [e]
    exact go_o (fC61 _ b _ (by omega)) rfl
  rw [if_neg h1]
  refine go_n (by omega) ?_
  by_cases h2 : n ≤ 65535
  · rw [if_pos h2]
    refine go_d (by omega) (go_o (fC61 _ b _ (by omega)) (go_o (fD62 k n 2 _ (by omega) (by simp; omega)) ?_))
    simp
  rw [if_neg h2]
  refine go_n (by omega) ?_
  by_cases h3 : n ≤ 4294967295
  · rw [if_pos h3]
    refine go_d (by omega) (go_o (fC61 _ b _ (by omega)) (go_o (fD62 k n 4 _ (by omega) (by simp; omega)) ?_))
    simp
  rw [if_neg h3]
  refine go_n (by omega) (go_o (fC61 _ b _ (by omega)) (go_o (fD62 k n 8 _ (by omega) (by simp; omega)) ?_))
  simp
theorem rf_var (k n : Nat) (hn : n < 18446744073709551616) : fB24.run (k + 9) (n : Int) = some (varB n, ()) := by
  unfold varB
  by_cases h1 : n < 253
  · rw [if_pos h1]
    have e : Hay.u8 (IntKind.u8.wrap (n : Int)) = UInt8.ofNat n := by rw [u8_nat, Nat.mod_eq_of_lt (by omega)]
    refine go_d (by omega) ?_
    rw [e]
  rw [if_neg h1]
  refine go_n (by omega) ?_
  by_cases h2 : n ≤ 65535
  · rw [if_pos h2]
    refine go_o (v := (253, 2, ())) (go_n (by omega) rfl) (go_n (by omega) (go_o (fB48 k n 2 (by omega) hn) (go_t (room_t (by rw [fC4]; omega) (by rw [fC4]; omega)) rfl)))
  rw [if_neg h2]
  refine go_o (v := (254, 4, ())) (go_d (by omega) rfl) ?_
  by_cases h3 : n ≤ 4294967295
  · rw [if_pos h3]
    exact go_n (by omega) (go_o (fB48 k n 4 (by omega) hn) (go_t (room_t (by rw [fC4]; omega) (by rw [fC4]; omega)) rfl))
  · rw [if_neg h3]
    exact go_d (by omega) (go_o (fB48 k n 8 (by omega) hn) (go_t (room_t (by rw [fC4]; omega) (by rw [fC4]; omega)) rfl))

theorem fD100 (n : Nat) (c : UInt8) (h : n < 72057594037927936) :
    IntKind.u64.wrap (((BitVec.ofInt 64 (IntKind.u64.wrap ((n : Int) * 256)) ||| BitVec.ofInt 64 (IntKind.u64.wrap ((c.toNat : Nat) : Int))).toNat : Nat) : Int) = ((n * 256 + c.toNat : Nat) : Int) := by
  have hc := c.toNat_lt
  have e1 : IntKind.u64.wrap ((n : Int) * 256) = ((n * 256 : Nat) : Int) := by rw [w_u64]; omega
  have e2 : IntKind.u64.wrap ((c.toNat : Nat) : Int) = ((c.toNat : Nat) : Int) := by rw [w_u64]; omega
  rw [e1, e2, BitVec.ofInt_natCast, BitVec.ofInt_natCast, BitVec.toNat_or, BitVec.toNat_ofNat, BitVec.toNat_ofNat, Nat.mod_eq_of_lt (by omega), Nat.mod_eq_of_lt (by omega)]
  have e3 : n * 256 ||| c.toNat = n * 256 + c.toNat := by
    have := Nat.two_pow_add_eq_or_of_lt (i := 8) (b := c.toNat) (by omega) n
    rw [show (2 : Nat) ^ 8 * n = n * 256 by omega] at this
    exact this.symm
  rw [e3, w_u64]
  omega
theorem fC29 {α : Type} (pre : List α) (x : α) (suf : List α) (d : α) : (pre ++ x :: suf).getD ((pre.length : Int)).toNat d = x := by simp
theorem fA54 {l : List UInt8} (h : l.length ≤ 7) : toNum l < 72057594037927936 := by
  have h1 := fB46 l
  have h2 : 256 ^ l.length ≤ 256 ^ 7 := Nat.pow_le_pow_right (by omega) h
  omega
theorem fB55 (N : Nat) (l : List UInt8) (h8 : l.length ≤ 8) : ∀ (suf pre : List UInt8) (fuel : Nat), l = pre ++ suf → suf.length < fuel →
    fC11.go N fuel ((toNum pre : Nat) : Int) l (l.length : Int) (pre.length : Int) = some (((toNum l : Nat) : Int), ())
  | _, _, 0, _, h => absurd h (Nat.not_lt_zero _)
  | [], pre, fuel + 1, e, hf => by
    rw [List.append_nil] at e
    subst e
    exact go_n (by omega) rfl
  | c :: suf, pre, fuel + 1, e, hf => by
    have hlt : pre.length < l.length := by rw [e]; simp
    have hgd : l.getD ((pre.length : Int)).toNat (0 : UInt8) = c := by rw [e]; exact fC29 _ _ _ _
    refine go_d (by omega) (go_t (inB_nat hlt) ?_)
    rw [hgd, fD100 _ _ (fA54 (by omega)), ← fD57, wrap_succ pre.length (by omega)]
    have ih := fB55 N l h8 suf (pre ++ [c]) fuel (by rw [e]; simp) (by simp at hf; omega)
    rw [show ((pre ++ [c]).length : Int) = ((pre.length + 1 : Nat) : Int) by simp] at ih
    exact ih
theorem fC73 (n : Nat) (c : UInt8) (h : n < 72057594037927936) : IntKind.u64.wrap (IntKind.u64.wrap ((256 : Int) * (n : Int)) + IntKind.u64.wrap ((c.toNat : Nat) : Int)) = ((n * 256 + c.toNat : Nat) : Int) := by
  have hc := c.toNat_lt
  rw [w_u64, w_u64, w_u64]
  omega
theorem fB81 (N : Nat) (l : List UInt8) (h8 : l.length ≤ 8) : ∀ (suf pre : List UInt8) (fuel : Nat), l = pre ++ suf → suf.length < fuel →
    fD29.go N fuel l ((toNum pre : Nat) : Int) (pre.length : Int) = some (((toNum l : Nat) : Int), ())
  | _, _, 0, _, h => absurd h (Nat.not_lt_zero _)
  | [], pre, fuel + 1, e, hf => by
    rw [List.append_nil] at e
    subst e
    exact go_n (by omega) rfl
  | c :: suf, pre, fuel + 1, e, hf => by
    have hlt : pre.length < l.length := by rw [e]; simp
    have hgd : l.getD ((pre.length : Int)).toNat (0 : UInt8) = c := by rw [e]; exact fC29 _ _ _ _
    refine go_d (by omega) (go_t (inB_nat hlt) (go_d (by rw [Int.toNat_natCast]; exact hlt) ?_))
    rw [hgd, fC73 _ _ (fA54 (by omega)), ← fD57, wrap_succ pre.length (by omega)]
    have ih := fB81 N l h8 suf (pre ++ [c]) fuel (by rw [e]; simp) (by simp at hf; omega)
    rw [show ((pre ++ [c]).length : Int) = ((pre.length + 1 : Nat) : Int) by simp] at ih
    exact ih
theorem fA100 (k : Nat) (l : List UInt8) (h8 : l.length ≤ 8) : fA25.run (k + 9) l = some (((toNum l : Nat) : Int), ()) :=
  go_o (fB81 (k + 9) l h8 l [] (k + 9) rfl (by omega)) rfl
theorem fB69 (N : Nat) (l : List UInt8) (h8 : l.length ≤ 8) : ∀ (suf pre : List UInt8) (fuel : Nat), l = pre ++ suf → suf.length < fuel →
    fC40.go N fuel l ((toNum pre : Nat) : Int) (pre.length : Int) = some (((toNum l : Nat) : Int), ())
  | _, _, 0, _, h => absurd h (Nat.not_lt_zero _)
  | [], pre, fuel + 1, e, hf => by
    rw [List.append_nil] at e
    subst e
    exact go_n (by omega) rfl
  | c :: suf, pre, fuel + 1, e, hf => by
    have hlt : pre.length < l.length := by rw [e]; simp
    have hgd : l.getD ((pre.length : Int)).toNat (0 : UInt8) = c := by rw [e]; exact fC29 _ _ _ _
    refine go_d (by omega) (go_t (inB_nat hlt) ?_)
    rw [hgd, fC73 _ _ (fA54 (by omega)), ← fD57, wrap_succ pre.length (by omega)]
    have ih := fB69 N l h8 suf (pre ++ [c]) fuel (by rw [e]; simp) (by simp at hf; omega)
    rw [show ((pre ++ [c]).length : Int) = ((pre.length + 1 : Nat) : Int) by simp] at ih
    exact ih
theorem fC60 (k : Nat) (l : List UInt8) (h8 : l.length ≤ 8) : fA31.run (k + 9) l = some (((toNum l : Nat) : Int), ()) :=
  go_o (fB69 (k + 9) l h8 l [] (k + 9) rfl (by omega)) rfl
end Go.Hay.YthlojpcjafefjaaGreat
