/- Checksums: by a table and bit by bit they come to the same; each bit counts. Conditions: sizes below a bound. -/
import Derived.Test.YthlojpcjafefjaaGreatLf
set_option linter.unusedVariables false
set_option linter.unusedSimpArgs false
namespace Go.Hay.YthlojpcjafefjaaGreat
open Go Go.Hay Go.Proofs

abbrev W := BitVec 32
def P32 : W := 0xedb88320#32
def step (r : W) : W := (r >>> 1) ^^^ (if r.getLsbD 0 = true then P32 else 0#32)
def steps : Nat → W → W
  | 0, r => r
  | n + 1, r => steps n (step r)
theorem fA60 : ∀ (n m : Nat) (r : W), steps (n + m) r = steps m (steps n r)
  | 0, m, r => by rw [Nat.zero_add]; rfl
  | n + 1, m, r => by
    rw [show n + 1 + m = (n + m) + 1 by omega]
    exact fA60 n m (step r)
theorem fB97 (x y : W) : step (x ^^^ y) = step x ^^^ step y := by
  unfold step
  rw [BitVec.ushiftRight_xor_distrib, BitVec.getLsbD_xor]
  cases hx : x.getLsbD 0 <;> cases hy : y.getLsbD 0
  · simp
  · simp [BitVec.xor_assoc]
  · simp only [Bool.xor_false, if_true, Bool.false_eq_true, if_false, BitVec.xor_zero]
    rw [BitVec.xor_assoc, BitVec.xor_comm (y >>> 1), ← BitVec.xor_assoc]
  · simp only [Bool.xor_self, if_true, Bool.false_eq_true, if_false, BitVec.xor_zero]
    rw [BitVec.xor_assoc (x >>> 1), ← BitVec.xor_assoc P32, BitVec.xor_comm P32, BitVec.xor_assoc (y >>> 1), BitVec.xor_self, BitVec.xor_zero]
theorem fB74 : ∀ (n : Nat) (x y : W), steps n (x ^^^ y) = steps n x ^^^ steps n y
  | 0, _, _ => rfl
  | n + 1, x, y => by
    show steps n (step (x ^^^ y)) = _
    rw [fB97, fB74 n]
    rfl
theorem fB83 (x : W) : x.getLsbD 0 = decide (x.toNat % 2 = 1) := by
  rw [BitVec.getLsbD, Nat.testBit_zero]
theorem fB62 (x : W) (k : Nat) : (x >>> k).toNat = x.toNat / 2 ^ k := by
  rw [BitVec.toNat_ushiftRight, Nat.shiftRight_eq_div_pow]
theorem fA52 {x : W} (h : x.toNat % 2 = 0) : (step x).toNat = x.toNat / 2 := by
  unfold step
  rw [fB83, decide_eq_false (by omega), if_neg (by decide), BitVec.xor_zero, fB62]
theorem fD81 {x : W} {q : Nat} (h : x.toNat = 16 * q) : (steps 4 x).toNat = q := by
  have h1 := fA52 (x := x) (by omega)
  have h2 := fA52 (x := step x) (by omega)
  have h3 := fA52 (x := step (step x)) (by omega)
  have h4 := fA52 (x := step (step (step x))) (by omega)
  show (step (step (step (step x)))).toNat = q
  omega
theorem fC100 (t : W) : t = ((t >>> 4) <<< 4) ^^^ (t &&& 15#32) := by
  have h15 : ∀ i < 32, (15#32).getLsbD i = decide (i < 4) := by decide
  apply BitVec.eq_of_getLsbD_eq
  intro i hi
  rw [BitVec.getLsbD_xor, BitVec.getLsbD_and, BitVec.getLsbD_shiftLeft, BitVec.getLsbD_ushiftRight, h15 i hi]
  by_cases h : i < 4
  · simp [h]
  · simp [h, hi]
    rw [show 4 + (i - 4) = i by omega]
    exact (BitVec.getLsbD_eq_getElem hi).symm
theorem steps4 (t : W) : steps 4 t = steps 4 (t &&& 15#32) ^^^ (t >>> 4) := by
  have h : steps 4 ((t >>> 4) <<< 4) = t >>> 4 := by
    apply BitVec.eq_of_toNat_eq
    have ht := t.isLt
    have e : ((t >>> 4) <<< 4).toNat = 16 * (t >>> 4).toNat := by
      rw [BitVec.toNat_shiftLeft, fB62, Nat.shiftLeft_eq]
      omega
    rw [fD81 e]
  have := congrArg (steps 4) (fC100 t)
  rw [fB74, h] at this
  rw [this, BitVec.xor_comm]

def byteW (c : UInt8) : W := BitVec.ofNat 32 c.toNat
def crc (v : W) (l : List UInt8) : W := l.foldl (fun v c => steps 8 (v ^^^ byteW c)) v
def ones : W := 4294967295#32
/-- The checksum. -/
def sumN (b : List UInt8) : Nat := (crc ones b ^^^ ones).toNat
theorem fA48 (b : List UInt8) : sumN b < 4294967296 := (crc ones b ^^^ ones).isLt
/- The words of the program. -/
theorem of_w (v : W) : BitVec.ofInt 32 ((v.toNat : Nat) : Int) = v := by
  rw [BitVec.ofInt_natCast, BitVec.ofNat_toNat, BitVec.setWidth_eq]
theorem wr_w (v : W) : IntKind.u32.wrap ((v.toNat : Nat) : Int) = ((v.toNat : Nat) : Int) := by
  have := v.isLt
  rw [w_u32]; omega
theorem x_w (v w : W) : IntKind.u32.wrap (((BitVec.ofInt 32 ((v.toNat : Nat) : Int) ^^^ BitVec.ofInt 32 ((w.toNat : Nat) : Int)).toNat : Nat) : Int) = (((v ^^^ w).toNat : Nat) : Int) := by
  rw [of_w, of_w, wr_w]
theorem a_w (v w : W) : IntKind.u32.wrap (((BitVec.ofInt 32 ((v.toNat : Nat) : Int) &&& BitVec.ofInt 32 ((w.toNat : Nat) : Int)).toNat : Nat) : Int) = (((v &&& w).toNat : Nat) : Int) := by
  rw [of_w, of_w, wr_w]
theorem byte_w (c : UInt8) : IntKind.u32.wrap ((c.toNat : Nat) : Int) = (((byteW c).toNat : Nat) : Int) := by
  have hc := c.toNat_lt
  unfold byteW
  rw [w_u32, BitVec.toNat_ofNat]; omega
theorem s_w (v : W) (k : Nat) : ((v.toNat : Nat) : Int).fdiv ((2 ^ k : Nat) : Int) = (((v >>> k).toNat : Nat) : Int) := by
  rw [fB75, fB62]

/-- Bit by bit. -/
theorem fD86 (v : W) : (((v.toNat : Nat) : Int).tmod 2 = 1 ↔ v.getLsbD 0 = true) ∧ IntKind.u32.wrap (((v.toNat : Nat) : Int).tdiv 2) = (((v >>> 1).toNat : Nat) : Int) := by
  have hv := v.isLt
  rw [fB83, fB62, Int.tmod_eq_emod_of_nonneg (by omega), Int.tdiv_eq_ediv_of_nonneg (by omega), w_u32, decide_eq_true_eq]
  omega
theorem fA80 (N : Nat) : ∀ (d j : Nat) (v : W) (fuel : Nat), 8 = j + d → d < fuel → fA32.go N fuel ((v.toNat : Nat) : Int) (j : Int) = some ((((steps d v).toNat : Nat) : Int), ())
  | _, _, _, 0, _, h => absurd h (Nat.not_lt_zero _)
  | 0, j, v, fuel + 1, e, hf => go_n (by omega) rfl
  | d + 1, j, v, fuel + 1, e, hf => by
    obtain ⟨b1, b2⟩ := fD86 v
    have ih := fA80 N d (j + 1) (step v) fuel (by omega) (by omega)
    refine go_d (by omega) ?_
    rw [b2, wrap_succ j (by omega)]
    unfold step at ih
    by_cases h : v.getLsbD 0 = true
    · rw [if_pos h] at ih
      refine go_d (b1.2 h) ?_
      have e1 := x_w (v >>> 1) P32
      have e2 : ((P32.toNat : Nat) : Int) = 3988292384 := rfl
      rw [e2] at e1
      rw [e1, ih]
      show _ = some ((((steps d (step v)).toNat : Nat) : Int), ())
      unfold step
      rw [if_pos h]
    · rw [if_neg h, BitVec.xor_zero] at ih
      refine go_n (fun h2 => h (b1.1 h2)) ?_
      rw [ih]
      show _ = some ((((steps d (step v)).toNat : Nat) : Int), ())
      unfold step
      rw [if_neg h, BitVec.xor_zero]
theorem fA84 (N : Nat) (hN : 9 ≤ N) (l : List UInt8) (hl : l.length ≤ 10000000000000) : ∀ (suf pre : List UInt8) (v : W) (fuel : Nat), l = pre ++ suf → suf.length < fuel →
    fB23.go N fuel l ((v.toNat : Nat) : Int) (pre.length : Int) = some ((((crc v suf).toNat : Nat) : Int), ())
  | _, _, _, 0, _, h => absurd h (Nat.not_lt_zero _)
  | [], pre, v, fuel + 1, e, hf => go_n (by rw [e]; simp) rfl
  | c :: suf, pre, v, fuel + 1, e, hf => by
    have hlt : pre.length < l.length := by rw [e]; simp
    have hgd : l.getD ((pre.length : Int)).toNat (0 : UInt8) = c := by rw [e]; exact fC29 _ _ _ _
    refine go_d (by omega) (go_t (inB_nat hlt) ?_)
    rw [hgd, byte_w, x_w, wrap_succ pre.length (by omega)]
    refine go_o (fA80 N 8 0 (v ^^^ byteW c) N rfl (by omega)) ?_
    have ih := fA84 N hN l hl suf (pre ++ [c]) (steps 8 (v ^^^ byteW c)) fuel (by rw [e]; simp) (by simp at hf; omega)
    rw [show ((pre ++ [c]).length : Int) = ((pre.length + 1 : Nat) : Int) by simp] at ih
    exact ih
theorem rf_sum (k : Nat) (l : List UInt8) (hl : l.length ≤ 10000000000000) (hk : l.length < k) : fA41.run (k + 20) l = some (((sumN l : Nat) : Int), ()) := by
  refine go_o (fA84 (k + 20) (by omega) l hl l [] ones (k + 20) rfl (by omega)) ?_
  show some (IntKind.u32.wrap (((BitVec.ofInt 32 (((crc ones l).toNat : Nat) : Int) ^^^ BitVec.ofInt 32 ((ones.toNat : Nat) : Int)).toNat : Nat) : Int), ()) = _
  rw [x_w]
  rfl
theorem fD68 (N : Nat) : ∀ (d j : Nat) (v : W) (fuel : Nat), 8 = j + d → d < fuel → fA22.go N fuel ((v.toNat : Nat) : Int) (j : Int) = some ((((steps d v).toNat : Nat) : Int), ())
  | _, _, _, 0, _, h => absurd h (Nat.not_lt_zero _)
  | 0, j, v, fuel + 1, e, hf => go_n (by omega) rfl
  | d + 1, j, v, fuel + 1, e, hf => by
    obtain ⟨b1, b2⟩ := fD86 v
    have ih := fD68 N d (j + 1) (step v) fuel (by omega) (by omega)
    refine go_d (by omega) ?_
    rw [b2, wrap_succ j (by omega)]
    unfold step at ih
    by_cases h : v.getLsbD 0 = true
    · rw [if_pos h] at ih
      refine go_d (b1.2 h) ?_
      have e1 := x_w (v >>> 1) P32
      have e2 : ((P32.toNat : Nat) : Int) = 3988292384 := rfl
      rw [e2] at e1
      rw [e1, ih]
      show _ = some ((((steps d (step v)).toNat : Nat) : Int), ())
      unfold step
      rw [if_pos h]
    · rw [if_neg h, BitVec.xor_zero] at ih
      refine go_n (fun h2 => h (b1.1 h2)) ?_
      rw [ih]
      show _ = some ((((steps d (step v)).toNat : Nat) : Int), ())
      unfold step
      rw [if_neg h, BitVec.xor_zero]
theorem fC71 (N : Nat) (hN : 9 ≤ N) (l : List UInt8) (hl : l.length ≤ 10000000000000) : ∀ (suf pre : List UInt8) (v : W) (fuel : Nat), l = pre ++ suf → suf.length < fuel →
    fB17.go N fuel l ((v.toNat : Nat) : Int) (pre.length : Int) = some ((((crc v suf).toNat : Nat) : Int), ())
  | _, _, _, 0, _, h => absurd h (Nat.not_lt_zero _)
  | [], pre, v, fuel + 1, e, hf => go_n (by rw [e]; simp) rfl
  | c :: suf, pre, v, fuel + 1, e, hf => by
    have hlt : pre.length < l.length := by rw [e]; simp
    have hgd : l.getD ((pre.length : Int)).toNat (0 : UInt8) = c := by rw [e]; exact fC29 _ _ _ _
    refine go_d (by omega) (go_t (inB_nat hlt) (go_d (by rw [Int.toNat_natCast]; exact hlt) ?_))
    rw [hgd, byte_w, x_w, wrap_succ pre.length (by omega)]
    refine go_o (fD68 N 8 0 (v ^^^ byteW c) N rfl (by omega)) ?_
    have ih := fC71 N hN l hl suf (pre ++ [c]) (steps 8 (v ^^^ byteW c)) fuel (by rw [e]; simp) (by simp at hf; omega)
    rw [show ((pre ++ [c]).length : Int) = ((pre.length + 1 : Nat) : Int) by simp] at ih
    exact ih
theorem fA77 (k : Nat) (l : List UInt8) (hl : l.length ≤ 10000000000000) (hk : l.length < k) : fD27.run (k + 20) l = some (((sumN l : Nat) : Int), ()) := by
  refine go_o (fC71 (k + 20) (by omega) l hl l [] ones (k + 20) rfl (by omega)) ?_
  show some (IntKind.u32.wrap (((BitVec.ofInt 32 (((crc ones l).toNat : Nat) : Int) ^^^ BitVec.ofInt 32 ((ones.toNat : Nat) : Int)).toNat : Nat) : Int), ()) = _
  rw [x_w]
  rfl

/-- The table. -/
def tbl : List Int := (List.range 16).map fun i => (((steps 4 (BitVec.ofNat 32 i)).toNat : Nat) : Int)
theorem tbl_ok (k : Nat) : fD9.go (k + 20) (k + 20) (List.replicate 16 (0 : Int)) 0 = some (tbl, ()) := by
  kernel_rfl
theorem fC96 (k : Nat) : fC16.go (k + 20) (k + 20) (List.replicate 16 (0 : Int)) 0 = some (tbl, ()) := by
  kernel_rfl
theorem and15 (t : W) : (t &&& 15#32).toNat = t.toNat % 16 := by
  rw [BitVec.toNat_and, show (15#32 : W).toNat = 2 ^ 4 - 1 from rfl, Nat.and_two_pow_sub_one_eq_mod]
theorem fA99 (t : W) : tbl.getD ((((t &&& 15#32).toNat : Nat) : Int)).toNat 0 = (((steps 4 (t &&& 15#32)).toNat : Nat) : Int) := by
  have h : (t &&& 15#32).toNat < 16 := by rw [and15]; omega
  have e : BitVec.ofNat 32 (t &&& 15#32).toNat = t &&& 15#32 := by rw [BitVec.ofNat_toNat, BitVec.setWidth_eq]
  unfold tbl
  rw [Int.toNat_natCast, List.getD_eq_getElem?_getD, List.getElem?_map, List.getElem?_range h]
  show (((steps 4 (BitVec.ofNat 32 (t &&& 15#32).toNat)).toNat : Nat) : Int) = _
  rw [e]
theorem half (t : W) : IntKind.u32.wrap (((BitVec.ofInt 32 (tbl.getD ((((t &&& 15#32).toNat : Nat) : Int)).toNat 0) ^^^ BitVec.ofInt 32 (((t.toNat : Nat) : Int).fdiv 16)).toNat : Nat) : Int) = (((steps 4 t).toNat : Nat) : Int) := by
  have e : ((t.toNat : Nat) : Int).fdiv 16 = (((t >>> 4).toNat : Nat) : Int) := s_w t 4
  rw [fA99, e, x_w, ← steps4]
theorem idx (t : W) : IntKind.u32.wrap (((BitVec.ofInt 32 ((t.toNat : Nat) : Int) &&& BitVec.ofInt 32 (15 : Int)).toNat : Nat) : Int) = (((t &&& 15#32).toNat : Nat) : Int) := a_w t 15#32
theorem idx_in (t : W) : inB (((t &&& 15#32).toNat : Nat) : Int) 16 = true := inB_nat (by rw [and15]; omega)
theorem idx_lt (t : W) : ((((t &&& 15#32).toNat : Nat) : Int)).toNat < tbl.length := by
  rw [Int.toNat_natCast, and15]
  show _ < 16
  omega
theorem fB84 (N : Nat) (l : List UInt8) (hl : l.length ≤ 10000000000000) : ∀ (suf pre : List UInt8) (v : W) (fuel : Nat), l = pre ++ suf → suf.length < fuel →
    fA26.go N fuel tbl ((v.toNat : Nat) : Int) l (l.length : Int) (pre.length : Int) = some ((((crc v suf).toNat : Nat) : Int), ())
  | _, _, _, 0, _, h => absurd h (Nat.not_lt_zero _)
  | [], pre, v, fuel + 1, e, hf => go_n (by rw [e]; simp) rfl
  | c :: suf, pre, v, fuel + 1, e, hf => by
    have hlt : pre.length < l.length := by rw [e]; simp
    have hgd : l.getD ((pre.length : Int)).toNat (0 : UInt8) = c := by rw [e]; exact fC29 _ _ _ _
    have ih := fB84 N l hl suf (pre ++ [c]) (steps 8 (v ^^^ byteW c)) fuel (by rw [e]; simp) (by simp at hf; omega)
    rw [show ((pre ++ [c]).length : Int) = ((pre.length + 1 : Nat) : Int) by simp] at ih
    refine go_d (by omega) (go_t (inB_nat hlt) ?_)
    rw [hgd, byte_w, x_w, idx, half, idx, half, wrap_succ pre.length (by omega), ← fA60 4 4]
    exact go_t (idx_in _) (go_d (idx_lt _) (go_t (idx_in _) (go_d (idx_lt _) ih)))
theorem cd_sum (k : Nat) (l : List UInt8) (hl : l.length ≤ 10000000000000) (hk : l.length < k) : fB8.run (k + 20) l = some (((sumN l : Nat) : Int), ()) := by
  refine go_o (tbl_ok k) (go_o (fB84 (k + 20) l hl l [] ones (k + 20) rfl (by omega)) ?_)
  show some (IntKind.u32.wrap (((BitVec.ofInt 32 ((ones.toNat : Nat) : Int) ^^^ BitVec.ofInt 32 (((crc ones l).toNat : Nat) : Int)).toNat : Nat) : Int), ()) = _
  rw [x_w, BitVec.xor_comm]
  rfl
theorem fD72 (N : Nat) (l : List UInt8) (hl : l.length ≤ 10000000000000) : ∀ (suf pre : List UInt8) (v : W) (fuel : Nat), l = pre ++ suf → suf.length < fuel →
    fA35.go N fuel tbl ((v.toNat : Nat) : Int) l (l.length : Int) (pre.length : Int) = some ((((crc v suf).toNat : Nat) : Int), ())
  | _, _, _, 0, _, h => absurd h (Nat.not_lt_zero _)
  | [], pre, v, fuel + 1, e, hf => go_n (by rw [e]; simp) rfl
  | c :: suf, pre, v, fuel + 1, e, hf => by
    have hlt : pre.length < l.length := by rw [e]; simp
    have hgd : l.getD ((pre.length : Int)).toNat (0 : UInt8) = c := by rw [e]; exact fC29 _ _ _ _
    have ih := fD72 N l hl suf (pre ++ [c]) (steps 8 (v ^^^ byteW c)) fuel (by rw [e]; simp) (by simp at hf; omega)
    rw [show ((pre ++ [c]).length : Int) = ((pre.length + 1 : Nat) : Int) by simp] at ih
    refine go_d (by omega) (go_t (inB_nat hlt) (go_d (by rw [Int.toNat_natCast]; exact hlt) ?_))
    rw [hgd, byte_w, x_w, idx, half, idx, half, wrap_succ pre.length (by omega), ← fA60 4 4]
    exact go_t (idx_in _) (go_d (idx_lt _) (go_t (idx_in _) (go_d (idx_lt _) ih)))
theorem fA65 (k : Nat) (l : List UInt8) (hl : l.length ≤ 10000000000000) (hk : l.length < k) : fC9.run (k + 20) l = some (((sumN l : Nat) : Int), ()) := by
  refine go_o (fC96 k) (go_o (fD72 (k + 20) l hl l [] ones (k + 20) rfl (by omega)) ?_)
  show some (IntKind.u32.wrap (((BitVec.ofInt 32 ((ones.toNat : Nat) : Int) ^^^ BitVec.ofInt 32 (((crc ones l).toNat : Nat) : Int)).toNat : Nat) : Int), ()) = _
  rw [x_w, BitVec.xor_comm]
  rfl

/-- One bit of a byte, turned. -/
def turn (c : UInt8) (s : Int) : UInt8 := Hay.u8 (IntKind.u8.wrap (((BitVec.ofInt 8 ((c.toNat : Nat) : Int) ^^^ BitVec.ofInt 8 (IntKind.u8.wrap ((1 : Int) * (2 ^ (min s.toNat 8))))).toNat : Nat) : Int))
end Go.Hay.YthlojpcjafefjaaGreat
