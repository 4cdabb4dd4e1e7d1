/- Checksums: by a table and bit by bit they come to the same; each bit counts. Conditions: sizes below a bound. -/
import Derived.Test.YtpgamibdlinhjaaLd
set_option linter.unusedVariables false
set_option linter.unusedSimpArgs false
namespace Go.Hay.Ytpgamibdlinhjaa
open Go Go.Hay Go.Proofs

abbrev W := BitVec 32
def P32 : W := 0xedb88320#32
def step (r : W) : W := (r >>> 1) ^^^ (if r.getLsbD 0 = true then P32 else 0#32)
def steps : Nat → W → W
  | 0, r => r
  | n + 1, r => steps n (step r)
theorem steps_add : ∀ (n m : Nat) (r : W), steps (n + m) r = steps m (steps n r)
  | 0, m, r => by rw [Nat.zero_add]; rfl
  | n + 1, m, r => by
    rw [show n + 1 + m = (n + m) + 1 by omega]
    exact steps_add n m (step r)
theorem step_xor (x y : W) : step (x ^^^ y) = step x ^^^ step y := by
  unfold step
  rw [BitVec.ushiftRight_xor_distrib, BitVec.getLsbD_xor]
  cases hx : x.getLsbD 0 <;> cases hy : y.getLsbD 0
  · simp
  · simp [BitVec.xor_assoc]
  · simp only [Bool.xor_false, if_true, Bool.false_eq_true, if_false, BitVec.xor_zero]
    rw [BitVec.xor_assoc, BitVec.xor_comm (y >>> 1), ← BitVec.xor_assoc]
  · simp only [Bool.xor_self, if_true, Bool.false_eq_true, if_false, BitVec.xor_zero]
    rw [BitVec.xor_assoc (x >>> 1), ← BitVec.xor_assoc P32, BitVec.xor_comm P32, BitVec.xor_assoc (y >>> 1), BitVec.xor_self, BitVec.xor_zero]
theorem steps_xor : ∀ (n : Nat) (x y : W), steps n (x ^^^ y) = steps n x ^^^ steps n y
  | 0, _, _ => rfl
  | n + 1, x, y => by
    show steps n (step (x ^^^ y)) = _
    rw [step_xor, steps_xor n]
    rfl
theorem lsb_mod (x : W) : x.getLsbD 0 = decide (x.toNat % 2 = 1) := by
  rw [BitVec.getLsbD, Nat.testBit_zero]
theorem shr_nat (x : W) (k : Nat) : (x >>> k).toNat = x.toNat / 2 ^ k := by
  rw [BitVec.toNat_ushiftRight, Nat.shiftRight_eq_div_pow]
theorem step_even {x : W} (h : x.toNat % 2 = 0) : (step x).toNat = x.toNat / 2 := by
  unfold step
  rw [lsb_mod, decide_eq_false (by omega), if_neg (by decide), BitVec.xor_zero, shr_nat]
theorem steps4_even {x : W} {q : Nat} (h : x.toNat = 16 * q) : (steps 4 x).toNat = q := by
  have h1 := step_even (x := x) (by omega)
  have h2 := step_even (x := step x) (by omega)
  have h3 := step_even (x := step (step x)) (by omega)
  have h4 := step_even (x := step (step (step x))) (by omega)
  show (step (step (step (step x)))).toNat = q
  omega
theorem split16 (t : W) : t = ((t >>> 4) <<< 4) ^^^ (t &&& 15#32) := by
  have h15 : ∀ i < 32, (15#32).getLsbD i = decide (i < 4) := by decide
  apply BitVec.eq_of_getLsbD_eq
  intro i hi
  rw [BitVec.getLsbD_xor, BitVec.getLsbD_and, BitVec.getLsbD_shiftLeft, BitVec.getLsbD_ushiftRight, h15 i hi]
  by_cases h : i < 4
  · simp [h]
  · simp [h, hi]
    rw [show 4 + (i - 4) = i by omega]
    exact (BitVec.getLsbD_eq_getElem hi).symm
theorem steps4 (t : W) : steps 4 t = steps 4 (t &&& 15#32) ^^^ (t >>> 4) := by
  have h : steps 4 ((t >>> 4) <<< 4) = t >>> 4 := by
    apply BitVec.eq_of_toNat_eq
    have ht := t.isLt
    have e : ((t >>> 4) <<< 4).toNat = 16 * (t >>> 4).toNat := by
      rw [BitVec.toNat_shiftLeft, shr_nat, Nat.shiftLeft_eq]
      omega
    rw [steps4_even e]
  have := congrArg (steps 4) (split16 t)
  rw [steps_xor, h] at this
  rw [this, BitVec.xor_comm]

theorem step_zero {z : W} (h : step z = 0#32) : z = 0#32 := by
  have hz := z.isLt
  unfold step at h
  rw [lsb_mod] at h
  by_cases hb : z.toNat % 2 = 1
  · rw [decide_eq_true hb, if_pos rfl] at h
    have h2 : z >>> 1 = P32 := by
      have := congrArg (· ^^^ P32) h
      simpa [BitVec.xor_assoc] using this
    have h3 := congrArg BitVec.toNat h2
    rw [shr_nat] at h3
    have h4 : P32.toNat = 3988292384 := rfl
    omega
  · rw [decide_eq_false hb, if_neg (by decide), BitVec.xor_zero] at h
    have h3 := congrArg BitVec.toNat h
    rw [shr_nat] at h3
    have h4 : (0#32 : W).toNat = 0 := rfl
    apply BitVec.eq_of_toNat_eq
    omega
theorem xor_zero_eq {x y : W} (h : x ^^^ y = 0#32) : x = y := by
  have := congrArg (· ^^^ y) h
  simpa [BitVec.xor_assoc] using this
theorem step_inj {x y : W} (h : step x = step y) : x = y := by
  apply xor_zero_eq
  apply step_zero
  rw [step_xor, h, BitVec.xor_self]
theorem steps_inj : ∀ (n : Nat) {x y : W}, steps n x = steps n y → x = y
  | 0, _, _, h => h
  | n + 1, _, _, h => step_inj (steps_inj n h)

def byteW (c : UInt8) : W := BitVec.ofNat 32 c.toNat
theorem byteW_inj {c d : UInt8} (h : byteW c = byteW d) : c = d := by
  have hc := c.toNat_lt
  have hd := d.toNat_lt
  have := congrArg BitVec.toNat h
  unfold byteW at this
  rw [BitVec.toNat_ofNat, BitVec.toNat_ofNat] at this
  exact UInt8.toNat_inj.1 (by omega)
def crc (v : W) (l : List UInt8) : W := l.foldl (fun v c => steps 8 (v ^^^ byteW c)) v
theorem crc_inj : ∀ (l : List UInt8) {v w : W}, crc v l = crc w l → v = w
  | [], _, _, h => h
  | c :: l, v, w, h => by
    have := steps_inj 8 (crc_inj l (v := steps 8 (v ^^^ byteW c)) (w := steps 8 (w ^^^ byteW c)) h)
    have h2 := congrArg (· ^^^ byteW c) this
    simpa [BitVec.xor_assoc] using h2
theorem crc_byte (v : W) (p s : List UInt8) {c d : UInt8} (h : c ≠ d) : crc v (p ++ c :: s) ≠ crc v (p ++ d :: s) := by
  intro e
  unfold crc at e
  rw [List.foldl_append, List.foldl_append] at e
  have e2 := steps_inj 8 (crc_inj s (v := steps 8 (crc v p ^^^ byteW c)) (w := steps 8 (crc v p ^^^ byteW d)) e)
  have h2 := congrArg (crc v p ^^^ ·) e2
  simp only [← BitVec.xor_assoc, BitVec.xor_self, BitVec.zero_xor] at h2
  exact h (byteW_inj h2)
def ones : W := 4294967295#32
/-- The checksum. -/
def sumN (b : List UInt8) : Nat := (crc ones b ^^^ ones).toNat
theorem sumN_lt (b : List UInt8) : sumN b < 4294967296 := (crc ones b ^^^ ones).isLt
theorem sumN_byte (p s : List UInt8) {c d : UInt8} (h : c ≠ d) : sumN (p ++ c :: s) ≠ sumN (p ++ d :: s) := by
  intro e
  have e1 := BitVec.eq_of_toNat_eq e
  have h2 := congrArg (· ^^^ ones) e1
  simp only [BitVec.xor_assoc, BitVec.xor_self, BitVec.xor_zero] at h2
  exact crc_byte ones p s h h2

/- The words of the program. -/
theorem of_w (v : W) : BitVec.ofInt 32 ((v.toNat : Nat) : Int) = v := by
  rw [BitVec.ofInt_natCast, BitVec.ofNat_toNat, BitVec.setWidth_eq]
theorem wr_w (v : W) : IntKind.u32.wrap ((v.toNat : Nat) : Int) = ((v.toNat : Nat) : Int) := by
  have := v.isLt
  rw [w_u32]; omega
theorem x_w (v w : W) : IntKind.u32.wrap (((BitVec.ofInt 32 ((v.toNat : Nat) : Int) ^^^ BitVec.ofInt 32 ((w.toNat : Nat) : Int)).toNat : Nat) : Int) = (((v ^^^ w).toNat : Nat) : Int) := by
  rw [of_w, of_w, wr_w]
theorem a_w (v w : W) : IntKind.u32.wrap (((BitVec.ofInt 32 ((v.toNat : Nat) : Int) &&& BitVec.ofInt 32 ((w.toNat : Nat) : Int)).toNat : Nat) : Int) = (((v &&& w).toNat : Nat) : Int) := by
  rw [of_w, of_w, wr_w]
theorem byte_w (c : UInt8) : IntKind.u32.wrap ((c.toNat : Nat) : Int) = (((byteW c).toNat : Nat) : Int) := by
  have hc := c.toNat_lt
  unfold byteW
  rw [w_u32, BitVec.toNat_ofNat]; omega
theorem s_w (v : W) (k : Nat) : ((v.toNat : Nat) : Int).fdiv ((2 ^ k : Nat) : Int) = (((v >>> k).toNat : Nat) : Int) := by
  rw [fdiv_nat, shr_nat]

/-- Bit by bit. -/
theorem ref_bit (v : W) : (((v.toNat : Nat) : Int).tmod 2 = 1 ↔ v.getLsbD 0 = true) ∧ IntKind.u32.wrap (((v.toNat : Nat) : Int).tdiv 2) = (((v >>> 1).toNat : Nat) : Int) := by
  have hv := v.isLt
  rw [lsb_mod, shr_nat, Int.tmod_eq_emod_of_nonneg (by omega), Int.tdiv_eq_ediv_of_nonneg (by omega), w_u32, decide_eq_true_eq]
  omega
/-- The table. -/
def tbl : List Int := (List.range 16).map fun i => (((steps 4 (BitVec.ofNat 32 i)).toNat : Nat) : Int)
theorem tbl_ok (k : Nat) : codec_Sum_0.go (k + 20) (k + 20) (List.replicate 16 (0 : Int)) 0 = some (tbl, ()) := by
  kernel_rfl
theorem tbl_b_ok (k : Nat) : codec_Sum_b_0.go (k + 20) (k + 20) (List.replicate 16 (0 : Int)) 0 = some (tbl, ()) := by
  kernel_rfl
theorem and15 (t : W) : (t &&& 15#32).toNat = t.toNat % 16 := by
  rw [BitVec.toNat_and, show (15#32 : W).toNat = 2 ^ 4 - 1 from rfl, Nat.and_two_pow_sub_one_eq_mod]
theorem tbl_get (t : W) : tbl.getD ((((t &&& 15#32).toNat : Nat) : Int)).toNat 0 = (((steps 4 (t &&& 15#32)).toNat : Nat) : Int) := by
  have h : (t &&& 15#32).toNat < 16 := by rw [and15]; omega
  have e : BitVec.ofNat 32 (t &&& 15#32).toNat = t &&& 15#32 := by rw [BitVec.ofNat_toNat, BitVec.setWidth_eq]
  unfold tbl
  rw [Int.toNat_natCast, List.getD_eq_getElem?_getD, List.getElem?_map, List.getElem?_range h]
  show (((steps 4 (BitVec.ofNat 32 (t &&& 15#32).toNat)).toNat : Nat) : Int) = _
  rw [e]
theorem half (t : W) : IntKind.u32.wrap (((BitVec.ofInt 32 (tbl.getD ((((t &&& 15#32).toNat : Nat) : Int)).toNat 0) ^^^ BitVec.ofInt 32 (((t.toNat : Nat) : Int).fdiv 16)).toNat : Nat) : Int) = (((steps 4 t).toNat : Nat) : Int) := by
  have e : ((t.toNat : Nat) : Int).fdiv 16 = (((t >>> 4).toNat : Nat) : Int) := s_w t 4
  rw [tbl_get, e, x_w, ← steps4]
theorem idx (t : W) : IntKind.u32.wrap (((BitVec.ofInt 32 ((t.toNat : Nat) : Int) &&& BitVec.ofInt 32 (15 : Int)).toNat : Nat) : Int) = (((t &&& 15#32).toNat : Nat) : Int) := a_w t 15#32
theorem idx_in (t : W) : inB (((t &&& 15#32).toNat : Nat) : Int) 16 = true := inB_nat (by rw [and15]; omega)
theorem idx_lt (t : W) : ((((t &&& 15#32).toNat : Nat) : Int)).toNat < tbl.length := by
  rw [Int.toNat_natCast, and15]
  show _ < 16
  omega
theorem cd_sum1 (N : Nat) (l : List UInt8) (hl : l.length ≤ 10000000000000) : ∀ (suf pre : List UInt8) (v : W) (fuel : Nat), l = pre ++ suf → suf.length < fuel →
    codec_Sum_1.go N fuel tbl ((v.toNat : Nat) : Int) l (l.length : Int) (pre.length : Int) = some ((((crc v suf).toNat : Nat) : Int), ())
  | _, _, _, 0, _, h => absurd h (Nat.not_lt_zero _)
  | [], pre, v, fuel + 1, e, hf => go_n (by rw [e]; simp) rfl
  | c :: suf, pre, v, fuel + 1, e, hf => by
    have hlt : pre.length < l.length := by rw [e]; simp
    have hgd : l.getD ((pre.length : Int)).toNat (0 : UInt8) = c := by rw [e]; exact getD_mid _ _ _ _
    have ih := cd_sum1 N l hl suf (pre ++ [c]) (steps 8 (v ^^^ byteW c)) fuel (by rw [e]; simp) (by simp at hf; omega)
    rw [show ((pre ++ [c]).length : Int) = ((pre.length + 1 : Nat) : Int) by simp] at ih
    refine go_d (by omega) (go_t (inB_nat hlt) (go_d (by rw [Int.toNat_natCast]; exact hlt) ?_))
    rw [hgd, byte_w, x_w, idx, half, idx, half, wrap_succ pre.length (by omega), ← steps_add 4 4]
    exact go_t (idx_in _) (go_d (idx_lt _) (go_t (idx_in _) (go_d (idx_lt _) ih)))
theorem cd_sum (k : Nat) (l : List UInt8) (hl : l.length ≤ 10000000000000) (hk : l.length < k) : codec_Sum.run (k + 20) l = some (((sumN l : Nat) : Int), ()) := by
  refine go_o (tbl_ok k) (go_o (cd_sum1 (k + 20) l hl l [] ones (k + 20) rfl (by omega)) ?_)
  show some (IntKind.u32.wrap (((BitVec.ofInt 32 ((ones.toNat : Nat) : Int) ^^^ BitVec.ofInt 32 (((crc ones l).toNat : Nat) : Int)).toNat : Nat) : Int), ()) = _
  rw [x_w, BitVec.xor_comm]
  rfl
theorem cd_sum_b1 (N : Nat) (l : List UInt8) (hl : l.length ≤ 10000000000000) : ∀ (suf pre : List UInt8) (v : W) (fuel : Nat), l = pre ++ suf → suf.length < fuel →
    codec_Sum_b_1.go N fuel tbl ((v.toNat : Nat) : Int) l (l.length : Int) (pre.length : Int) = some ((((crc v suf).toNat : Nat) : Int), ())
  | _, _, _, 0, _, h => absurd h (Nat.not_lt_zero _)
  | [], pre, v, fuel + 1, e, hf => go_n (by rw [e]; simp) rfl
  | c :: suf, pre, v, fuel + 1, e, hf => by
    have hlt : pre.length < l.length := by rw [e]; simp
    have hgd : l.getD ((pre.length : Int)).toNat (0 : UInt8) = c := by rw [e]; exact getD_mid _ _ _ _
    have ih := cd_sum_b1 N l hl suf (pre ++ [c]) (steps 8 (v ^^^ byteW c)) fuel (by rw [e]; simp) (by simp at hf; omega)
    rw [show ((pre ++ [c]).length : Int) = ((pre.length + 1 : Nat) : Int) by simp] at ih
    refine go_d (by omega) (go_t (inB_nat hlt) ?_)
    rw [hgd, byte_w, x_w, idx, half, idx, half, wrap_succ pre.length (by omega), ← steps_add 4 4]
    exact go_t (idx_in _) (go_d (idx_lt _) (go_t (idx_in _) (go_d (idx_lt _) ih)))
theorem cd_sum_b (k : Nat) (l : List UInt8) (hl : l.length ≤ 10000000000000) (hk : l.length < k) : codec_Sum_b.run (k + 20) l = some (((sumN l : Nat) : Int), ()) := by
  refine go_o (tbl_b_ok k) (go_o (cd_sum_b1 (k + 20) l hl l [] ones (k + 20) rfl (by omega)) ?_)
  show some (IntKind.u32.wrap (((BitVec.ofInt 32 ((ones.toNat : Nat) : Int) ^^^ BitVec.ofInt 32 (((crc ones l).toNat : Nat) : Int)).toNat : Nat) : Int), ()) = _
  rw [x_w, BitVec.xor_comm]
  rfl

/-- One bit of a byte, turned. -/
def turn (c : UInt8) (s : Int) : UInt8 := Hay.u8 (IntKind.u8.wrap (((BitVec.ofInt 8 ((c.toNat : Nat) : Int) ^^^ BitVec.ofInt 8 (IntKind.u8.wrap ((1 : Int) * (2 ^ (min s.toNat 8))))).toNat : Nat) : Int))
theorem turn_ne (c : UInt8) (s : Nat) (hs : s < 8) : c ≠ turn c (s : Int) := by
  intro h
  have hm : ∀ s < 8, BitVec.ofInt 8 (IntKind.u8.wrap ((1 : Int) * (2 ^ (min s 8)))) ≠ 0#8 := by decide
  have hc := c.toNat_lt
  have h2 := congrArg UInt8.toNat h
  unfold turn at h2
  rw [Int.toNat_natCast] at h2
  have hmm := hm s hs
  generalize BitVec.ofInt 8 (IntKind.u8.wrap ((1 : Int) * (2 ^ (min s 8)))) = M at h2 hmm
  have e1 : BitVec.ofInt 8 ((c.toNat : Nat) : Int) = BitVec.ofNat 8 c.toNat := BitVec.ofInt_natCast ..
  rw [e1, u8_nat, UInt8.toNat_ofNat'] at h2
  have hX := (BitVec.ofNat 8 c.toNat ^^^ M).isLt
  have h3 : (BitVec.ofNat 8 c.toNat ^^^ M).toNat = c.toNat := by omega
  have h4 : BitVec.ofNat 8 c.toNat ^^^ M = BitVec.ofNat 8 c.toNat := by
    apply BitVec.eq_of_toNat_eq
    rw [h3, BitVec.toNat_ofNat]
    omega
  have h5 := congrArg (BitVec.ofNat 8 c.toNat ^^^ ·) h4
  simp only [← BitVec.xor_assoc, BitVec.xor_self, BitVec.zero_xor] at h5
  exact hmm h5
theorem set_split {l : List UInt8} {i : Nat} (h : i < l.length) (d : UInt8) : l = l.take i ++ l.getD i 0 :: l.drop (i + 1) ∧ l.set i d = l.take i ++ d :: l.drop (i + 1) := by
  constructor
  · rw [List.getD_eq_getElem?_getD, List.getElem?_eq_getElem h]
    simp
  · rw [List.set_eq_take_append_cons_drop, if_pos h]
theorem sum_known : sumN [49, 50, 51, 52, 53, 54, 55, 56, 57] = 3421780262 := by kernel_rfl
end Go.Hay.Ytpgamibdlinhjaa
