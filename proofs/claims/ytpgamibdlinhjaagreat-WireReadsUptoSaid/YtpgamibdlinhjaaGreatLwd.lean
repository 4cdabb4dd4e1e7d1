/- What the functions of a pipe that read come to. Conditions: sizes below a bound, numbers that fit. -/
import Derived.Test.YtpgamibdlinhjaaGreatLwc
set_option linter.unusedVariables false
set_option linter.unusedSimpArgs false
namespace Go.Hay.YtpgamibdlinhjaaGreat
open Go Go.Hay Go.Proofs
theorem r_long (k : Nat) {b : List UInt8} {e : Int} : fD1.run (k + 20) b e = some (((hiX b e 8).1.1, (hiX b e 8).1.2, ()), (((hiX b e 8).2 : Nat) : Int), ()) := go_o (fC124 (k + 11) b e 8 (by omega)) rfl
theorem r_word (k : Nat) {b : List UInt8} {e : Int} : fC4.run (k + 20) b e = some (((hiX b e 4).1.1, (hiX b e 4).1.2, ()), (((hiX b e 4).2 : Nat) : Int), ()) := by
  refine go_o (fC124 (k + 11) b e 4 (by omega)) ?_
  have := hi_lt b e 4
  dsimp only
  rw [show IntKind.u32.wrap (((hiX b e 4).2 : Nat) : Int) = (((hiX b e 4).2 : Nat) : Int) by rw [w_u32]; omega]
theorem r_byte (k : Nat) {b : List UInt8} {e : Int} : fC5.run (k + 20) b e = some (((hiX b e 1).1.1, (hiX b e 1).1.2, ()), Hay.u8 (IntKind.u8.wrap (((hiX b e 1).2 : Nat) : Int)), ()) := go_o (fC124 (k + 11) b e 1 (by omega)) rfl
theorem fC100 (b : List UInt8) (e : Int) : IntKind.i64.wrap ((Hay.u8 (IntKind.u8.wrap (((hiX b e 1).2 : Nat) : Int))).toNat : Int) = (((hiX b e 1).2 : Nat) : Int) := by
  have := hi_lt b e 1
  rw [u8_nat, UInt8.toNat_ofNat', wrap_nat _ (by omega)]
  omega
theorem fD90 (k : Nat) {b : List UInt8} {e : Int} : fD0.run (k + 20) b e (2147483647 : Int) = some (((varR b e 2147483647).1.1, (varR b e 2147483647).1.2, ()), (((varR b e 2147483647).2 : Nat) : Int), ()) := rd_var (k + 11) b e 2147483647
theorem r_var (k : Nat) {b : List UInt8} {e : Int} : fD0.run (k + 20) b e (16777216 : Int) = some (((varR b e 16777216).1.1, (varR b e 16777216).1.2, ()), (((varR b e 16777216).2 : Nat) : Int), ()) := rd_var (k + 11) b e 16777216
theorem fD124 (b : List UInt8) (e most : Int) (hm : 0 ≤ most) : (((varR b e most).2 : Nat) : Int) ≤ most := by
  unfold varR
  split
  · exact hm
  · split
    · exact hm
    · rename_i n m hq
      exact (fC99 hq).2
theorem fB82 (b : List UInt8) (e : Int) : (varR b e 16777216).2 ≤ 16777216 := by have := fD124 b e 16777216 (by decide); omega
theorem fA86 (b : List UInt8) (e : Int) : IntKind.i64.wrap (((varR b e 2147483647).2 : Nat) : Int) = (((varR b e 2147483647).2 : Nat) : Int) := by
  have := fD124 b e 2147483647 (by decide)
  exact wrap_nat _ (by omega)
theorem r_text (k : Nat) {b : List UInt8} {e : Int} (hb : b.length ≤ 1000000000000) : fC16.run (k + 20) b e (16777216 : Int) = some (((textR b e 16777216).1.1, (textR b e 16777216).1.2, ()), (textR b e 16777216).2, ()) := fB163 (k + 11) b e 16777216 (by omega) (by decide)
theorem fD117 (b : List UInt8) (e most : Int) : (textR b e most).2.length ≤ b.length := by
  unfold textR
  split
  · exact Nat.zero_le _
  · split
    · exact Nat.zero_le _
    · split
      · exact Nat.zero_le _
      · simp only [List.length_take, List.length_drop]
        omega
section
variable {b : (List UInt8)} {e jA jB_ jC_ jD jE jF jG jH jI jJ jK jO_ jO1 most ver ver1 ver3 id_ id1 n_ jU : Int} {jT jL jM jN : Bool} {jP : (List T7)} {jP1 : (List T8)} {jQ : (List T6)} {ver2 row : (List T4)}
theorem fA22 (N : Nat) (b : List UInt8) (e : Int) (jT ok_ : Bool) : fC1.run N b e jT ok_ = some ((b, e, ()), ((), (), jT || !ok_, ()), ()) := by cases jT <;> rfl
theorem fD113 (k : Nat) (hk : 17000000 ≤ k)  (hb : b.length ≤ 1000000000000) : fB44.run (k + 20) b e jT jA jB_ jC_ jD jE jF jG jH jI jJ jK jL jM jN jO_ jO1 jP jP1 jQ most = some (((rByte (b, e, jT) most).1.1, (rByte (b, e, jT) most).1.2.1, ()), ((), (), (rByte (b, e, jT) most).1.2.2, ()), ((rByte (b, e, jT) most).2, jB_, jC_, jD, jE, jF, jG, jH, jI, jJ, jK, jL, jM, jN, jO_, jO1, jP, jP1, jQ, ()), ()) := by
  refine go_o (r_byte k) ?_
  have hc := fC100 b e
  dsimp only
  rw [hc]
  exact go_d (Int.natCast_nonneg _) (go_o (fA22 _ _ _ _ _) (by simp [rByte, oByte]))
theorem fB114 (k : Nat) (hk : 17000000 ≤ k)  (hb : b.length ≤ 1000000000000) : fB46.run (k + 20) b e jT jA jB_ jC_ jD jE jF jG jH jI jJ jK jL jM jN jO_ jO1 jP jP1 jQ most = some (((rByte (b, e, jT) most).1.1, (rByte (b, e, jT) most).1.2.1, ()), ((), (), (rByte (b, e, jT) most).1.2.2, ()), (jA, (rByte (b, e, jT) most).2, jC_, jD, jE, jF, jG, jH, jI, jJ, jK, jL, jM, jN, jO_, jO1, jP, jP1, jQ, ()), ()) := by
  refine go_o (r_byte k) ?_
  have hc := fC100 b e
  dsimp only
  rw [hc]
  exact go_d (Int.natCast_nonneg _) (go_o (fA22 _ _ _ _ _) (by simp [rByte, oByte]))
theorem fD111 (k : Nat) (hk : 17000000 ≤ k)  (hb : b.length ≤ 1000000000000) : fC45.run (k + 20) b e jT jA jB_ jC_ jD jE jF jG jH jI jJ jK jL jM jN jO_ jO1 jP jP1 jQ = some (((rByte (b, e, jT) (8 : Int)).1.1, (rByte (b, e, jT) (8 : Int)).1.2.1, ()), ((), (), (rByte (b, e, jT) (8 : Int)).1.2.2, ()), (jA, (rByte (b, e, jT) (8 : Int)).2, jC_, jD, jE, jF, jG, jH, jI, jJ, jK, jL, jM, jN, jO_, jO1, jP, jP1, jQ, ()), ()) := by
  have q1 : (rByte (b, e, jT) (8 : Int)).1.1.length ≤ 1000000000000 := Nat.le_trans (hi_le _ _ _) hb
  exact go_o (fB114 k hk hb) (rfl)
theorem fA113 (k : Nat) (hk : 17000000 ≤ k)  (hb : b.length ≤ 1000000000000) : fC48.run (k + 20) b e jT jA jB_ jC_ jD jE jF jG jH jI jJ jK jL jM jN jO_ jO1 jP jP1 jQ most = some (((rByte (b, e, jT) most).1.1, (rByte (b, e, jT) most).1.2.1, ()), ((), (), (rByte (b, e, jT) most).1.2.2, ()), (jA, jB_, (rByte (b, e, jT) most).2, jD, jE, jF, jG, jH, jI, jJ, jK, jL, jM, jN, jO_, jO1, jP, jP1, jQ, ()), ()) := by
  refine go_o (r_byte k) ?_
  have hc := fC100 b e
  dsimp only
  rw [hc]
  exact go_d (Int.natCast_nonneg _) (go_o (fA22 _ _ _ _ _) (by simp [rByte, oByte]))
theorem fA111 (k : Nat) (hk : 17000000 ≤ k)  (hb : b.length ≤ 1000000000000) : fD45.run (k + 20) b e jT jA jB_ jC_ jD jE jF jG jH jI jJ jK jL jM jN jO_ jO1 jP jP1 jQ = some (((rByte (b, e, jT) (8 : Int)).1.1, (rByte (b, e, jT) (8 : Int)).1.2.1, ()), ((), (), (rByte (b, e, jT) (8 : Int)).1.2.2, ()), (jA, jB_, (rByte (b, e, jT) (8 : Int)).2, jD, jE, jF, jG, jH, jI, jJ, jK, jL, jM, jN, jO_, jO1, jP, jP1, jQ, ()), ()) := by
  have q1 : (rByte (b, e, jT) (8 : Int)).1.1.length ≤ 1000000000000 := Nat.le_trans (hi_le _ _ _) hb
  exact go_o (fA113 k hk hb) (rfl)
theorem fB84 (k : Nat) (hk : 17000000 ≤ k)  (hb : b.length ≤ 1000000000000) : fC13.run (k + 20) b e jT jA jB_ jC_ jD jE jF jG jH jI jJ jK jL jM jN jO_ jO1 jP jP1 jQ = some (((rLong (b, e, jT)).1.1, (rLong (b, e, jT)).1.2.1, ()), (jA, jB_, jC_, (rLong (b, e, jT)).2, jE, jF, jG, jH, jI, jJ, jK, jL, jM, jN, jO_, jO1, jP, jP1, jQ, ()), ()) := by
  exact go_o (r_long k) rfl
theorem fD114 (k : Nat) (hk : 17000000 ≤ k)  (hb : b.length ≤ 1000000000000) : fC44.run (k + 20) b e jT jA jB_ jC_ jD jE jF jG jH jI jJ jK jL jM jN jO_ jO1 jP jP1 jQ = some (((rLong (b, e, jT)).1.1, (rLong (b, e, jT)).1.2.1, ()), (jA, jB_, jC_, jD, (rLong (b, e, jT)).2, jF, jG, jH, jI, jJ, jK, jL, jM, jN, jO_, jO1, jP, jP1, jQ, ()), ()) := by
  exact go_o (r_long k) rfl
theorem fB108 (k : Nat) (hk : 17000000 ≤ k)  (hb : b.length ≤ 1000000000000) : fB41.run (k + 20) b e jT jA jB_ jC_ jD jE jF jG jH jI jJ jK jL jM jN jO_ jO1 jP jP1 jQ = some (((rLong (rLong (b, e, jT)).1).1.1, (rLong (rLong (b, e, jT)).1).1.2.1, ()), (jA, jB_, jC_, (rLong (b, e, jT)).2, (rLong (rLong (b, e, jT)).1).2, jF, jG, jH, jI, jJ, jK, jL, jM, jN, jO_, jO1, jP, jP1, jQ, ()), ()) := by
  have q1 : (rLong (b, e, jT)).1.1.length ≤ 1000000000000 := Nat.le_trans (fD2.le _) hb
  have q2 : (rLong (rLong (b, e, jT)).1).1.1.length ≤ 1000000000000 := Nat.le_trans (fD2.le _) q1
  exact go_o (fB84 k hk hb) (go_o (fD114 k hk q1) (rfl))
theorem fA84 (N : Nat) (b : List UInt8) (e : Int) (jT : Bool) : fA13.run N b e jT = some (failed (b, e, jT), ()) := by cases jT <;> rfl
theorem fA109 (k : Nat) (hk : 17000000 ≤ k)  (hb : b.length ≤ 1000000000000) : fA41.run (k + 20) b e jT jO_ jO1 ver ver1 ver2 ver3 = some (((rPlace (b, e, jT)).1.1, (rPlace (b, e, jT)).1.2.1, ()), ((rPlace (b, e, jT)).2, jO1, ver, ver1, ver2, ver3, ()), ()) := by
  exact go_o (fD90 k) (by dsimp only; rw [fA86]; rfl)
theorem fB107 (k : Nat) (hk : 17000000 ≤ k)  (hb : b.length ≤ 1000000000000) : fC37.run (k + 20) b e jT jO_ jO1 ver ver1 ver2 ver3 = some (((rPlace (b, e, jT)).1.1, (rPlace (b, e, jT)).1.2.1, ()), (jO_, (rPlace (b, e, jT)).2, ver, ver1, ver2, ver3, ()), ()) := by
  exact go_o (fD90 k) (by dsimp only; rw [fA86]; rfl)
theorem fB100 (k : Nat) (hk : 17000000 ≤ k)  (hb : b.length ≤ 1000000000000) : fB31.run (k + 20) b e jT jO_ jO1 ver ver1 ver2 ver3 = some (((rSeg (b, e, jT)).1.1, (rSeg (b, e, jT)).1.2.1, ()), ((rSeg (b, e, jT)).2.1, (rSeg (b, e, jT)).2.2, ver, ver1, ver2, ver3, ()), ()) := by
  have q1 : (rPlace (b, e, jT)).1.1.length ≤ 1000000000000 := Nat.le_trans (fB80.le _) hb
  have q2 : (rPlace (rPlace (b, e, jT)).1).1.1.length ≤ 1000000000000 := Nat.le_trans (fB80.le _) q1
  exact go_o (fA109 k hk hb) (go_o (fB107 k hk q1) (rfl))
theorem fC113 (k : Nat) (hk : 17000000 ≤ k)  (hb : b.length ≤ 1000000000000) : fD44.run (k + 20) b e jT jO_ jO1 ver ver1 ver2 ver3 = some (((rWord (b, e, jT)).1.1, (rWord (b, e, jT)).1.2.1, ()), (jO_, jO1, ver, (rWord (b, e, jT)).2, ver2, ver3, ()), ()) := by
  exact go_o (r_word k) rfl
theorem fD116 (k : Nat) (hk : 17000000 ≤ k)  (hb : b.length ≤ 1000000000000) : fD54.run (k + 20) b e jT jO_ jO1 ver ver1 ver2 ver3 = some (((rRow (b, e, jT)).1.1, (rRow (b, e, jT)).1.2.1, ()), ((), (), (rRow (b, e, jT)).1.2.2, ()), (jO_, jO1, ver, ver1, (rRow (b, e, jT)).2, ver3, ()), ()) := by
  have hq := Rw.fC96 (k + 11) (by omega) (textR b e 16777216).2 (by have := fD117 b e 16777216; omega)
  unfold Rw.decR at hq
  unfold rRow
  cases hd : Rw.decode (textR b e 16777216).2 with
  | none => rw [hd] at hq; exact go_o (r_text k (by omega)) (go_o hq (go_o (fA22 _ _ _ _ _) rfl))
  | some l => rw [hd] at hq; exact go_o (r_text k (by omega)) (go_o hq (go_o (fA22 _ _ _ _ _) rfl))
theorem fC155 (N : Nat) (b : List UInt8) (e : Int) (jT : Bool) : fA21.run N b e jT (0 : Int) (0 : Int) (0 : Int) (0 : Int) ([] : List V) (0 : Int) = some ((b, e, ()), ((), (), jT, ()), ()) := go_d rfl (go_o (fA22 _ _ _ _ _) (by simp))
theorem fB99 (k : Nat) (hk : 17000000 ≤ k) {b : List UInt8} {e : Int} {jT : Bool} (hb : b.length ≤ 1000000000000) : fA10.run (k + 20) b e jT (0 : Int) (0 : Int) (0 : Int) (0 : Int) ([] : List V) (0 : Int) = some (((rIns (b, e, jT)).1.1, (rIns (b, e, jT)).1.2.1, ()), ((), (), (rIns (b, e, jT)).1.2.2, ()), ((rIns (b, e, jT)).2.1.1, (rIns (b, e, jT)).2.1.2, (rIns (b, e, jT)).2.2.1.1, (rIns (b, e, jT)).2.2.1.2, (rIns (b, e, jT)).2.2.2.1, (rIns (b, e, jT)).2.2.2.2, ()), ()) := by
  have q1 : (rSeg (b, e, jT)).1.1.length ≤ 1000000000000 := Nat.le_trans (fD78.le _) hb
  have q2 : (rWord (rSeg (b, e, jT)).1).1.1.length ≤ 1000000000000 := Nat.le_trans (fA88.le _) q1
  have q3 : (rRow (rWord (rSeg (b, e, jT)).1).1).1.1.length ≤ 1000000000000 := Nat.le_trans (fA102.le _) q2
  exact go_o (fC155 (k + 20) b e jT) (go_o (fB100 k hk hb) (go_o (fC113 k hk q1) (go_o (fD116 k hk q2) (rfl))))
theorem fB83 (k : Nat) (hk : 17000000 ≤ k)  : ∀ (n : Nat) (b : List UInt8) (e : Int) (jT : Bool) (jP : List Ins) (fuel : Nat), b.length ≤ 1000000000000 → jP.length + n ≤ 16777216 → n < fuel →
    fB10.go (k + 20) fuel b e jT jA jB_ jC_ jD jE jF jG jH jI jJ jK jL jM jN jO_ jO1 jP jP1 jQ (n : Int) = some (((rL rIns n (b, e, jT) jP).1.1, (rL rIns n (b, e, jT) jP).1.2.1, ()), ((), (), (rL rIns n (b, e, jT) jP).1.2.2, ()), (jA, jB_, jC_, jD, jE, jF, jG, jH, jI, jJ, jK, jL, jM, jN, jO_, jO1, (rL rIns n (b, e, jT) jP).2, jP1, jQ, ()), ())
  | _, _, _, _, _, 0, _, _, h => absurd h (Nat.not_lt_zero _)
  | 0, b, e, jT, jP, fuel + 1, hb, hl, hf => go_n (by decide) rfl
  | n + 1, b, e, jT, jP, fuel + 1, hb, hl, hf => by
    refine go_d (by omega) (go_o (fA84 _ _ _ _) ?_)
    rw [rL]
    cases hq : failed (b, e, jT) with
    | true => exact go_f rfl rfl
    | false =>
      rw [if_neg (by decide)]
      refine go_t rfl (go_o (fB99 k hk hb) (go_t (room_t (by omega) (by omega)) ?_))
      rw [show IntKind.u64.wrap (((n + 1 : Nat) : Int) - (1 : Int)) = (n : Int) by rw [w_u64]; omega]
      exact fB83 k hk n _ _ _ (jP ++ [(rIns (b, e, jT)).2]) fuel (Nat.le_trans (fD101.le _) hb) (by rw [List.length_append]; simp; omega) (by omega)
theorem fB92 (k : Nat) (hk : 17000000 ≤ k)  (hb : b.length ≤ 1000000000000) : fB7.run (k + 20) b e jT jA jB_ jC_ jD jE jF jG jH jI jJ jK jL jM jN jO_ jO1 jP jP1 jQ = some (((rList rIns (b, e, jT)).1.1, (rList rIns (b, e, jT)).1.2.1, ()), ((), (), (rList rIns (b, e, jT)).1.2.2, ()), (jA, jB_, jC_, jD, jE, jF, jG, jH, jI, jJ, jK, jL, jM, jN, jO_, jO1, (rList rIns (b, e, jT)).2, jP1, jQ, ()), ()) := by
  refine go_o (r_var k) (go_o (fB83 k hk (varR b e 16777216).2 (varR b e 16777216).1.1 (varR b e 16777216).1.2 jT [] (k + 20) (Nat.le_trans (var_le _ _ _) hb) (by have := fB82 b e; simp; omega) (by have := fB82 b e; omega)) rfl)
theorem fD108 (k : Nat) (hk : 17000000 ≤ k)  (hb : b.length ≤ 1000000000000) : fD39.run (k + 20) b e jT jO_ jO1 id_ id1 = some (((rPlace (b, e, jT)).1.1, (rPlace (b, e, jT)).1.2.1, ()), ((rPlace (b, e, jT)).2, jO1, id_, id1, ()), ()) := by
  exact go_o (fD90 k) (by dsimp only; rw [fA86]; rfl)
theorem fB105 (k : Nat) (hk : 17000000 ≤ k)  (hb : b.length ≤ 1000000000000) : fA40.run (k + 20) b e jT jO_ jO1 id_ id1 = some (((rPlace (b, e, jT)).1.1, (rPlace (b, e, jT)).1.2.1, ()), (jO_, (rPlace (b, e, jT)).2, id_, id1, ()), ()) := by
  exact go_o (fD90 k) (by dsimp only; rw [fA86]; rfl)
theorem fA101 (k : Nat) (hk : 17000000 ≤ k)  (hb : b.length ≤ 1000000000000) : fD30.run (k + 20) b e jT jO_ jO1 id_ id1 = some (((rSeg (b, e, jT)).1.1, (rSeg (b, e, jT)).1.2.1, ()), ((rSeg (b, e, jT)).2.1, (rSeg (b, e, jT)).2.2, id_, id1, ()), ()) := by
  have q1 : (rPlace (b, e, jT)).1.1.length ≤ 1000000000000 := Nat.le_trans (fB80.le _) hb
  have q2 : (rPlace (rPlace (b, e, jT)).1).1.1.length ≤ 1000000000000 := Nat.le_trans (fB80.le _) q1
  exact go_o (fD108 k hk hb) (go_o (fB105 k hk q1) (rfl))
theorem fB115 (k : Nat) (hk : 17000000 ≤ k)  (hb : b.length ≤ 1000000000000) : fA46.run (k + 20) b e jT jO_ jO1 id_ id1 = some (((rLong (b, e, jT)).1.1, (rLong (b, e, jT)).1.2.1, ()), (jO_, jO1, (rLong (b, e, jT)).2, id1, ()), ()) := by
  exact go_o (r_long k) rfl
theorem fC115 (k : Nat) (hk : 17000000 ≤ k)  (hb : b.length ≤ 1000000000000) : fA48.run (k + 20) b e jT jO_ jO1 id_ id1 = some (((rWord (b, e, jT)).1.1, (rWord (b, e, jT)).1.2.1, ()), (jO_, jO1, id_, (rWord (b, e, jT)).2, ()), ()) := by
  exact go_o (r_word k) rfl
theorem fA110 (k : Nat) (hk : 17000000 ≤ k)  (hb : b.length ≤ 1000000000000) : fA45.run (k + 20) b e jT jO_ jO1 id_ id1 = some (((rName (b, e, jT)).1.1, (rName (b, e, jT)).1.2.1, ()), (jO_, jO1, (rName (b, e, jT)).2.1, (rName (b, e, jT)).2.2, ()), ()) := by
  have q1 : (rLong (b, e, jT)).1.1.length ≤ 1000000000000 := Nat.le_trans (fD2.le _) hb
  have q2 : (rWord (rLong (b, e, jT)).1).1.1.length ≤ 1000000000000 := Nat.le_trans (fA88.le _) q1
  exact go_o (fB115 k hk hb) (go_o (fC115 k hk q1) (rfl))
theorem fA107 (k : Nat) (hk : 17000000 ≤ k)  (hb : b.length ≤ 1000000000000) : fD31.run (k + 20) b e jT jO_ jO1 id_ id1 = some (((rErs (b, e, jT)).1.1, (rErs (b, e, jT)).1.2.1, ()), ((rErs (b, e, jT)).2.1.1, (rErs (b, e, jT)).2.1.2, (rErs (b, e, jT)).2.2.1, (rErs (b, e, jT)).2.2.2, ()), ()) := by
  have q1 : (rSeg (b, e, jT)).1.1.length ≤ 1000000000000 := Nat.le_trans (fD78.le _) hb
  have q2 : (rName (rSeg (b, e, jT)).1).1.1.length ≤ 1000000000000 := Nat.le_trans (fA89.le _) q1
  exact go_o (fA101 k hk hb) (go_o (fA110 k hk q1) (rfl))
theorem fD103 (k : Nat) (hk : 17000000 ≤ k) {b : List UInt8} {e : Int} {jT : Bool} (hb : b.length ≤ 1000000000000) : fD31.run (k + 20) b e jT (0 : Int) (0 : Int) (0 : Int) (0 : Int) = some (((rErs (b, e, jT)).1.1, (rErs (b, e, jT)).1.2.1, ()), ((rErs (b, e, jT)).2.1.1, (rErs (b, e, jT)).2.1.2, (rErs (b, e, jT)).2.2.1, (rErs (b, e, jT)).2.2.2, ()), ()) := fA107 k hk hb
theorem fD83 (k : Nat) (hk : 17000000 ≤ k)  : ∀ (n : Nat) (b : List UInt8) (e : Int) (jT : Bool) (jP1 : List Ers) (fuel : Nat), b.length ≤ 1000000000000 → jP1.length + n ≤ 16777216 → n < fuel →
    fB11.go (k + 20) fuel b e jT jA jB_ jC_ jD jE jF jG jH jI jJ jK jL jM jN jO_ jO1 jP jP1 jQ (n : Int) = some (((rL rErs n (b, e, jT) jP1).1.1, (rL rErs n (b, e, jT) jP1).1.2.1, ()), (jA, jB_, jC_, jD, jE, jF, jG, jH, jI, jJ, jK, jL, jM, jN, jO_, jO1, jP, (rL rErs n (b, e, jT) jP1).2, jQ, ()), ())
  | _, _, _, _, _, 0, _, _, h => absurd h (Nat.not_lt_zero _)
  | 0, b, e, jT, jP1, fuel + 1, hb, hl, hf => go_n (by decide) rfl
  | n + 1, b, e, jT, jP1, fuel + 1, hb, hl, hf => by
    refine go_d (by omega) (go_o (fA84 _ _ _ _) ?_)
    rw [rL]
    cases hq : failed (b, e, jT) with
    | true => exact go_f rfl rfl
    | false =>
      rw [if_neg (by decide)]
      refine go_t rfl (go_o (fD103 k hk hb) (go_t (room_t (by omega) (by omega)) ?_))
      rw [show IntKind.u64.wrap (((n + 1 : Nat) : Int) - (1 : Int)) = (n : Int) by rw [w_u64]; omega]
      exact fD83 k hk n _ _ _ (jP1 ++ [(rErs (b, e, jT)).2]) fuel (Nat.le_trans (fB93.le _) hb) (by rw [List.length_append]; simp; omega) (by omega)
theorem fB96 (k : Nat) (hk : 17000000 ≤ k)  (hb : b.length ≤ 1000000000000) : fA8.run (k + 20) b e jT jA jB_ jC_ jD jE jF jG jH jI jJ jK jL jM jN jO_ jO1 jP jP1 jQ = some (((rList rErs (b, e, jT)).1.1, (rList rErs (b, e, jT)).1.2.1, ()), (jA, jB_, jC_, jD, jE, jF, jG, jH, jI, jJ, jK, jL, jM, jN, jO_, jO1, jP, (rList rErs (b, e, jT)).2, jQ, ()), ()) := by
  refine go_o (r_var k) (go_o (fD83 k hk (varR b e 16777216).2 (varR b e 16777216).1.1 (varR b e 16777216).1.2 jT [] (k + 20) (Nat.le_trans (var_le _ _ _) hb) (by have := fB82 b e; simp; omega) (by have := fB82 b e; omega)) rfl)
theorem fB109 (k : Nat) (hk : 17000000 ≤ k)  (hb : b.length ≤ 1000000000000) : fC43.run (k + 20) b e jT jA jB_ jC_ jD jE jF jG jH jI jJ jK jL jM jN jO_ jO1 jP jP1 jQ = some (((rList rErs (rList rIns (b, e, jT)).1).1.1, (rList rErs (rList rIns (b, e, jT)).1).1.2.1, ()), ((), (), (rList rIns (b, e, jT)).1.2.2, ()), (jA, jB_, jC_, jD, jE, jF, jG, jH, jI, jJ, jK, jL, jM, jN, jO_, jO1, (rList rIns (b, e, jT)).2, (rList rErs (rList rIns (b, e, jT)).1).2, jQ, ()), ()) := by
  have q1 : (rList rIns (b, e, jT)).1.1.length ≤ 1000000000000 := Nat.le_trans ((fD101.list).le _) hb
  have q2 : (rList rErs (rList rIns (b, e, jT)).1).1.1.length ≤ 1000000000000 := Nat.le_trans ((fB93.list).le _) q1
  exact go_o (fB92 k hk hb) (go_o (fB96 k hk q1) (rfl))
theorem fA94 (k : Nat) (hk : 17000000 ≤ k)  (hb : b.length ≤ 1000000000000) : fD23.run (k + 20) b e jT jA jB_ jC_ jD jE jF jG jH jI jJ jK jL jM jN jO_ jO1 jP jP1 jQ = some (((rList rErs (rList rIns (rLong (rLong (b, e, jT)).1).1).1).1.1, (rList rErs (rList rIns (rLong (rLong (b, e, jT)).1).1).1).1.2.1, ()), ((), (), (rList rIns (rLong (rLong (b, e, jT)).1).1).1.2.2, ()), (jA, jB_, jC_, (rLong (b, e, jT)).2, (rLong (rLong (b, e, jT)).1).2, jF, jG, jH, jI, jJ, jK, jL, jM, jN, jO_, jO1, (rList rIns (rLong (rLong (b, e, jT)).1).1).2, (rList rErs (rList rIns (rLong (rLong (b, e, jT)).1).1).1).2, jQ, ()), ()) := by
  have q1 : (rLong (b, e, jT)).1.1.length ≤ 1000000000000 := Nat.le_trans (fD2.le _) hb
  have q2 : (rLong (rLong (b, e, jT)).1).1.1.length ≤ 1000000000000 := Nat.le_trans (fD2.le _) q1
  have q3 : (rList rIns (rLong (rLong (b, e, jT)).1).1).1.1.length ≤ 1000000000000 := Nat.le_trans ((fD101.list).le _) q2
  have q4 : (rList rErs (rList rIns (rLong (rLong (b, e, jT)).1).1).1).1.1.length ≤ 1000000000000 := Nat.le_trans ((fB93.list).le _) q3
  exact go_o (fB108 k hk hb) (go_o (fB109 k hk q2) (rfl))
theorem fA70 (k : Nat) (hk : 17000000 ≤ k)  (hb : b.length ≤ 1000000000000) : fB9.run (k + 20) b e jT n_ most = some (((rByte (b, e, jT) most).1.1, (rByte (b, e, jT) most).1.2.1, ()), ((), (), (rByte (b, e, jT) most).1.2.2, ()), ((rByte (b, e, jT) most).2, ()), ()) := by
  refine go_o (r_byte k) ?_
  have hc := fC100 b e
  dsimp only
  rw [hc]
  exact go_d (Int.natCast_nonneg _) (go_o (fA22 _ _ _ _ _) (by simp [rByte, oByte]))
theorem fC107 (k : Nat) (hk : 17000000 ≤ k)  (hb : b.length ≤ 1000000000000) : fB38.run (k + 20) b e jT jA jB_ jC_ jD jE jF jG jH jI jJ jK jL jM jN jO_ jO1 jP jP1 jQ = some (((rTruth (b, e, jT)).1.1, (rTruth (b, e, jT)).1.2.1, ()), ((), (), (rTruth (b, e, jT)).1.2.2, ()), (jA, jB_, jC_, jD, jE, jF, jG, jH, jI, jJ, jK, (rTruth (b, e, jT)).2, jM, jN, jO_, jO1, jP, jP1, jQ, ()), ()) := by
  cases jL
  · exact go_f rfl (go_o (fA70 k hk hb) rfl)
  · exact go_t rfl (go_o (fA70 k hk hb) rfl)
theorem fD95 (k : Nat) (hk : 17000000 ≤ k)  (hb : b.length ≤ 1000000000000) : fC23.run (k + 20) b e jT jA jB_ jC_ jD jE jF jG jH jI jJ jK jL jM jN jO_ jO1 jP jP1 jQ = some (((rTruth (rLong (b, e, jT)).1).1.1, (rTruth (rLong (b, e, jT)).1).1.2.1, ()), ((), (), (rTruth (rLong (b, e, jT)).1).1.2.2, ()), (jA, jB_, jC_, (rLong (b, e, jT)).2, jE, jF, jG, jH, jI, jJ, jK, (rTruth (rLong (b, e, jT)).1).2, jM, jN, jO_, jO1, jP, jP1, jQ, ()), ()) := by
  have q1 : (rLong (b, e, jT)).1.1.length ≤ 1000000000000 := Nat.le_trans (fD2.le _) hb
  have q2 : (rTruth (rLong (b, e, jT)).1).1.1.length ≤ 1000000000000 := Nat.le_trans (fB86.le _) q1
  exact go_o (fB84 k hk hb) (go_o (fC107 k hk q1) (rfl))
theorem fC69 (k : Nat) (hk : 17000000 ≤ k)  (hb : b.length ≤ 1000000000000) : fD4.run (k + 20) b e jT jA jB_ jC_ jD jE jF jG jH jI jJ jK jL jM jN jO_ jO1 jP jP1 jQ = some (((rLong (b, e, jT)).1.1, (rLong (b, e, jT)).1.2.1, ()), (jA, jB_, jC_, jD, jE, (rLong (b, e, jT)).2, jG, jH, jI, jJ, jK, jL, jM, jN, jO_, jO1, jP, jP1, jQ, ()), ()) := by
  exact go_o (r_long k) rfl
theorem fC108 (k : Nat) (hk : 17000000 ≤ k)  (hb : b.length ≤ 1000000000000) : fA39.run (k + 20) b e jT jA jB_ jC_ jD jE jF jG jH jI jJ jK jL jM jN jO_ jO1 jP jP1 jQ = some (((rLong (rLong (b, e, jT)).1).1.1, (rLong (rLong (b, e, jT)).1).1.2.1, ()), (jA, jB_, jC_, (rLong (rLong (b, e, jT)).1).2, jE, (rLong (b, e, jT)).2, jG, jH, jI, jJ, jK, jL, jM, jN, jO_, jO1, jP, jP1, jQ, ()), ()) := by
  have q1 : (rLong (b, e, jT)).1.1.length ≤ 1000000000000 := Nat.le_trans (fD2.le _) hb
  have q2 : (rLong (rLong (b, e, jT)).1).1.1.length ≤ 1000000000000 := Nat.le_trans (fD2.le _) q1
  exact go_o (fC69 k hk hb) (go_o (fB84 k hk q1) (rfl))
theorem fB95 (k : Nat) (hk : 17000000 ≤ k)  (hb : b.length ≤ 1000000000000) : fD24.run (k + 20) b e jT jA jB_ jC_ jD jE jF jG jH jI jJ jK jL jM jN jO_ jO1 jP jP1 jQ = some (((rLong (rLong (b, e, jT)).1).1.1, (rLong (rLong (b, e, jT)).1).1.2.1, ()), (jA, jB_, jC_, (rLong (rLong (b, e, jT)).1).2, jE, (rLong (b, e, jT)).2, jG, jH, jI, jJ, jK, jL, jM, jN, jO_, jO1, jP, jP1, jQ, ()), ()) := by
  have q1 : (rLong (b, e, jT)).1.1.length ≤ 1000000000000 := Nat.le_trans (fD2.le _) hb
  have q2 : (rLong (rLong (b, e, jT)).1).1.1.length ≤ 1000000000000 := Nat.le_trans (fD2.le _) q1
  exact go_o (fC108 k hk hb) (rfl)
theorem fB85 (k : Nat) (hk : 17000000 ≤ k)  (hb : b.length ≤ 1000000000000) : fC12.run (k + 20) b e jT jA jB_ jC_ jD jE jF jG jH jI jJ jK jL jM jN jO_ jO1 jP jP1 jQ = some (((rLong (b, e, jT)).1.1, (rLong (b, e, jT)).1.2.1, ()), (jA, jB_, jC_, jD, jE, jF, jG, (rLong (b, e, jT)).2, jI, jJ, jK, jL, jM, jN, jO_, jO1, jP, jP1, jQ, ()), ()) := by
  exact go_o (r_long k) rfl
theorem fC105 (k : Nat) (hk : 17000000 ≤ k)  (hb : b.length ≤ 1000000000000) : fB40.run (k + 20) b e jT jA jB_ jC_ jD jE jF jG jH jI jJ jK jL jM jN jO_ jO1 jP jP1 jQ = some (((rLong (rLong (b, e, jT)).1).1.1, (rLong (rLong (b, e, jT)).1).1.2.1, ()), (jA, jB_, jC_, jD, jE, (rLong (b, e, jT)).2, jG, (rLong (rLong (b, e, jT)).1).2, jI, jJ, jK, jL, jM, jN, jO_, jO1, jP, jP1, jQ, ()), ()) := by
  have q1 : (rLong (b, e, jT)).1.1.length ≤ 1000000000000 := Nat.le_trans (fD2.le _) hb
  have q2 : (rLong (rLong (b, e, jT)).1).1.1.length ≤ 1000000000000 := Nat.le_trans (fD2.le _) q1
  exact go_o (fC69 k hk hb) (go_o (fB85 k hk q1) (rfl))
theorem fA96 (k : Nat) (hk : 17000000 ≤ k)  (hb : b.length ≤ 1000000000000) : fA24.run (k + 20) b e jT jA jB_ jC_ jD jE jF jG jH jI jJ jK jL jM jN jO_ jO1 jP jP1 jQ = some (((rLong (rLong (b, e, jT)).1).1.1, (rLong (rLong (b, e, jT)).1).1.2.1, ()), (jA, jB_, jC_, jD, jE, (rLong (b, e, jT)).2, jG, (rLong (rLong (b, e, jT)).1).2, jI, jJ, jK, jL, jM, jN, jO_, jO1, jP, jP1, jQ, ()), ()) := by
  have q1 : (rLong (b, e, jT)).1.1.length ≤ 1000000000000 := Nat.le_trans (fD2.le _) hb
  have q2 : (rLong (rLong (b, e, jT)).1).1.1.length ≤ 1000000000000 := Nat.le_trans (fD2.le _) q1
  exact go_o (fC105 k hk hb) (rfl)
theorem fA85 (k : Nat) (hk : 17000000 ≤ k)  (hb : b.length ≤ 1000000000000) : fB13.run (k + 20) b e jT jA jB_ jC_ jD jE jF jG jH jI jJ jK jL jM jN jO_ jO1 jP jP1 jQ = some (((rLong (b, e, jT)).1.1, (rLong (b, e, jT)).1.2.1, ()), (jA, jB_, jC_, jD, jE, jF, jG, jH, (rLong (b, e, jT)).2, jJ, jK, jL, jM, jN, jO_, jO1, jP, jP1, jQ, ()), ()) := by
  exact go_o (r_long k) rfl
theorem fB88 (k : Nat) (hk : 17000000 ≤ k)  (hb : b.length ≤ 1000000000000) : fD19.run (k + 20) b e jT jA jB_ jC_ jD jE jF jG jH jI jJ jK jL jM jN jO_ jO1 jP jP1 jQ = some (((rLong (rLong (b, e, jT)).1).1.1, (rLong (rLong (b, e, jT)).1).1.2.1, ()), (jA, jB_, jC_, jD, jE, (rLong (rLong (b, e, jT)).1).2, jG, jH, (rLong (b, e, jT)).2, jJ, jK, jL, jM, jN, jO_, jO1, jP, jP1, jQ, ()), ()) := by
  have q1 : (rLong (b, e, jT)).1.1.length ≤ 1000000000000 := Nat.le_trans (fD2.le _) hb
  have q2 : (rLong (rLong (b, e, jT)).1).1.1.length ≤ 1000000000000 := Nat.le_trans (fD2.le _) q1
  exact go_o (fA85 k hk hb) (go_o (fC69 k hk q1) (rfl))
theorem fC106 (k : Nat) (hk : 17000000 ≤ k)  (hb : b.length ≤ 1000000000000) : fD38.run (k + 20) b e jT jA jB_ jC_ jD jE jF jG jH jI jJ jK jL jM jN jO_ jO1 jP jP1 jQ = some (((rPlace (b, e, jT)).1.1, (rPlace (b, e, jT)).1.2.1, ()), (jA, jB_, jC_, jD, jE, jF, jG, jH, jI, jJ, jK, jL, jM, jN, (rPlace (b, e, jT)).2, jO1, jP, jP1, jQ, ()), ()) := by
  exact go_o (fD90 k) (by dsimp only; rw [fA86]; rfl)
theorem fA108 (k : Nat) (hk : 17000000 ≤ k)  (hb : b.length ≤ 1000000000000) : fB39.run (k + 20) b e jT jA jB_ jC_ jD jE jF jG jH jI jJ jK jL jM jN jO_ jO1 jP jP1 jQ = some (((rPlace (b, e, jT)).1.1, (rPlace (b, e, jT)).1.2.1, ()), (jA, jB_, jC_, jD, jE, jF, jG, jH, jI, jJ, jK, jL, jM, jN, jO_, (rPlace (b, e, jT)).2, jP, jP1, jQ, ()), ()) := by
  exact go_o (fD90 k) (by dsimp only; rw [fA86]; rfl)
theorem fC77 (k : Nat) (hk : 17000000 ≤ k)  (hb : b.length ≤ 1000000000000) : fD6.run (k + 20) b e jT jA jB_ jC_ jD jE jF jG jH jI jJ jK jL jM jN jO_ jO1 jP jP1 jQ = some (((rSeg (b, e, jT)).1.1, (rSeg (b, e, jT)).1.2.1, ()), (jA, jB_, jC_, jD, jE, jF, jG, jH, jI, jJ, jK, jL, jM, jN, (rSeg (b, e, jT)).2.1, (rSeg (b, e, jT)).2.2, jP, jP1, jQ, ()), ()) := by
  have q1 : (rPlace (b, e, jT)).1.1.length ≤ 1000000000000 := Nat.le_trans (fB80.le _) hb
  have q2 : (rPlace (rPlace (b, e, jT)).1).1.1.length ≤ 1000000000000 := Nat.le_trans (fB80.le _) q1
  exact go_o (fC106 k hk hb) (go_o (fA108 k hk q1) (rfl))
theorem fC95 (k : Nat) (hk : 17000000 ≤ k)  (hb : b.length ≤ 1000000000000) : fB23.run (k + 20) b e jT jA jB_ jC_ jD jE jF jG jH jI jJ jK jL jM jN jO_ jO1 jP jP1 jQ = some (((rSeg (rLong (rLong (b, e, jT)).1).1).1.1, (rSeg (rLong (rLong (b, e, jT)).1).1).1.2.1, ()), (jA, jB_, jC_, jD, jE, (rLong (rLong (b, e, jT)).1).2, jG, jH, (rLong (b, e, jT)).2, jJ, jK, jL, jM, jN, (rSeg (rLong (rLong (b, e, jT)).1).1).2.1, (rSeg (rLong (rLong (b, e, jT)).1).1).2.2, jP, jP1, jQ, ()), ()) := by
  have q1 : (rLong (b, e, jT)).1.1.length ≤ 1000000000000 := Nat.le_trans (fD2.le _) hb
  have q2 : (rLong (rLong (b, e, jT)).1).1.1.length ≤ 1000000000000 := Nat.le_trans (fD2.le _) q1
  have q3 : (rSeg (rLong (rLong (b, e, jT)).1).1).1.1.length ≤ 1000000000000 := Nat.le_trans (fD78.le _) q2
  exact go_o (fB88 k hk hb) (go_o (fC77 k hk q2) (rfl))
theorem fB106 (k : Nat) (hk : 17000000 ≤ k)  (hb : b.length ≤ 1000000000000) : fC40.run (k + 20) b e jT jA jB_ jC_ jD jE jF jG jH jI jJ jK jL jM jN jO_ jO1 jP jP1 jQ = some (((rTruth (b, e, jT)).1.1, (rTruth (b, e, jT)).1.2.1, ()), ((), (), (rTruth (b, e, jT)).1.2.2, ()), (jA, jB_, jC_, jD, jE, jF, jG, jH, jI, jJ, jK, jL, (rTruth (b, e, jT)).2, jN, jO_, jO1, jP, jP1, jQ, ()), ()) := by
  cases jM
  · exact go_f rfl (go_o (fA70 k hk hb) rfl)
  · exact go_t rfl (go_o (fA70 k hk hb) rfl)
theorem fB111 (k : Nat) (hk : 17000000 ≤ k)  (hb : b.length ≤ 1000000000000) : fA47.run (k + 20) b e jT id_ id1 row jU = some (((rLong (b, e, jT)).1.1, (rLong (b, e, jT)).1.2.1, ()), ((rLong (b, e, jT)).2, id1, row, jU, ()), ()) := by
  exact go_o (r_long k) rfl
theorem fC114 (k : Nat) (hk : 17000000 ≤ k)  (hb : b.length ≤ 1000000000000) : fC47.run (k + 20) b e jT id_ id1 row jU = some (((rWord (b, e, jT)).1.1, (rWord (b, e, jT)).1.2.1, ()), (id_, (rWord (b, e, jT)).2, row, jU, ()), ()) := by
  exact go_o (r_word k) rfl
theorem fC111 (k : Nat) (hk : 17000000 ≤ k)  (hb : b.length ≤ 1000000000000) : fB47.run (k + 20) b e jT id_ id1 row jU = some (((rName (b, e, jT)).1.1, (rName (b, e, jT)).1.2.1, ()), ((rName (b, e, jT)).2.1, (rName (b, e, jT)).2.2, row, jU, ()), ()) := by
  have q1 : (rLong (b, e, jT)).1.1.length ≤ 1000000000000 := Nat.le_trans (fD2.le _) hb
  have q2 : (rWord (rLong (b, e, jT)).1).1.1.length ≤ 1000000000000 := Nat.le_trans (fA88.le _) q1
  exact go_o (fB111 k hk hb) (go_o (fC114 k hk q1) (rfl))
theorem fA117 (k : Nat) (hk : 17000000 ≤ k)  (hb : b.length ≤ 1000000000000) : fC54.run (k + 20) b e jT id_ id1 row jU = some (((rRow (b, e, jT)).1.1, (rRow (b, e, jT)).1.2.1, ()), ((), (), (rRow (b, e, jT)).1.2.2, ()), (id_, id1, (rRow (b, e, jT)).2, jU, ()), ()) := by
  have hq := Rw.fC96 (k + 11) (by omega) (textR b e 16777216).2 (by have := fD117 b e 16777216; omega)
  unfold Rw.decR at hq
  unfold rRow
  cases hd : Rw.decode (textR b e 16777216).2 with
  | none => rw [hd] at hq; exact go_o (r_text k (by omega)) (go_o hq (go_o (fA22 _ _ _ _ _) rfl))
  | some l => rw [hd] at hq; exact go_o (r_text k (by omega)) (go_o hq (go_o (fA22 _ _ _ _ _) rfl))
theorem fB110 (k : Nat) (hk : 17000000 ≤ k)  (hb : b.length ≤ 1000000000000) : fD43.run (k + 20) b e jT id_ id1 row jU = some (((rLong (b, e, jT)).1.1, (rLong (b, e, jT)).1.2.1, ()), (id_, id1, row, (rLong (b, e, jT)).2, ()), ()) := by
  exact go_o (r_long k) rfl
theorem fD99 (k : Nat) (hk : 17000000 ≤ k)  (hb : b.length ≤ 1000000000000) : fD25.run (k + 20) b e jT id_ id1 row jU = some (((rVer (b, e, jT)).1.1, (rVer (b, e, jT)).1.2.1, ()), ((), (), (rVer (b, e, jT)).1.2.2, ()), ((rVer (b, e, jT)).2.1.1, (rVer (b, e, jT)).2.1.2, (rVer (b, e, jT)).2.2.1, (rVer (b, e, jT)).2.2.2, ()), ()) := by
  have q1 : (rName (b, e, jT)).1.1.length ≤ 1000000000000 := Nat.le_trans (fA89.le _) hb
  have q2 : (rRow (rName (b, e, jT)).1).1.1.length ≤ 1000000000000 := Nat.le_trans (fA102.le _) q1
  have q3 : (rLong (rRow (rName (b, e, jT)).1).1).1.1.length ≤ 1000000000000 := Nat.le_trans (fD2.le _) q2
  exact go_o (fC111 k hk hb) (go_o (fA117 k hk q1) (go_o (fB110 k hk q2) (rfl)))
theorem fB98 (k : Nat) (hk : 17000000 ≤ k) {b : List UInt8} {e : Int} {jT : Bool} (hb : b.length ≤ 1000000000000) : fD25.run (k + 20) b e jT (0 : Int) (0 : Int) ([] : List V) (0 : Int) = some (((rVer (b, e, jT)).1.1, (rVer (b, e, jT)).1.2.1, ()), ((), (), (rVer (b, e, jT)).1.2.2, ()), ((rVer (b, e, jT)).2.1.1, (rVer (b, e, jT)).2.1.2, (rVer (b, e, jT)).2.2.1, (rVer (b, e, jT)).2.2.2, ()), ()) := fD99 k hk hb
theorem fA82 (k : Nat) (hk : 17000000 ≤ k)  : ∀ (n : Nat) (b : List UInt8) (e : Int) (jT : Bool) (jQ : List Ver) (fuel : Nat), b.length ≤ 1000000000000 → jQ.length + n ≤ 16777216 → n < fuel →
    fD9.go (k + 20) fuel b e jT jA jB_ jC_ jD jE jF jG jH jI jJ jK jL jM jN jO_ jO1 jP jP1 jQ (n : Int) = some (((rL rVer n (b, e, jT) jQ).1.1, (rL rVer n (b, e, jT) jQ).1.2.1, ()), ((), (), (rL rVer n (b, e, jT) jQ).1.2.2, ()), (jA, jB_, jC_, jD, jE, jF, jG, jH, jI, jJ, jK, jL, jM, jN, jO_, jO1, jP, jP1, (rL rVer n (b, e, jT) jQ).2, ()), ())
  | _, _, _, _, _, 0, _, _, h => absurd h (Nat.not_lt_zero _)
  | 0, b, e, jT, jQ, fuel + 1, hb, hl, hf => go_n (by decide) rfl
  | n + 1, b, e, jT, jQ, fuel + 1, hb, hl, hf => by
    refine go_d (by omega) (go_o (fA84 _ _ _ _) ?_)
    rw [rL]
    cases hq : failed (b, e, jT) with
    | true => exact go_f rfl rfl
    | false =>
      rw [if_neg (by decide)]
      refine go_t rfl (go_o (fB98 k hk hb) (go_t (room_t (by omega) (by omega)) ?_))
      rw [show IntKind.u64.wrap (((n + 1 : Nat) : Int) - (1 : Int)) = (n : Int) by rw [w_u64]; omega]
      exact fA82 k hk n _ _ _ (jQ ++ [(rVer (b, e, jT)).2]) fuel (Nat.le_trans (fD91.le _) hb) (by rw [List.length_append]; simp; omega) (by omega)
theorem fA90 (k : Nat) (hk : 17000000 ≤ k)  (hb : b.length ≤ 1000000000000) : fB6.run (k + 20) b e jT jA jB_ jC_ jD jE jF jG jH jI jJ jK jL jM jN jO_ jO1 jP jP1 jQ = some (((rList rVer (b, e, jT)).1.1, (rList rVer (b, e, jT)).1.2.1, ()), ((), (), (rList rVer (b, e, jT)).1.2.2, ()), (jA, jB_, jC_, jD, jE, jF, jG, jH, jI, jJ, jK, jL, jM, jN, jO_, jO1, jP, jP1, (rList rVer (b, e, jT)).2, ()), ()) := by
  refine go_o (r_var k) (go_o (fA82 k hk (varR b e 16777216).2 (varR b e 16777216).1.1 (varR b e 16777216).1.2 jT [] (k + 20) (Nat.le_trans (var_le _ _ _) hb) (by have := fB82 b e; simp; omega) (by have := fB82 b e; omega)) rfl)
theorem fB87 (k : Nat) (hk : 17000000 ≤ k)  (hb : b.length ≤ 1000000000000) : fB12.run (k + 20) b e jT jA jB_ jC_ jD jE jF jG jH jI jJ jK jL jM jN jO_ jO1 jP jP1 jQ = some (((rList rVer (b, e, jT)).1.1, (rList rVer (b, e, jT)).1.2.1, ()), ((), (), (rList rVer (b, e, jT)).1.2.2, ()), (jA, jB_, jC_, jD, jE, jF, jG, jH, jI, jJ, jK, jL, jM, jN, jO_, jO1, jP, jP1, (rList rVer (b, e, jT)).2, ()), ()) := by
  have q1 : (rList rVer (b, e, jT)).1.1.length ≤ 1000000000000 := Nat.le_trans ((fD91.list).le _) hb
  exact go_o (fA90 k hk hb) (rfl)
theorem fD94 (k : Nat) (hk : 17000000 ≤ k)  (hb : b.length ≤ 1000000000000) : fD22.run (k + 20) b e jT jA jB_ jC_ jD jE jF jG jH jI jJ jK jL jM jN jO_ jO1 jP jP1 jQ = some (((rList rVer (rTruth (rSeg (rLong (b, e, jT)).1).1).1).1.1, (rList rVer (rTruth (rSeg (rLong (b, e, jT)).1).1).1).1.2.1, ()), ((), (), (rList rVer (rTruth (rSeg (rLong (b, e, jT)).1).1).1).1.2.2, ()), (jA, jB_, jC_, jD, jE, jF, jG, jH, (rLong (b, e, jT)).2, jJ, jK, jL, (rTruth (rSeg (rLong (b, e, jT)).1).1).2, jN, (rSeg (rLong (b, e, jT)).1).2.1, (rSeg (rLong (b, e, jT)).1).2.2, jP, jP1, (rList rVer (rTruth (rSeg (rLong (b, e, jT)).1).1).1).2, ()), ()) := by
  have q1 : (rLong (b, e, jT)).1.1.length ≤ 1000000000000 := Nat.le_trans (fD2.le _) hb
  have q2 : (rSeg (rLong (b, e, jT)).1).1.1.length ≤ 1000000000000 := Nat.le_trans (fD78.le _) q1
  have q3 : (rTruth (rSeg (rLong (b, e, jT)).1).1).1.1.length ≤ 1000000000000 := Nat.le_trans (fB86.le _) q2
  have q4 : (rList rVer (rTruth (rSeg (rLong (b, e, jT)).1).1).1).1.1.length ≤ 1000000000000 := Nat.le_trans ((fD91.list).le _) q3
  exact go_o (fA85 k hk hb) (go_o (fC77 k hk q1) (go_o (fB106 k hk q2) (go_o (fB87 k hk q3) (rfl))))
theorem fA106 (k : Nat) (hk : 17000000 ≤ k)  (hb : b.length ≤ 1000000000000) : fD40.run (k + 20) b e jT jA jB_ jC_ jD jE jF jG jH jI jJ jK jL jM jN jO_ jO1 jP jP1 jQ = some (((rTruth (b, e, jT)).1.1, (rTruth (b, e, jT)).1.2.1, ()), ((), (), (rTruth (b, e, jT)).1.2.2, ()), (jA, jB_, jC_, jD, jE, jF, jG, jH, jI, jJ, jK, jL, jM, (rTruth (b, e, jT)).2, jO_, jO1, jP, jP1, jQ, ()), ()) := by
  cases jN
  · exact go_f rfl (go_o (fA70 k hk hb) rfl)
  · exact go_t rfl (go_o (fA70 k hk hb) rfl)
theorem fB94 (k : Nat) (hk : 17000000 ≤ k)  (hb : b.length ≤ 1000000000000) : fB24.run (k + 20) b e jT jA jB_ jC_ jD jE jF jG jH jI jJ jK jL jM jN jO_ jO1 jP jP1 jQ = some (((rTruth (rLong (rLong (b, e, jT)).1).1).1.1, (rTruth (rLong (rLong (b, e, jT)).1).1).1.2.1, ()), ((), (), (rTruth (rLong (rLong (b, e, jT)).1).1).1.2.2, ()), (jA, jB_, jC_, jD, jE, (rLong (rLong (b, e, jT)).1).2, jG, jH, (rLong (b, e, jT)).2, jJ, jK, jL, jM, (rTruth (rLong (rLong (b, e, jT)).1).1).2, jO_, jO1, jP, jP1, jQ, ()), ()) := by
  have q1 : (rLong (b, e, jT)).1.1.length ≤ 1000000000000 := Nat.le_trans (fD2.le _) hb
  have q2 : (rLong (rLong (b, e, jT)).1).1.1.length ≤ 1000000000000 := Nat.le_trans (fD2.le _) q1
  have q3 : (rTruth (rLong (rLong (b, e, jT)).1).1).1.1.length ≤ 1000000000000 := Nat.le_trans (fB86.le _) q2
  exact go_o (fB88 k hk hb) (go_o (fA106 k hk q2) (rfl))
theorem fB113 (k : Nat) (hk : 17000000 ≤ k)  (hb : b.length ≤ 1000000000000) : fA44.run (k + 20) b e jT jA jB_ jC_ jD jE jF jG jH jI jJ jK jL jM jN jO_ jO1 jP jP1 jQ most = some (((rByte (b, e, jT) most).1.1, (rByte (b, e, jT) most).1.2.1, ()), ((), (), (rByte (b, e, jT) most).1.2.2, ()), (jA, jB_, jC_, jD, jE, jF, jG, jH, jI, jJ, (rByte (b, e, jT) most).2, jL, jM, jN, jO_, jO1, jP, jP1, jQ, ()), ()) := by
  refine go_o (r_byte k) ?_
  have hc := fC100 b e
  dsimp only
  rw [hc]
  exact go_d (Int.natCast_nonneg _) (go_o (fA22 _ _ _ _ _) (by simp [rByte, oByte]))
theorem fC110 (k : Nat) (hk : 17000000 ≤ k)  (hb : b.length ≤ 1000000000000) : fB48.run (k + 20) b e jT jA jB_ jC_ jD jE jF jG jH jI jJ jK jL jM jN jO_ jO1 jP jP1 jQ = some (((rByte (b, e, jT) (8 : Int)).1.1, (rByte (b, e, jT) (8 : Int)).1.2.1, ()), ((), (), (rByte (b, e, jT) (8 : Int)).1.2.2, ()), (jA, jB_, jC_, jD, jE, jF, jG, jH, jI, jJ, (rByte (b, e, jT) (8 : Int)).2, jL, jM, jN, jO_, jO1, jP, jP1, jQ, ()), ()) := by
  have q1 : (rByte (b, e, jT) (8 : Int)).1.1.length ≤ 1000000000000 := Nat.le_trans (hi_le _ _ _) hb
  exact go_o (fB113 k hk hb) (rfl)
theorem fC85 (k : Nat) (hk : 17000000 ≤ k)  (hb : b.length ≤ 1000000000000) : fD12.run (k + 20) b e jT jA jB_ jC_ jD jE jF jG jH jI jJ jK jL jM jN jO_ jO1 jP jP1 jQ = some (((rLong (b, e, jT)).1.1, (rLong (b, e, jT)).1.2.1, ()), (jA, jB_, jC_, jD, jE, jF, jG, jH, jI, (rLong (b, e, jT)).2, jK, jL, jM, jN, jO_, jO1, jP, jP1, jQ, ()), ()) := by
  exact go_o (r_long k) rfl
theorem fB89 (k : Nat) (hk : 17000000 ≤ k)  (hb : b.length ≤ 1000000000000) : fA26.run (k + 20) b e jT jA jB_ jC_ jD jE jF jG jH jI jJ jK jL jM jN jO_ jO1 jP jP1 jQ = some (((rLong (b, e, jT)).1.1, (rLong (b, e, jT)).1.2.1, ()), (jA, jB_, jC_, jD, jE, jF, (rLong (b, e, jT)).2, jH, jI, jJ, jK, jL, jM, jN, jO_, jO1, jP, jP1, jQ, ()), ()) := by
  exact go_o (r_long k) rfl
theorem fD106 (k : Nat) (hk : 17000000 ≤ k)  (hb : b.length ≤ 1000000000000) : fC41.run (k + 20) b e jT jA jB_ jC_ jD jE jF jG jH jI jJ jK jL jM jN jO_ jO1 jP jP1 jQ = some (((rLong (rLong (b, e, jT)).1).1.1, (rLong (rLong (b, e, jT)).1).1.2.1, ()), (jA, jB_, jC_, jD, jE, (rLong (rLong (b, e, jT)).1).2, (rLong (b, e, jT)).2, jH, jI, jJ, jK, jL, jM, jN, jO_, jO1, jP, jP1, jQ, ()), ()) := by
  have q1 : (rLong (b, e, jT)).1.1.length ≤ 1000000000000 := Nat.le_trans (fD2.le _) hb
  have q2 : (rLong (rLong (b, e, jT)).1).1.1.length ≤ 1000000000000 := Nat.le_trans (fD2.le _) q1
  exact go_o (fB89 k hk hb) (go_o (fC69 k hk q1) (rfl))
theorem fA95 (k : Nat) (hk : 17000000 ≤ k)  (hb : b.length ≤ 1000000000000) : fC24.run (k + 20) b e jT jA jB_ jC_ jD jE jF jG jH jI jJ jK jL jM jN jO_ jO1 jP jP1 jQ = some (((rLong (rLong (rSeg (rLong (rByte (b, e, jT) (8 : Int)).1).1).1).1).1.1, (rLong (rLong (rSeg (rLong (rByte (b, e, jT) (8 : Int)).1).1).1).1).1.2.1, ()), ((), (), (rByte (b, e, jT) (8 : Int)).1.2.2, ()), (jA, jB_, jC_, jD, jE, (rLong (rLong (rSeg (rLong (rByte (b, e, jT) (8 : Int)).1).1).1).1).2, (rLong (rSeg (rLong (rByte (b, e, jT) (8 : Int)).1).1).1).2, jH, jI, (rLong (rByte (b, e, jT) (8 : Int)).1).2, (rByte (b, e, jT) (8 : Int)).2, jL, jM, jN, (rSeg (rLong (rByte (b, e, jT) (8 : Int)).1).1).2.1, (rSeg (rLong (rByte (b, e, jT) (8 : Int)).1).1).2.2, jP, jP1, jQ, ()), ()) := by
  have q1 : (rByte (b, e, jT) (8 : Int)).1.1.length ≤ 1000000000000 := Nat.le_trans (hi_le _ _ _) hb
  have q2 : (rLong (rByte (b, e, jT) (8 : Int)).1).1.1.length ≤ 1000000000000 := Nat.le_trans (fD2.le _) q1
  have q3 : (rSeg (rLong (rByte (b, e, jT) (8 : Int)).1).1).1.1.length ≤ 1000000000000 := Nat.le_trans (fD78.le _) q2
  have q4 : (rLong (rSeg (rLong (rByte (b, e, jT) (8 : Int)).1).1).1).1.1.length ≤ 1000000000000 := Nat.le_trans (fD2.le _) q3
  have q5 : (rLong (rLong (rSeg (rLong (rByte (b, e, jT) (8 : Int)).1).1).1).1).1.1.length ≤ 1000000000000 := Nat.le_trans (fD2.le _) q4
  exact go_o (fC110 k hk hb) (go_o (fC85 k hk q1) (go_o (fC77 k hk q2) (go_o (fD106 k hk q3) (rfl))))
theorem fD105 (k : Nat) (hk : 17000000 ≤ k)  (hb : b.length ≤ 1000000000000) : fA38.run (k + 20) b e jT jA jB_ jC_ jD jE jF jG jH jI jJ jK jL jM jN jO_ jO1 jP jP1 jQ = some (((rLong (rLong (rLong (b, e, jT)).1).1).1.1, (rLong (rLong (rLong (b, e, jT)).1).1).1.2.1, ()), (jA, jB_, jC_, jD, jE, (rLong (rLong (b, e, jT)).1).2, (rLong (b, e, jT)).2, (rLong (rLong (rLong (b, e, jT)).1).1).2, jI, jJ, jK, jL, jM, jN, jO_, jO1, jP, jP1, jQ, ()), ()) := by
  have q1 : (rLong (b, e, jT)).1.1.length ≤ 1000000000000 := Nat.le_trans (fD2.le _) hb
  have q2 : (rLong (rLong (b, e, jT)).1).1.1.length ≤ 1000000000000 := Nat.le_trans (fD2.le _) q1
  have q3 : (rLong (rLong (rLong (b, e, jT)).1).1).1.1.length ≤ 1000000000000 := Nat.le_trans (fD2.le _) q2
  exact go_o (fB89 k hk hb) (go_o (fC69 k hk q1) (go_o (fB85 k hk q2) (rfl)))
theorem fC94 (k : Nat) (hk : 17000000 ≤ k)  (hb : b.length ≤ 1000000000000) : fA23.run (k + 20) b e jT jA jB_ jC_ jD jE jF jG jH jI jJ jK jL jM jN jO_ jO1 jP jP1 jQ = some (((rList rVer (rLong (rLong (rLong (rSeg (rLong (b, e, jT)).1).1).1).1).1).1.1, (rList rVer (rLong (rLong (rLong (rSeg (rLong (b, e, jT)).1).1).1).1).1).1.2.1, ()), ((), (), (rList rVer (rLong (rLong (rLong (rSeg (rLong (b, e, jT)).1).1).1).1).1).1.2.2, ()), (jA, jB_, jC_, jD, jE, (rLong (rLong (rSeg (rLong (b, e, jT)).1).1).1).2, (rLong (rSeg (rLong (b, e, jT)).1).1).2, (rLong (rLong (rLong (rSeg (rLong (b, e, jT)).1).1).1).1).2, jI, (rLong (b, e, jT)).2, jK, jL, jM, jN, (rSeg (rLong (b, e, jT)).1).2.1, (rSeg (rLong (b, e, jT)).1).2.2, jP, jP1, (rList rVer (rLong (rLong (rLong (rSeg (rLong (b, e, jT)).1).1).1).1).1).2, ()), ()) := by
  have q1 : (rLong (b, e, jT)).1.1.length ≤ 1000000000000 := Nat.le_trans (fD2.le _) hb
  have q2 : (rSeg (rLong (b, e, jT)).1).1.1.length ≤ 1000000000000 := Nat.le_trans (fD78.le _) q1
  have q3 : (rLong (rSeg (rLong (b, e, jT)).1).1).1.1.length ≤ 1000000000000 := Nat.le_trans (fD2.le _) q2
  have q4 : (rLong (rLong (rSeg (rLong (b, e, jT)).1).1).1).1.1.length ≤ 1000000000000 := Nat.le_trans (fD2.le _) q3
  have q5 : (rLong (rLong (rLong (rSeg (rLong (b, e, jT)).1).1).1).1).1.1.length ≤ 1000000000000 := Nat.le_trans (fD2.le _) q4
  have q6 : (rList rVer (rLong (rLong (rLong (rSeg (rLong (b, e, jT)).1).1).1).1).1).1.1.length ≤ 1000000000000 := Nat.le_trans ((fD91.list).le _) q5
  exact go_o (fC85 k hk hb) (go_o (fC77 k hk q1) (go_o (fD105 k hk q2) (go_o (fB87 k hk q5) (rfl))))
theorem fD107 (k : Nat) (hk : 17000000 ≤ k)  (hb : b.length ≤ 1000000000000) : fD37.run (k + 20) b e jT jA jB_ jC_ jD jE jF jG jH jI jJ jK jL jM jN jO_ jO1 jP jP1 jQ = some (((rLong (rLong (b, e, jT)).1).1.1, (rLong (rLong (b, e, jT)).1).1.2.1, ()), (jA, jB_, jC_, jD, jE, (rLong (rLong (b, e, jT)).1).2, jG, jH, jI, (rLong (b, e, jT)).2, jK, jL, jM, jN, jO_, jO1, jP, jP1, jQ, ()), ()) := by
  have q1 : (rLong (b, e, jT)).1.1.length ≤ 1000000000000 := Nat.le_trans (fD2.le _) hb
  have q2 : (rLong (rLong (b, e, jT)).1).1.1.length ≤ 1000000000000 := Nat.le_trans (fD2.le _) q1
  exact go_o (fC85 k hk hb) (go_o (fC69 k hk q1) (rfl))
theorem fC92 (k : Nat) (hk : 17000000 ≤ k)  (hb : b.length ≤ 1000000000000) : fD20.run (k + 20) b e jT jA jB_ jC_ jD jE jF jG jH jI jJ jK jL jM jN jO_ jO1 jP jP1 jQ = some (((rLong (rLong (b, e, jT)).1).1.1, (rLong (rLong (b, e, jT)).1).1.2.1, ()), (jA, jB_, jC_, jD, jE, (rLong (rLong (b, e, jT)).1).2, jG, jH, jI, (rLong (b, e, jT)).2, jK, jL, jM, jN, jO_, jO1, jP, jP1, jQ, ()), ()) := by
  have q1 : (rLong (b, e, jT)).1.1.length ≤ 1000000000000 := Nat.le_trans (fD2.le _) hb
  have q2 : (rLong (rLong (b, e, jT)).1).1.1.length ≤ 1000000000000 := Nat.le_trans (fD2.le _) q1
  exact go_o (fD107 k hk hb) (rfl)
theorem fA92 (k : Nat) (hk : 17000000 ≤ k)  (hb : b.length ≤ 1000000000000) : fC20.run (k + 20) b e jT jA jB_ jC_ jD jE jF jG jH jI jJ jK jL jM jN jO_ jO1 jP jP1 jQ = some (((rLong (b, e, jT)).1.1, (rLong (b, e, jT)).1.2.1, ()), (jA, jB_, jC_, jD, jE, jF, jG, (rLong (b, e, jT)).2, jI, jJ, jK, jL, jM, jN, jO_, jO1, jP, jP1, jQ, ()), ()) := by
  have q1 : (rLong (b, e, jT)).1.1.length ≤ 1000000000000 := Nat.le_trans (fD2.le _) hb
  exact go_o (fB85 k hk hb) (rfl)
theorem fC91 (k : Nat) (hk : 17000000 ≤ k)  (hb : b.length ≤ 1000000000000) : fA20.run (k + 20) b e jT jA jB_ jC_ jD jE jF jG jH jI jJ jK jL jM jN jO_ jO1 jP jP1 jQ = some (((rLong (b, e, jT)).1.1, (rLong (b, e, jT)).1.2.1, ()), (jA, jB_, jC_, jD, jE, jF, jG, jH, (rLong (b, e, jT)).2, jJ, jK, jL, jM, jN, jO_, jO1, jP, jP1, jQ, ()), ()) := by
  have q1 : (rLong (b, e, jT)).1.1.length ≤ 1000000000000 := Nat.le_trans (fD2.le _) hb
  exact go_o (fA85 k hk hb) (rfl)
end
end Go.Hay.YtpgamibdlinhjaaGreat
