/- What the functions of a pipe that write come to. Conditions: sizes below a bound, numbers that fit. -/
import Derived.Test.YtpgamibdlinhjaaGreatLwb
set_option linter.unusedVariables false
set_option linter.unusedSimpArgs false
namespace Go.Hay.YtpgamibdlinhjaaGreat
open Go Go.Hay Go.Proofs
def BVer (x : Ver) : Prop := FVer x ∧ x.2.1.length ≤ 1048576
def BIns (x : Ins) : Prop := FIns x ∧ x.2.2.1.length ≤ 1048576
def BErs (x : Ers) : Prop := FErs x
theorem w_long (k : Nat) {n : Int} {b : List UInt8} (h : U64 n) (hb : b.length ≤ 10000000000000) : fA2.run (k + 20) b n = some ((b ++ wLong n, ()), ()) := by
  obtain ⟨m, rfl⟩ := Int.eq_ofNat_of_zero_le h.1
  unfold wLong
  rw [Int.toNat_natCast]
  exact go_o (fC90 (k + 11) m 8 b (by omega) (by omega)) rfl
theorem w_word (k : Nat) {n : Int} {b : List UInt8} (h : U32 n) (hb : b.length ≤ 10000000000000) : fA6.run (k + 20) b n = some ((b ++ wWord n, ()), ()) := by
  obtain ⟨m, rfl⟩ := Int.eq_ofNat_of_zero_le h.1
  unfold wWord
  rw [Int.toNat_natCast]
  exact fB114 (k + 11) m b (by have := h.2; omega) (by omega)
theorem fA70 (k : Nat) {n : Int} {b : List UInt8} (hb : b.length ≤ 10000000000000) : fD0.run (k + 20) b (IntKind.u64.wrap n) = some ((b ++ wPlace n, ()), ()) := by
  have e : IntKind.u64.wrap n = (((IntKind.u64.wrap n).toNat : Nat) : Int) := by
    have : 0 ≤ IntKind.u64.wrap n := by rw [w_u64]; omega
    omega
  unfold wPlace
  generalize (IntKind.u64.wrap n).toNat = m at e ⊢
  rw [e]
  exact wr_var (k + 11) m b hb
theorem w_text (k : Nat) {t b : List UInt8} (hb : b.length + (textB t).length ≤ 10000000000000) : fC16.run (k + 20) b t = some ((b ++ textB t, ()), ()) := by
  have : t.length ≤ (textB t).length := by unfold textB; rw [List.length_append]; omega
  exact fB155 (k + 11) b t (by omega) (by omega)
theorem w_len (k : Nat) {n : Nat} {b : List UInt8} (hn : n ≤ 16777216) (hb : b.length ≤ 10000000000000) : fD0.run (k + 20) b (IntKind.u64.wrap (n : Int)) = some ((b ++ varB n, ()), ()) := by
  rw [fA115 n (by omega)]
  exact wr_var (k + 11) n b hb
section
variable {b : (List UInt8)} {jT jL jM jN : Bool} {jA jB_ jC_ jD jE jF jG jH jI jJ jK jO_ jO1 most ver ver1 ver3 id_ id1 n_ jU : Int} {jP : (List T7)} {jP1 : (List T8)} {jQ : (List T6)} {ver2 row : (List T4)}
theorem fD3 (N : Nat) (b : List UInt8) (jT ok_ : Bool) : fA0.run N b jT ok_ = some (((), ()), ((), (), jT || !ok_, ()), ()) := by cases jT <;> rfl
theorem fB118 (k : Nat) (hk : 17000000 ≤ k)  (hb : b.length + ((wByte jA).length) ≤ 10000000000000) : fA59.run (k + 20) b jT jA jB_ jC_ jD jE jF jG jH jI jJ jK jL jM jN jO_ jO1 jP jP1 jQ most = some ((b ++ wByte jA, ()), ((), (), jT || !(oByte jA most), ()), ()) := by
  have hq := fB77 (k + 20) b (Hay.u8 (IntKind.u8.wrap jA)) (by omega)
  by_cases h : jA ≥ (0 : Int)
  · exact go_o hq (go_d h (go_o (fD3 _ _ _ _) (by simp [oByte, wByte, h])))
  · exact go_o hq (go_n h (go_o (fD3 _ _ _ _) (by simp [oByte, wByte, h])))
theorem fD112 (k : Nat) (hk : 17000000 ≤ k)  (hb : b.length + ((wByte jB_).length) ≤ 10000000000000) : fB46.run (k + 20) b jT jA jB_ jC_ jD jE jF jG jH jI jJ jK jL jM jN jO_ jO1 jP jP1 jQ most = some ((b ++ wByte jB_, ()), ((), (), jT || !(oByte jB_ most), ()), (jA, jB_, jC_, jD, jE, jF, jG, jH, jI, jJ, jK, jL, jM, jN, jO_, jO1, jP, jP1, jQ, ()), ()) := by
  have hq := fB77 (k + 20) b (Hay.u8 (IntKind.u8.wrap jB_)) (by omega)
  by_cases h : jB_ ≥ (0 : Int)
  · exact go_o hq (go_d h (go_o (fD3 _ _ _ _) (by simp [oByte, wByte, h])))
  · exact go_o hq (go_n h (go_o (fD3 _ _ _ _) (by simp [oByte, wByte, h])))
theorem fD118 (k : Nat) (hk : 17000000 ≤ k)  (hb : b.length + ((wByte jB_).length) ≤ 10000000000000) : fB60.run (k + 20) b jT jA jB_ jC_ jD jE jF jG jH jI jJ jK jL jM jN jO_ jO1 jP jP1 jQ = some ((b ++ (wByte jB_), ()), ((), (), jT || !(oByte jB_ (8 : Int)), ()), (jA, jB_, jC_, jD, jE, jF, jG, jH, jI, jJ, jK, jL, jM, jN, jO_, jO1, jP, jP1, jQ, ()), ()) := by
  refine go_o (fD112 k hk (by (try simp only [List.length_append]); omega)) (?_)
  simp only [List.append_assoc, Bool.or_assoc, Bool.not_and, Bool.not_true, Bool.or_false, Bool.true_and, Bool.and_true]
theorem fB109 (k : Nat) (hk : 17000000 ≤ k)  (hb : b.length + ((wByte jC_).length) ≤ 10000000000000) : fC49.run (k + 20) b jT jA jB_ jC_ jD jE jF jG jH jI jJ jK jL jM jN jO_ jO1 jP jP1 jQ most = some ((b ++ wByte jC_, ()), ((), (), jT || !(oByte jC_ most), ()), (jA, jB_, jC_, jD, jE, jF, jG, jH, jI, jJ, jK, jL, jM, jN, jO_, jO1, jP, jP1, jQ, ()), ()) := by
  have hq := fB77 (k + 20) b (Hay.u8 (IntKind.u8.wrap jC_)) (by omega)
  by_cases h : jC_ ≥ (0 : Int)
  · exact go_o hq (go_d h (go_o (fD3 _ _ _ _) (by simp [oByte, wByte, h])))
  · exact go_o hq (go_n h (go_o (fD3 _ _ _ _) (by simp [oByte, wByte, h])))
theorem fB110 (k : Nat) (hk : 17000000 ≤ k)  (hb : b.length + ((wByte jC_).length) ≤ 10000000000000) : fB45.run (k + 20) b jT jA jB_ jC_ jD jE jF jG jH jI jJ jK jL jM jN jO_ jO1 jP jP1 jQ = some ((b ++ (wByte jC_), ()), ((), (), jT || !(oByte jC_ (8 : Int)), ()), (jA, jB_, jC_, jD, jE, jF, jG, jH, jI, jJ, jK, jL, jM, jN, jO_, jO1, jP, jP1, jQ, ()), ()) := by
  refine go_o (fB109 k hk (by (try simp only [List.length_append]); omega)) (?_)
  simp only [List.append_assoc, Bool.or_assoc, Bool.not_and, Bool.not_true, Bool.or_false, Bool.true_and, Bool.and_true]
theorem fA79 (k : Nat) (hk : 17000000 ≤ k)  (h1 : U64 jD) (hb : b.length + ((wLong jD).length) ≤ 10000000000000) : fA19.run (k + 20) b jT jA jB_ jC_ jD jE jF jG jH jI jJ jK jL jM jN jO_ jO1 jP jP1 jQ = some ((b ++ wLong jD, ()), (jA, jB_, jC_, jD, jE, jF, jG, jH, jI, jJ, jK, jL, jM, jN, jO_, jO1, jP, jP1, jQ, ()), ()) := by
  exact go_o (w_long k h1 (by (try simp only [List.length_append]); omega)) rfl
theorem fB106 (k : Nat) (hk : 17000000 ≤ k)  (h1 : U64 jE) (hb : b.length + ((wLong jE).length) ≤ 10000000000000) : fB43.run (k + 20) b jT jA jB_ jC_ jD jE jF jG jH jI jJ jK jL jM jN jO_ jO1 jP jP1 jQ = some ((b ++ wLong jE, ()), (jA, jB_, jC_, jD, jE, jF, jG, jH, jI, jJ, jK, jL, jM, jN, jO_, jO1, jP, jP1, jQ, ()), ()) := by
  exact go_o (w_long k h1 (by (try simp only [List.length_append]); omega)) rfl
theorem fA117 (k : Nat) (hk : 17000000 ≤ k)  (h1 : U64 jD) (h2 : U64 jE) (hb : b.length + ((wLong jD).length + ((wLong jE).length)) ≤ 10000000000000) : fB55.run (k + 20) b jT jA jB_ jC_ jD jE jF jG jH jI jJ jK jL jM jN jO_ jO1 jP jP1 jQ = some ((b ++ (wLong jD ++ (wLong jE)), ()), (jA, jB_, jC_, jD, jE, jF, jG, jH, jI, jJ, jK, jL, jM, jN, jO_, jO1, jP, jP1, jQ, ()), ()) := by
  refine go_o (fA79 k hk h1 (by (try simp only [List.length_append]); omega)) (go_o (fB106 k hk h2 (by (try simp only [List.length_append]); omega)) (?_))
  simp only [List.append_assoc, Bool.or_assoc, Bool.not_and, Bool.not_true, Bool.or_false, Bool.true_and, Bool.and_true]
theorem fC116 (k : Nat) (hk : 17000000 ≤ k)  (hb : b.length + ((wPlace jO_).length) ≤ 10000000000000) : fA55.run (k + 20) b jT jO_ jO1 ver ver1 ver2 ver3 = some ((b ++ wPlace jO_, ()), ((), (), jT || !(oPlace jO_), ()), ()) := by
  by_cases h : jO_ ≥ (0 : Int)
  · exact go_d h (go_o (fD3 _ _ _ _) (go_o (fA70 k (by (try simp only [List.length_append]); omega)) (by simp [oPlace, oByte, h])))
  · exact go_n h (go_o (fD3 _ _ _ _) (go_o (fA70 k (by (try simp only [List.length_append]); omega)) (by simp [oPlace, oByte, h])))
theorem fA102 (k : Nat) (hk : 17000000 ≤ k)  (hb : b.length + ((wPlace jO1).length) ≤ 10000000000000) : fC39.run (k + 20) b jT jO_ jO1 ver ver1 ver2 ver3 = some ((b ++ wPlace jO1, ()), ((), (), jT || !(oPlace jO1), ()), (jO_, jO1, ver, ver1, ver2, ver3, ()), ()) := by
  by_cases h : jO1 ≥ (0 : Int)
  · exact go_d h (go_o (fD3 _ _ _ _) (go_o (fA70 k (by (try simp only [List.length_append]); omega)) (by simp [oPlace, oByte, h])))
  · exact go_n h (go_o (fD3 _ _ _ _) (go_o (fA70 k (by (try simp only [List.length_append]); omega)) (by simp [oPlace, oByte, h])))
theorem fD104 (k : Nat) (hk : 17000000 ≤ k)  (hb : b.length + ((wPlace jO_).length + ((wPlace jO1).length)) ≤ 10000000000000) : fB41.run (k + 20) b jT jO_ jO1 ver ver1 ver2 ver3 = some ((b ++ (wPlace jO_ ++ (wPlace jO1)), ()), ((), (), jT || !(oPlace jO_ && (oPlace jO1)), ()), (jO_, jO1, ver, ver1, ver2, ver3, ()), ()) := by
  refine go_o (fC116 k hk (by (try simp only [List.length_append]); omega)) (go_o (fA102 k hk (by (try simp only [List.length_append]); omega)) (?_))
  simp only [List.append_assoc, Bool.or_assoc, Bool.not_and, Bool.not_true, Bool.or_false, Bool.true_and, Bool.and_true]
theorem fD119 (k : Nat) (hk : 17000000 ≤ k)  (h1 : U32 ver1) (hb : b.length + ((wWord ver1).length) ≤ 10000000000000) : fA60.run (k + 20) b jT jO_ jO1 ver ver1 ver2 ver3 = some ((b ++ wWord ver1, ()), (jO_, jO1, ver, ver1, ver2, ver3, ()), ()) := by
  exact go_o (w_word k h1 (by (try simp only [List.length_append]); omega)) rfl
theorem fD121 (k : Nat) (hk : 17000000 ≤ k)  (h1 : ver2.length ≤ 1048576) (hb : b.length + ((wRow ver2).length) ≤ 10000000000000) : fB62.run (k + 20) b jT jO_ jO1 ver ver1 ver2 ver3 = some ((b ++ wRow ver2, ()), ((), (), jT || !(Rw.rights ver2), ()), (jO_, jO1, ver, ver1, ver2, ver3, ()), ()) := by
  have hq := Rw.fB87 (k + 11) ver2 (by omega) (by omega)
  unfold Rw.encR at hq
  unfold wRow at hb ⊢
  by_cases h : Rw.rights ver2 = true
  · rw [if_pos h] at hq hb ⊢
    rw [h]
    exact go_o hq (go_o (w_text k (by omega)) (go_o (fD3 _ _ _ _) rfl))
  · rw [if_neg h] at hq hb ⊢
    have h' : Rw.rights ver2 = false := by simpa using h
    rw [h']
    exact go_o hq (go_o (w_text k (by omega)) (go_o (fD3 _ _ _ _) rfl))
theorem fA95 (k : Nat) (hk : 17000000 ≤ k)  : fB27.run (k + 20) b jT jO_ jO1 ver ver1 ver2 ver3 = some (((), ()), ((), (), jT || !(decide (ver = 0) && decide (ver3 = 0)), ()), ()) := by
  by_cases h : ver = (0 : Int)
  · exact go_d h (go_o (fD3 _ _ _ _) (by simp [h]))
  · exact go_n h (go_o (fD3 _ _ _ _) (by simp [h]))
theorem fC107 (k : Nat) (hk : 17000000 ≤ k)  (h1 : U32 ver1) (h2 : ver2.length ≤ 1048576) (hb : b.length + ((wPlace jO_).length + ((wPlace jO1).length + ((wWord ver1).length + ((wRow ver2).length)))) ≤ 10000000000000) : fC11.run (k + 20) b jT jO_ jO1 ver ver1 ver2 ver3 = some ((b ++ (wPlace jO_ ++ (wPlace jO1 ++ (wWord ver1 ++ (wRow ver2)))), ()), ((), (), jT || !(decide (ver = 0) && decide (ver3 = 0) && (oPlace jO_ && (oPlace jO1 && (Rw.rights ver2)))), ()), (jO_, jO1, ver, ver1, ver2, ver3, ()), ()) := by
  refine go_o (fA95 k hk ) (go_o (fD104 k hk (by (try simp only [List.length_append]); omega)) (go_o (fD119 k hk h1 (by (try simp only [List.length_append]); omega)) (go_o (fD121 k hk h2 (by (try simp only [List.length_append]); omega)) (?_))))
  simp only [List.append_assoc, Bool.or_assoc, Bool.not_and, Bool.not_true, Bool.or_false, Bool.true_and, Bool.and_true]
theorem fB100 (k : Nat) (hk : 17000000 ≤ k) {b : List UInt8} {jT : Bool} (x : Ins) (hx : BIns x) (hb : b.length + (wIns x).length ≤ 10000000000000) : fC11.run (k + 20) b jT x.1.1 x.1.2 x.2.1.1 x.2.1.2 x.2.2.1 x.2.2.2 = some ((b ++ wIns x, ()), ((), (), jT || !(oIns x), ()), (x.1.1, x.1.2, x.2.1.1, x.2.1.2, x.2.2.1, x.2.2.2, ()), ()) :=
  (fC107 k hk hx.1.2.2.2.1 hx.2 (by unfold wIns at hb; simp only [List.length_append] at hb; omega)).trans (by simp only [wIns, oIns, Bool.and_assoc, Bool.and_true])
theorem fA74 (k : Nat) (hk : 17000000 ≤ k) (l : List Ins) (hl : l.length ≤ 16777216) : ∀ (suf pre : List Ins) (b : List UInt8) (jT : Bool) (fuel : Nat), l = pre ++ suf → (∀ x ∈ suf, BIns x) → suf.length < fuel → b.length + (suf.flatMap wIns).length ≤ 10000000000000 →
    fB12.go (k + 20) fuel b jT l (l.length : Int) (pre.length : Int) = some ((b ++ suf.flatMap wIns, ()), ((), (), jT || !(suf.all oIns), ()), ())
  | _, _, _, _, 0, _, _, h, _ => absurd h (Nat.not_lt_zero _)
  | [], pre, b, jT, fuel + 1, e, _, _, _ => by
    rw [List.flatMap_nil, List.append_nil, List.all_nil, Bool.not_true, Bool.or_false]
    exact go_n (by rw [e]; simp) rfl
  | x :: suf, pre, b, jT, fuel + 1, e, hF, hf, hb => by
    have hlt : pre.length < l.length := by rw [e]; simp
    have hgd : l.getD ((pre.length : Int)).toNat (((0 : Int), (0 : Int)), ((0 : Int), (0 : Int)), ([] : List T4), (0 : Int)) = x := by rw [e]; exact fB63 _ _ _ _
    have hx := hF x (List.mem_cons_self ..)
    rw [List.flatMap_cons] at hb ⊢
    simp only [List.length_append] at hb
    have ih := fA74 k hk l hl suf (pre ++ [x]) (b ++ wIns x) (jT || !(oIns x)) fuel (by rw [e]; simp) (fun y hy => hF y (List.mem_cons_of_mem _ hy)) (by simp at hf; omega) (by simp only [List.length_append]; omega)
    rw [show ((pre ++ [x]).length : Int) = ((pre.length + 1 : Nat) : Int) by simp] at ih
    refine go_d (by omega) (go_t (inB_nat hlt) ?_)
    rw [hgd]
    refine go_o (fB100 k hk x hx (by omega)) ?_
    rw [wrap_succ pre.length (by omega)]
    refine ih.trans ?_
    simp only [List.append_assoc, List.all_cons, Bool.or_assoc, Bool.not_and]
theorem fA88 (k : Nat) (hk : 17000000 ≤ k)  (h1 : ∀ x ∈ jP, BIns x) (h2 : jP.length ≤ 16777216) (hb : b.length + ((wList wIns jP).length) ≤ 10000000000000) : fC8.run (k + 20) b jT jA jB_ jC_ jD jE jF jG jH jI jJ jK jL jM jN jO_ jO1 jP jP1 jQ = some ((b ++ wList wIns jP, ()), ((), (), jT || !(jP.all oIns), ()), (jA, jB_, jC_, jD, jE, jF, jG, jH, jI, jJ, jK, jL, jM, jN, jO_, jO1, jP, jP1, jQ, ()), ()) := by
  unfold wList at hb ⊢
  simp only [List.length_append] at hb
  refine go_o (w_len k (n := jP.length) (b := b) h2 (by omega)) (go_o (fA74 k hk jP h2 jP [] _ jT (k + 20) rfl h1 (by omega) (by simp only [List.length_append]; omega)) ?_)
  simp only [List.append_assoc]
theorem fA100 (k : Nat) (hk : 17000000 ≤ k)  (hb : b.length + ((wPlace jO_).length) ≤ 10000000000000) : fA40.run (k + 20) b jT jO_ jO1 id_ id1 = some ((b ++ wPlace jO_, ()), ((), (), jT || !(oPlace jO_), ()), ()) := by
  by_cases h : jO_ ≥ (0 : Int)
  · exact go_d h (go_o (fD3 _ _ _ _) (go_o (fA70 k (by (try simp only [List.length_append]); omega)) (by simp [oPlace, oByte, h])))
  · exact go_n h (go_o (fD3 _ _ _ _) (go_o (fA70 k (by (try simp only [List.length_append]); omega)) (by simp [oPlace, oByte, h])))
theorem fB99 (k : Nat) (hk : 17000000 ≤ k)  (hb : b.length + ((wPlace jO1).length) ≤ 10000000000000) : fA39.run (k + 20) b jT jO_ jO1 id_ id1 = some ((b ++ wPlace jO1, ()), ((), (), jT || !(oPlace jO1), ()), (jO_, jO1, id_, id1, ()), ()) := by
  by_cases h : jO1 ≥ (0 : Int)
  · exact go_d h (go_o (fD3 _ _ _ _) (go_o (fA70 k (by (try simp only [List.length_append]); omega)) (by simp [oPlace, oByte, h])))
  · exact go_n h (go_o (fD3 _ _ _ _) (go_o (fA70 k (by (try simp only [List.length_append]); omega)) (by simp [oPlace, oByte, h])))
theorem fD93 (k : Nat) (hk : 17000000 ≤ k)  (hb : b.length + ((wPlace jO_).length + ((wPlace jO1).length)) ≤ 10000000000000) : fD28.run (k + 20) b jT jO_ jO1 id_ id1 = some ((b ++ (wPlace jO_ ++ (wPlace jO1)), ()), ((), (), jT || !(oPlace jO_ && (oPlace jO1)), ()), (jO_, jO1, id_, id1, ()), ()) := by
  refine go_o (fA100 k hk (by (try simp only [List.length_append]); omega)) (go_o (fB99 k hk (by (try simp only [List.length_append]); omega)) (?_))
  simp only [List.append_assoc, Bool.or_assoc, Bool.not_and, Bool.not_true, Bool.or_false, Bool.true_and, Bool.and_true]
theorem fD106 (k : Nat) (hk : 17000000 ≤ k)  (h1 : U64 id_) (hb : b.length + ((wLong id_).length) ≤ 10000000000000) : fD45.run (k + 20) b jT jO_ jO1 id_ id1 = some ((b ++ wLong id_, ()), (jO_, jO1, id_, id1, ()), ()) := by
  exact go_o (w_long k h1 (by (try simp only [List.length_append]); omega)) rfl
theorem fA109 (k : Nat) (hk : 17000000 ≤ k)  (h1 : U32 id1) (hb : b.length + ((wWord id1).length) ≤ 10000000000000) : fC46.run (k + 20) b jT jO_ jO1 id_ id1 = some ((b ++ wWord id1, ()), (jO_, jO1, id_, id1, ()), ()) := by
  exact go_o (w_word k h1 (by (try simp only [List.length_append]); omega)) rfl
theorem fA119 (k : Nat) (hk : 17000000 ≤ k)  (h1 : U64 id_) (h2 : U32 id1) (hb : b.length + ((wLong id_).length + ((wWord id1).length)) ≤ 10000000000000) : fD59.run (k + 20) b jT jO_ jO1 id_ id1 = some ((b ++ (wLong id_ ++ (wWord id1)), ()), (jO_, jO1, id_, id1, ()), ()) := by
  refine go_o (fD106 k hk h1 (by (try simp only [List.length_append]); omega)) (go_o (fA109 k hk h2 (by (try simp only [List.length_append]); omega)) (?_))
  simp only [List.append_assoc, Bool.or_assoc, Bool.not_and, Bool.not_true, Bool.or_false, Bool.true_and, Bool.and_true]
theorem fB116 (k : Nat) (hk : 17000000 ≤ k)  (h1 : U64 id_) (h2 : U32 id1) (hb : b.length + ((wPlace jO_).length + ((wPlace jO1).length + ((wLong id_).length + ((wWord id1).length)))) ≤ 10000000000000) : fD42.run (k + 20) b jT jO_ jO1 id_ id1 = some ((b ++ (wPlace jO_ ++ (wPlace jO1 ++ (wLong id_ ++ (wWord id1)))), ()), ((), (), jT || !(oPlace jO_ && (oPlace jO1)), ()), (jO_, jO1, id_, id1, ()), ()) := by
  refine go_o (fD93 k hk (by (try simp only [List.length_append]); omega)) (go_o (fA119 k hk h1 h2 (by (try simp only [List.length_append]); omega)) (?_))
  simp only [List.append_assoc, Bool.or_assoc, Bool.not_and, Bool.not_true, Bool.or_false, Bool.true_and, Bool.and_true]
theorem fC110 (k : Nat) (hk : 17000000 ≤ k) {b : List UInt8} {jT : Bool} (x : Ers) (hx : BErs x) (hb : b.length + (wErs x).length ≤ 10000000000000) : fD42.run (k + 20) b jT x.1.1 x.1.2 x.2.1 x.2.2 = some ((b ++ wErs x, ()), ((), (), jT || !(oErs x), ()), (x.1.1, x.1.2, x.2.1, x.2.2, ()), ()) :=
  (fB116 k hk hx.2.2.1 hx.2.2.2 (by unfold wErs at hb; simp only [List.length_append] at hb; omega)).trans (by simp only [wErs, oErs, Bool.and_assoc, Bool.and_true])
theorem fB78 (k : Nat) (hk : 17000000 ≤ k) (l : List Ers) (hl : l.length ≤ 16777216) : ∀ (suf pre : List Ers) (b : List UInt8) (jT : Bool) (fuel : Nat), l = pre ++ suf → (∀ x ∈ suf, BErs x) → suf.length < fuel → b.length + (suf.flatMap wErs).length ≤ 10000000000000 →
    fA15.go (k + 20) fuel b jT l (l.length : Int) (pre.length : Int) = some ((b ++ suf.flatMap wErs, ()), ((), (), jT || !(suf.all oErs), ()), ())
  | _, _, _, _, 0, _, _, h, _ => absurd h (Nat.not_lt_zero _)
  | [], pre, b, jT, fuel + 1, e, _, _, _ => by
    rw [List.flatMap_nil, List.append_nil, List.all_nil, Bool.not_true, Bool.or_false]
    exact go_n (by rw [e]; simp) rfl
  | x :: suf, pre, b, jT, fuel + 1, e, hF, hf, hb => by
    have hlt : pre.length < l.length := by rw [e]; simp
    have hgd : l.getD ((pre.length : Int)).toNat (((0 : Int), (0 : Int)), (0 : Int), (0 : Int)) = x := by rw [e]; exact fB63 _ _ _ _
    have hx := hF x (List.mem_cons_self ..)
    rw [List.flatMap_cons] at hb ⊢
    simp only [List.length_append] at hb
    have ih := fB78 k hk l hl suf (pre ++ [x]) (b ++ wErs x) (jT || !(oErs x)) fuel (by rw [e]; simp) (fun y hy => hF y (List.mem_cons_of_mem _ hy)) (by simp at hf; omega) (by simp only [List.length_append]; omega)
    rw [show ((pre ++ [x]).length : Int) = ((pre.length + 1 : Nat) : Int) by simp] at ih
    refine go_d (by omega) (go_t (inB_nat hlt) ?_)
    rw [hgd]
    refine go_o (fC110 k hk x hx (by omega)) ?_
    rw [wrap_succ pre.length (by omega)]
    refine ih.trans ?_
    simp only [List.append_assoc, List.all_cons, Bool.or_assoc, Bool.not_and]
theorem fB92 (k : Nat) (hk : 17000000 ≤ k)  (h1 : ∀ x ∈ jP1, BErs x) (h2 : jP1.length ≤ 16777216) (hb : b.length + ((wList wErs jP1).length) ≤ 10000000000000) : fB9.run (k + 20) b jT jA jB_ jC_ jD jE jF jG jH jI jJ jK jL jM jN jO_ jO1 jP jP1 jQ = some ((b ++ wList wErs jP1, ()), ((), (), jT || !(jP1.all oErs), ()), (jA, jB_, jC_, jD, jE, jF, jG, jH, jI, jJ, jK, jL, jM, jN, jO_, jO1, jP, jP1, jQ, ()), ()) := by
  unfold wList at hb ⊢
  simp only [List.length_append] at hb
  refine go_o (w_len k (n := jP1.length) (b := b) h2 (by omega)) (go_o (fB78 k hk jP1 h2 jP1 [] _ jT (k + 20) rfl h1 (by omega) (by simp only [List.length_append]; omega)) ?_)
  simp only [List.append_assoc]
theorem fA120 (k : Nat) (hk : 17000000 ≤ k)  (h1 : ∀ x ∈ jP, BIns x) (h2 : jP.length ≤ 16777216) (h3 : ∀ x ∈ jP1, BErs x) (h4 : jP1.length ≤ 16777216) (hb : b.length + ((wList wIns jP).length + ((wList wErs jP1).length)) ≤ 10000000000000) : fC58.run (k + 20) b jT jA jB_ jC_ jD jE jF jG jH jI jJ jK jL jM jN jO_ jO1 jP jP1 jQ = some ((b ++ (wList wIns jP ++ (wList wErs jP1)), ()), ((), (), jT || !(jP.all oIns && (jP1.all oErs)), ()), (jA, jB_, jC_, jD, jE, jF, jG, jH, jI, jJ, jK, jL, jM, jN, jO_, jO1, jP, jP1, jQ, ()), ()) := by
  refine go_o (fA88 k hk h1 h2 (by (try simp only [List.length_append]); omega)) (go_o (fB92 k hk h3 h4 (by (try simp only [List.length_append]); omega)) (?_))
  simp only [List.append_assoc, Bool.or_assoc, Bool.not_and, Bool.not_true, Bool.or_false, Bool.true_and, Bool.and_true]
theorem fB91 (k : Nat) (hk : 17000000 ≤ k)  (h1 : U64 jD) (h2 : U64 jE) (h3 : ∀ x ∈ jP, BIns x) (h4 : jP.length ≤ 16777216) (h5 : ∀ x ∈ jP1, BErs x) (h6 : jP1.length ≤ 16777216) (hb : b.length + ((wLong jD).length + ((wLong jE).length + ((wList wIns jP).length + ((wList wErs jP1).length)))) ≤ 10000000000000) : fA31.run (k + 20) b jT jA jB_ jC_ jD jE jF jG jH jI jJ jK jL jM jN jO_ jO1 jP jP1 jQ = some ((b ++ (wLong jD ++ (wLong jE ++ (wList wIns jP ++ (wList wErs jP1)))), ()), ((), (), jT || !(jP.all oIns && (jP1.all oErs)), ()), (jA, jB_, jC_, jD, jE, jF, jG, jH, jI, jJ, jK, jL, jM, jN, jO_, jO1, jP, jP1, jQ, ()), ()) := by
  refine go_o (fA117 k hk h1 h2 (by (try simp only [List.length_append]); omega)) (go_o (fA120 k hk h3 h4 h5 h6 (by (try simp only [List.length_append]); omega)) (?_))
  simp only [List.append_assoc, Bool.or_assoc, Bool.not_and, Bool.not_true, Bool.or_false, Bool.true_and, Bool.and_true]
theorem fD63 (k : Nat) (hk : 17000000 ≤ k)  (hb : b.length + ((wByte n_).length) ≤ 10000000000000) : fC9.run (k + 20) b jT n_ most = some ((b ++ wByte n_, ()), ((), (), jT || !(oByte n_ most), ()), ()) := by
  have hq := fB77 (k + 20) b (Hay.u8 (IntKind.u8.wrap n_)) (by omega)
  by_cases h : n_ ≥ (0 : Int)
  · exact go_o hq (go_d h (go_o (fD3 _ _ _ _) (by simp [oByte, wByte, h])))
  · exact go_o hq (go_n h (go_o (fD3 _ _ _ _) (by simp [oByte, wByte, h])))
theorem fD116 (k : Nat) (hk : 17000000 ≤ k)  (hb : b.length + ((wTruth jL).length) ≤ 10000000000000) : fC53.run (k + 20) b jT jA jB_ jC_ jD jE jF jG jH jI jJ jK jL jM jN jO_ jO1 jP jP1 jQ = some ((b ++ wTruth jL, ()), ((), (), jT || !true, ()), (jA, jB_, jC_, jD, jE, jF, jG, jH, jI, jJ, jK, jL, jM, jN, jO_, jO1, jP, jP1, jQ, ()), ()) := by
  have hl : (wTruth jL).length = 1 := rfl
  rw [hl] at hb
  cases jL
  · exact go_f rfl (go_o (fD63 k hk (by show b.length + 1 ≤ _; omega)) rfl)
  · exact go_t rfl (go_o (fD63 k hk (by show b.length + 1 ≤ _; omega)) rfl)
theorem fC92 (k : Nat) (hk : 17000000 ≤ k)  (h1 : U64 jD) (hb : b.length + ((wLong jD).length + ((wTruth jL).length)) ≤ 10000000000000) : fC31.run (k + 20) b jT jA jB_ jC_ jD jE jF jG jH jI jJ jK jL jM jN jO_ jO1 jP jP1 jQ = some ((b ++ (wLong jD ++ (wTruth jL)), ()), ((), (), jT || !(true), ()), (jA, jB_, jC_, jD, jE, jF, jG, jH, jI, jJ, jK, jL, jM, jN, jO_, jO1, jP, jP1, jQ, ()), ()) := by
  refine go_o (fA79 k hk h1 (by (try simp only [List.length_append]); omega)) (go_o (fD116 k hk (by (try simp only [List.length_append]); omega)) (?_))
  simp only [List.append_assoc, Bool.or_assoc, Bool.not_and, Bool.not_true, Bool.or_false, Bool.true_and, Bool.and_true]
theorem fC63 (k : Nat) (hk : 17000000 ≤ k)  (h1 : U64 jF) (hb : b.length + ((wLong jF).length) ≤ 10000000000000) : fD5.run (k + 20) b jT jA jB_ jC_ jD jE jF jG jH jI jJ jK jL jM jN jO_ jO1 jP jP1 jQ = some ((b ++ wLong jF, ()), (jA, jB_, jC_, jD, jE, jF, jG, jH, jI, jJ, jK, jL, jM, jN, jO_, jO1, jP, jP1, jQ, ()), ()) := by
  exact go_o (w_long k h1 (by (try simp only [List.length_append]); omega)) rfl
theorem fC104 (k : Nat) (hk : 17000000 ≤ k)  (h1 : U64 jF) (h2 : U64 jD) (hb : b.length + ((wLong jF).length + ((wLong jD).length)) ≤ 10000000000000) : fD36.run (k + 20) b jT jA jB_ jC_ jD jE jF jG jH jI jJ jK jL jM jN jO_ jO1 jP jP1 jQ = some ((b ++ (wLong jF ++ (wLong jD)), ()), (jA, jB_, jC_, jD, jE, jF, jG, jH, jI, jJ, jK, jL, jM, jN, jO_, jO1, jP, jP1, jQ, ()), ()) := by
  refine go_o (fC63 k hk h1 (by (try simp only [List.length_append]); omega)) (go_o (fA79 k hk h2 (by (try simp only [List.length_append]); omega)) (?_))
  simp only [List.append_assoc, Bool.or_assoc, Bool.not_and, Bool.not_true, Bool.or_false, Bool.true_and, Bool.and_true]
theorem fD92 (k : Nat) (hk : 17000000 ≤ k)  (h1 : U64 jF) (h2 : U64 jD) (hb : b.length + ((wLong jF).length + ((wLong jD).length)) ≤ 10000000000000) : fD29.run (k + 20) b jT jA jB_ jC_ jD jE jF jG jH jI jJ jK jL jM jN jO_ jO1 jP jP1 jQ = some ((b ++ (wLong jF ++ (wLong jD)), ()), (jA, jB_, jC_, jD, jE, jF, jG, jH, jI, jJ, jK, jL, jM, jN, jO_, jO1, jP, jP1, jQ, ()), ()) := by
  refine go_o (fC104 k hk h1 h2 (by (try simp only [List.length_append]); omega)) (?_)
  simp only [List.append_assoc, Bool.or_assoc, Bool.not_and, Bool.not_true, Bool.or_false, Bool.true_and, Bool.and_true]
theorem fA76 (k : Nat) (hk : 17000000 ≤ k)  (h1 : U64 jH) (hb : b.length + ((wLong jH).length) ≤ 10000000000000) : fB14.run (k + 20) b jT jA jB_ jC_ jD jE jF jG jH jI jJ jK jL jM jN jO_ jO1 jP jP1 jQ = some ((b ++ wLong jH, ()), (jA, jB_, jC_, jD, jE, jF, jG, jH, jI, jJ, jK, jL, jM, jN, jO_, jO1, jP, jP1, jQ, ()), ()) := by
  exact go_o (w_long k h1 (by (try simp only [List.length_append]); omega)) rfl
theorem fD98 (k : Nat) (hk : 17000000 ≤ k)  (h1 : U64 jF) (h2 : U64 jH) (hb : b.length + ((wLong jF).length + ((wLong jH).length)) ≤ 10000000000000) : fA36.run (k + 20) b jT jA jB_ jC_ jD jE jF jG jH jI jJ jK jL jM jN jO_ jO1 jP jP1 jQ = some ((b ++ (wLong jF ++ (wLong jH)), ()), (jA, jB_, jC_, jD, jE, jF, jG, jH, jI, jJ, jK, jL, jM, jN, jO_, jO1, jP, jP1, jQ, ()), ()) := by
  refine go_o (fC63 k hk h1 (by (try simp only [List.length_append]); omega)) (go_o (fA76 k hk h2 (by (try simp only [List.length_append]); omega)) (?_))
  simp only [List.append_assoc, Bool.or_assoc, Bool.not_and, Bool.not_true, Bool.or_false, Bool.true_and, Bool.and_true]
theorem fB90 (k : Nat) (hk : 17000000 ≤ k)  (h1 : U64 jF) (h2 : U64 jH) (hb : b.length + ((wLong jF).length + ((wLong jH).length)) ≤ 10000000000000) : fB30.run (k + 20) b jT jA jB_ jC_ jD jE jF jG jH jI jJ jK jL jM jN jO_ jO1 jP jP1 jQ = some ((b ++ (wLong jF ++ (wLong jH)), ()), (jA, jB_, jC_, jD, jE, jF, jG, jH, jI, jJ, jK, jL, jM, jN, jO_, jO1, jP, jP1, jQ, ()), ()) := by
  refine go_o (fD98 k hk h1 h2 (by (try simp only [List.length_append]); omega)) (?_)
  simp only [List.append_assoc, Bool.or_assoc, Bool.not_and, Bool.not_true, Bool.or_false, Bool.true_and, Bool.and_true]
theorem fC76 (k : Nat) (hk : 17000000 ≤ k)  (h1 : U64 jI) (hb : b.length + ((wLong jI).length) ≤ 10000000000000) : fD13.run (k + 20) b jT jA jB_ jC_ jD jE jF jG jH jI jJ jK jL jM jN jO_ jO1 jP jP1 jQ = some ((b ++ wLong jI, ()), (jA, jB_, jC_, jD, jE, jF, jG, jH, jI, jJ, jK, jL, jM, jN, jO_, jO1, jP, jP1, jQ, ()), ()) := by
  exact go_o (w_long k h1 (by (try simp only [List.length_append]); omega)) rfl
theorem fB80 (k : Nat) (hk : 17000000 ≤ k)  (h1 : U64 jI) (h2 : U64 jF) (hb : b.length + ((wLong jI).length + ((wLong jF).length)) ≤ 10000000000000) : fC19.run (k + 20) b jT jA jB_ jC_ jD jE jF jG jH jI jJ jK jL jM jN jO_ jO1 jP jP1 jQ = some ((b ++ (wLong jI ++ (wLong jF)), ()), (jA, jB_, jC_, jD, jE, jF, jG, jH, jI, jJ, jK, jL, jM, jN, jO_, jO1, jP, jP1, jQ, ()), ()) := by
  refine go_o (fC76 k hk h1 (by (try simp only [List.length_append]); omega)) (go_o (fC63 k hk h2 (by (try simp only [List.length_append]); omega)) (?_))
  simp only [List.append_assoc, Bool.or_assoc, Bool.not_and, Bool.not_true, Bool.or_false, Bool.true_and, Bool.and_true]
theorem fC101 (k : Nat) (hk : 17000000 ≤ k)  (hb : b.length + ((wPlace jO_).length) ≤ 10000000000000) : fD40.run (k + 20) b jT jA jB_ jC_ jD jE jF jG jH jI jJ jK jL jM jN jO_ jO1 jP jP1 jQ = some ((b ++ wPlace jO_, ()), ((), (), jT || !(oPlace jO_), ()), (jA, jB_, jC_, jD, jE, jF, jG, jH, jI, jJ, jK, jL, jM, jN, jO_, jO1, jP, jP1, jQ, ()), ()) := by
  by_cases h : jO_ ≥ (0 : Int)
  · exact go_d h (go_o (fD3 _ _ _ _) (go_o (fA70 k (by (try simp only [List.length_append]); omega)) (by simp [oPlace, oByte, h])))
  · exact go_n h (go_o (fD3 _ _ _ _) (go_o (fA70 k (by (try simp only [List.length_append]); omega)) (by simp [oPlace, oByte, h])))
theorem fD97 (k : Nat) (hk : 17000000 ≤ k)  (hb : b.length + ((wPlace jO1).length) ≤ 10000000000000) : fB34.run (k + 20) b jT jA jB_ jC_ jD jE jF jG jH jI jJ jK jL jM jN jO_ jO1 jP jP1 jQ = some ((b ++ wPlace jO1, ()), ((), (), jT || !(oPlace jO1), ()), (jA, jB_, jC_, jD, jE, jF, jG, jH, jI, jJ, jK, jL, jM, jN, jO_, jO1, jP, jP1, jQ, ()), ()) := by
  by_cases h : jO1 ≥ (0 : Int)
  · exact go_d h (go_o (fD3 _ _ _ _) (go_o (fA70 k (by (try simp only [List.length_append]); omega)) (by simp [oPlace, oByte, h])))
  · exact go_n h (go_o (fD3 _ _ _ _) (go_o (fA70 k (by (try simp only [List.length_append]); omega)) (by simp [oPlace, oByte, h])))
theorem fB69 (k : Nat) (hk : 17000000 ≤ k)  (hb : b.length + ((wPlace jO_).length + ((wPlace jO1).length)) ≤ 10000000000000) : fB7.run (k + 20) b jT jA jB_ jC_ jD jE jF jG jH jI jJ jK jL jM jN jO_ jO1 jP jP1 jQ = some ((b ++ (wPlace jO_ ++ (wPlace jO1)), ()), ((), (), jT || !(oPlace jO_ && (oPlace jO1)), ()), (jA, jB_, jC_, jD, jE, jF, jG, jH, jI, jJ, jK, jL, jM, jN, jO_, jO1, jP, jP1, jQ, ()), ()) := by
  refine go_o (fC101 k hk (by (try simp only [List.length_append]); omega)) (go_o (fD97 k hk (by (try simp only [List.length_append]); omega)) (?_))
  simp only [List.append_assoc, Bool.or_assoc, Bool.not_and, Bool.not_true, Bool.or_false, Bool.true_and, Bool.and_true]
theorem fA90 (k : Nat) (hk : 17000000 ≤ k)  (h1 : U64 jI) (h2 : U64 jF) (hb : b.length + ((wLong jI).length + ((wLong jF).length + ((wPlace jO_).length + ((wPlace jO1).length)))) ≤ 10000000000000) : fA29.run (k + 20) b jT jA jB_ jC_ jD jE jF jG jH jI jJ jK jL jM jN jO_ jO1 jP jP1 jQ = some ((b ++ (wLong jI ++ (wLong jF ++ (wPlace jO_ ++ (wPlace jO1)))), ()), ((), (), jT || !(oPlace jO_ && (oPlace jO1)), ()), (jA, jB_, jC_, jD, jE, jF, jG, jH, jI, jJ, jK, jL, jM, jN, jO_, jO1, jP, jP1, jQ, ()), ()) := by
  refine go_o (fB80 k hk h1 h2 (by (try simp only [List.length_append]); omega)) (go_o (fB69 k hk (by (try simp only [List.length_append]); omega)) (?_))
  simp only [List.append_assoc, Bool.or_assoc, Bool.not_and, Bool.not_true, Bool.or_false, Bool.true_and, Bool.and_true]
theorem fC99 (k : Nat) (hk : 17000000 ≤ k)  (hb : b.length + ((wTruth jM).length) ≤ 10000000000000) : fB40.run (k + 20) b jT jA jB_ jC_ jD jE jF jG jH jI jJ jK jL jM jN jO_ jO1 jP jP1 jQ = some ((b ++ wTruth jM, ()), ((), (), jT || !true, ()), (jA, jB_, jC_, jD, jE, jF, jG, jH, jI, jJ, jK, jL, jM, jN, jO_, jO1, jP, jP1, jQ, ()), ()) := by
  have hl : (wTruth jM).length = 1 := rfl
  rw [hl] at hb
  cases jM
  · exact go_f rfl (go_o (fD63 k hk (by show b.length + 1 ≤ _; omega)) rfl)
  · exact go_t rfl (go_o (fD63 k hk (by show b.length + 1 ≤ _; omega)) rfl)
theorem fD113 (k : Nat) (hk : 17000000 ≤ k)  (h1 : U64 id_) (hb : b.length + ((wLong id_).length) ≤ 10000000000000) : fA46.run (k + 20) b jT id_ id1 row jU = some ((b ++ wLong id_, ()), ()) := by
  exact go_o (w_long k h1 (by (try simp only [List.length_append]); omega)) rfl
theorem fD105 (k : Nat) (hk : 17000000 ≤ k)  (h1 : U32 id1) (hb : b.length + ((wWord id1).length) ≤ 10000000000000) : fA48.run (k + 20) b jT id_ id1 row jU = some ((b ++ wWord id1, ()), (id_, id1, row, jU, ()), ()) := by
  exact go_o (w_word k h1 (by (try simp only [List.length_append]); omega)) rfl
theorem fB111 (k : Nat) (hk : 17000000 ≤ k)  (h1 : U64 id_) (h2 : U32 id1) (hb : b.length + ((wLong id_).length + ((wWord id1).length)) ≤ 10000000000000) : fD46.run (k + 20) b jT id_ id1 row jU = some ((b ++ (wLong id_ ++ (wWord id1)), ()), (id_, id1, row, jU, ()), ()) := by
  refine go_o (fD113 k hk h1 (by (try simp only [List.length_append]); omega)) (go_o (fD105 k hk h2 (by (try simp only [List.length_append]); omega)) (?_))
  simp only [List.append_assoc, Bool.or_assoc, Bool.not_and, Bool.not_true, Bool.or_false, Bool.true_and, Bool.and_true]
theorem fB117 (k : Nat) (hk : 17000000 ≤ k)  (h1 : row.length ≤ 1048576) (hb : b.length + ((wRow row).length) ≤ 10000000000000) : fB53.run (k + 20) b jT id_ id1 row jU = some ((b ++ wRow row, ()), ((), (), jT || !(Rw.rights row), ()), (id_, id1, row, jU, ()), ()) := by
  have hq := Rw.fB87 (k + 11) row (by omega) (by omega)
  unfold Rw.encR at hq
  unfold wRow at hb ⊢
  by_cases h : Rw.rights row = true
  · rw [if_pos h] at hq hb ⊢
    rw [h]
    exact go_o hq (go_o (w_text k (by omega)) (go_o (fD3 _ _ _ _) rfl))
  · rw [if_neg h] at hq hb ⊢
    have h' : Rw.rights row = false := by simpa using h
    rw [h']
    exact go_o hq (go_o (w_text k (by omega)) (go_o (fD3 _ _ _ _) rfl))
theorem fA113 (k : Nat) (hk : 17000000 ≤ k)  (h1 : U64 jU) (hb : b.length + ((wLong jU).length) ≤ 10000000000000) : fC45.run (k + 20) b jT id_ id1 row jU = some ((b ++ wLong jU, ()), (id_, id1, row, jU, ()), ()) := by
  exact go_o (w_long k h1 (by (try simp only [List.length_append]); omega)) rfl
theorem fD99 (k : Nat) (hk : 17000000 ≤ k)  (h1 : U64 id_) (h2 : U32 id1) (h3 : row.length ≤ 1048576) (h4 : U64 jU) (hb : b.length + ((wLong id_).length + ((wWord id1).length + ((wRow row).length + ((wLong jU).length)))) ≤ 10000000000000) : fA32.run (k + 20) b jT id_ id1 row jU = some ((b ++ (wLong id_ ++ (wWord id1 ++ (wRow row ++ (wLong jU)))), ()), ((), (), jT || !(Rw.rights row), ()), (id_, id1, row, jU, ()), ()) := by
  refine go_o (fB111 k hk h1 h2 (by (try simp only [List.length_append]); omega)) (go_o (fB117 k hk h3 (by (try simp only [List.length_append]); omega)) (go_o (fA113 k hk h4 (by (try simp only [List.length_append]); omega)) (?_)))
  simp only [List.append_assoc, Bool.or_assoc, Bool.not_and, Bool.not_true, Bool.or_false, Bool.true_and, Bool.and_true]
theorem fB94 (k : Nat) (hk : 17000000 ≤ k) {b : List UInt8} {jT : Bool} (x : Ver) (hx : BVer x) (hb : b.length + (wVer x).length ≤ 10000000000000) : fA32.run (k + 20) b jT x.1.1 x.1.2 x.2.1 x.2.2 = some ((b ++ wVer x, ()), ((), (), jT || !(oVer x), ()), (x.1.1, x.1.2, x.2.1, x.2.2, ()), ()) :=
  (fD99 k hk hx.1.1 hx.1.2.1 hx.2 hx.1.2.2.2 (by unfold wVer at hb; simp only [List.length_append] at hb; omega)).trans (by simp only [wVer, oVer, Bool.and_assoc, Bool.and_true])
theorem fC73 (k : Nat) (hk : 17000000 ≤ k) (l : List Ver) (hl : l.length ≤ 16777216) : ∀ (suf pre : List Ver) (b : List UInt8) (jT : Bool) (fuel : Nat), l = pre ++ suf → (∀ x ∈ suf, BVer x) → suf.length < fuel → b.length + (suf.flatMap wVer).length ≤ 10000000000000 →
    fA11.go (k + 20) fuel b jT l (l.length : Int) (pre.length : Int) = some ((b ++ suf.flatMap wVer, ()), ((), (), jT || !(suf.all oVer), ()), ())
  | _, _, _, _, 0, _, _, h, _ => absurd h (Nat.not_lt_zero _)
  | [], pre, b, jT, fuel + 1, e, _, _, _ => by
    rw [List.flatMap_nil, List.append_nil, List.all_nil, Bool.not_true, Bool.or_false]
    exact go_n (by rw [e]; simp) rfl
  | x :: suf, pre, b, jT, fuel + 1, e, hF, hf, hb => by
    have hlt : pre.length < l.length := by rw [e]; simp
    have hgd : l.getD ((pre.length : Int)).toNat (((0 : Int), (0 : Int)), ([] : List T4), (0 : Int)) = x := by rw [e]; exact fB63 _ _ _ _
    have hx := hF x (List.mem_cons_self ..)
    rw [List.flatMap_cons] at hb ⊢
    simp only [List.length_append] at hb
    have ih := fC73 k hk l hl suf (pre ++ [x]) (b ++ wVer x) (jT || !(oVer x)) fuel (by rw [e]; simp) (fun y hy => hF y (List.mem_cons_of_mem _ hy)) (by simp at hf; omega) (by simp only [List.length_append]; omega)
    rw [show ((pre ++ [x]).length : Int) = ((pre.length + 1 : Nat) : Int) by simp] at ih
    refine go_d (by omega) (go_t (inB_nat hlt) ?_)
    rw [hgd]
    refine go_o (fB94 k hk x hx (by omega)) ?_
    rw [wrap_succ pre.length (by omega)]
    refine ih.trans ?_
    simp only [List.append_assoc, List.all_cons, Bool.or_assoc, Bool.not_and]
theorem fA85 (k : Nat) (hk : 17000000 ≤ k)  (h1 : ∀ x ∈ jQ, BVer x) (h2 : jQ.length ≤ 16777216) (hb : b.length + ((wList wVer jQ).length) ≤ 10000000000000) : fB8.run (k + 20) b jT jA jB_ jC_ jD jE jF jG jH jI jJ jK jL jM jN jO_ jO1 jP jP1 jQ = some ((b ++ wList wVer jQ, ()), ((), (), jT || !(jQ.all oVer), ()), (jA, jB_, jC_, jD, jE, jF, jG, jH, jI, jJ, jK, jL, jM, jN, jO_, jO1, jP, jP1, jQ, ()), ()) := by
  unfold wList at hb ⊢
  simp only [List.length_append] at hb
  refine go_o (w_len k (n := jQ.length) (b := b) h2 (by omega)) (go_o (fC73 k hk jQ h2 jQ [] _ jT (k + 20) rfl h1 (by omega) (by simp only [List.length_append]; omega)) ?_)
  simp only [List.append_assoc]
theorem fC79 (k : Nat) (hk : 17000000 ≤ k)  (h1 : ∀ x ∈ jQ, BVer x) (h2 : jQ.length ≤ 16777216) (hb : b.length + ((wList wVer jQ).length) ≤ 10000000000000) : fD16.run (k + 20) b jT jA jB_ jC_ jD jE jF jG jH jI jJ jK jL jM jN jO_ jO1 jP jP1 jQ = some ((b ++ (wList wVer jQ), ()), ((), (), jT || !(jQ.all oVer), ()), (jA, jB_, jC_, jD, jE, jF, jG, jH, jI, jJ, jK, jL, jM, jN, jO_, jO1, jP, jP1, jQ, ()), ()) := by
  refine go_o (fA85 k hk h1 h2 (by (try simp only [List.length_append]); omega)) (?_)
  simp only [List.append_assoc, Bool.or_assoc, Bool.not_and, Bool.not_true, Bool.or_false, Bool.true_and, Bool.and_true]
theorem fC91 (k : Nat) (hk : 17000000 ≤ k)  (h1 : U64 jI) (h2 : ∀ x ∈ jQ, BVer x) (h3 : jQ.length ≤ 16777216) (hb : b.length + ((wLong jI).length + ((wPlace jO_).length + ((wPlace jO1).length + ((wTruth jM).length + ((wList wVer jQ).length))))) ≤ 10000000000000) : fB31.run (k + 20) b jT jA jB_ jC_ jD jE jF jG jH jI jJ jK jL jM jN jO_ jO1 jP jP1 jQ = some ((b ++ (wLong jI ++ (wPlace jO_ ++ (wPlace jO1 ++ (wTruth jM ++ (wList wVer jQ))))), ()), ((), (), jT || !(oPlace jO_ && (oPlace jO1 && (jQ.all oVer))), ()), (jA, jB_, jC_, jD, jE, jF, jG, jH, jI, jJ, jK, jL, jM, jN, jO_, jO1, jP, jP1, jQ, ()), ()) := by
  refine go_o (fC76 k hk h1 (by (try simp only [List.length_append]); omega)) (go_o (fB69 k hk (by (try simp only [List.length_append]); omega)) (go_o (fC99 k hk (by (try simp only [List.length_append]); omega)) (go_o (fC79 k hk h2 h3 (by (try simp only [List.length_append]); omega)) (?_))))
  simp only [List.append_assoc, Bool.or_assoc, Bool.not_and, Bool.not_true, Bool.or_false, Bool.true_and, Bool.and_true]
theorem fA98 (k : Nat) (hk : 17000000 ≤ k)  (hb : b.length + ((wTruth jN).length) ≤ 10000000000000) : fC37.run (k + 20) b jT jA jB_ jC_ jD jE jF jG jH jI jJ jK jL jM jN jO_ jO1 jP jP1 jQ = some ((b ++ wTruth jN, ()), ((), (), jT || !true, ()), (jA, jB_, jC_, jD, jE, jF, jG, jH, jI, jJ, jK, jL, jM, jN, jO_, jO1, jP, jP1, jQ, ()), ()) := by
  have hl : (wTruth jN).length = 1 := rfl
  rw [hl] at hb
  cases jN
  · exact go_f rfl (go_o (fD63 k hk (by show b.length + 1 ≤ _; omega)) rfl)
  · exact go_t rfl (go_o (fD63 k hk (by show b.length + 1 ≤ _; omega)) rfl)
theorem fB93 (k : Nat) (hk : 17000000 ≤ k)  (h1 : U64 jI) (h2 : U64 jF) (hb : b.length + ((wLong jI).length + ((wLong jF).length + ((wTruth jN).length))) ≤ 10000000000000) : fC30.run (k + 20) b jT jA jB_ jC_ jD jE jF jG jH jI jJ jK jL jM jN jO_ jO1 jP jP1 jQ = some ((b ++ (wLong jI ++ (wLong jF ++ (wTruth jN))), ()), ((), (), jT || !(true), ()), (jA, jB_, jC_, jD, jE, jF, jG, jH, jI, jJ, jK, jL, jM, jN, jO_, jO1, jP, jP1, jQ, ()), ()) := by
  refine go_o (fB80 k hk h1 h2 (by (try simp only [List.length_append]); omega)) (go_o (fA98 k hk (by (try simp only [List.length_append]); omega)) (?_))
  simp only [List.append_assoc, Bool.or_assoc, Bool.not_and, Bool.not_true, Bool.or_false, Bool.true_and, Bool.and_true]
theorem fC105 (k : Nat) (hk : 17000000 ≤ k)  (hb : b.length + ((wByte jK).length) ≤ 10000000000000) : fC48.run (k + 20) b jT jA jB_ jC_ jD jE jF jG jH jI jJ jK jL jM jN jO_ jO1 jP jP1 jQ most = some ((b ++ wByte jK, ()), ((), (), jT || !(oByte jK most), ()), (jA, jB_, jC_, jD, jE, jF, jG, jH, jI, jJ, jK, jL, jM, jN, jO_, jO1, jP, jP1, jQ, ()), ()) := by
  have hq := fB77 (k + 20) b (Hay.u8 (IntKind.u8.wrap jK)) (by omega)
  by_cases h : jK ≥ (0 : Int)
  · exact go_o hq (go_d h (go_o (fD3 _ _ _ _) (by simp [oByte, wByte, h])))
  · exact go_o hq (go_n h (go_o (fD3 _ _ _ _) (by simp [oByte, wByte, h])))
theorem fC113 (k : Nat) (hk : 17000000 ≤ k)  (hb : b.length + ((wByte jK).length) ≤ 10000000000000) : fB49.run (k + 20) b jT jA jB_ jC_ jD jE jF jG jH jI jJ jK jL jM jN jO_ jO1 jP jP1 jQ = some ((b ++ (wByte jK), ()), ((), (), jT || !(oByte jK (8 : Int)), ()), (jA, jB_, jC_, jD, jE, jF, jG, jH, jI, jJ, jK, jL, jM, jN, jO_, jO1, jP, jP1, jQ, ()), ()) := by
  refine go_o (fC105 k hk (by (try simp only [List.length_append]); omega)) (?_)
  simp only [List.append_assoc, Bool.or_assoc, Bool.not_and, Bool.not_true, Bool.or_false, Bool.true_and, Bool.and_true]
theorem fD76 (k : Nat) (hk : 17000000 ≤ k)  (h1 : U64 jJ) (hb : b.length + ((wLong jJ).length) ≤ 10000000000000) : fB13.run (k + 20) b jT jA jB_ jC_ jD jE jF jG jH jI jJ jK jL jM jN jO_ jO1 jP jP1 jQ = some ((b ++ wLong jJ, ()), (jA, jB_, jC_, jD, jE, jF, jG, jH, jI, jJ, jK, jL, jM, jN, jO_, jO1, jP, jP1, jQ, ()), ()) := by
  exact go_o (w_long k h1 (by (try simp only [List.length_append]); omega)) rfl
theorem fD81 (k : Nat) (hk : 17000000 ≤ k)  (h1 : U64 jG) (hb : b.length + ((wLong jG).length) ≤ 10000000000000) : fB25.run (k + 20) b jT jA jB_ jC_ jD jE jF jG jH jI jJ jK jL jM jN jO_ jO1 jP jP1 jQ = some ((b ++ wLong jG, ()), (jA, jB_, jC_, jD, jE, jF, jG, jH, jI, jJ, jK, jL, jM, jN, jO_, jO1, jP, jP1, jQ, ()), ()) := by
  exact go_o (w_long k h1 (by (try simp only [List.length_append]); omega)) rfl
theorem fD100 (k : Nat) (hk : 17000000 ≤ k)  (h1 : U64 jG) (h2 : U64 jF) (hb : b.length + ((wLong jG).length + ((wLong jF).length)) ≤ 10000000000000) : fA37.run (k + 20) b jT jA jB_ jC_ jD jE jF jG jH jI jJ jK jL jM jN jO_ jO1 jP jP1 jQ = some ((b ++ (wLong jG ++ (wLong jF)), ()), (jA, jB_, jC_, jD, jE, jF, jG, jH, jI, jJ, jK, jL, jM, jN, jO_, jO1, jP, jP1, jQ, ()), ()) := by
  refine go_o (fD81 k hk h1 (by (try simp only [List.length_append]); omega)) (go_o (fC63 k hk h2 (by (try simp only [List.length_append]); omega)) (?_))
  simp only [List.append_assoc, Bool.or_assoc, Bool.not_and, Bool.not_true, Bool.or_false, Bool.true_and, Bool.and_true]
theorem fC93 (k : Nat) (hk : 17000000 ≤ k)  (h1 : U64 jJ) (h2 : U64 jG) (h3 : U64 jF) (hb : b.length + ((wByte jK).length + ((wLong jJ).length + ((wPlace jO_).length + ((wPlace jO1).length + ((wLong jG).length + ((wLong jF).length)))))) ≤ 10000000000000) : fA30.run (k + 20) b jT jA jB_ jC_ jD jE jF jG jH jI jJ jK jL jM jN jO_ jO1 jP jP1 jQ = some ((b ++ (wByte jK ++ (wLong jJ ++ (wPlace jO_ ++ (wPlace jO1 ++ (wLong jG ++ (wLong jF)))))), ()), ((), (), jT || !(oByte jK (8 : Int) && (oPlace jO_ && (oPlace jO1))), ()), (jA, jB_, jC_, jD, jE, jF, jG, jH, jI, jJ, jK, jL, jM, jN, jO_, jO1, jP, jP1, jQ, ()), ()) := by
  refine go_o (fC113 k hk (by (try simp only [List.length_append]); omega)) (go_o (fD76 k hk h1 (by (try simp only [List.length_append]); omega)) (go_o (fB69 k hk (by (try simp only [List.length_append]); omega)) (go_o (fD100 k hk h2 h3 (by (try simp only [List.length_append]); omega)) (?_))))
  simp only [List.append_assoc, Bool.or_assoc, Bool.not_and, Bool.not_true, Bool.or_false, Bool.true_and, Bool.and_true]
theorem fB98 (k : Nat) (hk : 17000000 ≤ k)  (h1 : U64 jG) (h2 : U64 jF) (h3 : U64 jH) (hb : b.length + ((wLong jG).length + ((wLong jF).length + ((wLong jH).length))) ≤ 10000000000000) : fC35.run (k + 20) b jT jA jB_ jC_ jD jE jF jG jH jI jJ jK jL jM jN jO_ jO1 jP jP1 jQ = some ((b ++ (wLong jG ++ (wLong jF ++ (wLong jH))), ()), (jA, jB_, jC_, jD, jE, jF, jG, jH, jI, jJ, jK, jL, jM, jN, jO_, jO1, jP, jP1, jQ, ()), ()) := by
  refine go_o (fD81 k hk h1 (by (try simp only [List.length_append]); omega)) (go_o (fC63 k hk h2 (by (try simp only [List.length_append]); omega)) (go_o (fA76 k hk h3 (by (try simp only [List.length_append]); omega)) (?_)))
  simp only [List.append_assoc, Bool.or_assoc, Bool.not_and, Bool.not_true, Bool.or_false, Bool.true_and, Bool.and_true]
theorem fC89 (k : Nat) (hk : 17000000 ≤ k)  (h1 : U64 jJ) (h2 : U64 jG) (h3 : U64 jF) (h4 : U64 jH) (h5 : ∀ x ∈ jQ, BVer x) (h6 : jQ.length ≤ 16777216) (hb : b.length + ((wLong jJ).length + ((wPlace jO_).length + ((wPlace jO1).length + ((wLong jG).length + ((wLong jF).length + ((wLong jH).length + ((wList wVer jQ).length))))))) ≤ 10000000000000) : fC29.run (k + 20) b jT jA jB_ jC_ jD jE jF jG jH jI jJ jK jL jM jN jO_ jO1 jP jP1 jQ = some ((b ++ (wLong jJ ++ (wPlace jO_ ++ (wPlace jO1 ++ (wLong jG ++ (wLong jF ++ (wLong jH ++ (wList wVer jQ))))))), ()), ((), (), jT || !(oPlace jO_ && (oPlace jO1 && (jQ.all oVer))), ()), (jA, jB_, jC_, jD, jE, jF, jG, jH, jI, jJ, jK, jL, jM, jN, jO_, jO1, jP, jP1, jQ, ()), ()) := by
  refine go_o (fD76 k hk h1 (by (try simp only [List.length_append]); omega)) (go_o (fB69 k hk (by (try simp only [List.length_append]); omega)) (go_o (fB98 k hk h2 h3 h4 (by (try simp only [List.length_append]); omega)) (go_o (fC79 k hk h5 h6 (by (try simp only [List.length_append]); omega)) (?_))))
  simp only [List.append_assoc, Bool.or_assoc, Bool.not_and, Bool.not_true, Bool.or_false, Bool.true_and, Bool.and_true]
theorem fB103 (k : Nat) (hk : 17000000 ≤ k)  (h1 : U64 jJ) (h2 : U64 jF) (hb : b.length + ((wLong jJ).length + ((wLong jF).length)) ≤ 10000000000000) : fD38.run (k + 20) b jT jA jB_ jC_ jD jE jF jG jH jI jJ jK jL jM jN jO_ jO1 jP jP1 jQ = some ((b ++ (wLong jJ ++ (wLong jF)), ()), (jA, jB_, jC_, jD, jE, jF, jG, jH, jI, jJ, jK, jL, jM, jN, jO_, jO1, jP, jP1, jQ, ()), ()) := by
  refine go_o (fD76 k hk h1 (by (try simp only [List.length_append]); omega)) (go_o (fC63 k hk h2 (by (try simp only [List.length_append]); omega)) (?_))
  simp only [List.append_assoc, Bool.or_assoc, Bool.not_and, Bool.not_true, Bool.or_false, Bool.true_and, Bool.and_true]
theorem fD87 (k : Nat) (hk : 17000000 ≤ k)  (h1 : U64 jJ) (h2 : U64 jF) (hb : b.length + ((wLong jJ).length + ((wLong jF).length)) ≤ 10000000000000) : fA26.run (k + 20) b jT jA jB_ jC_ jD jE jF jG jH jI jJ jK jL jM jN jO_ jO1 jP jP1 jQ = some ((b ++ (wLong jJ ++ (wLong jF)), ()), (jA, jB_, jC_, jD, jE, jF, jG, jH, jI, jJ, jK, jL, jM, jN, jO_, jO1, jP, jP1, jQ, ()), ()) := by
  refine go_o (fB103 k hk h1 h2 (by (try simp only [List.length_append]); omega)) (?_)
  simp only [List.append_assoc, Bool.or_assoc, Bool.not_and, Bool.not_true, Bool.or_false, Bool.true_and, Bool.and_true]
theorem fB88 (k : Nat) (hk : 17000000 ≤ k)  (h1 : U64 jH) (hb : b.length + ((wLong jH).length) ≤ 10000000000000) : fD25.run (k + 20) b jT jA jB_ jC_ jD jE jF jG jH jI jJ jK jL jM jN jO_ jO1 jP jP1 jQ = some ((b ++ (wLong jH), ()), (jA, jB_, jC_, jD, jE, jF, jG, jH, jI, jJ, jK, jL, jM, jN, jO_, jO1, jP, jP1, jQ, ()), ()) := by
  refine go_o (fA76 k hk h1 (by (try simp only [List.length_append]); omega)) (?_)
  simp only [List.append_assoc, Bool.or_assoc, Bool.not_and, Bool.not_true, Bool.or_false, Bool.true_and, Bool.and_true]
theorem fA89 (k : Nat) (hk : 17000000 ≤ k)  (h1 : U64 jI) (hb : b.length + ((wLong jI).length) ≤ 10000000000000) : fB26.run (k + 20) b jT jA jB_ jC_ jD jE jF jG jH jI jJ jK jL jM jN jO_ jO1 jP jP1 jQ = some ((b ++ (wLong jI), ()), (jA, jB_, jC_, jD, jE, jF, jG, jH, jI, jJ, jK, jL, jM, jN, jO_, jO1, jP, jP1, jQ, ()), ()) := by
  refine go_o (fC76 k hk h1 (by (try simp only [List.length_append]); omega)) (?_)
  simp only [List.append_assoc, Bool.or_assoc, Bool.not_and, Bool.not_true, Bool.or_false, Bool.true_and, Bool.and_true]
end
end Go.Hay.YtpgamibdlinhjaaGreat
