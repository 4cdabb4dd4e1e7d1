/- The document's writers of messages: what they come to. Conditions: sizes below a bound, numbers that fit. -/
import Derived.Test.YtpgamibdlinhjaaGreatLwh
set_option linter.unusedVariables false
set_option linter.unusedSimpArgs false
namespace Go.Hay.YtpgamibdlinhjaaGreat
open Go Go.Hay Go.Proofs

theorem fC83 (N : Nat) (b : List UInt8) (bad ok_ : Bool) : fC15.run N b bad ok_ = some ((b, bad || !ok_, ()), ()) := by cases bad <;> cases ok_ <;> rfl
theorem fD112 (k : Nat) {b : List UInt8} {bad : Bool} (n m : Nat) (hm : m ≤ 8) (hn : n < 18446744073709551616) (hb : b.length ≤ 10000000000000) : fB3.run (k + 20) b bad (n : Int) (m : Int) = some ((b ++ numB m n, bad, ()), ()) :=
  go_o (fC84 (k + 11) n m hm hn) (go_t (room_t (by rw [fA9]; omega) (by rw [fA9]; omega)) rfl)
theorem fA126 (k : Nat) {b : List UInt8} {bad : Bool} {n : Int} (h : U64 n) (hb : b.length ≤ 10000000000000) : fB3.run (k + 20) b bad n (8 : Int) = some ((b ++ wLong n, bad, ()), ()) := by
  obtain ⟨m, rfl⟩ := Int.eq_ofNat_of_zero_le h.1
  unfold wLong
  rw [Int.toNat_natCast]
  exact fD112 k m 8 (by omega) (by have := h.2; omega) hb
theorem fC142 (k : Nat) {b : List UInt8} {bad : Bool} {n : Int} (h : U32 n) (hb : b.length ≤ 10000000000000) : fB3.run (k + 20) b bad (IntKind.u64.wrap n) (4 : Int) = some ((b ++ wWord n, bad, ()), ()) := by
  obtain ⟨m, rfl⟩ := Int.eq_ofNat_of_zero_le h.1
  have e : IntKind.u64.wrap ((m : Nat) : Int) = ((m : Nat) : Int) := by have := h.2; rw [w_u64]; omega
  unfold wWord
  rw [Int.toNat_natCast, e]
  exact fD112 k m 4 (by omega) (by have := h.2; omega) hb
theorem fA140 (n : Int) : wByte n = numB 1 (n % 256).toNat := by
  have h : 0 ≤ n % 256 := by omega
  have e : IntKind.u8.wrap n = (((n % 256).toNat : Nat) : Int) := by rw [w_u8]; omega
  have e2 : IntKind.u8.wrap n = IntKind.u8.wrap (((n % 256).toNat : Nat) : Int) := by rw [w_u8, w_u8]; omega
  unfold wByte
  rw [e2, u8_nat]
  simp [numB]
theorem fA99 (k : Nat) {b : List UInt8} {bad : Bool} {n x : Int} (hx : 0 ≤ x) (h2 : x < 18446744073709551616) (he : x % 256 = n % 256) (hb : b.length ≤ 10000000000000) : fB3.run (k + 20) b bad x (1 : Int) = some ((b ++ wByte n, bad, ()), ()) := by
  obtain ⟨m, rfl⟩ := Int.eq_ofNat_of_zero_le hx
  have q := fD112 k (b := b) (bad := bad) m 1 (by omega) (by omega) hb
  have e : numB 1 m = wByte n := by
    rw [fA140]
    have : (n % 256).toNat = m % 256 := by omega
    rw [this]
    simp [numB]
  rw [e] at q
  exact q
theorem fA125 (k : Nat) {b : List UInt8} {bad : Bool} (n : Int) (hb : b.length ≤ 10000000000000) : fA63.run (k + 20) b bad n = some ((b ++ wByte n, bad || !(oByte n 8), ()), ()) := by
  have e1 : 0 ≤ IntKind.u64.wrap n ∧ IntKind.u64.wrap n < 18446744073709551616 := by rw [w_u64]; omega
  have e2 : (IntKind.u64.wrap n).tmod 256 = IntKind.u64.wrap n % 256 := Int.tmod_eq_emod_of_nonneg e1.1
  have e3 : (IntKind.u64.wrap n).tmod 256 % 256 = n % 256 := by rw [e2, w_u64]; omega
  by_cases h : n ≥ 0
  · exact go_d h (go_o (fC83 _ _ _ _) (go_o (fA99 k (n := n) (by rw [e2]; omega) (by rw [e2]; omega) e3 hb) (by simp [oByte, h])))
  · exact go_n h (go_o (fC83 _ _ _ _) (go_o (fA99 k (n := n) (by rw [e2]; omega) (by rw [e2]; omega) e3 hb) (by simp [oByte, h])))
theorem fD156 (k : Nat) {b : List UInt8} {bad : Bool} (t : Bool) (hb : b.length ≤ 10000000000000) : fA62.run (k + 20) b bad t = some ((b ++ wTruth t, bad, ()), ()) := by
  cases t
  · exact go_f rfl (go_o (fA99 k (n := 0) (by decide) (by decide) rfl hb) rfl)
  · exact go_t rfl (go_o (fA99 k (n := 1) (by decide) (by decide) rfl hb) rfl)
theorem rw_var (k : Nat) (n : Int) : fB28.run (k + 20) (IntKind.u64.wrap n) = some (wPlace n, ()) := by
  have e : IntKind.u64.wrap n = (((IntKind.u64.wrap n).toNat : Nat) : Int) := by
    have : 0 ≤ IntKind.u64.wrap n := by rw [w_u64]; omega
    omega
  have e2 : (IntKind.u64.wrap n).toNat < 18446744073709551616 := by
    have : IntKind.u64.wrap n < 18446744073709551616 := by rw [w_u64]; omega
    omega
  unfold wPlace
  generalize (IntKind.u64.wrap n).toNat = m at e e2 ⊢
  rw [e]
  exact rf_var (k + 11) m e2
theorem fC122 (k : Nat) {b : List UInt8} {bad : Bool} {n : Nat} (hn : n ≤ 16777216) (hb : b.length ≤ 10000000000000) : fB63.run (k + 20) b bad (n : Int) = some ((b ++ varB n, bad, ()), ()) := by
  have := (fD118 n).1
  refine go_o (v := (varB n, ())) ?_ (go_t (room_t (by omega) (by omega)) rfl)
  rw [fB140 n (by omega)]
  exact rf_var (k + 11) n (by omega)
theorem fA162 (N : Nat) (b : List UInt8) (bad : Bool) (p s : Int) : fD33.run N b bad p s = some ((b, bad || !(oPlace p && oPlace s), ()), ()) := by
  unfold fD33.run oPlace oByte
  by_cases h1 : p ≥ 0
  · by_cases h2 : p < 2147483648
    · by_cases h3 : s ≥ 0
      · refine go_d h1 (go_d h2 (go_d h3 (go_o (fC83 _ _ _ _) ?_)))
        have e1 : p ≤ 2147483647 := by omega
        have e2 : decide (s < 2147483648) = decide (s ≤ 2147483647) := by rw [Bool.eq_iff_iff]; simp; omega
        simp [h1, h3, e1, e2]
      · exact go_d h1 (go_d h2 (go_n h3 (go_o (fC83 _ _ _ _) (by simp [h3]))))
    · have e1 : ¬ p ≤ 2147483647 := by omega
      exact go_d h1 (go_n h2 (go_o (fC83 _ _ _ _) (by simp [e1])))
  · exact go_n h1 (go_o (fC83 _ _ _ _) (by simp [h1]))
theorem rw_seg (k : Nat) {b : List UInt8} {bad : Bool} (x : Int × Int) (hb : b.length ≤ 10000000000000) : fA12.run (k + 20) b bad x = some ((b ++ (wPlace x.1 ++ wPlace x.2), bad || !(oPlace x.1 && oPlace x.2), ()), ()) := by
  have h1 := fB120 x.1
  have h2 := fB120 x.2
  refine go_o (fA162 _ b bad x.1 x.2) (go_o (rw_var k x.1) (go_t (room_t (by omega) (by omega)) (go_o (rw_var k x.2) (go_t (room_t (by rw [List.length_append]; omega) (by rw [List.length_append]; omega)) ?_))))
  rw [List.append_assoc]
theorem fB142 (k : Nat) {b : List UInt8} {bad : Bool} (x : Int × Int) (h1 : U64 x.1) (h2 : U32 x.2) (hb : b.length ≤ 1000000000000) : fC66.run (k + 20) b bad x = some ((b ++ (wLong x.1 ++ wWord x.2), bad, ()), ()) := by
  have hl : (wLong x.1).length = 8 := fA9 _ _
  refine go_o (fA126 k h1 (by omega)) (go_o (fC142 k h2 (by rw [List.length_append]; omega)) ?_)
  rw [List.append_assoc]
theorem rw_row (k : Nat) (hk : 17000000 ≤ k) {b : List UInt8} {bad : Bool} (l : List V) (hl : l.length ≤ 1048576) (hb : b.length + (wRow l).length ≤ 10000000000000) : fA74.run (k + 20) b bad l = some ((b ++ wRow l, bad || !(Rw.rights l), ()), ()) := by
  have hq := Rw.fC131 (k + 11) l (by omega) (by omega)
  unfold Rw.encR at hq
  unfold wRow at hb ⊢
  by_cases h : Rw.rights l = true
  · rw [if_pos h] at hq hb ⊢
    have ht : (Rw.enc l).length ≤ (textB (Rw.enc l)).length := by unfold textB; rw [List.length_append]; omega
    refine go_o hq (go_o (fC83 _ _ _ _) (go_o (fB141 (k + 11) (Rw.enc l) (by omega)) (go_t (room_t (by omega) (by omega)) ?_)))
    rw [h]
    rfl
  · rw [if_neg h] at hq hb ⊢
    have h' : Rw.rights l = false := by simpa using h
    refine go_o hq (go_o (fC83 _ _ _ _) (go_o (fB141 (k + 11) [] (by simp)) (go_t (room_t (by omega) (by omega)) ?_)))
    rw [h']
    rfl
theorem fC161 (N : Nat) (b : List UInt8) (bad : Bool) (a c d e : Int) (l : List V) (f : Int) : fD49.run N b bad a c d e l f = some ((b, bad || !(decide (d = 0) && decide (f = 0)), ()), ()) := by
  by_cases h : d = (0 : Int)
  · exact go_d h (go_o (fC83 _ _ _ _) (by simp [h]))
  · exact go_n h (go_o (fC83 _ _ _ _) (by simp [h]))
theorem fD132 (k : Nat) (hk : 17000000 ≤ k) (l : List Ins) (er : List Ers) (hl : l.length ≤ 16777216) : ∀ (suf pre : List Ins) (b : List UInt8) (bad : Bool) (fuel : Nat), l = pre ++ suf → (∀ x ∈ suf, BIns x) → suf.length < fuel → b.length + (suf.flatMap wIns).length ≤ 1000000000000 →
    fB22.go (k + 20) fuel b bad l er (pre.length : Int) = some ((b ++ suf.flatMap wIns, bad || !(suf.all oIns), ()), ())
  | _, _, _, _, 0, _, _, h, _ => absurd h (Nat.not_lt_zero _)
  | [], pre, b, bad, fuel + 1, e, _, _, _ => by
    rw [List.flatMap_nil, List.append_nil, List.all_nil, Bool.not_true, Bool.or_false]
    exact go_n (by rw [e]; simp) rfl
  | x :: suf, pre, b, bad, fuel + 1, e, hF, hf, hb => by
    have hlt : pre.length < l.length := by rw [e]; simp
    have hgd : l.getD ((pre.length : Int)).toNat (((0 : Int), (0 : Int)), ((0 : Int), (0 : Int)), ([] : List V), (0 : Int)) = x := by rw [e]; exact fD74 _ _ _ _
    have hx := hF x (List.mem_cons_self ..)
    rw [List.flatMap_cons] at hb ⊢
    have hw : (wIns x).length = (wPlace x.1.1).length + ((wPlace x.1.2).length + ((wWord x.2.1.2).length + (wRow x.2.2.1).length)) := by unfold wIns; simp only [List.length_append]
    simp only [List.length_append] at hb
    have ih := fD132 k hk l er hl suf (pre ++ [x]) (b ++ wIns x) (bad || !(oIns x)) fuel (by rw [e]; simp) (fun y hy => hF y (List.mem_cons_of_mem _ hy)) (by simp at hf; omega) (by simp only [List.length_append]; omega)
    rw [show ((pre ++ [x]).length : Int) = ((pre.length + 1 : Nat) : Int) by simp] at ih
    refine go_d (by omega) (go_t (inB_nat hlt) ?_)
    rw [hgd]
    refine go_o (fC161 _ _ _ _ _ _ _ _ _) (go_o (rw_seg k x.1 (by omega)) (go_o (fC142 k hx.1.2.2.2.1 (by simp only [List.length_append]; omega)) (go_o (rw_row k hk x.2.2.1 hx.2 (by simp only [List.length_append]; omega)) ?_)))
    rw [wrap_succ pre.length (by omega)]
    have e1 : ((b ++ (wPlace x.1.1 ++ wPlace x.1.2)) ++ wWord x.2.1.2) ++ wRow x.2.2.1 = b ++ wIns x := by unfold wIns; simp only [List.append_assoc]
    have e2 : (((bad || !(decide (x.2.1.1 = 0) && decide (x.2.2.2 = 0))) || !(oPlace x.1.1 && oPlace x.1.2)) || !(Rw.rights x.2.2.1)) = (bad || !(oIns x)) := by unfold oIns; simp only [Bool.or_assoc, Bool.not_and]
    rw [e1, e2]
    refine ih.trans ?_
    simp only [List.append_assoc, List.all_cons, Bool.or_assoc, Bool.not_and]
theorem fB134 (k : Nat) (hk : 17000000 ≤ k) (ins : List Ins) (l : List Ers) (hl : l.length ≤ 16777216) : ∀ (suf pre : List Ers) (b : List UInt8) (bad : Bool) (fuel : Nat), l = pre ++ suf → (∀ x ∈ suf, BErs x) → suf.length < fuel → b.length + (suf.flatMap wErs).length ≤ 1000000000000 →
    fA60.go (k + 20) fuel b bad ins l (pre.length : Int) = some ((b ++ suf.flatMap wErs, bad || !(suf.all oErs), ()), ())
  | _, _, _, _, 0, _, _, h, _ => absurd h (Nat.not_lt_zero _)
  | [], pre, b, bad, fuel + 1, e, _, _, _ => by
    rw [List.flatMap_nil, List.append_nil, List.all_nil, Bool.not_true, Bool.or_false]
    exact go_n (by rw [e]; simp) rfl
  | x :: suf, pre, b, bad, fuel + 1, e, hF, hf, hb => by
    have hlt : pre.length < l.length := by rw [e]; simp
    have hgd : l.getD ((pre.length : Int)).toNat (((0 : Int), (0 : Int)), (0 : Int), (0 : Int)) = x := by rw [e]; exact fD74 _ _ _ _
    have hx := hF x (List.mem_cons_self ..)
    rw [List.flatMap_cons] at hb ⊢
    have hw : (wErs x).length = (wPlace x.1.1).length + ((wPlace x.1.2).length + ((wLong x.2.1).length + (wWord x.2.2).length)) := by unfold wErs; simp only [List.length_append]
    simp only [List.length_append] at hb
    have ih := fB134 k hk ins l hl suf (pre ++ [x]) (b ++ wErs x) (bad || !(oErs x)) fuel (by rw [e]; simp) (fun y hy => hF y (List.mem_cons_of_mem _ hy)) (by simp at hf; omega) (by simp only [List.length_append]; omega)
    rw [show ((pre ++ [x]).length : Int) = ((pre.length + 1 : Nat) : Int) by simp] at ih
    refine go_d (by omega) (go_t (inB_nat hlt) ?_)
    rw [hgd]
    refine go_o (rw_seg k x.1 (by omega)) (go_t (inB_nat hlt) (go_o (fB142 k x.2 hx.2.2.1 hx.2.2.2 (by simp only [List.length_append]; omega)) ?_))
    rw [wrap_succ pre.length (by omega)]
    have e1 : (b ++ (wPlace x.1.1 ++ wPlace x.1.2)) ++ (wLong x.2.1 ++ wWord x.2.2) = b ++ wErs x := by unfold wErs; simp only [List.append_assoc]
    have e2 : (bad || !(oPlace x.1.1 && oPlace x.1.2)) = (bad || !(oErs x)) := rfl
    rw [e1, e2]
    refine ih.trans ?_
    simp only [List.append_assoc, List.all_cons, Bool.or_assoc, Bool.not_and]
theorem fA134 (k : Nat) (hk : 17000000 ≤ k) (l : List Ver) (hl : l.length ≤ 16777216) : ∀ (suf pre : List Ver) (b : List UInt8) (bad : Bool) (fuel : Nat), l = pre ++ suf → (∀ x ∈ suf, BVer x) → suf.length < fuel → b.length + (suf.flatMap wVer).length ≤ 1000000000000 →
    fA29.go (k + 20) fuel b bad l (pre.length : Int) = some ((b ++ suf.flatMap wVer, bad || !(suf.all oVer), ()), ())
  | _, _, _, _, 0, _, _, h, _ => absurd h (Nat.not_lt_zero _)
  | [], pre, b, bad, fuel + 1, e, _, _, _ => by
    rw [List.flatMap_nil, List.append_nil, List.all_nil, Bool.not_true, Bool.or_false]
    exact go_n (by rw [e]; simp) rfl
  | x :: suf, pre, b, bad, fuel + 1, e, hF, hf, hb => by
    have hlt : pre.length < l.length := by rw [e]; simp
    have hgd : l.getD ((pre.length : Int)).toNat (((0 : Int), (0 : Int)), ([] : List V), (0 : Int)) = x := by rw [e]; exact fD74 _ _ _ _
    have hx := hF x (List.mem_cons_self ..)
    rw [List.flatMap_cons] at hb ⊢
    have hw : (wVer x).length = (wLong x.1.1).length + ((wWord x.1.2).length + ((wRow x.2.1).length + (wLong x.2.2).length)) := by unfold wVer; simp only [List.length_append]
    simp only [List.length_append] at hb
    have ih := fA134 k hk l hl suf (pre ++ [x]) (b ++ wVer x) (bad || !(oVer x)) fuel (by rw [e]; simp) (fun y hy => hF y (List.mem_cons_of_mem _ hy)) (by simp at hf; omega) (by simp only [List.length_append]; omega)
    rw [show ((pre ++ [x]).length : Int) = ((pre.length + 1 : Nat) : Int) by simp] at ih
    refine go_d (by omega) (go_t (inB_nat hlt) ?_)
    rw [hgd]
    refine go_o (fB142 k x.1 hx.1.1 hx.1.2.1 (by omega)) (go_t (inB_nat hlt) (go_o (rw_row k hk x.2.1 hx.2 (by simp only [List.length_append]; omega)) (go_t (inB_nat hlt) (go_o (fA126 k hx.1.2.2.2 (by simp only [List.length_append]; omega)) ?_))))
    rw [wrap_succ pre.length (by omega)]
    have e1 : ((b ++ (wLong x.1.1 ++ wWord x.1.2)) ++ wRow x.2.1) ++ wLong x.2.2 = b ++ wVer x := by unfold wVer; simp only [List.append_assoc]
    have e2 : (bad || !(Rw.rights x.2.1)) = (bad || !(oVer x)) := rfl
    rw [e1, e2]
    refine ih.trans ?_
    simp only [List.append_assoc, List.all_cons, Bool.or_assoc, Bool.not_and]
theorem fB161 (k : Nat) (hk : 17000000 ≤ k) {b : List UInt8} {bad : Bool} (p : List Ins × List Ers) (h1 : p.1.length ≤ 16777216) (h2 : p.2.length ≤ 16777216) (hi : ∀ x ∈ p.1, BIns x) (he : ∀ x ∈ p.2, BErs x)
    (hb : b.length + ((wList wIns p.1).length + (wList wErs p.2).length) ≤ 1000000000000) : fB21.run (k + 20) b bad p = some ((b ++ (wList wIns p.1 ++ wList wErs p.2), bad || !(p.1.all oIns && p.2.all oErs), ()), ()) := by
  unfold wList at hb ⊢
  simp only [List.length_append] at hb
  refine go_o (fC122 k h1 (by omega)) (go_o (fD132 k hk p.1 p.2 h1 p.1 [] _ bad (k + 20) rfl hi (by omega) (by simp only [List.length_append]; omega)) (go_o (fC122 k h2 (by simp only [List.length_append]; omega)) (go_o (fB134 k hk p.1 p.2 h2 p.2 [] _ _ (k + 20) rfl he (by omega) (by simp only [List.length_append]; omega)) ?_)))
  simp only [List.append_assoc, Bool.or_assoc, Bool.not_and]
theorem fB160 (k : Nat) (hk : 17000000 ≤ k) {b : List UInt8} {bad : Bool} (l : List Ver) (h1 : l.length ≤ 16777216) (hi : ∀ x ∈ l, BVer x) (hb : b.length + (wList wVer l).length ≤ 1000000000000) : fD18.run (k + 20) b bad l = some ((b ++ wList wVer l, bad || !(l.all oVer), ()), ()) := by
  unfold wList at hb ⊢
  simp only [List.length_append] at hb
  refine go_o (fC122 k h1 (by omega)) (go_o (fA134 k hk l h1 l [] _ bad (k + 20) rfl hi (by omega) (by simp only [List.length_append]; omega)) ?_)
  simp only [List.append_assoc]

/-- A letter's sign. -/
def code : Let → UInt8
  | .x => 120 | .b => 98 | .p => 112 | .y => 121 | .e => 101 | .m => 109 | .q => 113 | .a => 97 | .n => 110 | .v => 118 | .w => 119 | .d => 100 | .t => 116 | .s => 115
theorem fD109 (N : Nat) (kd : Int) : fC38.run N kd = some ((fA1 kd).map code, ()) := by
  unfold fC38.run fA1
  by_cases c1 : kd = 1
  · rw [if_pos c1]; exact go_d c1 rfl
  rw [if_neg c1]; refine go_n c1 ?_
  by_cases c2 : kd = 2
  · rw [if_pos c2]; exact go_d c2 rfl
  rw [if_neg c2]; refine go_n c2 ?_
  by_cases c3 : kd = 3
  · rw [if_pos c3]; exact go_d c3 rfl
  rw [if_neg c3]; refine go_n c3 ?_
  by_cases c4 : kd = 4
  · rw [if_pos c4]; exact go_d c4 rfl
  rw [if_neg c4]; refine go_n c4 ?_
  by_cases c5 : kd = 5
  · rw [if_pos c5]; exact go_d c5 rfl
  rw [if_neg c5]; refine go_n c5 ?_
  by_cases c6 : kd = 6
  · rw [if_pos c6]; exact go_d c6 rfl
  rw [if_neg c6]; refine go_n c6 ?_
  by_cases c7 : kd = 7
  · rw [if_pos c7]; exact go_d c7 rfl
  rw [if_neg c7]; refine go_n c7 ?_
  by_cases c8 : kd = 8
  · rw [if_pos c8]; exact go_d c8 rfl
  rw [if_neg c8]; refine go_n c8 ?_
  by_cases c9 : kd = 9
  · rw [if_pos c9]; exact go_d c9 rfl
  rw [if_neg c9]; refine go_n c9 ?_
  by_cases c10 : kd = 10
  · rw [if_pos c10]; exact go_d c10 rfl
  rw [if_neg c10]; refine go_n c10 ?_
  by_cases c11 : kd = 11
  · rw [if_pos c11]; exact go_d c11 rfl
  rw [if_neg c11]; refine go_n c11 ?_
  by_cases c12 : kd = 12
  · rw [if_pos c12]; exact go_d c12 rfl
  rw [if_neg c12]; exact go_n c12 rfl
theorem fA147 (N : Nat) (m o : Msg) (f : List UInt8) (i : Nat) (c : Let) (h : f[i]? = some (code c)) :
    fB61.run N m.jA m.jB_ m.jC_ m.jD m.jE m.jF m.jG m.jH m.jI m.jJ m.jK m.jL m.jM m.jN m.jO_.1 m.jO_.2 m.jP m.jP1 m.jQ o.jA o.jB_ o.jC_ o.jD o.jE o.jF o.jG o.jH o.jI o.jJ o.jK o.jL o.jM o.jN o.jO_.1 o.jO_.2 o.jP o.jP1 o.jQ f (i : Int) =
      some (((copy c m o).jA, (copy c m o).jB_, (copy c m o).jC_, (copy c m o).jD, (copy c m o).jE, (copy c m o).jF, (copy c m o).jG, (copy c m o).jH, (copy c m o).jI, (copy c m o).jJ, (copy c m o).jK, (copy c m o).jL, (copy c m o).jM, (copy c m o).jN, (copy c m o).jO_.1, (copy c m o).jO_.2, (copy c m o).jP, (copy c m o).jP1, (copy c m o).jQ, ()), ()) := by
  refine go_t (inB_nat (lt_of h)) ?_
  rw [fC81 h]
  cases c <;> rfl
theorem fD130 (N : Nat) (m : Msg) (ls : List Let) (hl : ls.length ≤ 100) : ∀ (suf pre : List Let) (o : Msg) (fuel : Nat), ls = pre ++ suf → suf.length < fuel →
    fD27.go N fuel m.jA m.jB_ m.jC_ m.jD m.jE m.jF m.jG m.jH m.jI m.jJ m.jK m.jL m.jM m.jN m.jO_.1 m.jO_.2 m.jP m.jP1 m.jQ o.jA o.jB_ o.jC_ o.jD o.jE o.jF o.jG o.jH o.jI o.jJ o.jK o.jL o.jM o.jN o.jO_.1 o.jO_.2 o.jP o.jP1 o.jQ (ls.map code) (pre.length : Int) =
      some (((copies suf m o).jA, (copies suf m o).jB_, (copies suf m o).jC_, (copies suf m o).jD, (copies suf m o).jE, (copies suf m o).jF, (copies suf m o).jG, (copies suf m o).jH, (copies suf m o).jI, (copies suf m o).jJ, (copies suf m o).jK, (copies suf m o).jL, (copies suf m o).jM, (copies suf m o).jN, (copies suf m o).jO_.1, (copies suf m o).jO_.2, (copies suf m o).jP, (copies suf m o).jP1, (copies suf m o).jQ, ()), ())
  | _, _, _, 0, _, h => absurd h (Nat.not_lt_zero _)
  | [], pre, o, fuel + 1, e, hf => go_n (by rw [e]; simp) rfl
  | c :: suf, pre, o, fuel + 1, e, hf => by
    have hlt : pre.length < ls.length := by rw [e]; simp
    have hg : (ls.map code)[pre.length]? = some (code c) := by rw [e]; simp
    have ih := fD130 N m ls hl suf (pre ++ [c]) (copy c m o) fuel (by rw [e]; simp) (by simp at hf; omega)
    rw [show ((pre ++ [c]).length : Int) = ((pre.length + 1 : Nat) : Int) by simp] at ih
    refine go_d (by rw [List.length_map]; omega) (go_o (fA147 N m o _ pre.length c hg) ?_)
    rw [wrap_succ pre.length (by omega)]
    exact ih
theorem fC98 (k : Int) : (fA1 k).length ≤ 6 := by
  unfold fA1
  repeat' split
  all_goals decide
theorem fB154 (k : Nat) (m : Msg) : fC57.run (k + 20) (den m) = some (den (taken m), ()) := by
  have hl := fC98 m.jA
  exact go_o (fD109 _ _) (go_o (fD130 (k + 20) m (fA1 m.jA) (by omega) (fA1 m.jA) [] (head m.jA m.jB_ m.jC_) (k + 20) rfl (by omega)) rfl)
theorem fA155 (k : Nat) (hk : 17000000 ≤ k) (m : Msg) (hm : BM m) (c : Let) {b : List UInt8} {bad : Bool} (hb : b.length + (fw c m).length ≤ 1000000000000) : fB71.run (k + 20) b bad (den m) (code c) = some ((b ++ fw c m, bad || !(fo c m), ()), ()) := by
  have e0 : (bad || !true) = bad := by simp
  have hl : ∀ n : Int, U64 n → b.length ≤ 1000000000000 → fB3.run (k + 20) b bad n (8 : Int) = some ((b ++ wLong n, bad || !true, ()), ()) := fun n h hb => by rw [e0]; exact fA126 k h (by omega)
  have ht : ∀ t : Bool, b.length ≤ 1000000000000 → fA62.run (k + 20) b bad t = some ((b ++ wTruth t, bad || !true, ()), ()) := fun t hb => by rw [e0]; exact fD156 k t (by omega)
  have hb' : b.length ≤ 1000000000000 := by omega
  unfold fB71.run
  cases c
  · exact go_d (by decide) (go_o (hl _ (hm.F .x) hb') rfl)
  · exact go_n (by decide) (go_d (by decide) (go_o (hl _ (hm.F .b) hb') rfl))
  · exact go_n (by decide) (go_n (by decide) (go_d (by decide) (go_o (fB161 k hk (m.jP, m.jP1) (hm.F .p).1.2 (hm.F .p).2.2 hm.ins hm.ers (by have : (fw .p m).length = (wList wIns m.jP).length + (wList wErs m.jP1).length := List.length_append; dsimp only; omega)) rfl)))
  · exact go_n (by decide) (go_n (by decide) (go_n (by decide) (go_d (by decide) (go_o (ht _ hb') rfl))))
  · exact go_n (by decide) (go_n (by decide) (go_n (by decide) (go_n (by decide) (go_d (by decide) (go_o (hl _ (hm.F .e) hb') rfl)))))
  · exact go_n (by decide) (go_n (by decide) (go_n (by decide) (go_n (by decide) (go_n (by decide) (go_d (by decide) (go_o (hl _ (hm.F .m) hb') rfl))))))
  · exact go_n (by decide) (go_n (by decide) (go_n (by decide) (go_n (by decide) (go_n (by decide) (go_n (by decide) (go_d (by decide) (go_o (hl _ (hm.F .q) hb') rfl)))))))
  · exact go_n (by decide) (go_n (by decide) (go_n (by decide) (go_n (by decide) (go_n (by decide) (go_n (by decide) (go_n (by decide) (go_d (by decide) (go_o (rw_seg k m.jO_ (by omega)) rfl))))))))
  · exact go_n (by decide) (go_n (by decide) (go_n (by decide) (go_n (by decide) (go_n (by decide) (go_n (by decide) (go_n (by decide) (go_n (by decide) (go_d (by decide) (go_o (ht _ hb') rfl)))))))))
  · exact go_n (by decide) (go_n (by decide) (go_n (by decide) (go_n (by decide) (go_n (by decide) (go_n (by decide) (go_n (by decide) (go_n (by decide) (go_n (by decide) (go_d (by decide) (go_o (fB160 k hk m.jQ (hm.F .v).2 hm.vers hb) rfl))))))))))
  · exact go_n (by decide) (go_n (by decide) (go_n (by decide) (go_n (by decide) (go_n (by decide) (go_n (by decide) (go_n (by decide) (go_n (by decide) (go_n (by decide) (go_n (by decide) (go_d (by decide) (go_o (ht _ hb') rfl)))))))))))
  · exact go_n (by decide) (go_n (by decide) (go_n (by decide) (go_n (by decide) (go_n (by decide) (go_n (by decide) (go_n (by decide) (go_n (by decide) (go_n (by decide) (go_n (by decide) (go_n (by decide) (go_d (by decide) (go_o (fA125 k m.jK (by omega)) rfl))))))))))))
  · exact go_n (by decide) (go_n (by decide) (go_n (by decide) (go_n (by decide) (go_n (by decide) (go_n (by decide) (go_n (by decide) (go_n (by decide) (go_n (by decide) (go_n (by decide) (go_n (by decide) (go_n (by decide) (go_d (by decide) (go_o (hl _ (hm.F .t) hb') rfl)))))))))))))
  · exact go_n (by decide) (go_n (by decide) (go_n (by decide) (go_n (by decide) (go_n (by decide) (go_n (by decide) (go_n (by decide) (go_n (by decide) (go_n (by decide) (go_n (by decide) (go_n (by decide) (go_n (by decide) (go_n (by decide) (go_d (by decide) (go_o (hl _ (hm.F .s) hb') rfl))))))))))))))
theorem fB138 (k : Nat) (hk : 17000000 ≤ k) (m : Msg) (hm : BM m) (ls : List Let) (hl : ls.length ≤ 100) : ∀ (suf pre : List Let) (b : List UInt8) (bad : Bool) (fuel : Nat), ls = pre ++ suf → suf.length < fuel → b.length + (suf.flatMap fun c => fw c m).length ≤ 1000000000000 →
    fD55.go (k + 20) fuel m.jA m.jB_ m.jC_ m.jD m.jE m.jF m.jG m.jH m.jI m.jJ m.jK m.jL m.jM m.jN m.jO_.1 m.jO_.2 m.jP m.jP1 m.jQ (ls.map code) b bad (pre.length : Int) =
      some ((b ++ suf.flatMap (fun c => fw c m), bad || !(suf.all fun c => fo c m), ()), ())
  | _, _, _, _, 0, _, h, _ => absurd h (Nat.not_lt_zero _)
  | [], pre, b, bad, fuel + 1, e, hf, _ => by
    rw [List.flatMap_nil, List.append_nil, List.all_nil, Bool.not_true, Bool.or_false]
    exact go_n (by rw [e]; simp) rfl
  | c :: suf, pre, b, bad, fuel + 1, e, hf, hb => by
    have hlt : pre.length < ls.length := by rw [e]; simp
    have hg : (ls.map code)[pre.length]? = some (code c) := by rw [e]; simp
    rw [List.flatMap_cons] at hb ⊢
    simp only [List.length_append] at hb
    have ih := fB138 k hk m hm ls hl suf (pre ++ [c]) (b ++ fw c m) (bad || !(fo c m)) fuel (by rw [e]; simp) (by simp at hf; omega) (by simp only [List.length_append]; omega)
    rw [show ((pre ++ [c]).length : Int) = ((pre.length + 1 : Nat) : Int) by simp] at ih
    refine go_d (by rw [List.length_map]; omega) (go_t (inB_nat (by rw [List.length_map]; exact hlt)) ?_)
    rw [fC81 hg, Hay.u8_byte]
    refine go_o (fA155 k hk m hm c (by omega)) ?_
    rw [wrap_succ pre.length (by omega)]
    refine ih.trans ?_
    simp only [List.append_assoc, List.all_cons, Bool.or_assoc, Bool.not_and]
theorem fD137 {kd : Int} (h : (fA1 kd).isEmpty = false) : oByte kd 255 = true := by
  by_cases hc : 1 ≤ kd ∧ kd ≤ 12
  · exact fD81.2 ⟨by omega, by omega⟩
  · have : fA1 kd = [] := by
      unfold fA1
      rw [if_neg (by omega), if_neg (by omega), if_neg (by omega), if_neg (by omega), if_neg (by omega), if_neg (by omega), if_neg (by omega), if_neg (by omega), if_neg (by omega), if_neg (by omega), if_neg (by omega), if_neg (by omega)]
    rw [this] at h
    cases h
theorem fC149 (k : Nat) (hk : 17000000 ≤ k) (m : Msg) (hm : BM m) (hb : (body m).length ≤ 16777216) : fC46.run (k + 20) (den m) = some ((E m).1, (E m).2, ()) := by
  refine go_o (fD109 _ _) ?_
  by_cases he : (fA1 m.jA).isEmpty = true
  · have e0 : fA1 m.jA = [] := by simpa using he
    rw [E_no (fun h => by have := (fD100 h.1).2.2.2.2; rw [he] at this; cases this)]
    refine go_d (by show (fA1 m.jA).map code = []; rw [e0]; rfl) rfl
  have he' : (fA1 m.jA).isEmpty = false := by simpa using he
  refine go_n (by show ¬ (fA1 m.jA).map code = []; simpa using he) (go_o (fB154 k m) (go_o (fA135 (k + 20) m (taken m) (hm.sm hk)) ?_))
  by_cases ht : m = taken m
  · rw [decide_eq_true ht]
    refine go_f rfl ?_
    have hl := fC98 m.jA
    have hB : ∀ n : Int, (wByte n).length = 1 := fun _ => rfl
    have hbb : (body m).length = 1 + (1 + (1 + ((fA1 m.jA).flatMap fun c => fw c m).length)) := by unfold body; simp only [List.length_append, hB]
    have e1 : 0 ≤ IntKind.u64.wrap m.jA ∧ IntKind.u64.wrap m.jA < 18446744073709551616 := by rw [w_u64]; omega
    have e0 : IntKind.u64.wrap m.jA % 256 = m.jA % 256 := by rw [w_u64]; omega
    refine go_o (fA99 k (n := m.jA) e1.1 e1.2 e0 (by simp)) (go_o (fA125 k m.jB_ (by simp [hB])) (go_o (fA125 k m.jC_ (by simp [hB])) (go_o (fB138 k hk m hm (fA1 m.jA) (by omega) (fA1 m.jA) [] _ _ (k + 20) rfl (by omega) (by simp only [List.length_append, List.nil_append, hB]; omega)) ?_)))
    have eb : (([] : List UInt8) ++ wByte m.jA ++ wByte m.jB_ ++ wByte m.jC_) ++ (fA1 m.jA).flatMap (fun c => fw c m) = body m := by unfold body; simp only [List.nil_append, List.append_assoc]
    rw [eb]
    refine go_o (fD154 k (body m) hb (by omega) (by omega)) ?_
    by_cases ho : okM m = true
    · obtain ⟨o1, o2, o3, o4, o5⟩ := fD100 ho
      rw [E_ok ⟨ho, ht.symm⟩]
      refine go_f ?_ (go_nd rfl rfl)
      rw [o2, o3, show ((fA1 m.jA).all fun c => fo c m) = true from List.all_eq_true.2 o4]
      rfl
    · rw [E_no fun h => ho h.1]
      refine go_t ?_ rfl
      have ho' : okM m = false := by simpa using ho
      unfold okM at ho'
      rw [fD137 he', he'] at ho'
      simp only [Bool.true_and, Bool.not_false, Bool.and_true] at ho'
      simp only [Bool.false_or]
      rw [← Bool.not_and, ← Bool.not_and, Bool.and_assoc, ho']
      rfl
  · rw [decide_eq_false ht, E_no fun h => ht h.2.symm]
    exact go_t rfl rfl
end Go.Hay.YtpgamibdlinhjaaGreat
