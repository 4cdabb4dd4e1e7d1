/- Lists, read whole and one by one. Conditions: sizes below a bound. -/
import Derived.Test.YtebejjfgibkhbaaLe
set_option linter.unusedVariables false
set_option linter.unusedSimpArgs false
namespace Go.Hay.Ytebejjfgibkhbaa
open Go Go.Hay Go.Proofs

theorem text_less {b : List UInt8} {most : Int} (h : (textR b 0 most).1.2 = 0) : (textR b 0 most).1.1.length < b.length := by
  unfold textR at h ⊢
  rw [if_neg (by decide)] at h ⊢
  cases hq : varX b most with
  | error x =>
    rw [hq] at h
    exact absurd h (varX_err hq)
  | ok p =>
    obtain ⟨n, m⟩ := p
    rw [hq] at h
    obtain ⟨h1, h2, _⟩ := varD_le (varX_ok hq).1
    simp only at h ⊢
    by_cases hn : n > (b.drop m).length
    · rw [if_pos hn] at h
      exact absurd (show (10 : Int) = 0 from h) (by decide)
    · rw [if_neg hn, List.length_drop]
      omega

/-- So many texts of nine bytes at most, up to one that fails; what is left; with what it failed. -/
def lst : Nat → List UInt8 → List (List UInt8) × (List UInt8 × Int)
  | 0, b => ([], (b, 0))
  | n + 1, b => if (textR b 0 9).1.2 = 0 then ((textR b 0 9).2 :: (lst n (textR b 0 9).1.1).1, (lst n (textR b 0 9).1.1).2) else ([], (textR b 0 9).1)
theorem lst_ok {n : Nat} {b : List UInt8} (h : (textR b 0 9).1.2 = 0) : lst (n + 1) b = ((textR b 0 9).2 :: (lst n (textR b 0 9).1.1).1, (lst n (textR b 0 9).1.1).2) := by
  rw [lst, if_pos h]
theorem lst_bad {n : Nat} {b : List UInt8} (h : (textR b 0 9).1.2 ≠ 0) : lst (n + 1) b = ([], (textR b 0 9).1) := by
  rw [lst, if_neg h]
theorem lst_suf : ∀ {n : Nat} {b B : List UInt8}, b <:+ B → (lst n b).2.1 <:+ B
  | 0, b, B, h => h
  | n + 1, b, B, h => by
    have hs := text_suf h 0 9
    by_cases h0 : (textR b 0 9).1.2 = 0
    · rw [lst_ok h0]; exact lst_suf hs
    · rw [lst_bad h0]; exact hs
theorem lst_few : ∀ {n : Nat} {b : List UInt8}, (lst n b).1.length ≤ b.length
  | 0, b => by simp [lst]
  | n + 1, b => by
    by_cases h0 : (textR b 0 9).1.2 = 0
    · have h1 := text_less h0
      have h2 := lst_few (n := n) (b := (textR b 0 9).1.1)
      rw [lst_ok h0, List.length_cons]; omega
    · rw [lst_bad h0]; simp
theorem short_ok (k : Nat) (b : List UInt8) (hb : b.length ≤ 1000000000000) : law_short.run (k + 9) b 0 = some (((textR b 0 9).1.1, (textR b 0 9).1.2, ()), (textR b 0 9).2, ()) :=
  go_o (rd_text k b 0 9 (by omega) (by decide)) rfl

theorem listed0_ok (k : Nat) (B : List UInt8) (hB : B.length ≤ 1000000000000) (n : Nat) (hn : n < 18446744073709551616) : ∀ (L d i : Nat) (b : List UInt8) (l : List (List UInt8)) (fuel : Nat), b.length ≤ L → n = i + d → b <:+ B → l.length + b.length ≤ 1000000000000 → L + 1 < fuel →
    law_listed_0.go (k + 9) fuel B ((B.length - b.length : Nat) : Int) 0 (n : Int) l (i : Int) = some (((R B (lst d b).2.1 (lst d b).2.2).1, (R B (lst d b).2.1 (lst d b).2.2).2.1, (R B (lst d b).2.1 (lst d b).2.2).2.2, ()), l ++ (lst d b).1, ())
  | _, _, _, _, _, 0, _, _, _, _, h => absurd h (Nat.not_lt_zero _)
  | L, 0, i, b, l, fuel + 1, hL, hi, hs, hl, hf => by
    rw [show lst 0 b = ([], (b, 0)) from rfl, List.append_nil]
    exact go_n (by omega) rfl
  | L, d + 1, i, b, l, fuel + 1, hL, hi, hs, hl, hf => by
    have g := rf_gettext k hs (by omega) 0 9 (by decide) (by decide)
    have hs' := text_suf hs 0 9
    refine go_d (by omega) (go_d rfl (go_o g ?_))
    have ew : IntKind.u64.wrap ((i : Int) + 1) = ((i + 1 : Nat) : Int) := by rw [w_u64]; omega
    by_cases h0 : (textR b 0 9).1.2 = 0
    · have h1 := text_less h0
      rw [lst_ok h0]
      refine go_d h0 (go_t (room_t (by omega) (by omega)) ?_)
      rw [ew]
      cases L with
      | zero => omega
      | succ L =>
        have ih := listed0_ok k B hB n hn L d (i + 1) (textR b 0 9).1.1 (l ++ [(textR b 0 9).2]) fuel (by omega) (by omega) hs' (by rw [List.length_append]; simp; omega) (by omega)
        show law_listed_0.go (k + 9) fuel B ((B.length - (textR b 0 9).1.1.length : Nat) : Int) (textR b 0 9).1.2 (n : Int) (l ++ [(textR b 0 9).2]) ((i + 1 : Nat) : Int) = _
        rw [h0]
        exact ih.trans (by simp)
    · rw [lst_bad h0, List.append_nil]
      refine go_n h0 ?_
      rw [ew]
      cases fuel with
      | zero => omega
      | succ fuel =>
        by_cases hx : ((i + 1 : Nat) : Int) < (n : Int)
        · exact go_d hx (go_n h0 rfl)
        · exact go_n hx rfl

/-- A whole list: its things up to the first one that fails, what is left, with what it failed. -/
def full (b : List UInt8) (most : Int) : List (List UInt8) × (List UInt8 × Int) := if (varR b 0 most).1.2 = 0 then lst (varR b 0 most).2 (varR b 0 most).1.1 else ([], (varR b 0 most).1)
theorem varR_lt (b : List UInt8) (e most : Int) : (varR b e most).2 < 18446744073709551616 := by
  unfold varR
  split
  · simp
  · cases hq : varX b most with
    | error x => simp
    | ok p =>
      obtain ⟨n, m⟩ := p
      exact (varD_le (varX_ok hq).1).2.2.1
theorem varR_bad {b : List UInt8} {most : Int} (h : (varR b 0 most).1.2 ≠ 0) : (varR b 0 most).2 = 0 := by
  unfold varR at h ⊢
  rw [if_neg (by decide)] at h ⊢
  cases hq : varX b most with
  | error x => rfl
  | ok p =>
    obtain ⟨n, m⟩ := p
    rw [hq] at h
    exact absurd rfl h
theorem full_suf (b : List UInt8) (most : Int) : (full b most).2.1 <:+ b := by
  have h := var_suf (List.suffix_refl b) 0 most
  unfold full
  split
  · exact lst_suf h
  · exact h
theorem listed_ok (k : Nat) (b : List UInt8) (hb : b.length ≤ 1000000000000) (hk : b.length < k) (most : Int) (h1 : -9223372036854775808 ≤ most) (h2 : most < 9223372036854775808) :
    law_listed.run (k + 9) b most = some ((full b most).1, R b (full b most).2.1 (full b most).2.2, ()) := by
  have g := rf_getvar k (List.suffix_refl b) (by omega) 0 (IntKind.u64.wrap most) (decide (most < 0)) (if most < 0 then -1 else most) (by
    by_cases h0 : most < 0
    · rw [if_pos h0, if_pos (decide_eq_true h0)]
    · rw [if_neg h0, if_neg (by rw [decide_eq_false h0]; decide)]
      rw [w_u64]; omega)
  have ev : varR b 0 (if most < 0 then -1 else most) = varR b 0 most := by
    by_cases h0 : most < 0
    · rw [if_pos h0]
      unfold varR
      rw [varX_below h0]
    · rw [if_neg h0]
  rw [ev] at g
  have er : R b b 0 = (b, (0 : Int), (0 : Int)) := by unfold R; rw [Nat.sub_self]; rfl
  rw [er] at g
  have hs := var_suf (List.suffix_refl b) 0 most
  have hsl := suf_le hs
  have hlt := varR_lt b 0 most
  refine go_o g ?_
  unfold full
  by_cases h0 : (varR b 0 most).1.2 = 0
  · rw [if_pos h0]
    have h := listed0_ok k b hb (varR b 0 most).2 hlt b.length (varR b 0 most).2 0 (varR b 0 most).1.1 [] (k + 9) hsl (by omega) hs (by simp; omega) (by omega)
    rw [List.nil_append] at h
    refine go_o (v := _) (Eq.trans ?_ h) rfl
    show law_listed_0.go (k + 9) (k + 9) b ((b.length - (varR b 0 most).1.1.length : Nat) : Int) (varR b 0 most).1.2 (((varR b 0 most).2 : Nat) : Int) [] 0 = _
    rw [h0]
    rfl
  · rw [if_neg h0, varR_bad h0]
    exact go_o (v := ((b, ((b.length - (varR b 0 most).1.1.length : Nat) : Int), (varR b 0 most).1.2, ()), [], ())) (go_n (by omega) rfl) rfl

abbrev YB := Int × Unit × Unit × Unit × Unit × Unit
abbrev yb : YB := (0, (), (), (), (), ())
theorem itemsB0_ok (k : Nat) (n : Nat) (hn : n < 18446744073709551616) : ∀ (L d i : Nat) (b : List UInt8) (l : List (List UInt8)) (fuel : Nat), b.length ≤ L → n = i + d → l.length = i → l.length + b.length ≤ 1000000000000 → L + 1 < fuel →
    codec_Items_byte_1_f1_b_0.go (k + 9) fuel 0 l b 0 (n : Int) (i : Int) = some (.inl ((l ++ (lst d b).1, ()), ((lst d b).2.1, (lst d b).2.2, ()), yb, ())) ∨ codec_Items_byte_1_f1_b_0.go (k + 9) fuel 0 l b 0 (n : Int) (i : Int) = some (.inr ((l ++ (lst d b).1, ()), ((lst d b).2.1, (lst d b).2.2, ()), yb, ()))
  | _, _, _, _, _, 0, _, _, _, _, h => absurd h (Nat.not_lt_zero _)
  | L, 0, i, b, l, fuel + 1, hL, hi, hs, hl, hf => by
    have e : IntKind.u64.wrap (i : Int) = (i : Int) := by rw [w_u64]; omega
    rw [show lst 0 b = ([], (b, 0)) from rfl, List.append_nil]
    exact .inr (go_n (by rw [e]; omega) rfl)
  | L, d + 1, i, b, l, fuel + 1, hL, hi, hs, hl, hf => by
    have e : IntKind.u64.wrap (i : Int) = (i : Int) := by rw [w_u64]; omega
    have g := short_ok k b (by omega)
    by_cases h0 : (textR b 0 9).1.2 = 0
    · have h1 := text_less h0
      rw [lst_ok h0]
      cases L with
      | zero => omega
      | succ L =>
        have ih := itemsB0_ok k n hn L d (i + 1) (textR b 0 9).1.1 (l ++ [(textR b 0 9).2]) fuel (by omega) (by omega) (by simp; omega) (by rw [List.length_append]; simp; omega) (by omega)
        have st : ∀ {y}, codec_Items_byte_1_f1_b_0.go (k + 9) fuel 0 (l ++ [(textR b 0 9).2]) (textR b 0 9).1.1 0 (n : Int) ((i + 1 : Nat) : Int) = y → codec_Items_byte_1_f1_b_0.go (k + 9) (fuel + 1) 0 l b 0 (n : Int) (i : Int) = y := fun {y} hy => by
          refine go_d (by rw [e]; omega) (go_o g (go_nd h0 (go_d rfl (go_o (v := ((l ++ [(textR b 0 9).2], ()), ())) (go_t (room_t (by omega) (by omega)) rfl) ?_))))
          show codec_Items_byte_1_f1_b_0.go (k + 9) fuel 0 (l ++ [(textR b 0 9).2]) (textR b 0 9).1.1 (textR b 0 9).1.2 (n : Int) (IntKind.i64.wrap ((i : Int) + 1)) = _
          rw [h0, wrap_succ i (by omega)]
          exact hy
        have ea : l ++ [(textR b 0 9).2] ++ (lst d (textR b 0 9).1.1).1 = l ++ (textR b 0 9).2 :: (lst d (textR b 0 9).1.1).1 := by simp
        rw [ea] at ih
        rcases ih with ih | ih
        · exact .inl (st ih)
        · exact .inr (st ih)
    · rw [lst_bad h0, List.append_nil]
      exact .inl (go_d (by rw [e]; omega) (go_o g (go_nn h0 rfl)))
theorem list_ok (k : Nat) (b : List UInt8) (hb : b.length ≤ 1000000000000) (hk : b.length < k) (most : Int) (h2 : most < 9223372036854775808) :
    codec_List_byte.run (k + 9) b 0 most = some (((full b most).2.1, (full b most).2.2, ()), if (full b most).2.2 = 0 then (full b most).1 else [], ()) := by
  have g := rd_room k b 0 most h2
  have hs := var_suf (List.suffix_refl b) 0 most
  have hsl := suf_le hs
  have hlt := varR_lt b 0 most
  have hf : codec_Items_byte_1_f1_b.run (k + 9) 0 [] b 0 most = some (((full b most).1, ()), ((full b most).2.1, (full b most).2.2, ()), yb, ()) := by
    refine go_o g ?_
    unfold full
    by_cases h0 : (varR b 0 most).1.2 = 0
    · rw [if_pos h0]
      have h := itemsB0_ok k (varR b 0 most).2 hlt b.length (varR b 0 most).2 0 (varR b 0 most).1.1 [] (k + 9) hsl (by omega) rfl (by simp; omega) (by omega)
      rw [List.nil_append] at h
      show obind (codec_Items_byte_1_f1_b_0.go (k + 9) (k + 9) 0 [] (varR b 0 most).1.1 (varR b 0 most).1.2 (((varR b 0 most).2 : Nat) : Int) ((0 : Nat) : Int)) _ = _
      rw [h0]
      rcases h with h | h
      · exact go_o h rfl
      · exact go_o h rfl
    · rw [if_neg h0, varR_bad h0]
      exact go_o (v := .inr (([], ()), ((varR b 0 most).1.1, (varR b 0 most).1.2, ()), yb, ())) (go_n (by decide) rfl) rfl
  refine go_o (v := ((b, 0, ()), (((), ()), (most, ()), ((), ()), ()), ())) rfl (go_o hf (go_d rfl ?_))
  by_cases h0 : (full b most).2.2 = 0
  · rw [if_pos h0]
    exact go_nd h0 rfl
  · rw [if_neg h0]
    exact go_nn h0 rfl
theorem same_c_ok (N : Nat) (a b : List UInt8) (h : a = b) : law_same_c.run N a b = some (true, ()) := by
  subst h
  show some (decide (a = a), ()) = _
  simp
theorem lists1_ok (N : Nat) (l : List (List UInt8)) (hl : l.length ≤ 1000000000000) : ∀ (d i fuel : Nat), l.length = i + d → d < fuel → law_CodecLists_1.go N fuel l l (l.length : Int) (i : Int) = some (.inr ())
  | _, _, 0, _, h => absurd h (Nat.not_lt_zero _)
  | 0, i, fuel + 1, e, hf => go_n (by omega) rfl
  | d + 1, i, fuel + 1, e, hf => by
    have hi : i < l.length := by omega
    refine go_d (by omega) (go_t (inB_nat hi) (go_d (by rw [Int.toNat_natCast]; exact hi) (go_t (inB_nat hi) (go_d (by rw [Int.toNat_natCast]; exact hi) (go_o (same_c_ok N _ _ rfl) (go_f rfl ?_))))))
    rw [wrap_succ i (by omega)]
    exact lists1_ok N l hl d (i + 1) fuel (by omega) (by omega)
theorem full_few (b : List UInt8) (most : Int) : (full b most).1.length ≤ b.length := by
  have hs := suf_le (var_suf (List.suffix_refl b) 0 most)
  unfold full
  split
  · have := lst_few (n := (varR b 0 most).2) (b := (varR b 0 most).1.1)
    omega
  · simp
theorem codec_lists (k : Nat) (b : List UInt8) (hb : b.length ≤ 1000000000000) (hk : b.length < k) (most : Int) (h1 : -9223372036854775808 ≤ most) (h2 : most < 9223372036854775808) : law_CodecLists.run (k + 9) b most = some (true, ()) := by
  have hs := suf_le (full_suf b most)
  have hfw := full_few b most
  have e1 : (((full b most).2.1.length : Nat) : Int) = IntKind.i64.wrap ((b.length : Int) - ((b.length - (full b most).2.1.length : Nat) : Int)) := by rw [wrap_i64] <;> omega
  have hq : ∃ q : List (List UInt8), q = (if (full b most).2.2 = 0 then (full b most).1 else []) ∧ q.length ≤ b.length := ⟨_, rfl, by split <;> first | exact hfw | simp⟩
  obtain ⟨q, q1, q2⟩ := hq
  have hL := list_ok k b hb hk most h2
  rw [← q1] at hL
  refine go_o (read_ok _ b (by omega)) (go_o (alive_ok k) (go_f rfl (go_o hL (go_o (listed_ok k b hb hk most h1 h2) (go_o (v := (q, ())) ?_ (go_nd rfl (go_o (v := ((full b most).2.2, ())) rfl (go_nd rfl (go_o (v := ((((full b most).2.1.length : Nat) : Int), ())) rfl (go_nd e1 (go_o (lists1_ok (k + 9) q (by omega) q.length 0 (k + 9) (by omega) (by omega)) rfl)))))))))))
  rw [q1]
  by_cases h0 : (full b most).2.2 = 0
  · rw [if_pos h0]
    exact go_nd h0 rfl
  · rw [if_neg h0]
    exact go_nn h0 rfl

abbrev YA := Int × Unit × Unit × Unit × Unit × Unit × Unit × Unit × Unit × Unit
abbrev ya (n : Int) : YA := (n, (), (), (), (), (), (), (), (), ())
theorem items0_ok (k : Nat) (stop : Int) (m : List (List UInt8)) (n : Nat) (hn : n < 18446744073709551616) : ∀ (L d i : Nat) (b : List UInt8) (pre : List (List UInt8)) (fuel : Nat), b.length ≤ L → n = i + d → pre.length = i → m = pre ++ (lst d b).1 → pre.length + b.length ≤ 1000000000000 → L + 1 < fuel →
    codec_Items_byte_1_f1_0.go (k + 9) fuel 0 stop false b 0 m (i : Int) (n : Int) (i : Int) = some (.inl ((false, ()), ((lst d b).2.1, (lst d b).2.2, ()), ((m.length : Int), ()), ya 0, ())) ∨
    codec_Items_byte_1_f1_0.go (k + 9) fuel 0 stop false b 0 m (i : Int) (n : Int) (i : Int) = some (.inr ((false, ()), ((lst d b).2.1, (lst d b).2.2, ()), ((m.length : Int), ()), ya 0, ())) ∨
    ∃ b' e' j, codec_Items_byte_1_f1_0.go (k + 9) fuel 0 stop false b 0 m (i : Int) (n : Int) (i : Int) = some (.inl ((true, ()), (b', e', ()), (j, ()), ya 1, ()))
  | _, _, _, _, _, 0, _, _, _, _, _, h => absurd h (Nat.not_lt_zero _)
  | L, 0, i, b, pre, fuel + 1, hL, hi, hp, hm, hl, hf => by
    have e : IntKind.u64.wrap (i : Int) = (i : Int) := by rw [w_u64]; omega
    have e0 : lst 0 b = ([], (b, 0)) := rfl
    rw [e0, List.append_nil] at hm
    rw [e0, hm, hp]
    exact .inr (.inl (go_n (by rw [e]; omega) rfl))
  | L, d + 1, i, b, pre, fuel + 1, hL, hi, hp, hm, hl, hf => by
    have e : IntKind.u64.wrap (i : Int) = (i : Int) := by rw [w_u64]; omega
    have g := short_ok k b (by omega)
    by_cases h0 : (textR b 0 9).1.2 = 0
    · have h1 := text_less h0
      rw [lst_ok h0] at hm ⊢
      have hlt : i < m.length := by rw [hm]; simp; omega
      have hgd : m.getD ((i : Int)).toNat ([] : List UInt8) = (textR b 0 9).2 := by rw [hm, ← hp]; exact getD_mid _ _ _ _
      by_cases hst : ((i + 1 : Nat) : Int) = stop
      · refine .inr (.inr ⟨(textR b 0 9).1.1, (textR b 0 9).1.2, ((i + 1 : Nat) : Int), go_d (by rw [e]; omega) (go_o g (go_nd h0 (go_d rfl (go_o (v := .inr ((true, ()), (((i + 1 : Nat) : Int), ()), ())) ?_ rfl))))⟩)
        refine go_nd rfl (go_n (by omega) (go_t (inB_nat hlt) (go_d (by rw [Int.toNat_natCast]; exact hlt) ?_)))
        rw [hgd]
        refine go_o (same_b_ok (k + 9) _ _ rfl) (go_f rfl ?_)
        rw [wrap_succ i (by omega)]
        refine go_d hst (go_o (v := ((textR b 0 9).1.2, ())) rfl ?_)
        show some (Sum.inr ((decide ((textR b 0 9).1.2 = 0), ()), (((i + 1 : Nat) : Int), ()), ())) = _
        rw [decide_eq_true h0]
      · cases L with
        | zero => omega
        | succ L =>
          have ih := items0_ok k stop m n hn L d (i + 1) (textR b 0 9).1.1 (pre ++ [(textR b 0 9).2]) fuel (by omega) (by omega) (by simp; omega) (by rw [hm]; simp) (by rw [List.length_append]; simp; omega) (by omega)
          have st : ∀ {y}, codec_Items_byte_1_f1_0.go (k + 9) fuel 0 stop false (textR b 0 9).1.1 0 m ((i + 1 : Nat) : Int) (n : Int) ((i + 1 : Nat) : Int) = y → codec_Items_byte_1_f1_0.go (k + 9) (fuel + 1) 0 stop false b 0 m (i : Int) (n : Int) (i : Int) = y := fun {y} hy => by
            refine go_d (by rw [e]; omega) (go_o g (go_nd h0 (go_d rfl (go_o (v := .inl ((false, ()), (((i + 1 : Nat) : Int), ()), ())) ?_ ?_))))
            · refine go_nd rfl (go_n (by omega) (go_t (inB_nat hlt) (go_d (by rw [Int.toNat_natCast]; exact hlt) ?_)))
              rw [hgd]
              refine go_o (same_b_ok (k + 9) _ _ rfl) (go_f rfl ?_)
              rw [wrap_succ i (by omega)]
              exact go_n hst rfl
            · show codec_Items_byte_1_f1_0.go (k + 9) fuel 0 stop false (textR b 0 9).1.1 (textR b 0 9).1.2 m ((i + 1 : Nat) : Int) (n : Int) (IntKind.i64.wrap ((i : Int) + 1)) = _
              rw [h0, wrap_succ i (by omega)]
              exact hy
          rcases ih with ih | ih | ⟨b', e', j, ih⟩
          · exact .inl (st ih)
          · exact .inr (.inl (st ih))
          · exact .inr (.inr ⟨b', e', j, st ih⟩)
    · rw [lst_bad h0] at hm ⊢
      rw [List.append_nil] at hm
      rw [hm, hp]
      exact .inl (go_d (by rw [e]; omega) (go_o g (go_nn h0 rfl)))
theorem codec_items (k : Nat) (b : List UInt8) (hb : b.length ≤ 1000000000000) (hk : b.length < k) (most stop : Int) (h1 : -9223372036854775808 ≤ most) (h2 : most < 9223372036854775808) : law_CodecItems.run (k + 9) b most stop = some (true, ()) := by
  have hs := suf_le (full_suf b most)
  have hfw := full_few b most
  have g := rd_room k b 0 most h2
  have hsv := suf_le (var_suf (List.suffix_refl b) 0 most)
  have hlt := varR_lt b 0 most
  have e1 : (((full b most).2.1.length : Nat) : Int) = IntKind.i64.wrap ((b.length : Int) - ((b.length - (full b most).2.1.length : Nat) : Int)) := by rw [wrap_i64] <;> omega
  refine go_o (read_ok _ b (by omega)) (go_o (alive_ok k) (go_f rfl (go_o (listed_ok k b hb hk most h1 h2) (go_o (v := ((b, 0, ()), (((), ()), (most, ()), ((), ()), ()), ())) rfl ?_))))
  have hf : codec_Items_byte_1_f1.run (k + 9) 0 stop false b 0 (full b most).1 0 most = some ((false, ()), ((full b most).2.1, (full b most).2.2, ()), (((full b most).1.length : Int), ()), ya 0, ()) ∨
      ∃ b' e' j, codec_Items_byte_1_f1.run (k + 9) 0 stop false b 0 (full b most).1 0 most = some ((true, ()), (b', e', ()), (j, ()), ya 1, ()) := by
    unfold full
    by_cases h0 : (varR b 0 most).1.2 = 0
    · rw [if_pos h0]
      have h := items0_ok k stop (lst (varR b 0 most).2 (varR b 0 most).1.1).1 (varR b 0 most).2 hlt b.length (varR b 0 most).2 0 (varR b 0 most).1.1 [] (k + 9) hsv (by omega) rfl rfl (by simp; omega) (by omega)
      have st : ∀ {y}, obind (codec_Items_byte_1_f1_0.go (k + 9) (k + 9) 0 stop false (varR b 0 most).1.1 0 (lst (varR b 0 most).2 (varR b 0 most).1.1).1 ((0 : Nat) : Int) (((varR b 0 most).2 : Nat) : Int) ((0 : Nat) : Int)) (fun y => match y with
          | .inl ((v, _), (b2, e2, _), (v1, _), (v2, _, _, _, _, _, _, _, _, _), _) => some ((v, ()), (b2, e2, ()), (v1, ()), (v2, (), (), (), (), (), (), (), (), ()), ())
          | .inr ((v3, _), (b3, e3, _), (v4, _), (v5, _, _, _, _, _, _, _, _, _), _) => some ((v3, ()), (b3, e3, ()), (v4, ()), (v5, (), (), (), (), (), (), (), (), ()), ())) = y →
          codec_Items_byte_1_f1.run (k + 9) 0 stop false b 0 (lst (varR b 0 most).2 (varR b 0 most).1.1).1 0 most = y := fun {y} hy => by
        refine go_o g ?_
        show obind (codec_Items_byte_1_f1_0.go (k + 9) (k + 9) 0 stop false (varR b 0 most).1.1 (varR b 0 most).1.2 (lst (varR b 0 most).2 (varR b 0 most).1.1).1 ((0 : Nat) : Int) (((varR b 0 most).2 : Nat) : Int) ((0 : Nat) : Int)) _ = _
        rw [h0]
        exact hy
      rcases h with h | h | ⟨b', e', j, h⟩
      · exact .inl (st (go_o h rfl))
      · exact .inl (st (go_o h rfl))
      · exact .inr ⟨b', e', j, st (go_o h rfl)⟩
    · rw [if_neg h0]
      have g2 := g
      rw [varR_bad h0] at g2
      exact .inl (go_o g2 (go_o (v := .inr ((false, ()), ((varR b 0 most).1.1, (varR b 0 most).1.2, ()), (0, ()), ya 0, ())) (go_n (by decide) rfl) rfl))
  rcases hf with hf | ⟨b', e', j, hf⟩
  · refine go_o hf (go_d rfl (go_d rfl (go_o (v := ((full b most).2.2, ())) rfl (go_d rfl (go_o (v := ((((full b most).2.1.length : Nat) : Int), ())) rfl ?_)))))
    show some (decide ((((full b most).2.1.length : Nat) : Int) = IntKind.i64.wrap ((b.length : Int) - ((b.length - (full b most).2.1.length : Nat) : Int))), ()) = _
    rw [decide_eq_true e1]
  · exact go_o hf (go_n (by decide) (go_d rfl rfl))
end Go.Hay.Ytebejjfgibkhbaa
