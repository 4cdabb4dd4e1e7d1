/- The document's numbers and texts, read; whatever is asked of a reader is answered as the document says. Conditions: sizes below a bound. -/
import Derived.Test.YthlojpcjafefjaaGreatLc
set_option linter.unusedVariables false
set_option linter.unusedSimpArgs false
namespace Go.Hay.YthlojpcjafefjaaGreat
open Go Go.Hay Go.Proofs

theorem hi_bad {b : List UInt8} {e : Int} {n : Nat} (h : e ≠ 0) : hiX b e n = ((b, e), 0) := if_pos h
theorem fC55 {b : List UInt8} {n : Nat} (h : n > b.length) : hiX b 0 n = ((b, 10), 0) := by unfold hiX; rw [if_neg (by decide), if_pos h]
theorem hi_ok {b : List UInt8} {n : Nat} (h : n ≤ b.length) : hiX b 0 n = ((b.drop n, 0), toNum (b.take n)) := by unfold hiX; rw [if_neg (by decide), if_neg (by omega)]

/-- Behind its first byte a number is read so. -/
theorem rf_gv1 (k : Nat) {B r : List UInt8} (h : r <:+ B) (hB : B.length ≤ 100000000000000) (c : Nat) (hc : c < 256) (m : Nat) (hm : m = if c = 253 then 2 else if c = 254 then 4 else 8) :
    fC15.run (k + 9) B ((B.length - r.length : Nat) : Int) 0 (c : Int) (c : Int) = if c < 253 then some ((B, ((B.length - r.length : Nat) : Int), 0, ()), (c : Int), ()) else some (((R B (hiX r 0 m).1.1 (hiX r 0 m).1.2).1, (R B (hiX r 0 m).1.1 (hiX r 0 m).1.2).2.1, (R B (hiX r 0 m).1.1 (hiX r 0 m).1.2).2.2, ()), (((hiX r 0 m).2 : Nat) : Int), ()) := by
  have g := fun n hn => rf_get k h hB 0 n hn
  by_cases h1 : c < 253
  · rw [if_pos h1]
    exact go_o (v := (false, ())) (go_d rfl (by rw [decide_eq_false (by omega)])) rfl
  rw [if_neg h1]
  refine go_o (v := (true, ())) (go_d rfl (by rw [decide_eq_true (by omega)])) (go_t rfl ?_)
  by_cases h2 : c = 253
  · rw [if_pos h2] at hm
    subst hm
    exact go_n (by omega) (go_n (by omega) (go_o (g 2 (by omega)) rfl))
  rw [if_neg h2] at hm
  by_cases h3 : c = 254
  · rw [if_pos h3] at hm
    subst hm
    exact go_d (by omega) (go_n (by omega) (go_o (g 4 (by omega)) rfl))
  rw [if_neg h3] at hm
  subst hm
  exact go_n (by omega) (go_d (by omega) (go_o (g 8 (by omega)) rfl))

theorem fA71 (k : Nat) {B b : List UInt8} (h : b <:+ B) (hB : B.length ≤ 100000000000000) (e most : Int) (neg : Bool) (mo : Int) (hmo : mo = if neg = true then -1 else most) :
    fC7.run (k + 9) (R B b e) most neg = some (R B (varR b e mo).1.1 (varR b e mo).1.2, (((varR b e mo).2 : Nat) : Int), ()) := by
  have hl := suf_le h
  have g1 := rf_get k h hB e 1 (by omega)
  unfold varR
  by_cases he : e ≠ 0
  · rw [if_pos he]
    rw [hi_bad he] at g1
    refine go_o g1 (go_o (v := ((B, ((B.length - b.length : Nat) : Int), e, ()), 0, ())) (go_o (v := (false, ())) (go_n he rfl) rfl) (go_nn he rfl))
  rw [if_neg he]
  have he0 : e = 0 := by omega
  subst he0
  cases b with
  | nil =>
    rw [fC55 (by simp)] at g1
    exact go_o g1 (go_o (v := ((B, ((B.length - ([] : List UInt8).length : Nat) : Int), 10, ()), 0, ())) (go_o (v := (false, ())) (go_n (by show ¬ (10 : Int) = 0; decide) rfl) rfl) (go_nn (by show ¬ (10 : Int) = 0; decide) rfl))
  | cons c r =>
    have hcl : (c :: r).length = r.length + 1 := rfl
    have hc := c.toNat_lt
    have hr : r <:+ B := (List.suffix_cons c r).trans h
    rw [hi_ok (by simp)] at g1
    have e1 : (c :: r).take 1 = [c] := rfl
    have e2 : (c :: r).drop 1 = r := rfl
    rw [e1, e2, fD73] at g1
    refine go_o g1 ?_
    -- what is checked at the end
    have fin : ∀ (n m least : Nat), n < 18446744073709551616 → m ≤ r.length → ((varB n).length = m + 1 ↔ ¬ n < least) →
        (bif !(decide ((0 : Int) = (0 : Int))) then some (((R B (c :: r) 0).1, (R B (c :: r) 0).2.1, (0 : Int)), (0 : Int), ()) else obind (fB24.run (k + 9) (n : Int)) fun (l, _) => bif !(decide ((l.length : Int) = (IntKind.i64.wrap (((B.length - (r.drop m).length : Nat) : Int) - ((B.length - (c :: r).length : Nat) : Int))))) then some ((B, ((B.length - (c :: r).length : Nat) : Int), (11 : Int)), (0 : Int), ()) else bif neg then some ((B, ((B.length - (c :: r).length : Nat) : Int), (12 : Int)), (0 : Int), ()) else bif decide ((n : Int) > most) then some ((B, ((B.length - (c :: r).length : Nat) : Int), (12 : Int)), (0 : Int), ()) else some ((B, ((B.length - (r.drop m).length : Nat) : Int), 0), (n : Int), ())) =
        (if n < least then some (R B (c :: r) 11, 0, ()) else if (n : Int) > mo then some (R B (c :: r) 12, 0, ()) else some (R B (r.drop m) 0, (n : Int), ())) := by
      intro n m least hn hm hle
      have ew : IntKind.i64.wrap (((B.length - (r.drop m).length : Nat) : Int) - ((B.length - (c :: r).length : Nat) : Int)) = ((m + 1 : Nat) : Int) := by
        rw [List.length_drop, hcl, wrap_i64] <;> omega
      refine go_nd rfl (go_o (rf_var k n hn) ?_)
      rw [ew]
      by_cases y : n < least
      · rw [if_pos y]
        exact go_nn (by have := fun h => (hle.1 h) y; omega) rfl
      · rw [if_neg y]
        refine go_nd (by have := hle.2 y; omega) ?_
        cases neg with
        | true =>
          have : mo = -1 := hmo
          rw [if_pos (by omega)]
          rfl
        | false =>
          have : mo = most := hmo
          subst this
          refine go_f rfl ?_
          by_cases z : (n : Int) > mo
          · rw [if_pos z]; exact go_d z rfl
          · rw [if_neg z]; exact go_n z rfl
    have g2 := rf_gv1 k hr hB c.toNat hc
    simp only [varX, varD]
    by_cases x1 : c.toNat = 253
    · rw [if_pos x1]
      have g3 := g2 2 (by rw [if_pos x1])
      rw [if_neg (by omega)] at g3
      by_cases hs : r.length < 2
      · rw [if_pos hs]
        rw [fC55 (by omega)] at g3
        exact go_o g3 (go_nn (by show ¬ (10 : Int) = 0; decide) rfl)
      · rw [if_neg hs]
        rw [hi_ok (by omega)] at g3
        have hn := fB46 (r.take 2)
        rw [List.length_take, Nat.min_eq_left (by omega)] at hn
        refine go_o g3 ((fin (toNum (r.take 2)) 2 253 (by omega) (by omega) ?_).trans ?_)
        · unfold varB
          split
          · simp; omega
          · rw [if_pos (by omega)]; simp [fC4]; omega
        · by_cases y : toNum (r.take 2) < 253
          · rw [if_pos y, if_pos y]
            rfl
          · rw [if_neg y, if_neg y]
            simp only
            by_cases z : (toNum (r.take 2) : Int) > mo
            · rw [if_pos z, if_pos z]; rfl
            · rw [if_neg z, if_neg z]; rfl
    rw [if_neg x1]
    by_cases x2 : c.toNat = 254
    · rw [if_pos x2]
      have g3 := g2 4 (by rw [if_neg x1, if_pos x2])
      rw [if_neg (by omega)] at g3
      by_cases hs : r.length < 4
      · rw [if_pos hs]
        rw [fC55 (by omega)] at g3
        exact go_o g3 (go_nn (by show ¬ (10 : Int) = 0; decide) rfl)
      · rw [if_neg hs]
        rw [hi_ok (by omega)] at g3
        have hn := fB46 (r.take 4)
        rw [List.length_take, Nat.min_eq_left (by omega)] at hn
        refine go_o g3 ((fin (toNum (r.take 4)) 4 65536 (by omega) (by omega) ?_).trans ?_)
        · unfold varB
          split
          · simp; omega
          split
          · simp [fC4]; omega
          · rw [if_pos (by omega)]; simp [fC4]; omega
        · by_cases y : toNum (r.take 4) < 65536
          · rw [if_pos y, if_pos y]
            rfl
          · rw [if_neg y, if_neg y]
            simp only
            by_cases z : (toNum (r.take 4) : Int) > mo
            · rw [if_pos z, if_pos z]; rfl
            · rw [if_neg z, if_neg z]; rfl
    rw [if_neg x2]
    by_cases x3 : c.toNat = 255
    · rw [if_pos x3]
      have g3 := g2 8 (by rw [if_neg x1, if_neg x2])
      rw [if_neg (by omega)] at g3
      by_cases hs : r.length < 8
      · rw [if_pos hs]
        rw [fC55 (by omega)] at g3
        exact go_o g3 (go_nn (by show ¬ (10 : Int) = 0; decide) rfl)
      · rw [if_neg hs]
        rw [hi_ok (by omega)] at g3
        have hn := fC72 (l := r.take 8) (by rw [List.length_take]; omega)
        refine go_o g3 ((fin (toNum (r.take 8)) 8 4294967296 (by omega) (by omega) ?_).trans ?_)
        · unfold varB
          split
          · simp; omega
          split
          · simp [fC4]; omega
          split
          · simp [fC4]; omega
          · simp [fC4]; omega
        · by_cases y : toNum (r.take 8) < 4294967296
          · rw [if_pos y, if_pos y]
            rfl
          · rw [if_neg y, if_neg y]
            simp only
            by_cases z : (toNum (r.take 8) : Int) > mo
            · rw [if_pos z, if_pos z]; rfl
            · rw [if_neg z, if_neg z]; rfl
    rw [if_neg x3]
    have g3 := g2 8 (by rw [if_neg x1, if_neg x2])
    rw [if_pos (by omega)] at g3
    refine go_o g3 ((fin c.toNat 0 0 (by omega) (by omega) ?_).trans ?_)
    · unfold varB
      rw [if_pos (by omega)]
      simp
    · rw [if_neg (by omega)]
      simp only
      by_cases z : (c.toNat : Int) > mo
      · rw [if_pos z, if_pos z]; rfl
      · rw [if_neg z, if_neg z]; rfl

theorem fB87 {b : List UInt8} {most : Int} (h : most < 0) : varX b most = varX b (-1) := by rw [fC66 h, fC66 (by decide)]
theorem fB88 (k : Nat) {B b : List UInt8} (h : b <:+ B) (hB : B.length ≤ 10000000000000) (e most : Int) (h1 : -9223372036854775808 ≤ most) (h2 : most < 9223372036854775808) :
    fC41.run (k + 9) (R B b e) most = some (R B (textR b e most).1.1 (textR b e most).1.2, (textR b e most).2, ()) := by
  have hl := suf_le h
  have g := fA71 k h (by omega) e (IntKind.u64.wrap most) (decide (most < 0)) (if most < 0 then -1 else most) (by
    by_cases h0 : most < 0
    · rw [if_pos h0, if_pos (decide_eq_true h0)]
    · rw [if_neg h0, if_neg (by rw [decide_eq_false h0]; decide)]
      rw [w_u64]; omega)
  have ev : varR b e (if most < 0 then -1 else most) = varR b e most := by
    by_cases h0 : most < 0
    · rw [if_pos h0]
      unfold varR
      rw [fB87 h0]
    · rw [if_neg h0]
  rw [ev] at g
  unfold varR at g
  unfold textR
  by_cases he : e ≠ 0
  · rw [if_pos he] at g ⊢
    exact go_o g (go_nn he rfl)
  rw [if_neg he] at g ⊢
  cases hq : varX b most with
  | error x =>
    rw [hq] at g
    exact go_o g (go_nn (fB65 hq) rfl)
  | ok p =>
    obtain ⟨n, m⟩ := p
    rw [hq] at g
    obtain ⟨v1, v2⟩ := fD54 hq
    obtain ⟨v3, v4, v5, _⟩ := fA61 v1
    have hs : b.drop m <:+ B := (List.drop_suffix _ _).trans h
    have hsl := suf_le hs
    have e1 : IntKind.u64.wrap (IntKind.i64.wrap ((B.length : Int) - ((B.length - (b.drop m).length : Nat) : Int))) = (((b.drop m).length : Nat) : Int) := by
      rw [show (B.length : Int) - ((B.length - (b.drop m).length : Nat) : Int) = (((b.drop m).length : Nat) : Int) by omega, wrap_nat _ (by omega), w_u64]; omega
    have e2 : IntKind.i64.wrap (n : Int) = (n : Int) := wrap_nat n (by omega)
    refine go_o g (go_nd rfl ?_)
    show (bif decide ((n : Int) > IntKind.u64.wrap (IntKind.i64.wrap ((B.length : Int) - ((B.length - (b.drop m).length : Nat) : Int)))) then _ else obind (fC44.run (k + 9) (R B (b.drop m) 0) (IntKind.i64.wrap (n : Int))) _) = _
    rw [e1, e2]
    simp only
    by_cases hn : n > (b.drop m).length
    · rw [if_pos hn]
      exact go_d (by omega) rfl
    · rw [if_neg hn]
      refine go_n (by omega) (go_o (rf_raw _ hs (by omega) 0 (n : Int) (by omega)) ?_)
      unfold rawR
      rw [if_neg (by decide), if_neg (by omega), if_neg (by omega), Int.toNat_natCast, List.drop_drop]

/- What is asked of a reader. -/
theorem rf_end (N : Nat) {B b : List UInt8} (h : b <:+ B) (e : Int) : fD44.run N (R B b e) = fC12.run N b e := by
  have hl := suf_le h
  by_cases he : e = 0
  · subst he
    by_cases h1 : 0 < b.length
    · have a1 : fD44.run N (R B b 0) = some (13, ()) := go_d rfl (go_d (by show ((B.length - b.length : Nat) : Int) < (B.length : Int); omega) rfl)
      have a2 : fC12.run N b 0 = some (13, ()) := go_d rfl (go_d (by omega) rfl)
      rw [a1, a2]
    · have a1 : fD44.run N (R B b 0) = some (0, ()) := go_d rfl (go_n (by show ¬ ((B.length - b.length : Nat) : Int) < (B.length : Int); omega) rfl)
      have a2 : fC12.run N b 0 = some (0, ()) := go_d rfl (go_n (by omega) rfl)
      rw [a1, a2]
  · have a1 : fD44.run N (R B b e) = some (e, ()) := go_n he rfl
    have a2 : fC12.run N b e = some (e, ()) := go_n he rfl
    rw [a1, a2]
end Go.Hay.YthlojpcjafefjaaGreat
