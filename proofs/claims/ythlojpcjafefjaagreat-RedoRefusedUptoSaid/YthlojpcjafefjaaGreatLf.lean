/- Lists, read whole and one by one. Conditions: sizes below a bound. -/
import Derived.Test.YthlojpcjafefjaaGreatLe
set_option linter.unusedVariables false
set_option linter.unusedSimpArgs false
namespace Go.Hay.YthlojpcjafefjaaGreat
open Go Go.Hay Go.Proofs

theorem fA59 {b : List UInt8} {most : Int} (h : (textR b 0 most).1.2 = 0) : (textR b 0 most).1.1.length < b.length := by
  unfold textR at h ⊢
  rw [if_neg (by decide)] at h ⊢
  cases hq : varX b most with
  | error x =>
    rw [hq] at h
    exact absurd h (fB65 hq)
  | ok p =>
    obtain ⟨n, m⟩ := p
    rw [hq] at h
    obtain ⟨h1, h2, _⟩ := fA61 (fD54 hq).1
    simp only at h ⊢
    by_cases hn : n > (b.drop m).length
    · rw [if_pos hn] at h
      exact absurd (show (10 : Int) = 0 from h) (by decide)
    · rw [if_neg hn, List.length_drop]
      omega

/-- So many texts as long as a frame may be, at most, up to one that fails; what is left; with what it failed. -/
def lst : Nat → List UInt8 → List (List UInt8) × (List UInt8 × Int)
  | 0, b => ([], (b, 0))
  | n + 1, b => if (textR b 0 16777216).1.2 = 0 then ((textR b 0 16777216).2 :: (lst n (textR b 0 16777216).1.1).1, (lst n (textR b 0 16777216).1.1).2) else ([], (textR b 0 16777216).1)
theorem lst_ok {n : Nat} {b : List UInt8} (h : (textR b 0 16777216).1.2 = 0) : lst (n + 1) b = ((textR b 0 16777216).2 :: (lst n (textR b 0 16777216).1.1).1, (lst n (textR b 0 16777216).1.1).2) := by
  rw [lst, if_pos h]
theorem fD63 {n : Nat} {b : List UInt8} (h : (textR b 0 16777216).1.2 ≠ 0) : lst (n + 1) b = ([], (textR b 0 16777216).1) := by
  rw [lst, if_neg h]
theorem fA86 : ∀ {n : Nat} {b B : List UInt8}, b <:+ B → (lst n b).2.1 <:+ B
  | 0, b, B, h => h
  | n + 1, b, B, h => by
    have hs := fC76 h 0 16777216
    by_cases h0 : (textR b 0 16777216).1.2 = 0
    · rw [lst_ok h0]; exact fA86 hs
    · rw [fD63 h0]; exact hs
theorem fC85 : ∀ {n : Nat} {b : List UInt8}, (lst n b).1.length ≤ b.length
  | 0, b => by simp [lst]
  | n + 1, b => by
    by_cases h0 : (textR b 0 16777216).1.2 = 0
    · have h1 := fA59 h0
      have h2 := fC85 (n := n) (b := (textR b 0 16777216).1.1)
      rw [lst_ok h0, List.length_cons]; omega
    · rw [fD63 h0]; simp
theorem fB94 (k : Nat) (b : List UInt8) (hb : b.length ≤ 1000000000000) : fD41.run (k + 9) b 0 = some (((textR b 0 16777216).1.1, (textR b 0 16777216).1.2, ()), (textR b 0 16777216).2, ()) :=
  go_o (fA101 k b 0 16777216 (by omega) (by decide)) rfl

/-- A whole list: its things up to the first one that fails, what is left, with what it failed. -/
def full (b : List UInt8) (most : Int) : List (List UInt8) × (List UInt8 × Int) := if (varR b 0 most).1.2 = 0 then lst (varR b 0 most).2 (varR b 0 most).1.1 else ([], (varR b 0 most).1)
theorem fC86 (b : List UInt8) (e most : Int) : (varR b e most).2 < 18446744073709551616 := by
  unfold varR
  split
  · simp
  · cases hq : varX b most with
    | error x => simp
    | ok p =>
      obtain ⟨n, m⟩ := p
      exact (fA61 (fD54 hq).1).2.2.1
theorem fC77 {b : List UInt8} {most : Int} (h : (varR b 0 most).1.2 ≠ 0) : (varR b 0 most).2 = 0 := by
  unfold varR at h ⊢
  rw [if_neg (by decide)] at h ⊢
  cases hq : varX b most with
  | error x => rfl
  | ok p =>
    obtain ⟨n, m⟩ := p
    rw [hq] at h
    exact absurd rfl h
abbrev YB := Int × Unit × Unit × Unit × Unit × Unit
abbrev yb : YB := (0, (), (), (), (), ())
theorem fC68 (k : Nat) (n : Nat) (hn : n < 18446744073709551616) : ∀ (L d i : Nat) (b : List UInt8) (l : List (List UInt8)) (fuel : Nat), b.length ≤ L → n = i + d → l.length = i → l.length + b.length ≤ 1000000000000 → L + 1 < fuel →
    fB1.go (k + 9) fuel 0 l b 0 (n : Int) (i : Int) = some (.inl ((l ++ (lst d b).1, ()), ((lst d b).2.1, (lst d b).2.2, ()), yb, ())) ∨ fB1.go (k + 9) fuel 0 l b 0 (n : Int) (i : Int) = some (.inr ((l ++ (lst d b).1, ()), ((lst d b).2.1, (lst d b).2.2, ()), yb, ()))
  | _, _, _, _, _, 0, _, _, _, _, h => absurd h (Nat.not_lt_zero _)
  | L, 0, i, b, l, fuel + 1, hL, hi, hs, hl, hf => by
    have e : IntKind.u64.wrap (i : Int) = (i : Int) := by rw [w_u64]; omega
    rw [show lst 0 b = ([], (b, 0)) from rfl, List.append_nil]
    exact .inr (go_n (by rw [e]; omega) rfl)
  | L, d + 1, i, b, l, fuel + 1, hL, hi, hs, hl, hf => by
    have e : IntKind.u64.wrap (i : Int) = (i : Int) := by rw [w_u64]; omega
    have g := fB94 k b (by omega)
    by_cases h0 : (textR b 0 16777216).1.2 = 0
    · have h1 := fA59 h0
      rw [lst_ok h0]
      cases L with
      | zero => omega
      | succ L =>
        have ih := fC68 k n hn L d (i + 1) (textR b 0 16777216).1.1 (l ++ [(textR b 0 16777216).2]) fuel (by omega) (by omega) (by simp; omega) (by rw [List.length_append]; simp; omega) (by omega)
        have st : ∀ {y}, fB1.go (k + 9) fuel 0 (l ++ [(textR b 0 16777216).2]) (textR b 0 16777216).1.1 0 (n : Int) ((i + 1 : Nat) : Int) = y → fB1.go (k + 9) (fuel + 1) 0 l b 0 (n : Int) (i : Int) = y := fun {y} hy => by
          refine go_d (by rw [e]; omega) (go_o g (go_nd h0 (go_d rfl (go_o (v := ((l ++ [(textR b 0 16777216).2], ()), ())) (go_t (room_t (by omega) (by omega)) rfl) ?_))))
          show fB1.go (k + 9) fuel 0 (l ++ [(textR b 0 16777216).2]) (textR b 0 16777216).1.1 (textR b 0 16777216).1.2 (n : Int) (IntKind.i64.wrap ((i : Int) + 1)) = _
          rw [h0, wrap_succ i (by omega)]
          exact hy
        have ea : l ++ [(textR b 0 16777216).2] ++ (lst d (textR b 0 16777216).1.1).1 = l ++ (textR b 0 16777216).2 :: (lst d (textR b 0 16777216).1.1).1 := by simp
        rw [ea] at ih
        rcases ih with ih | ih
        · exact .inl (st ih)
        · exact .inr (st ih)
    · rw [fD63 h0, List.append_nil]
      exact .inl (go_d (by rw [e]; omega) (go_o g (go_nn h0 rfl)))
theorem fB101 (k : Nat) (b : List UInt8) (hb : b.length ≤ 1000000000000) (hk : b.length < k) (most : Int) (h2 : most < 9223372036854775808) :
    fC28.run (k + 9) b 0 most = some (((full b most).2.1, (full b most).2.2, ()), if (full b most).2.2 = 0 then (full b most).1 else [], ()) := by
  have g := fD84 k b 0 most h2
  have hs := fA70 (List.suffix_refl b) 0 most
  have hsl := suf_le hs
  have hlt := fC86 b 0 most
  have hf : fB3.run (k + 9) 0 [] b 0 most = some (((full b most).1, ()), ((full b most).2.1, (full b most).2.2, ()), yb, ()) := by
    refine go_o g ?_
    unfold full
    by_cases h0 : (varR b 0 most).1.2 = 0
    · rw [if_pos h0]
      have h := fC68 k (varR b 0 most).2 hlt b.length (varR b 0 most).2 0 (varR b 0 most).1.1 [] (k + 9) hsl (by omega) rfl (by simp; omega) (by omega)
      rw [List.nil_append] at h
      show obind (fB1.go (k + 9) (k + 9) 0 [] (varR b 0 most).1.1 (varR b 0 most).1.2 (((varR b 0 most).2 : Nat) : Int) ((0 : Nat) : Int)) _ = _
      rw [h0]
      rcases h with h | h
      · exact go_o h rfl
      · exact go_o h rfl
    · rw [if_neg h0, fC77 h0]
      exact go_o (v := .inr (([], ()), ((varR b 0 most).1.1, (varR b 0 most).1.2, ()), yb, ())) (go_n (by decide) rfl) rfl
  refine go_o (v := ((b, 0, ()), (((), ()), (most, ()), ((), ()), ()), ())) rfl (go_o hf (go_d rfl ?_))
  by_cases h0 : (full b most).2.2 = 0
  · rw [if_pos h0]
    exact go_nd h0 rfl
  · rw [if_neg h0]
    exact go_nn h0 rfl
theorem fD65 (b : List UInt8) (most : Int) : (full b most).1.length ≤ b.length := by
  have hs := suf_le (fA70 (List.suffix_refl b) 0 most)
  unfold full
  split
  · have := fC85 (n := (varR b 0 most).2) (b := (varR b 0 most).1.1)
    omega
  · simp
end Go.Hay.YthlojpcjafefjaaGreat
