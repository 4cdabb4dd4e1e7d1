/- Laws of logs: reading, torn frames, batches, spoilt bits. Conditions: sizes below a bound. -/
import Derived.Test.YthlojpcjafefjaaGreatLk
set_option linter.unusedVariables false
set_option linter.unusedSimpArgs false
namespace Go.Hay.YthlojpcjafefjaaGreat
open Go Go.Hay Go.Proofs

section
variable {N : Nat}

theorem fB72 : ∀ (n : Nat) (b : List UInt8) (l : List (List UInt8)) (jO_ : Nat), jO_ ≤ b.length → (readA n b l jO_).1.length ≤ l.length + (b.length - jO_)
  | 0, b, l, jO_, _ => by unfold readA; simp
  | n + 1, b, l, jO_, ha => by
    by_cases hlt : jO_ < b.length
    · by_cases h10 : (unf (b.drop jO_)).2.2 = 10
      · rw [fA50 hlt h10]; simp
      · by_cases h : (unf (b.drop jO_)).2.2 = 0 ∧ okB' (unf (b.drop jO_)).1
        · obtain ⟨m, m1, m2, m3, m4⟩ := fA62 h.1
          rw [List.length_drop] at m3
          have hf := fD65 (unf (b.drop jO_)).1 16777216
          rw [fC57 hlt h.1 h.2, m1, Int.toNat_natCast]
          have ih := fB72 n b (l ++ (full (unf (b.drop jO_)).1 16777216).1) (jO_ + m) (by omega)
          rw [List.length_append] at ih
          omega
        · rw [fB50 hlt h10 h]; simp
    · rw [fA53 hlt]; simp

/-! ### Torn frames -/
abbrev Torn := List UInt8 × List (List UInt8) × Int
/-! ### Appends -/
def ne (l : List (List (List UInt8))) : List (List (List UInt8)) := l.filter fun x => !x.isEmpty
theorem fD70 (room used : Int) (files : DFs) (steps left : Int) (dead : Bool) (name : DNm) (size : Int) (rs : List (List UInt8)) (hrs : rs.length ≤ 1000000000) (ht : tl rs ≤ 1000000000000) : ∀ (suf pre l : List (List UInt8)) (fuel : Nat), rs = pre ++ suf → l.length + suf.length ≤ 1000000000000 → suf.length < fuel →
    fB11.go N fuel room used files steps left dead name l size rs (rs.length : Int) (pre.length : Int) = some ((room, used, (), steps, left, dead, ()), ((), name, l ++ suf, size, ()), ())
  | _, _, _, 0, _, _, h => absurd h (Nat.not_lt_zero _)
  | [], pre, l, fuel + 1, hp, _, hf => go_n (by rw [hp]; simp) (by simp)
  | t :: suf, pre, l, fuel + 1, hp, hll, hf => by
    have hlt : pre.length < rs.length := by rw [hp]; simp
    have hgd : rs.getD ((pre.length : Int)).toNat ([] : List UInt8) = t := by rw [hp]; exact fC29 _ _ _ _
    have htl := tl_mem (l := rs) (t := t) (by rw [hp]; simp)
    simp only [List.length_cons] at hll hf
    refine go_d (by omega) (go_t (inB_nat hlt) ?_)
    rw [hgd]
    refine go_o (Dk.fD43 t (by omega)) (go_t (room_t (by omega) (by omega)) ?_)
    rw [wrap_succ pre.length (by omega)]
    have ih := fD70 room used files steps left dead name size rs hrs ht suf (pre ++ [t]) (l ++ [t]) fuel (by rw [hp]; simp) (by simp only [List.length_append, List.length_singleton]; omega) (by omega)
    rw [show ((pre ++ [t]).length : Int) = ((pre.length + 1 : Nat) : Int) by simp] at ih
    exact ih.trans (by simp)
end
end Go.Hay.YthlojpcjafefjaaGreat
