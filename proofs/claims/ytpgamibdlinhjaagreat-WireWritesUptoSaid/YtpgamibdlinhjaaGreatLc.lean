/- What fixes the readings; each number has one form; lists written; the document's readers. Conditions: sizes below a bound. -/
import Derived.Test.YtpgamibdlinhjaaGreatLb
set_option linter.unusedVariables false
set_option linter.unusedSimpArgs false
namespace Go.Hay.YtpgamibdlinhjaaGreat
open Go Go.Hay Go.Proofs

/-- A text's bytes. -/
def textB (t : List UInt8) : List UInt8 := varB t.length ++ t
theorem fD146 (t : List UInt8) : (textB t).length ≤ t.length + 9 := by
  have := (fA81 t.length).1
  simp only [textB, List.length_append]; omega
theorem fA115 (n : Nat) (h : n ≤ 100000000000000) : IntKind.u64.wrap (n : Int) = (n : Int) := by rw [w_u64]; omega
theorem fB155 (k : Nat) (b t : List UInt8) (hb : b.length ≤ 10000000000000) (ht : t.length ≤ 10000000000000) : fC16.run (k + 9) b t = some ((b ++ textB t, ()), ()) := by
  have hv := wr_var k t.length b hb
  rw [← fA115 t.length (by omega)] at hv
  have hl := (fA81 t.length).1
  refine go_o hv (go_o (v := ((b ++ varB t.length ++ t, ()), ())) (go_t (room_t (by simp only [List.length_append]; omega) (by simp only [List.length_append]; omega)) rfl) ?_)
  simp [textB]
theorem fA139 (k : Nat) (t : List UInt8) (ht : t.length ≤ 10000000000000) : fB72.run (k + 9) t = some (textB t, ()) := by
  have hv := rf_var k t.length (by omega)
  rw [← fA115 t.length (by omega)] at hv
  have hl := (fA81 t.length).1
  exact go_o hv (go_t (room_t (by omega) (by omega)) rfl)

/- The document's readers. -/
/-- The document's reader that has so much left. -/
def R (B b : List UInt8) (e : Int) : List UInt8 × (Int × Int) := (B, ((B.length - b.length : Nat) : Int), e)
theorem raw_hi (b : List UInt8) (e : Int) (n : Nat) : (rawR b e (n : Int)).1 = (hiX b e n).1 ∧ toNum (rawR b e (n : Int)).2 = (hiX b e n).2 ∧ (rawR b e (n : Int)).2.length ≤ n := by
  unfold rawR hiX
  by_cases he : e ≠ 0
  · rw [if_pos he, if_pos he]; exact ⟨rfl, rfl, by simp⟩
  rw [if_neg he, if_neg he, if_neg (by omega)]
  by_cases h : n > b.length
  · rw [if_pos (by omega), if_pos h]; exact ⟨rfl, rfl, by simp⟩
  · rw [if_neg (by omega), if_neg h, Int.toNat_natCast]
    exact ⟨rfl, rfl, by rw [List.length_take]; omega⟩
theorem fA155 {B b : List UInt8} (h : b <:+ B) (e n : Int) : (rawR b e n).1.1 <:+ B := by
  unfold rawR
  split
  · exact h
  split
  · exact h
  split
  · exact h
  · exact (List.drop_suffix _ _).trans h
theorem hi_suf {B b : List UInt8} (h : b <:+ B) (e : Int) (n : Nat) : (hiX b e n).1.1 <:+ B := by
  rw [← (raw_hi b e n).1]; exact fA155 h e n
theorem fD155 {B b : List UInt8} (h : b <:+ B) (e most : Int) : (varR b e most).1.1 <:+ B := by
  unfold varR
  split
  · exact h
  split
  · exact h
  · exact (List.drop_suffix _ _).trans h
theorem fB154 {B b : List UInt8} (h : b <:+ B) (e most : Int) : (textR b e most).1.1 <:+ B := by
  unfold textR
  split
  · exact h
  split
  · exact h
  · split
    · exact h
    · exact (List.drop_suffix _ _).trans h
end Go.Hay.YtpgamibdlinhjaaGreat
