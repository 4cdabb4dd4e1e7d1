/- What fixes the readings; each number has one form; lists written; the document's readers. Conditions: sizes below a bound. -/
import Derived.Test.YtpgamibdlinhjaaLb
set_option linter.unusedVariables false
set_option linter.unusedSimpArgs false
namespace Go.Hay.Ytpgamibdlinhjaa
open Go Go.Hay Go.Proofs

/-- A text's bytes. -/
def textB (t : List UInt8) : List UInt8 := varB t.length ++ t
theorem textB_len (t : List UInt8) : (textB t).length ≤ t.length + 9 := by
  have := (varB_len t.length).1
  simp only [textB, List.length_append]; omega
theorem u64_len (n : Nat) (h : n ≤ 100000000000000) : IntKind.u64.wrap (n : Int) = (n : Int) := by rw [w_u64]; omega
theorem wr_text (k : Nat) (b t : List UInt8) (hb : b.length ≤ 10000000000000) (ht : t.length ≤ 10000000000000) : codec_Writer_Text.run (k + 9) b t = some ((b ++ textB t, ()), ()) := by
  have hv := wr_var k t.length b hb
  rw [← u64_len t.length (by omega)] at hv
  have hl := (varB_len t.length).1
  refine go_o hv (go_o (v := ((b ++ varB t.length ++ t, ()), ())) (go_t (room_t (by simp only [List.length_append]; omega) (by simp only [List.length_append]; omega)) rfl) ?_)
  simp [textB]
def tot (l : List (List UInt8)) : Nat := (l.map fun t => t.length + 9).sum
theorem tot_cons (t : List UInt8) (l : List (List UInt8)) : tot (t :: l) = t.length + 9 + tot l := by simp [tot]
theorem tot_len : ∀ l : List (List UInt8), l.length * 9 ≤ tot l
  | [] => by simp
  | t :: l => by
    have := tot_len l
    rw [tot_cons, List.length_cons]; omega
theorem flat_len : ∀ l : List (List UInt8), (l.flatMap textB).length ≤ tot l
  | [] => by simp [tot]
  | t :: l => by
    have h1 := textB_len t
    have h2 := flat_len l
    rw [tot_cons, List.flatMap_cons, List.length_append]; omega
/- The document's readers. -/
/-- The document's reader that has so much left. -/
def R (B b : List UInt8) (e : Int) : List UInt8 × (Int × Int) := (B, ((B.length - b.length : Nat) : Int), e)
theorem suf_drop {b B : List UInt8} (h : b <:+ B) : B.drop (B.length - b.length) = b := (List.suffix_iff_eq_drop.1 h).symm
theorem suf_le {b B : List UInt8} (h : b <:+ B) : b.length ≤ B.length := h.length_le
theorem raw_hi (b : List UInt8) (e : Int) (n : Nat) : (rawR b e (n : Int)).1 = (hiX b e n).1 ∧ toNum (rawR b e (n : Int)).2 = (hiX b e n).2 ∧ (rawR b e (n : Int)).2.length ≤ n := by
  unfold rawR hiX
  by_cases he : e ≠ 0
  · rw [if_pos he, if_pos he]; exact ⟨rfl, rfl, by simp⟩
  rw [if_neg he, if_neg he, if_neg (by omega)]
  by_cases h : n > b.length
  · rw [if_pos (by omega), if_pos h]; exact ⟨rfl, rfl, by simp⟩
  · rw [if_neg (by omega), if_neg h, Int.toNat_natCast]
    exact ⟨rfl, rfl, by rw [List.length_take]; omega⟩
theorem raw_suf {B b : List UInt8} (h : b <:+ B) (e n : Int) : (rawR b e n).1.1 <:+ B := by
  unfold rawR
  split
  · exact h
  split
  · exact h
  split
  · exact h
  · exact (List.drop_suffix _ _).trans h
theorem hi_suf {B b : List UInt8} (h : b <:+ B) (e : Int) (n : Nat) : (hiX b e n).1.1 <:+ B := by
  rw [← (raw_hi b e n).1]; exact raw_suf h e n
theorem var_suf {B b : List UInt8} (h : b <:+ B) (e most : Int) : (varR b e most).1.1 <:+ B := by
  unfold varR
  split
  · exact h
  split
  · exact h
  · exact (List.drop_suffix _ _).trans h
theorem text_suf {B b : List UInt8} (h : b <:+ B) (e most : Int) : (textR b e most).1.1 <:+ B := by
  unfold textR
  split
  · exact h
  split
  · exact h
  · split
    · exact h
    · exact (List.drop_suffix _ _).trans h
end Go.Hay.Ytpgamibdlinhjaa
