/- What is written is read as it was; of a shorter beginning the reader fails. Conditions: sizes below a bound. -/
import Derived.Test.YthlojpcjafefjaaLd
set_option linter.unusedVariables false
set_option linter.unusedSimpArgs false
namespace Go.Hay.Ythlojpcjafefjaa
open Go Go.Hay Go.Proofs

/-- A thing's bytes. -/
def thB (t : Th) : List UInt8 :=
  if t.1 = 0 then numB 1 t.2.1.toNat else if t.1 = 1 then numB 4 t.2.1.toNat else if t.1 = 2 then numB 8 t.2.1.toNat else if t.1 = 3 then varB t.2.1.toNat else if t.1 = 4 then t.2.2.2 else if t.1 = 5 then textB t.2.2.2 else []
def fitT (t : Th) : Prop := 0 ≤ t.2.1 ∧ t.2.1 < 18446744073709551616 ∧ t.2.2.2.length ≤ 1000000000000
theorem thB_len (t : Th) : (thB t).length ≤ t.2.2.2.length + 9 := by
  have h1 := (varB_len t.2.1.toNat).1
  have h2 := textB_len t.2.2.2
  unfold thB
  repeat (split; · first | (rw [numB_len]; omega) | omega)
  simp
theorem th_cases (kd : Int) : kd = 0 ∨ kd = 1 ∨ kd = 2 ∨ kd = 3 ∨ kd = 4 ∨ kd = 5 ∨ (kd ≠ 0 ∧ kd ≠ 1 ∧ kd ≠ 2 ∧ kd ≠ 3 ∧ kd ≠ 4 ∧ kd ≠ 5) := by omega
theorem numB_one (n : Nat) : numB 1 n = [UInt8.ofNat (n % 256)] := by simp [numB]
theorem numB_word (n : Nat) : numB 4 (n % 4294967296) = numB 4 n := by
  have h := numB_add 4 (n / 4294967296) (n % 4294967296)
  rw [show n / 4294967296 * 256 ^ 4 + n % 4294967296 = n by omega] at h
  exact h.symm

theorem hi_pre (m n : Nat) (r : List UInt8) : hiX (numB m n ++ r) 0 m = ((r, 0), n % 256 ^ m) := by
  rw [hi_ok (by rw [List.length_append, numB_len]; omega), List.take_left' (numB_len m n), List.drop_left' (numB_len m n), toNum_numB]
theorem varX_pre (n : Nat) (hn : n < 18446744073709551616) (r : List UInt8) (most : Int) (h : (n : Int) ≤ most) : varX (varB n ++ r) most = .ok (n, (varB n).length) := by
  unfold varX
  rw [varD_varB n hn r]
  simp only
  rw [if_neg (by omega)]
theorem raw_pre (b r : List UInt8) : rawR (b ++ r) 0 (b.length : Int) = ((r, 0), b) := by
  unfold rawR
  rw [if_neg (by decide), if_neg (by omega), if_neg (by rw [List.length_append]; omega), Int.toNat_natCast, List.drop_left, List.take_left]
theorem text_pre (b r : List UInt8) (hb : b.length ≤ 1000000000000) (most : Int) (hm : (b.length : Int) ≤ most) : textR (textB b ++ r) 0 most = ((r, 0), b) := by
  unfold textR
  have e : textB b ++ r = varB b.length ++ (b ++ r) := by simp [textB]
  rw [if_neg (by decide), e, varX_pre b.length (by omega) _ most hm]
  simp only
  rw [List.drop_left, if_neg (by rw [List.length_append]; omega), List.take_left, ← List.drop_drop, List.drop_left, List.drop_left]

def totT (l : List Th) : Nat := (l.map fun t => t.2.2.2.length + 9).sum
theorem totT_cons (t : Th) (l : List Th) : totT (t :: l) = t.2.2.2.length + 9 + totT l := by simp [totT]
theorem flatT_len : ∀ l : List Th, (l.flatMap thB).length ≤ totT l
  | [] => by simp [totT]
  | t :: l => by
    have h1 := thB_len t
    have h2 := flatT_len l
    rw [totT_cons, List.flatMap_cons, List.length_append]; omega
end Go.Hay.Ythlojpcjafefjaa
