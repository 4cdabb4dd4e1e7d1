/- Whatever is written stands in the bytes; frames of which a bit is turned. Conditions: sizes below a bound. -/
import Derived.Test.YtpgamibdlinhjaaLh
set_option linter.unusedVariables false
set_option linter.unusedSimpArgs false
namespace Go.Hay.Ytpgamibdlinhjaa
open Go Go.Hay Go.Proofs

/- Frames with one byte changed. -/
theorem sumN_set {l : List UInt8} {i : Nat} (h : i < l.length) {d : UInt8} (hd : l.getD i 0 ≠ d) : sumN (l.set i d) ≠ sumN l := by
  have hs := set_split h d
  have hne := sumN_byte (l.take i) (l.drop (i + 1)) hd
  rw [← hs.1, ← hs.2] at hne
  exact fun e => hne e.symm
theorem set_ne {l : List UInt8} {i : Nat} (h : i < l.length) {d : UInt8} (hd : l.getD i 0 ≠ d) : l.set i d ≠ l := by
  intro e
  apply hd
  have : (l.set i d).getD i 0 = l.getD i 0 := by rw [e]
  rw [← this, List.getD_eq_getElem?_getD, List.getElem?_set_self h]; rfl
theorem toNum_set {l : List UInt8} {i : Nat} (h : i < l.length) {d : UInt8} (hd : l.getD i 0 ≠ d) : toNum (l.set i d) ≠ toNum l := by
  intro e
  have h1 := numB_toNum (l.set i d)
  rw [List.length_set, e, numB_toNum] at h1
  exact set_ne h hd h1.symm
theorem getD_app_left (a b : List UInt8) {i : Nat} (h : i < a.length) : (a ++ b).getD i 0 = a.getD i 0 := by
  rw [List.getD_eq_getElem?_getD, List.getElem?_append_left h, List.getD_eq_getElem?_getD]
theorem getD_app_right (a b : List UInt8) {i : Nat} (h : a.length ≤ i) : (a ++ b).getD i 0 = b.getD (i - a.length) 0 := by
  rw [List.getD_eq_getElem?_getD, List.getElem?_append_right h, List.getD_eq_getElem?_getD]

theorem unf_turn (x : List UInt8) (hx : x.length ≤ 16777216) (i : Nat) (hi : i < (frame x).length) (d : UInt8) (hd : (frame x).getD i 0 ≠ d) : unf ((frame x).set i d) = ([], 0, 14) := by
  have fl := frame_len x
  have s1 := sumN_lt (numB 4 x.length)
  have s2 := sumN_lt x
  have lA := numB_len 4 x.length
  have lS := numB_len 4 (sumN (numB 4 x.length))
  have lX := numB_len 4 (sumN x)
  have e : frame x = numB 4 x.length ++ (numB 4 (sumN (numB 4 x.length)) ++ (x ++ numB 4 (sumN x))) := by simp [frame]
  have key : ∀ A S Y X : List UInt8, A.length = 4 → S.length = 4 → Y.length = x.length → X.length = 4 →
      (toNum S ≠ sumN A ∨ (toNum S = sumN A ∧ toNum A = x.length ∧ toNum X ≠ sumN Y)) → unf (A ++ (S ++ (Y ++ X))) = ([], 0, 14) := by
    intro A S Y X hA hS hY hX h
    have t1 : (A ++ (S ++ (Y ++ X))).take 4 = A := List.take_left' hA
    have t2 : (A ++ (S ++ (Y ++ X))).drop 4 = S ++ (Y ++ X) := List.drop_left' hA
    have t3 : (A ++ (S ++ (Y ++ X))).drop 8 = Y ++ X := by rw [show 8 = 4 + 4 from rfl, ← List.drop_drop, t2, List.drop_left' hS]
    have t4 : (A ++ (S ++ (Y ++ X))).drop (8 + x.length) = X := by rw [← List.drop_drop, t3, List.drop_left' hY]
    have hlen : (A ++ (S ++ (Y ++ X))).length = x.length + 12 := by simp only [List.length_append]; omega
    unfold unf
    rw [t1, t2, List.take_left' hS, if_neg (by omega)]
    rcases h with h | ⟨h1, h2, h3⟩
    · rw [if_pos h]
    · rw [if_neg (by simp [h1]), h2, if_neg (by omega), if_neg (by omega), t3, t4, List.take_left' hY, List.take_of_length_le (by omega), if_pos h3]
  rw [e] at hd hi ⊢
  simp only [List.length_append] at hi
  by_cases c1 : i < 4
  · rw [getD_app_left _ _ (by omega)] at hd
    rw [List.set_append_left _ _ (by omega)]
    refine key _ _ _ _ (by rw [List.length_set]; exact lA) lS rfl lX (.inl ?_)
    rw [numB_back _ s1]
    exact fun h => sumN_set (by omega) hd h.symm
  rw [getD_app_right _ _ (by omega), lA] at hd
  rw [List.set_append_right _ _ (by omega), lA]
  by_cases c2 : i - 4 < 4
  · rw [getD_app_left _ _ (by omega)] at hd
    rw [List.set_append_left _ _ (by omega)]
    refine key _ _ _ _ lA (by rw [List.length_set]; exact lS) rfl lX (.inl ?_)
    intro h
    refine toNum_set (l := numB 4 (sumN (numB 4 x.length))) (by omega) hd ?_
    rw [numB_back _ s1]
    exact h
  rw [getD_app_right _ _ (by omega), lS] at hd
  rw [List.set_append_right _ _ (by omega), lS]
  by_cases c3 : i - 4 - 4 < x.length
  · rw [getD_app_left _ _ (by omega)] at hd
    rw [List.set_append_left _ _ (by omega)]
    refine key _ _ _ _ lA lS (by rw [List.length_set]) lX (.inr ⟨numB_back _ s1, numB_back _ (by omega), ?_⟩)
    rw [numB_back _ s2]
    exact fun h => sumN_set (by omega) hd h.symm
  · rw [getD_app_right _ _ (by omega)] at hd
    rw [List.set_append_right _ _ (by omega)]
    refine key _ _ _ _ lA lS rfl (by rw [List.length_set]; exact lX) (.inr ⟨numB_back _ s1, numB_back _ (by omega), ?_⟩)
    intro h
    refine toNum_set (l := numB 4 (sumN x)) (by omega) hd ?_
    rw [numB_back _ s2]
    exact h
end Go.Hay.Ytpgamibdlinhjaa
