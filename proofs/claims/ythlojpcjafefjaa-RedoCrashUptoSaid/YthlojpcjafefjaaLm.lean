/- Laws of logs: batches, spoilt bits. Conditions: sizes below a bound. -/
import Derived.Test.YthlojpcjafefjaaLl
set_option linter.unusedVariables false
set_option linter.unusedSimpArgs false
namespace Go.Hay.Ythlojpcjafefjaa
open Go Go.Hay Go.Proofs

/-! ### Frames with one byte changed -/
theorem sumN_set {l : List UInt8} {i : Nat} (h : i < l.length) {d : UInt8} (hd : l.getD i 0 ≠ d) : sumN (l.set i d) ≠ sumN l := by
  have hs := set_split h d
  have hne := sumN_byte (l.take i) (l.drop (i + 1)) hd
  rw [← hs.1, ← hs.2] at hne
  exact fun e => hne e.symm
theorem set_ne {l : List UInt8} {i : Nat} (h : i < l.length) {d : UInt8} (hd : l.getD i 0 ≠ d) : l.set i d ≠ l := by
  intro e
  apply hd
  have : (l.set i d).getD i 0 = l.getD i 0 := by rw [e]
  rw [← this, List.getD_eq_getElem?_getD, List.getElem?_set_self h]; rfl
theorem toNum_set {l : List UInt8} {i : Nat} (h : i < l.length) {d : UInt8} (hd : l.getD i 0 ≠ d) : toNum (l.set i d) ≠ toNum l := by
  intro e
  have h1 := numB_toNum (l.set i d)
  rw [List.length_set, e, numB_toNum] at h1
  exact set_ne h hd h1.symm
theorem getD_app_left (a b : List UInt8) {i : Nat} (h : i < a.length) : (a ++ b).getD i 0 = a.getD i 0 := by
  rw [List.getD_eq_getElem?_getD, List.getElem?_append_left h, List.getD_eq_getElem?_getD]
theorem getD_app_right (a b : List UInt8) {i : Nat} (h : a.length ≤ i) : (a ++ b).getD i 0 = b.getD (i - a.length) 0 := by
  rw [List.getD_eq_getElem?_getD, List.getElem?_append_right h, List.getD_eq_getElem?_getD]
theorem unf_turn (x r : List UInt8) (hx : x.length ≤ 16777216) (i : Nat) (hi : i < (frame x).length) (d : UInt8) (hd : (frame x).getD i 0 ≠ d) : unf ((frame x).set i d ++ r) = ([], 0, 14) := by
  have fl := frame_len x
  have s1 := sumN_lt (numB 4 x.length)
  have s2 := sumN_lt x
  have lA := numB_len 4 x.length
  have lS := numB_len 4 (sumN (numB 4 x.length))
  have lX := numB_len 4 (sumN x)
  have e : frame x = numB 4 x.length ++ (numB 4 (sumN (numB 4 x.length)) ++ (x ++ numB 4 (sumN x))) := by simp [frame]
  have key : ∀ A S Y X : List UInt8, A.length = 4 → S.length = 4 → Y.length = x.length → X.length = 4 →
      (toNum S ≠ sumN A ∨ (toNum S = sumN A ∧ toNum A = x.length ∧ toNum X ≠ sumN Y)) → unf (A ++ (S ++ (Y ++ X)) ++ r) = ([], 0, 14) := by
    intro A S Y X hA hS hY hX h
    have e0 : A ++ (S ++ (Y ++ X)) ++ r = A ++ (S ++ (Y ++ (X ++ r))) := by simp
    rw [e0]
    have t1 : (A ++ (S ++ (Y ++ (X ++ r)))).take 4 = A := List.take_left' hA
    have t2 : (A ++ (S ++ (Y ++ (X ++ r)))).drop 4 = S ++ (Y ++ (X ++ r)) := List.drop_left' hA
    have t3 : (A ++ (S ++ (Y ++ (X ++ r)))).drop 8 = Y ++ (X ++ r) := by rw [show 8 = 4 + 4 from rfl, ← List.drop_drop, t2, List.drop_left' hS]
    have t4 : (A ++ (S ++ (Y ++ (X ++ r)))).drop (8 + x.length) = X ++ r := by rw [← List.drop_drop, t3, List.drop_left' hY]
    have hlen : (A ++ (S ++ (Y ++ (X ++ r)))).length = x.length + 12 + r.length := by simp only [List.length_append]; omega
    unfold unf
    rw [t1, t2, List.take_left' hS, if_neg (by omega)]
    rcases h with h | ⟨h1, h2, h3⟩
    · rw [if_pos h]
    · rw [if_neg (by simp [h1]), h2, if_neg (by omega), if_neg (by omega), t3, t4, List.take_left' hY, List.take_left' hX, if_pos h3]
  rw [e] at hd hi ⊢
  simp only [List.length_append] at hi
  by_cases c1 : i < 4
  · rw [getD_app_left _ _ (by omega)] at hd
    rw [List.set_append_left _ _ (by omega)]
    refine key _ _ _ _ (by rw [List.length_set]; exact lA) lS rfl lX (.inl ?_)
    rw [numB_back _ s1]
    exact fun h => sumN_set (by omega) hd h.symm
  rw [getD_app_right _ _ (by omega), lA] at hd
  rw [List.set_append_right _ _ (by omega), lA]
  by_cases c2 : i - 4 < 4
  · rw [getD_app_left _ _ (by omega)] at hd
    rw [List.set_append_left _ _ (by omega)]
    refine key _ _ _ _ lA (by rw [List.length_set]; exact lS) rfl lX (.inl ?_)
    intro h
    refine toNum_set (l := numB 4 (sumN (numB 4 x.length))) (by omega) hd ?_
    rw [numB_back _ s1]
    exact h
  rw [getD_app_right _ _ (by omega), lS] at hd
  rw [List.set_append_right _ _ (by omega), lS]
  by_cases c3 : i - 4 - 4 < x.length
  · rw [getD_app_left _ _ (by omega)] at hd
    rw [List.set_append_left _ _ (by omega)]
    refine key _ _ _ _ lA lS (by rw [List.length_set]) lX (.inr ⟨numB_back _ s1, numB_back _ (by omega), ?_⟩)
    rw [numB_back _ s2]
    exact fun h => sumN_set (by omega) hd h.symm
  · rw [getD_app_right _ _ (by omega)] at hd
    rw [List.set_append_right _ _ (by omega)]
    refine key _ _ _ _ lA lS rfl (by rw [List.length_set]; exact lX) (.inr ⟨numB_back _ s1, numB_back _ (by omega), ?_⟩)
    intro h
    refine toNum_set (l := numB 4 (sumN x)) (by omega) hd ?_
    rw [numB_back _ s2]
    exact h

theorem readA_turn : ∀ (bs : List (List (List UInt8))) (P : List UInt8) (l : List (List UInt8)) (n i : Nat) (d : UInt8), (∀ x ∈ bs, Small x) → i < (F2 bs).length → (F2 bs).getD i 0 ≠ d → (F2 bs).length < n →
    readA n (P ++ (F2 bs).set i d) l P.length = ([], 0, 91)
  | bs, P, l, 0, i, d, _, _, _, h => absurd h (Nat.not_lt_zero _)
  | [], P, l, n + 1, i, d, _, hi, _, hn => by simp [F2] at hi
  | x :: bs, P, l, n + 1, i, d, hb, hi, hd, hn => by
    have hx := hb x List.mem_cons_self
    have hlen := recB_len x
    have hx' : tot x + 9 ≤ 16777216 := hx
    have fl := frame_len (recB x)
    have hlt : P.length < (P ++ (F2 (x :: bs)).set i d).length := by rw [List.length_append, List.length_set]; omega
    have hdr : (P ++ (F2 (x :: bs)).set i d).drop P.length = (F2 (x :: bs)).set i d := List.drop_left
    rw [F2_cons] at hi hd hn
    rw [List.length_append] at hi hn
    by_cases hc : i < (frame (recB x)).length
    · have e1 : (F2 (x :: bs)).set i d = (frame (recB x)).set i d ++ F2 bs := by rw [F2_cons, List.set_append_left _ _ hc]
      rw [getD_app_left _ _ hc] at hd
      have hu := unf_turn (recB x) (F2 bs) (by omega) i hc d hd
      exact readA_bad hlt (by rw [hdr, e1, hu]; decide) (by rw [hdr, e1, hu]; exact fun h => absurd h.1 (by decide))
    · have e1 : (F2 (x :: bs)).set i d = frame (recB x) ++ (F2 bs).set (i - (frame (recB x)).length) d := by rw [F2_cons, List.set_append_right _ _ (by omega)]
      rw [getD_app_right _ _ (by omega)] at hd
      have hu := unf_frame (recB x) ((F2 bs).set (i - (frame (recB x)).length) d) (by omega)
      rw [readA_ok hlt (by rw [hdr, e1, hu]) (by rw [hdr, e1, hu]; exact okB_recB x hx), hdr, e1, hu, Int.toNat_natCast]
      have ih := readA_turn bs (P ++ frame (recB x)) (l ++ (full (recB x) 16777216).1) n (i - (frame (recB x)).length) d (fun y hy => hb y (List.mem_cons_of_mem _ hy)) (by omega) hd (by omega)
      have e2 : P.length + ((recB x).length + 12) = (P ++ frame (recB x)).length := by rw [List.length_append, fl]
      rw [← List.append_assoc]
      show readA n _ (l ++ (full (recB x) 16777216).1) (P.length + ((recB x).length + 12)) = _
      rw [e2]
      exact ih
theorem readP_turn (bs : List (List (List UInt8))) (hb : ∀ x ∈ bs, Small x) (i : Nat) (d : UInt8) (hi : i < (F2 bs).length) (hd : (F2 bs).getD i 0 ≠ d) : readP ((F2 bs).set i d) = ([], 0, 91) := by
  have h := readA_turn bs [] [] (((F2 bs).set i d).length + 1) i d hb hi hd (by rw [List.length_set]; omega)
  exact h

section
variable {N : Nat}
abbrev nm : DNm := [108, 111, 103]
theorem nm_ok : nameOk nm = true := by decide
theorem open_bad (hN : 8796093022208 ≤ N) {room : Int} {b : List UInt8} {d : DD} (h : Lg room nm b d) (hb : b.length ≤ 1000000000) (hp : readP b = ([], 0, 91)) :
    redo_Open.run N d.room d.used d.files d.steps d.left d.dead nm = some (.inl (d.t, (), 91, ())) := by
  obtain ⟨k, rfl⟩ : ∃ k, N = k + 20 := ⟨N - 20, by omega⟩
  have hg : (dGet d nm).1 = b := by obtain ⟨_, _, ⟨c, h3⟩, _⟩ := h; unfold dGet; rw [h3, get_one]
  have hhas : mapHas d.files nm = true := by obtain ⟨_, _, ⟨c, h3⟩, _⟩ := h; rw [h3, has_one]
  have hread := Dk.read_ok (N := k + 20) d nm (by rw [hg]; omega)
  have hrd := reads_ok k b hb (by omega)
  rw [hp] at hrd
  rw [hg, hhas] at hread
  exact go_o hread (go_o (Dk.dead_ok (N := k + 20) d) (go_f h.1 (go_f rfl (go_o hrd (go_nn (by decide) rfl)))))

abbrev LS := DD × List (List UInt8) × Int
abbrev big : Int := 1125899906842624
def LogQ (b : List UInt8) (rs : List (List UInt8)) (s : LS) : Prop := Lg big nm b s.1 ∧ s.2.1 = rs ∧ s.2.2 = (b.length : Int)

theorem log_app (hN : 8796093022208 ≤ N) {b : List UInt8} {rs : List (List UInt8)} {s : LS} (h : LogQ b rs s) {x : List (List UInt8)} (hx : Small x) (hb : (b ++ apB x).length ≤ 1000000000) (hr : rs.length ≤ 1000000000) :
    ∃ s' : LS, redo_Log_Append_b.run N s.1.room s.1.used s.1.files s.1.steps s.1.left s.1.dead nm s.2.1 s.2.2 x = some (s'.1.t, ((), nm, s'.2.1, s'.2.2, ()), 0, ()) ∧ LogQ (b ++ apB x) (rs ++ x) s' := by
  obtain ⟨h1, h2, h3⟩ := h
  rw [List.length_append] at hb
  obtain ⟨d', e, l'⟩ := app_b_ok (N := N) hN h1 nm_ok (by decide) (by decide) (l := s.2.1) hx (by omega) (by rw [h2]; omega) s.2.2 (by show ((b.length + (apB x).length : Nat) : Int) ≤ 1125899906842624; omega) (by rw [h3]; omega)
  exact ⟨(d', s.2.1 ++ x, s.2.2 + ((apB x).length : Int)), e, l', by rw [h2], by show (s.2.2 + ((apB x).length : Int)) = ((b ++ apB x).length : Int); rw [h3, List.length_append]; omega⟩
theorem log_app1 (hN : 8796093022208 ≤ N) {b : List UInt8} {rs : List (List UInt8)} {s : LS} (h : LogQ b rs s) {x : List (List UInt8)} (hx : Small x) (hb : (b ++ apB x).length ≤ 1000000000) (hr : rs.length ≤ 1000000000) :
    ∃ s' : LS, redo_Log_Append.run N s.1.room s.1.used s.1.files s.1.steps s.1.left s.1.dead nm s.2.1 s.2.2 x = some (s'.1.t, ((), nm, s'.2.1, s'.2.2, ()), 0, ()) ∧ LogQ (b ++ apB x) (rs ++ x) s' := by
  obtain ⟨h1, h2, h3⟩ := h
  rw [List.length_append] at hb
  obtain ⟨d', e, l'⟩ := app_ok (N := N) hN h1 nm_ok (by decide) (by decide) (l := s.2.1) hx (by omega) (by rw [h2]; omega) s.2.2 (by show ((b.length + (apB x).length : Nat) : Int) ≤ 1125899906842624; omega) (by rw [h3]; omega)
  exact ⟨(d', s.2.1 ++ x, s.2.2 + ((apB x).length : Int)), e, l', by rw [h2], by show (s.2.2 + ((apB x).length : Int)) = ((b ++ apB x).length : Int); rw [h3, List.length_append]; omega⟩

/-! ### At once, or one by one -/
def sg (x : List (List UInt8)) : List (List (List UInt8)) := x.map fun t => [t]
theorem sg_append (x y : List (List UInt8)) : ap (sg (x ++ y)) = ap (sg x) ++ ap (sg y) := by unfold ap sg; rw [List.map_append, List.flatMap_append]
theorem sg_one (t : List UInt8) : ap (sg [t]) = apB [t] := by simp [ap, sg]
theorem sg_F2 (x : List (List UInt8)) : ap (sg x) = F2 (sg x) := by
  rw [ap_F2]
  congr 1
  unfold ne sg
  exact List.filter_eq_self.2 fun y hy => by
    obtain ⟨t, _, rfl⟩ := List.mem_map.1 hy
    rfl
theorem sg_flat (x : List (List UInt8)) : (sg x).flatten = x := by
  induction x with
  | nil => rfl
  | cons t x ih => unfold sg at ih ⊢; rw [List.map_cons, List.flatten_cons, ih]; rfl
theorem sg_le {x : List (List UInt8)} (i : Nat) : (ap (sg (x.take i))).length ≤ (ap (sg x)).length := by
  conv => rhs; rw [← List.take_append_drop i x]
  rw [sg_append, List.length_append]; omega
theorem tot_mem {x : List (List UInt8)} {t : List UInt8} (h : t ∈ x) : t.length + 9 ≤ tot x := by
  induction x with
  | nil => cases h
  | cons a x ih =>
    rw [tot_cons]
    rcases List.mem_cons.1 h with rfl | h
    · omega
    · have := ih h; omega
theorem small_one {x : List (List UInt8)} (hx : Small x) {t : List UInt8} (h : t ∈ x) : Small [t] := by
  have := tot_mem h
  unfold Small at hx ⊢
  rw [tot_cons]
  show t.length + 9 + 0 + 9 ≤ _
  omega

end
end Go.Hay.Ythlojpcjafefjaa
