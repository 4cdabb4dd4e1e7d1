/- Laws of logs: batches, spoilt bits. Conditions: sizes below a bound. -/
import Derived.Test.YthlojpcjafefjaaLl
set_option linter.unusedVariables false
set_option linter.unusedSimpArgs false
namespace Go.Hay.Ythlojpcjafefjaa
open Go Go.Hay Go.Proofs

/-! ### Frames with one byte changed -/
theorem sumN_set {l : List UInt8} {i : Nat} (h : i < l.length) {d : UInt8} (hd : l.getD i 0 ≠ d) : sumN (l.set i d) ≠ sumN l := by
  have hs := set_split h d
  have hne := sumN_byte (l.take i) (l.drop (i + 1)) hd
  rw [← hs.1, ← hs.2] at hne
  exact fun e => hne e.symm
theorem set_ne {l : List UInt8} {i : Nat} (h : i < l.length) {d : UInt8} (hd : l.getD i 0 ≠ d) : l.set i d ≠ l := by
  intro e
  apply hd
  have : (l.set i d).getD i 0 = l.getD i 0 := by rw [e]
  rw [← this, List.getD_eq_getElem?_getD, List.getElem?_set_self h]; rfl
theorem toNum_set {l : List UInt8} {i : Nat} (h : i < l.length) {d : UInt8} (hd : l.getD i 0 ≠ d) : toNum (l.set i d) ≠ toNum l := by
  intro e
  have h1 := numB_toNum (l.set i d)
  rw [List.length_set, e, numB_toNum] at h1
  exact set_ne h hd h1.symm
theorem getD_app_left (a b : List UInt8) {i : Nat} (h : i < a.length) : (a ++ b).getD i 0 = a.getD i 0 := by
  rw [List.getD_eq_getElem?_getD, List.getElem?_append_left h, List.getD_eq_getElem?_getD]
theorem getD_app_right (a b : List UInt8) {i : Nat} (h : a.length ≤ i) : (a ++ b).getD i 0 = b.getD (i - a.length) 0 := by
  rw [List.getD_eq_getElem?_getD, List.getElem?_append_right h, List.getD_eq_getElem?_getD]
theorem unf_turn (x r : List UInt8) (hx : x.length ≤ 16777216) (i : Nat) (hi : i < (frame x).length) (d : UInt8) (hd : (frame x).getD i 0 ≠ d) : unf ((frame x).set i d ++ r) = ([], 0, 14) := by
  have fl := frame_len x
  have s1 := sumN_lt (numB 4 x.length)
  have s2 := sumN_lt x
  have lA := numB_len 4 x.length
  have lS := numB_len 4 (sumN (numB 4 x.length))
  have lX := numB_len 4 (sumN x)
  have e : frame x = numB 4 x.length ++ (numB 4 (sumN (numB 4 x.length)) ++ (x ++ numB 4 (sumN x))) := by simp [frame]
  have key : ∀ A S Y X : List UInt8, A.length = 4 → S.length = 4 → Y.length = x.length → X.length = 4 →
      (toNum S ≠ sumN A ∨ (toNum S = sumN A ∧ toNum A = x.length ∧ toNum X ≠ sumN Y)) → unf (A ++ (S ++ (Y ++ X)) ++ r) = ([], 0, 14) := by
    intro A S Y X hA hS hY hX h
    have e0 : A ++ (S ++ (Y ++ X)) ++ r = A ++ (S ++ (Y ++ (X ++ r))) := by simp
    rw [e0]
    have t1 : (A ++ (S ++ (Y ++ (X ++ r)))).take 4 = A := List.take_left' hA
    have t2 : (A ++ (S ++ (Y ++ (X ++ r)))).drop 4 = S ++ (Y ++ (X ++ r)) := List.drop_left' hA
    have t3 : (A ++ (S ++ (Y ++ (X ++ r)))).drop 8 = Y ++ (X ++ r) := by rw [show 8 = 4 + 4 from rfl, ← List.drop_drop, t2, List.drop_left' hS]
    have t4 : (A ++ (S ++ (Y ++ (X ++ r)))).drop (8 + x.length) = X ++ r := by rw [← List.drop_drop, t3, List.drop_left' hY]
    have hlen : (A ++ (S ++ (Y ++ (X ++ r)))).length = x.length + 12 + r.length := by simp only [List.length_append]; omega
    unfold unf
    rw [t1, t2, List.take_left' hS, if_neg (by omega)]
    rcases h with h | ⟨h1, h2, h3⟩
    · rw [if_pos h]
    · rw [if_neg (by simp [h1]), h2, if_neg (by omega), if_neg (by omega), t3, t4, List.take_left' hY, List.take_left' hX, if_pos h3]
  rw [e] at hd hi ⊢
  simp only [List.length_append] at hi
  by_cases c1 : i < 4
  · rw [getD_app_left _ _ (by omega)] at hd
    rw [List.set_append_left _ _ (by omega)]
    refine key _ _ _ _ (by rw [List.length_set]; exact lA) lS rfl lX (.inl ?_)
    rw [numB_back _ s1]
    exact fun h => sumN_set (by omega) hd h.symm
  rw [getD_app_right _ _ (by omega), lA] at hd
  rw [List.set_append_right _ _ (by omega), lA]
  by_cases c2 : i - 4 < 4
  · rw [getD_app_left _ _ (by omega)] at hd
    rw [List.set_append_left _ _ (by omega)]
    refine key _ _ _ _ lA (by rw [List.length_set]; exact lS) rfl lX (.inl ?_)
    intro h
    refine toNum_set (l := numB 4 (sumN (numB 4 x.length))) (by omega) hd ?_
    rw [numB_back _ s1]
    exact h
  rw [getD_app_right _ _ (by omega), lS] at hd
  rw [List.set_append_right _ _ (by omega), lS]
  by_cases c3 : i - 4 - 4 < x.length
  · rw [getD_app_left _ _ (by omega)] at hd
    rw [List.set_append_left _ _ (by omega)]
    refine key _ _ _ _ lA lS (by rw [List.length_set]) lX (.inr ⟨numB_back _ s1, numB_back _ (by omega), ?_⟩)
    rw [numB_back _ s2]
    exact fun h => sumN_set (by omega) hd h.symm
  · rw [getD_app_right _ _ (by omega)] at hd
    rw [List.set_append_right _ _ (by omega)]
    refine key _ _ _ _ lA lS rfl (by rw [List.length_set]; exact lX) (.inr ⟨numB_back _ s1, numB_back _ (by omega), ?_⟩)
    intro h
    refine toNum_set (l := numB 4 (sumN x)) (by omega) hd ?_
    rw [numB_back _ s2]
    exact h

theorem readA_turn : ∀ (bs : List (List (List UInt8))) (P : List UInt8) (l : List (List UInt8)) (n i : Nat) (d : UInt8), (∀ x ∈ bs, Small x) → i < (F2 bs).length → (F2 bs).getD i 0 ≠ d → (F2 bs).length < n →
    readA n (P ++ (F2 bs).set i d) l P.length = ([], 0, 91)
  | bs, P, l, 0, i, d, _, _, _, h => absurd h (Nat.not_lt_zero _)
  | [], P, l, n + 1, i, d, _, hi, _, hn => by simp [F2] at hi
  | x :: bs, P, l, n + 1, i, d, hb, hi, hd, hn => by
    have hx := hb x List.mem_cons_self
    have hlen := recB_len x
    have hx' : tot x + 9 ≤ 16777216 := hx
    have fl := frame_len (recB x)
    have hlt : P.length < (P ++ (F2 (x :: bs)).set i d).length := by rw [List.length_append, List.length_set]; omega
    have hdr : (P ++ (F2 (x :: bs)).set i d).drop P.length = (F2 (x :: bs)).set i d := List.drop_left
    rw [F2_cons] at hi hd hn
    rw [List.length_append] at hi hn
    by_cases hc : i < (frame (recB x)).length
    · have e1 : (F2 (x :: bs)).set i d = (frame (recB x)).set i d ++ F2 bs := by rw [F2_cons, List.set_append_left _ _ hc]
      rw [getD_app_left _ _ hc] at hd
      have hu := unf_turn (recB x) (F2 bs) (by omega) i hc d hd
      exact readA_bad hlt (by rw [hdr, e1, hu]; decide) (by rw [hdr, e1, hu]; exact fun h => absurd h.1 (by decide))
    · have e1 : (F2 (x :: bs)).set i d = frame (recB x) ++ (F2 bs).set (i - (frame (recB x)).length) d := by rw [F2_cons, List.set_append_right _ _ (by omega)]
      rw [getD_app_right _ _ (by omega)] at hd
      have hu := unf_frame (recB x) ((F2 bs).set (i - (frame (recB x)).length) d) (by omega)
      rw [readA_ok hlt (by rw [hdr, e1, hu]) (by rw [hdr, e1, hu]; exact okB_recB x hx), hdr, e1, hu, Int.toNat_natCast]
      have ih := readA_turn bs (P ++ frame (recB x)) (l ++ (full (recB x) 16777216).1) n (i - (frame (recB x)).length) d (fun y hy => hb y (List.mem_cons_of_mem _ hy)) (by omega) hd (by omega)
      have e2 : P.length + ((recB x).length + 12) = (P ++ frame (recB x)).length := by rw [List.length_append, fl]
      rw [← List.append_assoc]
      show readA n _ (l ++ (full (recB x) 16777216).1) (P.length + ((recB x).length + 12)) = _
      rw [e2]
      exact ih
theorem readP_turn (bs : List (List (List UInt8))) (hb : ∀ x ∈ bs, Small x) (i : Nat) (d : UInt8) (hi : i < (F2 bs).length) (hd : (F2 bs).getD i 0 ≠ d) : readP ((F2 bs).set i d) = ([], 0, 91) := by
  have h := readA_turn bs [] [] (((F2 bs).set i d).length + 1) i d hb hi hd (by rw [List.length_set]; omega)
  exact h

section
variable {N : Nat}
abbrev nm : DNm := [108, 111, 103]
theorem nm_ok : nameOk nm = true := by decide
theorem open_bad (hN : 8796093022208 ≤ N) {room : Int} {b : List UInt8} {d : DD} (h : Lg room nm b d) (hb : b.length ≤ 1000000000) (hp : readP b = ([], 0, 91)) :
    redo_Open.run N d.room d.used d.files d.steps d.left d.dead nm = some (.inl (d.t, (), 91, ())) := by
  obtain ⟨k, rfl⟩ : ∃ k, N = k + 20 := ⟨N - 20, by omega⟩
  have hg : (dGet d nm).1 = b := by obtain ⟨_, _, ⟨c, h3⟩, _⟩ := h; unfold dGet; rw [h3, get_one]
  have hhas : mapHas d.files nm = true := by obtain ⟨_, _, ⟨c, h3⟩, _⟩ := h; rw [h3, has_one]
  have hread := Dk.read_ok (N := k + 20) d nm (by rw [hg]; omega)
  have hrd := reads_ok k b hb (by omega)
  rw [hp] at hrd
  rw [hg, hhas] at hread
  exact go_o hread (go_o (Dk.dead_ok (N := k + 20) d) (go_f h.1 (go_f rfl (go_o hrd (go_nn (by decide) rfl)))))

abbrev LS := DD × List (List UInt8) × Int
abbrev big : Int := 1125899906842624
def LogQ (b : List UInt8) (rs : List (List UInt8)) (s : LS) : Prop := Lg big nm b s.1 ∧ s.2.1 = rs ∧ s.2.2 = (b.length : Int)

theorem log_app (hN : 8796093022208 ≤ N) {b : List UInt8} {rs : List (List UInt8)} {s : LS} (h : LogQ b rs s) {x : List (List UInt8)} (hx : Small x) (hb : (b ++ apB x).length ≤ 1000000000) (hr : rs.length ≤ 1000000000) :
    ∃ s' : LS, redo_Log_Append_b.run N s.1.room s.1.used s.1.files s.1.steps s.1.left s.1.dead nm s.2.1 s.2.2 x = some (s'.1.t, ((), nm, s'.2.1, s'.2.2, ()), 0, ()) ∧ LogQ (b ++ apB x) (rs ++ x) s' := by
  obtain ⟨h1, h2, h3⟩ := h
  rw [List.length_append] at hb
  obtain ⟨d', e, l'⟩ := app_b_ok (N := N) hN h1 nm_ok (by decide) (by decide) (l := s.2.1) hx (by omega) (by rw [h2]; omega) s.2.2 (by show ((b.length + (apB x).length : Nat) : Int) ≤ 1125899906842624; omega) (by rw [h3]; omega)
  exact ⟨(d', s.2.1 ++ x, s.2.2 + ((apB x).length : Int)), e, l', by rw [h2], by show (s.2.2 + ((apB x).length : Int)) = ((b ++ apB x).length : Int); rw [h3, List.length_append]; omega⟩
theorem log_app1 (hN : 8796093022208 ≤ N) {b : List UInt8} {rs : List (List UInt8)} {s : LS} (h : LogQ b rs s) {x : List (List UInt8)} (hx : Small x) (hb : (b ++ apB x).length ≤ 1000000000) (hr : rs.length ≤ 1000000000) :
    ∃ s' : LS, redo_Log_Append.run N s.1.room s.1.used s.1.files s.1.steps s.1.left s.1.dead nm s.2.1 s.2.2 x = some (s'.1.t, ((), nm, s'.2.1, s'.2.2, ()), 0, ()) ∧ LogQ (b ++ apB x) (rs ++ x) s' := by
  obtain ⟨h1, h2, h3⟩ := h
  rw [List.length_append] at hb
  obtain ⟨d', e, l'⟩ := app_ok (N := N) hN h1 nm_ok (by decide) (by decide) (l := s.2.1) hx (by omega) (by rw [h2]; omega) s.2.2 (by show ((b.length + (apB x).length : Nat) : Int) ≤ 1125899906842624; omega) (by rw [h3]; omega)
  exact ⟨(d', s.2.1 ++ x, s.2.2 + ((apB x).length : Int)), e, l', by rw [h2], by show (s.2.2 + ((apB x).length : Int)) = ((b ++ apB x).length : Int); rw [h3, List.length_append]; omega⟩

theorem spoilt_loop (hN : 8796093022208 ≤ N) (l : List (List (List UInt8))) (hs : ∀ x ∈ l, Small x) (ha : (ap l).length ≤ 1000000000) (hfl : l.flatten.length ≤ 1000000000) (hl : l.length ≤ 1000000000) {s : LS} (h : LogQ [] [] s) :
    ∃ s' : LS, law_RedoSpoilt_1.go N N s.1.room s.1.used s.1.files s.1.steps s.1.left s.1.dead nm s.2.1 s.2.2 l (l.length : Int) 0 = some (s'.1.t, ((), nm, s'.2.1, s'.2.2, ()), ()) ∧ LogQ (ap l) l.flatten s' := by
  obtain ⟨b, hb, e⟩ := loop_turn (β := LS) (go := fun fuel b i => law_RedoSpoilt_1.go N fuel b.1.room b.1.used b.1.files b.1.steps b.1.left b.1.dead nm b.2.1 b.2.2 l (l.length : Int) i) (n := l.length) (fin := fun b => (b.1.t, ((), nm, b.2.1, b.2.2, ()), ()))
    (fun i b => LogQ (ap (l.take i)) (l.take i).flatten b) (by omega) (fun fuel b _ => go_n (by omega) rfl)
    (fun i hi b hb => by
      have h1 := ap_le l (i + 1)
      have h2 := flat_le l i
      obtain ⟨s', e, q⟩ := log_app (N := N) hN hb (hs _ (List.getElem_mem hi)) (by rw [← ap_take hi]; omega) (by omega)
      refine ⟨s', by rw [ap_take hi, flat_take hi]; exact q, fun fuel => go_d (by omega) (go_t (inB_nat hi) ?_)⟩
      rw [Int.toNat_natCast, getD_get hi]
      exact go_o e rfl) (show l.length < N by omega) (b := s) h
  rw [List.take_of_length_le (Nat.le_refl _)] at hb
  exact ⟨b, e, hb⟩

theorem redo_spoilt (hN : 8796093022208 ≤ N) (l : List (List (List UInt8))) (at_ : Int) (hs : ∀ x ∈ l, Small x) (ha : (ap l).length ≤ 1000000000) (hfl : l.flatten.length ≤ 1000000000) (hl : l.length ≤ 1000000000) (h2 : at_ < 9223372036854775808) : law_RedoSpoilt.run N l at_ = some (true, ()) := by
  obtain ⟨d1, e1, l1⟩ := create_ok (N := N) hN (room := big) (name := nm) nm_ok (by decide) (by decide) (by decide)
  obtain ⟨s, e2, q1, q2, q3⟩ := spoilt_loop hN l hs ha hfl hl (s := (d1, [], 0)) ⟨l1, rfl, rfl⟩
  obtain ⟨g1, g2, ⟨c, g3⟩, g4, g5⟩ := id q1
  have hg : dGet s.1 nm = (ap l, c) := by unfold dGet; rw [g3, get_one]
  have hread := Dk.read_ok (N := N) s.1 nm (by rw [hg]; show (ap l).length ≤ _; omega)
  rw [hg] at hread
  refine go_o (Dk.new_ok big) (go_o (alive_ok hN) (go_f rfl (go_o (v := .inr (d1.t, ((), nm, [], 0, ()), 0, ())) (go_o e1 rfl) ?_)))
  refine go_nd rfl (go_o e2 (go_o hread (go_o (v := (s.2.2, ())) rfl ?_)))
  rw [q3]
  refine go_nd rfl ?_
  by_cases h0 : at_ < 0
  · exact go_d h0 (go_o (v := (((ap l).length : Int), ())) rfl (by show some (decide (((ap l).length : Int) = ((ap l).length : Int)), ()) = _; rw [decide_eq_true rfl]))
  refine go_n h0 ?_
  obtain ⟨x, rfl⟩ := Int.eq_ofNat_of_zero_le (show 0 ≤ at_ by omega)
  have w1 : IntKind.i64.wrap ((x : Int).tdiv 8) = ((x / 8 : Nat) : Int) := by
    rw [Int.tdiv_eq_ediv_of_nonneg (by omega), wrap_i64] <;> omega
  have w2 : (x : Int).tmod 8 = ((x % 8 : Nat) : Int) := by
    rw [Int.tmod_eq_emod_of_nonneg (by omega)]; omega
  rw [w1, w2]
  have hfl2 := Dk.flip_ok (N := N) s.1 nm ((x / 8 : Nat) : Int) ((x % 8 : Nat) : Int) (by rw [hg]; show (ap l).length ≤ _; omega)
  refine go_o hfl2 ?_
  by_cases hc : x / 8 < (ap l).length
  · have hfp : flips (mapHas s.1.files nm) (dGet s.1 nm) ((x / 8 : Nat) : Int) ((x % 8 : Nat) : Int) = true := by
      unfold flips
      rw [g3, has_one, hg, decide_eq_false (by omega), decide_eq_false (by show ¬ (((x / 8 : Nat) : Int) ≥ ((ap l).length : Int)); omega), decide_eq_false (by omega), decide_eq_false (by omega)]; rfl
    have hdf : dFlip s.1 nm ((x / 8 : Nat) : Int) ((x % 8 : Nat) : Int) = ({ s.1 with files := mapPut s.1.files nm (turnedAt (dGet s.1 nm).1 ((x / 8 : Nat) : Int) ((x % 8 : Nat) : Int), (dGet s.1 nm).2) }, true) := by
      unfold dFlip
      rw [hfp]; rfl
    rw [hdf]
    have hL : Lg big nm ((ap l).set (x / 8) (turn ((ap l).getD (x / 8) 0) ((x % 8 : Nat) : Int))) { s.1 with files := mapPut s.1.files nm (turnedAt (dGet s.1 nm).1 ((x / 8 : Nat) : Int) ((x % 8 : Nat) : Int), (dGet s.1 nm).2) } := by
      refine ⟨g1, g2, ⟨c, ?_⟩, by rw [List.length_set]; exact g4, g5⟩
      show mapPut s.1.files nm _ = _
      rw [g3, put_one, hg]
      rfl
    have hp : readP ((ap l).set (x / 8) (turn ((ap l).getD (x / 8) 0) ((x % 8 : Nat) : Int))) = ([], 0, 91) := by
      rw [ap_F2] at hc ⊢
      exact readP_turn (ne l) (fun y hy => hs y (List.mem_filter.1 hy).1) (x / 8) _ hc (turn_ne _ _ (by omega))
    have ho := open_bad (N := N) hN hL (by rw [List.length_set]; exact ha) hp
    exact go_f rfl (go_o ho (go_d rfl rfl))
  · have hfp : flips (mapHas s.1.files nm) (dGet s.1 nm) ((x / 8 : Nat) : Int) ((x % 8 : Nat) : Int) = false := by
      unfold flips
      rw [g3, has_one, hg, decide_eq_false (by omega), decide_eq_true (by show ((x / 8 : Nat) : Int) ≥ ((ap l).length : Int); omega)]; rfl
    have hdf : dFlip s.1 nm ((x / 8 : Nat) : Int) ((x % 8 : Nat) : Int) = (s.1, false) := by
      unfold dFlip
      rw [hfp]; rfl
    rw [hdf]
    exact go_t rfl (go_o (v := (((ap l).length : Int), ())) rfl (by show some (decide (((ap l).length : Int) = ((ap l).length : Int)), ()) = _; rw [decide_eq_true rfl]))

/-! ### At once, or one by one -/
def sg (x : List (List UInt8)) : List (List (List UInt8)) := x.map fun t => [t]
theorem sg_append (x y : List (List UInt8)) : ap (sg (x ++ y)) = ap (sg x) ++ ap (sg y) := by unfold ap sg; rw [List.map_append, List.flatMap_append]
theorem sg_one (t : List UInt8) : ap (sg [t]) = apB [t] := by simp [ap, sg]
theorem sg_F2 (x : List (List UInt8)) : ap (sg x) = F2 (sg x) := by
  rw [ap_F2]
  congr 1
  unfold ne sg
  exact List.filter_eq_self.2 fun y hy => by
    obtain ⟨t, _, rfl⟩ := List.mem_map.1 hy
    rfl
theorem sg_flat (x : List (List UInt8)) : (sg x).flatten = x := by
  induction x with
  | nil => rfl
  | cons t x ih => unfold sg at ih ⊢; rw [List.map_cons, List.flatten_cons, ih]; rfl
theorem sg_le {x : List (List UInt8)} (i : Nat) : (ap (sg (x.take i))).length ≤ (ap (sg x)).length := by
  conv => rhs; rw [← List.take_append_drop i x]
  rw [sg_append, List.length_append]; omega
theorem tot_mem {x : List (List UInt8)} {t : List UInt8} (h : t ∈ x) : t.length + 9 ≤ tot x := by
  induction x with
  | nil => cases h
  | cons a x ih =>
    rw [tot_cons]
    rcases List.mem_cons.1 h with rfl | h
    · omega
    · have := ih h; omega
theorem small_one {x : List (List UInt8)} (hx : Small x) {t : List UInt8} (h : t ∈ x) : Small [t] := by
  have := tot_mem h
  unfold Small at hx ⊢
  rw [tot_cons]
  show t.length + 9 + 0 + 9 ≤ _
  omega

theorem batch_inner (hN : 8796093022208 ≤ N) {x : List (List UInt8)} (hx : Small x) {b : List UInt8} {rs : List (List UInt8)} {s : LS} (h : LogQ b rs s) (hb : (b ++ ap (sg x)).length ≤ 1000000000) (hr : rs.length + x.length ≤ 1000000000) :
    ∃ s' : LS, law_RedoBatches_2_0.go N N s.1.room s.1.used s.1.files s.1.steps s.1.left s.1.dead nm s.2.1 s.2.2 x (x.length : Int) 0 = some (.inr (s'.1.t, ((), nm, s'.2.1, s'.2.2, ()), ())) ∧ LogQ (b ++ ap (sg x)) (rs ++ x) s' := by
  rw [List.length_append] at hb
  obtain ⟨s', hq, e⟩ := loop_turn (β := LS) (go := fun fuel b i => law_RedoBatches_2_0.go N fuel b.1.room b.1.used b.1.files b.1.steps b.1.left b.1.dead nm b.2.1 b.2.2 x (x.length : Int) i) (n := x.length) (fin := fun b => .inr (b.1.t, ((), nm, b.2.1, b.2.2, ()), ()))
    (fun i s => LogQ (b ++ ap (sg (x.take i))) (rs ++ x.take i) s) (by omega) (fun fuel b _ => go_n (by omega) rfl)
    (fun i hi s hb' => by
      have ht := take_succ' hi
      have h1 := sg_le (x := x) (i + 1)
      have e1 : ap (sg (x.take (i + 1))) = ap (sg (x.take i)) ++ apB [x[i]] := by rw [ht, sg_append, sg_one]
      obtain ⟨s', e, q⟩ := log_app1 (N := N) hN hb' (x := [x[i]]) (small_one hx (List.getElem_mem hi)) (by rw [List.append_assoc, ← e1, List.length_append]; omega) (by rw [List.length_append, List.length_take]; omega)
      refine ⟨s', by rw [e1, ← List.append_assoc, ht, ← List.append_assoc]; exact q, fun fuel => go_d (by omega) (go_t (inB_nat hi) ?_)⟩
      rw [Int.toNat_natCast, getD_get hi]
      exact go_o e (go_nd rfl rfl)) (show x.length < N by omega) (b := s) (by simpa [sg, ap] using h)
  rw [List.take_of_length_le (Nat.le_refl _)] at hq
  exact ⟨s', e, hq⟩

theorem batches_loop (hN : 8796093022208 ≤ N) (l : List (List (List UInt8))) (hs : ∀ x ∈ l, Small x) (ha : (ap l).length ≤ 1000000000) (hsg : (ap (sg l.flatten)).length ≤ 1000000000) (hfl : l.flatten.length ≤ 1000000000) (hl : l.length ≤ 1000000000) {s1 s2 : LS} (h1 : LogQ [] [] s1) (h2 : LogQ [] [] s2) :
    ∃ b : LS × LS, law_RedoBatches_2.go N N s1.1.room s1.1.used s1.1.files s1.1.steps s1.1.left s1.1.dead nm s1.2.1 s1.2.2 s2.1.room s2.1.used s2.1.files s2.1.steps s2.1.left s2.1.dead nm s2.2.1 s2.2.2 l (l.length : Int) 0 =
      some (.inr (b.1.1.t, ((), nm, b.1.2.1, b.1.2.2, ()), b.2.1.t, ((), nm, b.2.2.1, b.2.2.2, ()), ())) ∧ LogQ (ap l) l.flatten b.1 ∧ LogQ (ap (sg l.flatten)) l.flatten b.2 := by
  obtain ⟨b, hb, e⟩ := loop_turn (β := LS × LS) (go := fun fuel b i => law_RedoBatches_2.go N fuel b.1.1.room b.1.1.used b.1.1.files b.1.1.steps b.1.1.left b.1.1.dead nm b.1.2.1 b.1.2.2 b.2.1.room b.2.1.used b.2.1.files b.2.1.steps b.2.1.left b.2.1.dead nm b.2.2.1 b.2.2.2 l (l.length : Int) i) (n := l.length)
    (fin := fun b => .inr (b.1.1.t, ((), nm, b.1.2.1, b.1.2.2, ()), b.2.1.t, ((), nm, b.2.2.1, b.2.2.2, ()), ()))
    (fun i b => LogQ (ap (l.take i)) (l.take i).flatten b.1 ∧ LogQ (ap (sg (l.take i).flatten)) (l.take i).flatten b.2) (by omega) (fun fuel b _ => go_n (by omega) rfl)
    (fun i hi b hb => by
      obtain ⟨i1, i2⟩ := hb
      have hx := hs _ (List.getElem_mem hi)
      have k1 := ap_le l (i + 1)
      have k2 := flat_le l (i + 1)
      have ht := flat_take hi
      have k3 : (ap (sg (l.take (i + 1)).flatten)).length ≤ (ap (sg l.flatten)).length := by
        have : l.flatten = (l.take (i + 1)).flatten ++ (l.drop (i + 1)).flatten := by rw [← List.flatten_append, List.take_append_drop]
        rw [this, sg_append, List.length_append]; omega
      rw [ht, List.length_append] at k2
      rw [ht, sg_append] at k3
      obtain ⟨s1, e1, q1⟩ := log_app (N := N) hN i1 hx (by rw [← ap_take hi]; omega) (by omega)
      obtain ⟨s2, e2, q2⟩ := batch_inner (N := N) hN hx i2 (by omega) (by omega)
      refine ⟨(s1, s2), ⟨by rw [ap_take hi, ht]; exact q1, by rw [ht, sg_append]; exact q2⟩, fun fuel => go_d (by omega) (go_t (inB_nat hi) ?_)⟩
      rw [Int.toNat_natCast, getD_get hi]
      exact go_o e1 (go_nd rfl (go_o e2 rfl))) (show l.length < N by omega) (b := (s1, s2)) ⟨h1, h2⟩
  rw [List.take_of_length_le (Nat.le_refl _)] at hb
  exact ⟨b, e, hb.1, hb.2⟩

theorem redo_batches (hN : 8796093022208 ≤ N) (l : List (List (List UInt8))) (hs : ∀ x ∈ l, Small x) (ha : (ap l).length ≤ 1000000000) (hsg : (ap (sg l.flatten)).length ≤ 1000000000) (hfl : l.flatten.length ≤ 1000000000) (htl : tl l.flatten ≤ 1000000000) (hl : l.length ≤ 1000000000) : law_RedoBatches.run N l = some (true, ()) := by
  obtain ⟨d1, e1, l1⟩ := create_ok (N := N) hN (room := big) (name := nm) nm_ok (by decide) (by decide) (by decide)
  obtain ⟨b, e2, q1, q2⟩ := batches_loop hN l hs ha hsg hfl hl (s1 := (d1, [], 0)) (s2 := (d1, [], 0)) ⟨l1, rfl, rfl⟩ ⟨l1, rfl, rfl⟩
  obtain ⟨p1, p2, p3⟩ := q1
  obtain ⟨r1, r2, r3⟩ := q2
  rw [ap_F2] at p1 ha
  rw [sg_F2] at r1 hsg
  obtain ⟨u, o1, _⟩ := open_ok (N := N) hN p1 (by decide) (by show ((F2 (ne l)).length : Int) ≤ 1125899906842624; omega) (fun y hy => hs y (List.mem_filter.1 hy).1) ha
  have hsm : ∀ y ∈ sg l.flatten, Small y := fun y hy => by
    obtain ⟨t, ht, rfl⟩ := List.mem_map.1 hy
    obtain ⟨x, hx, htx⟩ := List.mem_flatten.1 ht
    exact small_one (hs x hx) htx
  obtain ⟨v, o2, _⟩ := open_ok (N := N) hN r1 (by decide) (by show ((F2 (sg l.flatten)).length : Int) ≤ 1125899906842624; omega) hsm hsg
  rw [ne_flat] at o1
  rw [sg_flat] at o2
  have hsame := same_ok N l.flatten (by omega) (by omega)
  have hgone : ∀ (d : DD) (size : Int), law_gone.run N d.room d.used d.files d.steps d.left d.dead nm l.flatten size = some (d.t, ((), nm, l.flatten, size, ()), l.flatten, ()) := fun d size => gone_ok d nm l.flatten size hfl (by omega) (by omega)
  refine go_o (Dk.new_ok big) (go_o (Dk.new_ok big) (go_o (alive_ok hN) (go_f rfl (go_o (v := .inr (d1.t, ((), nm, [], 0, ()), 0, ())) (go_o e1 rfl) ?_))))
  refine go_o (v := .inr (d1.t, ((), nm, [], 0, ()), 0, ())) (go_o e1 rfl) ?_
  refine go_nd rfl (go_nd rfl (go_o e2 ?_))
  refine go_o (v := .inr (u.t, ((), nm, l.flatten, ((F2 (ne l)).length : Int), ()), 0, ())) (go_o o1 rfl) ?_
  refine go_o (v := .inr (v.t, ((), nm, l.flatten, ((F2 (sg l.flatten)).length : Int), ()), 0, ())) (go_o o2 rfl) ?_
  refine go_nd rfl (go_nd rfl ?_)
  rw [p2, r2]
  exact go_o (hgone u _) (go_o (hgone v _) (go_o hsame (go_t rfl (go_o (hgone u _) (go_o (hgone v _) (go_o hsame (go_t rfl (go_o (hgone u _) (go_o (hgone u _) (go_o hsame rfl))))))))))
end
end Go.Hay.Ythlojpcjafefjaa
