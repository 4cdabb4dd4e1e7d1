/- Reading records. Conditions: sizes below a bound. -/
import Derived.Test.YthlojpcjafefjaaGreatLi
set_option linter.unusedVariables false
set_option linter.unusedSimpArgs false
namespace Go.Hay.YthlojpcjafefjaaGreat
open Go Go.Hay Go.Proofs

/-- Is a frame's body a list of records, and nothing else? -/
def okB' (x : List UInt8) : Prop := (full x 16777216).2.2 = 0 ∧ (full x 16777216).2.1 = []
instance (x : List UInt8) : Decidable (okB' x) := by unfold okB'; exact inferInstance

theorem fA74 (k : Nat) (B : List UInt8) (hB : B.length ≤ 1000000000000) (n : Nat) (hn : n < 18446744073709551616) : ∀ (L d i : Nat) (b : List UInt8) (l : List (List UInt8)) (fuel : Nat), b.length ≤ L → n = i + d → b <:+ B → l.length + b.length ≤ 1000000000000 → L + 1 < fuel →
    ∃ l', fA27.go (k + 9) fuel B ((B.length - b.length : Nat) : Int) 0 (n : Int) l (i : Int) = some (((R B (lst d b).2.1 (lst d b).2.2).1, (R B (lst d b).2.1 (lst d b).2.2).2.1, (R B (lst d b).2.1 (lst d b).2.2).2.2, ()), l', ()) ∧
      l'.length ≤ l.length + b.length + 1 ∧ ((lst d b).2.2 = 0 → l' = l ++ (lst d b).1)
  | _, _, _, _, _, 0, _, _, _, _, h => absurd h (Nat.not_lt_zero _)
  | L, 0, i, b, l, fuel + 1, hL, hi, hs, hl, hf => by
    rw [show lst 0 b = ([], (b, 0)) from rfl]
    exact ⟨l, go_n (by omega) rfl, by omega, fun _ => by simp⟩
  | L, d + 1, i, b, l, fuel + 1, hL, hi, hs, hl, hf => by
    have g := fB88 k hs (by omega) 0 16777216 (by decide) (by decide)
    have hs' := fC76 hs 0 16777216
    have ew : IntKind.u64.wrap ((i : Int) + 1) = ((i + 1 : Nat) : Int) := by rw [w_u64]; omega
    by_cases h0 : (textR b 0 16777216).1.2 = 0
    · have h1 := fA59 h0
      rw [lst_ok h0]
      cases L with
      | zero => omega
      | succ L =>
        obtain ⟨l', e, e2, e3⟩ := fA74 k B hB n hn L d (i + 1) (textR b 0 16777216).1.1 (l ++ [(textR b 0 16777216).2]) fuel (by omega) (by omega) hs' (by simp only [List.length_append, List.length_singleton]; omega) (by omega)
        refine ⟨l', go_d (by omega) (go_d rfl (go_o g (go_t (room_t (by omega) (by omega)) ?_))), by simp only [List.length_append, List.length_singleton] at e2; omega, fun h => by rw [e3 h]; simp⟩
        rw [ew]
        show fA27.go (k + 9) fuel B ((B.length - (textR b 0 16777216).1.1.length : Nat) : Int) (textR b 0 16777216).1.2 (n : Int) (l ++ [(textR b 0 16777216).2]) ((i + 1 : Nat) : Int) = _
        rw [h0]
        exact e
    · rw [fD63 h0]
      refine ⟨l ++ [(textR b 0 16777216).2], go_d (by omega) (go_d rfl (go_o g (go_t (room_t (by omega) (by omega)) ?_))), by simp <;> omega, fun h => absurd h h0⟩
      rw [ew]
      cases fuel with
      | zero => omega
      | succ fuel =>
        by_cases hx : ((i + 1 : Nat) : Int) < (n : Int)
        · exact go_d hx (go_n h0 rfl)
        · exact go_n hx rfl

theorem end_ok (N : Nat) (b : List UInt8) (e : Int) : ∃ x, fC12.run N b e = some (x, ()) ∧ (x = 0 ↔ e = 0 ∧ b = []) := by
  by_cases he : e = 0
  · subst he
    cases b with
    | nil => exact ⟨0, go_d rfl (go_n (by simp) rfl), by simp⟩
    | cons c b => exact ⟨13, go_d rfl (go_d (by simp <;> omega) rfl), by simp⟩
  · exact ⟨e, go_n he rfl, by simp [he]⟩

theorem fA98 (k : Nat) (x : List UInt8) (hx : x.length ≤ 1000000000) (hk : x.length + 1 < k) : ∃ l, fB28.run (k + 9) x = some (l, decide (okB' x), ()) ∧ l.length ≤ x.length + 1 ∧ (okB' x → l = (full x 16777216).1) := by
  have g := fA71 k (List.suffix_refl x) (by omega) 0 16777216 false 16777216 rfl
  have hR0 : R x x 0 = (x, (0 : Int), (0 : Int)) := by simp [R]
  rw [hR0] at g
  have hs := fA70 (List.suffix_refl x) 0 16777216
  have hsl := suf_le hs
  have hlt := fC86 x 0 16777216
  have hend : ∀ b e, b <:+ x → ∃ y, fD44.run (k + 9) (R x b e) = some (y, ()) ∧ (y = 0 ↔ e = 0 ∧ b = []) := fun b e h => by
    rw [rf_end (k + 9) h e]; exact end_ok _ b e
  by_cases h0 : (varR x 0 16777216).1.2 = 0
  · obtain ⟨l', e1, e2, e3⟩ := fA74 k x (by omega) (varR x 0 16777216).2 hlt (varR x 0 16777216).1.1.length (varR x 0 16777216).2 0 (varR x 0 16777216).1.1 [] (k + 9) (Nat.le_refl _) (by omega) hs (by simp; omega) (by omega)
    have hful : full x 16777216 = lst (varR x 0 16777216).2 (varR x 0 16777216).1.1 := by unfold full; rw [if_pos h0]
    have hsuf := fA86 (n := (varR x 0 16777216).2) hs
    obtain ⟨y, g1, g2⟩ := hend _ (lst (varR x 0 16777216).2 (varR x 0 16777216).1.1).2.2 hsuf
    refine ⟨l', ?_, by simp at e2; omega, fun h => ?_⟩
    · refine go_o g ?_
      show obind (fA27.go (k + 9) (k + 9) x ((x.length - (varR x 0 16777216).1.1.length : Nat) : Int) (varR x 0 16777216).1.2 (((varR x 0 16777216).2 : Nat) : Int) [] ((0 : Nat) : Int)) _ = _
      rw [h0]
      refine go_o e1 (go_o g1 ?_)
      show some (l', decide (y = 0), ()) = _
      have : decide (y = 0) = decide (okB' x) := by
        rw [decide_eq_decide, g2]; unfold okB'; rw [hful]
      rw [this]
    · rw [e3 (by unfold okB' at h; rw [hful] at h; exact h.1), hful]; simp
  · have hful : full x 16777216 = ([], (varR x 0 16777216).1) := by unfold full; rw [if_neg h0]
    obtain ⟨y, g1, g2⟩ := hend _ (varR x 0 16777216).1.2 hs
    refine ⟨[], ?_, by simp, fun h => by rw [hful]⟩
    refine go_o g ?_
    rw [fC77 h0]
    refine go_o (v := (((R x (varR x 0 16777216).1.1 (varR x 0 16777216).1.2).1, (R x (varR x 0 16777216).1.1 (varR x 0 16777216).1.2).2.1, (R x (varR x 0 16777216).1.1 (varR x 0 16777216).1.2).2.2, ()), [], ())) (go_n (by decide) rfl) (go_o g1 ?_)
    show some (([] : List (List UInt8)), decide (y = 0), ()) = _
    have : decide (y = 0) = decide (okB' x) := by
      rw [decide_eq_decide, g2]; unfold okB'; rw [hful]
    rw [this]

theorem fA62 {b : List UInt8} (h : (unf b).2.2 = 0) : ∃ n : Nat, (unf b).2.1 = (n : Int) ∧ 12 ≤ n ∧ n ≤ b.length ∧ (unf b).1.length + 12 ≤ n := by
  unfold unf at h ⊢
  split at h
  · exact absurd h (by decide)
  · rename_i h1
    rw [if_neg h1]
    split at h
    · exact absurd h (by decide)
    · rename_i h2
      rw [if_neg h2]
      split at h
      · exact absurd h (by decide)
      · rename_i h3
        rw [if_neg h3]
        split at h
        · exact absurd h (by decide)
        · rename_i h4
          rw [if_neg h4]
          split at h
          · exact absurd h (by decide)
          · rename_i h5
            rw [if_neg h5]
            refine ⟨toNum (b.take 4) + 12, rfl, by omega, by omega, ?_⟩
            simp only [List.length_take, List.length_drop]
            omega

theorem fB99 {b : List UInt8} (h : ¬ (unf b).2.2 = 0) : (unf b).1 = [] := by
  unfold unf at h ⊢
  split
  · rfl
  · rename_i h1
    rw [if_neg h1] at h
    split
    · rfl
    · rename_i h2
      rw [if_neg h2] at h
      split
      · rfl
      · rename_i h3
        rw [if_neg h3] at h
        split
        · rfl
        · rename_i h4
          rw [if_neg h4] at h
          split
          · rfl
          · rename_i h5
            rw [if_neg h5] at h
            exact absurd rfl h

/-- What is read from a place on: the records and how many bytes, or that they are spoilt. -/
def readA : Nat → List UInt8 → List (List UInt8) → Nat → List (List UInt8) × Int × Int
  | 0, _, l, jO_ => (l, jO_, 0)
  | n + 1, b, l, jO_ =>
    if jO_ < b.length then
      if (unf (b.drop jO_)).2.2 = 10 then (l, jO_, 0)
      else if (unf (b.drop jO_)).2.2 = 0 ∧ okB' (unf (b.drop jO_)).1 then readA n b (l ++ (full (unf (b.drop jO_)).1 16777216).1) (jO_ + (unf (b.drop jO_)).2.1.toNat)
      else ([], 0, 91)
    else (l, jO_, 0)

theorem fA53 {n : Nat} {b : List UInt8} {l : List (List UInt8)} {jO_ : Nat} (h : ¬ jO_ < b.length) : readA (n + 1) b l jO_ = (l, (jO_ : Int), 0) := by rw [readA, if_neg h]
theorem fA50 {n : Nat} {b : List UInt8} {l : List (List UInt8)} {jO_ : Nat} (h : jO_ < b.length) (h10 : (unf (b.drop jO_)).2.2 = 10) : readA (n + 1) b l jO_ = (l, (jO_ : Int), 0) := by rw [readA, if_pos h, if_pos h10]
theorem fC57 {n : Nat} {b : List UInt8} {l : List (List UInt8)} {jO_ : Nat} (h : jO_ < b.length) (h0 : (unf (b.drop jO_)).2.2 = 0) (hok : okB' (unf (b.drop jO_)).1) :
    readA (n + 1) b l jO_ = readA n b (l ++ (full (unf (b.drop jO_)).1 16777216).1) (jO_ + (unf (b.drop jO_)).2.1.toNat) := by rw [readA, if_pos h, if_neg (by rw [h0]; decide), if_pos ⟨h0, hok⟩]
theorem fB50 {n : Nat} {b : List UInt8} {l : List (List UInt8)} {jO_ : Nat} (h : jO_ < b.length) (h10 : ¬ (unf (b.drop jO_)).2.2 = 10) (hn : ¬ ((unf (b.drop jO_)).2.2 = 0 ∧ okB' (unf (b.drop jO_)).1)) : readA (n + 1) b l jO_ = ([], 0, 91) := by
  rw [readA, if_pos h, if_neg h10, if_neg hn]

theorem fA81 (k : Nat) (b : List UInt8) (hb : b.length ≤ 1000000000) (hk : b.length + 10 < k) : ∀ (n jO_ fuel : Nat) (l : List (List UInt8)), b.length < n + jO_ → jO_ ≤ b.length → b.length - jO_ < fuel → l.length + (b.length - jO_) ≤ 1000000000000 →
    fC36.go (k + 20) fuel b l (jO_ : Int) = some (if (readA n b l jO_).2.2 = 0 then .inr ((readA n b l jO_).1, (readA n b l jO_).2.1, ()) else .inl ((readA n b l jO_).1, (readA n b l jO_).2.1, (readA n b l jO_).2.2, ()))
  | _, _, 0, _, _, _, h, _ => absurd h (Nat.not_lt_zero _)
  | 0, jO_, fuel + 1, l, hn, ha, hf, hl => by omega
  | n + 1, jO_, fuel + 1, l, hn, ha, hf, hl => by
    by_cases hlt : jO_ < b.length
    · have hu := fD88 k (b.drop jO_) (by rw [List.length_drop]; omega) (by rw [List.length_drop]; omega) (by omega)
      refine go_d (by omega) (go_t (okB_t (by omega) (by omega) (by omega)) ?_)
      rw [Int.toNat_natCast]
      refine go_o hu ?_
      by_cases h10 : (unf (b.drop jO_)).2.2 = 10
      · rw [fA50 hlt h10, if_pos rfl]
        exact go_n (by rw [h10]; decide) (go_d h10 rfl)
      by_cases h0 : (unf (b.drop jO_)).2.2 = 0
      · obtain ⟨m, m1, m2, m3, m4⟩ := fA62 h0
        rw [List.length_drop] at m3
        have hL := fB101 (k + 11) (unf (b.drop jO_)).1 (by omega) (by omega) 16777216 (by decide)
        have hfew := fD65 (unf (b.drop jO_)).1 16777216
        obtain ⟨y, y1, y2⟩ := end_ok (k + 20) (full (unf (b.drop jO_)).1 16777216).2.1 (full (unf (b.drop jO_)).1 16777216).2.2
        refine go_d h0 (go_o (fC92 _ _ (by omega)) (go_o hL (go_t (room_t ?_ ?_) (go_o y1 ?_))))
        · split
          · omega
          · simp; omega
        · split
          · omega
          · simp; omega
        by_cases hok : okB' (unf (b.drop jO_)).1
        · rw [fC57 hlt h0 hok]
          refine go_nd (y2.2 hok) ?_
          rw [if_pos hok.1, m1, Int.toNat_natCast, show IntKind.i64.wrap ((jO_ : Int) + (m : Int)) = ((jO_ + m : Nat) : Int) by rw [wrap_i64] <;> omega]
          exact fA81 k b hb hk n (jO_ + m) fuel _ (by omega) (by omega) (by omega) (by rw [List.length_append]; omega)
        · rw [fB50 hlt h10 (fun h => hok h.2), if_neg (show ¬ (91 : Int) = 0 by decide)]
          exact go_nn (fun h => hok (y2.1 h)) rfl
      · rw [fB50 hlt h10 (fun h => h0 h.1), if_neg (show ¬ (91 : Int) = 0 by decide)]
        exact go_n h0 (go_n h10 rfl)
    · rw [fA53 hlt, if_pos rfl]
      exact go_n (by omega) rfl

theorem fA72 (k : Nat) (b : List UInt8) (hb : b.length ≤ 1000000000) (hk : b.length + 10 < k) : ∀ (n jO_ fuel : Nat) (l : List (List UInt8)), b.length < n + jO_ → jO_ ≤ b.length → b.length - jO_ < fuel → l.length + (b.length - jO_) ≤ 1000000000000 →
    ∃ y, fD33.go (k + 20) fuel b l (jO_ : Int) = some y ∧ (y = .inr ((readA n b l jO_).1, (readA n b l jO_).2.1, ()) ∧ (readA n b l jO_).2.2 = 0 ∨ y = .inl ((readA n b l jO_).1, (readA n b l jO_).2.1, (readA n b l jO_).2.2, ()))
  | _, _, 0, _, _, _, h, _ => absurd h (Nat.not_lt_zero _)
  | 0, jO_, fuel + 1, l, hn, ha, hf, hl => by omega
  | n + 1, jO_, fuel + 1, l, hn, ha, hf, hl => by
    by_cases hlt : jO_ < b.length
    · have hu := fC87 k (b.drop jO_) (by rw [List.length_drop]; omega) (by rw [List.length_drop]; omega) (by omega)
      have hunl : (unf (b.drop jO_)).1.length ≤ b.length := by
        by_cases h0 : (unf (b.drop jO_)).2.2 = 0
        · obtain ⟨m, m1, m2, m3, m4⟩ := fA62 h0
          rw [List.length_drop] at m3; omega
        · have : (unf (b.drop jO_)).1 = [] := fB99 h0
          rw [this]; simp
      have hstep : ∀ {z : Option ((List (List UInt8) × Int × Int × Unit) ⊕ (List (List UInt8) × Int × Unit))}, (bif decide ((unf (b.drop jO_)).2.2 = 10) then some (.inl (l, (jO_ : Int), (0 : Int), ())) else
          obind (fB28.run (k + 20) (unf (b.drop jO_)).1) fun (l2, b1, _) => bif !(decide ((unf (b.drop jO_)).2.2 = 0)) then some (.inl (([] : List (List UInt8)), (0 : Int), (91 : Int), ())) else
            bif !b1 then some (.inl (([] : List (List UInt8)), (0 : Int), (91 : Int), ())) else bif room (l.length + l2.length) 24 then fD33.go (k + 20) fuel b (l ++ l2) (IntKind.i64.wrap ((jO_ : Int) + (unf (b.drop jO_)).2.1)) else none) = z →
          fD33.go (k + 20) (fuel + 1) b l (jO_ : Int) = z := fun {z} h => by
        refine go_d (by omega) (go_t (okB_t (by omega) (by omega) (by omega)) ?_)
        rw [Int.toNat_natCast]
        exact go_o hu h
      by_cases h10 : (unf (b.drop jO_)).2.2 = 10
      · rw [fA50 hlt h10]
        exact ⟨_, hstep (go_d h10 rfl), .inr rfl⟩
      obtain ⟨l2, b1, b2, b3⟩ := fA98 (k + 11) (unf (b.drop jO_)).1 (by omega) (by omega)
      by_cases h0 : (unf (b.drop jO_)).2.2 = 0
      · obtain ⟨m, m1, m2, m3, m4⟩ := fA62 h0
        rw [List.length_drop] at m3
        have hfew := fD65 (unf (b.drop jO_)).1 16777216
        by_cases hok : okB' (unf (b.drop jO_)).1
        · rw [fC57 hlt h0 hok, m1, Int.toNat_natCast]
          have e3 := b3 hok
          subst e3
          obtain ⟨y, g1, g2⟩ := fA72 k b hb hk n (jO_ + m) fuel (l ++ (full (unf (b.drop jO_)).1 16777216).1) (by omega) (by omega) (by omega) (by rw [List.length_append]; omega)
          refine ⟨y, hstep (go_n h10 (go_o b1 (go_nd h0 (go_f (by rw [decide_eq_true hok]; rfl) (go_t (room_t (by omega) (by omega)) ?_))))), g2⟩
          rw [m1, show IntKind.i64.wrap ((jO_ : Int) + (m : Int)) = ((jO_ + m : Nat) : Int) by rw [wrap_i64] <;> omega]
          exact g1
        · rw [fB50 hlt h10 (fun h => hok h.2)]
          exact ⟨_, hstep (go_n h10 (go_o b1 (go_nd h0 (go_t (by rw [decide_eq_false hok]; rfl) rfl)))), .inr rfl⟩
      · rw [fB50 hlt h10 (fun h => h0 h.1)]
        exact ⟨_, hstep (go_n h10 (go_o b1 (go_nn h0 rfl))), .inr rfl⟩
    · rw [fA53 hlt]
      exact ⟨_, go_n (by omega) rfl, .inl ⟨rfl, rfl⟩⟩

/-- What bytes have. -/
def readP (b : List UInt8) : List (List UInt8) × Int × Int := readA (b.length + 1) b [] 0
theorem fB79 (k : Nat) (b : List UInt8) (hb : b.length ≤ 1000000000) (hk : b.length + 10 < k) : fD31.run (k + 20) b = some ((readP b).1, (readP b).2.1, (readP b).2.2, ()) := by
  have h := fA81 k b hb hk (b.length + 1) 0 (k + 20) [] (by omega) (by omega) (by omega) (by simp; omega)
  refine go_o h ?_
  by_cases h0 : (readP b).2.2 = 0
  · have h0' : (readA (b.length + 1) b [] 0).2.2 = 0 := h0
    rw [if_pos h0', h0]; rfl
  · have h0' : ¬ (readA (b.length + 1) b [] 0).2.2 = 0 := h0
    rw [if_neg h0']; rfl
theorem fA93 (k : Nat) (b : List UInt8) (hb : b.length ≤ 1000000000) (hk : b.length + 10 < k) : fB37.run (k + 20) b = some ((readP b).1, (readP b).2.1, (readP b).2.2, ()) := by
  obtain ⟨y, h, h2⟩ := fA72 k b hb hk (b.length + 1) 0 (k + 20) [] (by omega) (by omega) (by omega) (by simp; omega)
  refine go_o h ?_
  rcases h2 with ⟨rfl, h0⟩ | rfl
  · rw [show (readP b).2.2 = 0 from h0]; rfl
  · rfl
end Go.Hay.YthlojpcjafefjaaGreat
