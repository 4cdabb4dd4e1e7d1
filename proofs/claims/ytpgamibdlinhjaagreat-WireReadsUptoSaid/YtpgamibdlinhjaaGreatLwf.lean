/- Messages that are the same: what the program's and the document's functions tell. Conditions: sizes below a bound. -/
import Derived.Test.YtpgamibdlinhjaaGreatLwe
set_option linter.unusedVariables false
set_option linter.unusedSimpArgs false
namespace Go.Hay.YtpgamibdlinhjaaGreat
open Go Go.Hay Go.Proofs

theorem fB144 {α : Type} [DecidableEq α] {a b : List α} (G : Nat → Int → Option ((Bool × Unit) ⊕ Unit)) (hl : a.length = b.length) (stop : ∀ f, G (f + 1) (a.length : Int) = some (.inr ()))
    (step : ∀ f (i : Nat) x y, a[i]? = some x → b[i]? = some y → G (f + 1) (i : Int) = if x = y then G f ((i + 1 : Nat) : Int) else some (.inl (false, ()))) :
    ∀ (s t p q : List α), a = p ++ s → b = q ++ t → p.length = q.length → s.length = t.length → ∀ f, s.length < f → G f (p.length : Int) = if s = t then some (.inr ()) else some (.inl (false, ()))
  | _, _, _, _, _, _, _, _, 0, h => absurd h (Nat.not_lt_zero _)
  | [], [], p, q, e1, e2, ep, el, f + 1, hf => by
    have : p.length = a.length := by rw [e1]; simp
    rw [this, stop, if_pos rfl]
  | [], _ :: _, _, _, _, _, _, el, _ + 1, _ => by simp at el
  | _ :: _, [], _, _, _, _, _, el, _ + 1, _ => by simp at el
  | x :: s, y :: t, p, q, e1, e2, ep, el, f + 1, hf => by
    have g1 : a[p.length]? = some x := by rw [e1]; simp
    have g2 : b[p.length]? = some y := by rw [e2, ep]; simp
    rw [step f p.length x y g1 g2]
    by_cases h : x = y
    · subst h
      rw [if_pos rfl]
      have ih := fB144 G hl stop step s t (p ++ [x]) (q ++ [x]) (by rw [e1]; simp) (by rw [e2]; simp) (by simp [ep]) (by simpa using el) f (by simp at hf; omega)
      rw [show ((p ++ [x]).length : Int) = ((p.length + 1 : Nat) : Int) by simp] at ih
      rw [ih]
      simp
    · rw [if_neg h, if_neg (by simp [h])]
theorem eq_loop' {α : Type} [DecidableEq α] {a b : List α} (G : Nat → Int → Option ((Bool × Unit) ⊕ Unit)) (hl : a.length = b.length) (stop : ∀ f, G (f + 1) (a.length : Int) = some (.inr ()))
    (step : ∀ f (i : Nat) x y, a[i]? = some x → b[i]? = some y → G (f + 1) (i : Int) = if x = y then G f ((i + 1 : Nat) : Int) else some (.inl (false, ()))) {N : Nat} (hN : a.length < N) :
    G N 0 = if a = b then some (.inr ()) else some (.inl (false, ())) := fB144 G hl stop step a b [] [] rfl rfl rfl hl N hN
theorem fC81 {α : Type} {a : List α} {i : Nat} {x : α} (h : a[i]? = some x) (d : α) : a.getD ((i : Int)).toNat d = x := by simp [List.getD_eq_getElem?_getD, h]
theorem lt_of {α : Type} {a : List α} {i : Nat} {x : α} (h : a[i]? = some x) : i < a.length := (List.getElem?_eq_some_iff.1 h).1
theorem fC102 {α β : Type} [DecidableEq α] {x y : α} {c : Bool} {A B : Option β} (hc : c = decide (x = y)) : (bif !c then A else B) = if x = y then B else A := by
  rw [hc]
  by_cases h : x = y <;> simp [h]
theorem v_eq (x y : V) : (decide (x.1 = y.1) && ((x.2.1 == y.2.1) && (decide (x.2.2.1 = y.2.2.1) && (decide (x.2.2.2 = y.2.2.2) && true)))) = decide (x = y) := by
  obtain ⟨a, b, c, d⟩ := x
  obtain ⟨e, f, g, h⟩ := y
  rw [Bool.eq_iff_iff]
  simp
theorem p_eq (x y : Int × Int) : (decide (x.1 = y.1) && (decide (x.2 = y.2) && true)) = decide (x = y) := by
  obtain ⟨a, b⟩ := x
  obtain ⟨e, f⟩ := y
  rw [Bool.eq_iff_iff]
  simp
theorem e_eq (x y : Ers) : ((decide (x.1.1 = y.1.1) && (decide (x.1.2 = y.1.2) && true)) && ((decide (x.2.1 = y.2.1) && (decide (x.2.2 = y.2.2) && true)) && true)) = decide (x = y) := by
  obtain ⟨⟨a, b⟩, c, d⟩ := x
  obtain ⟨⟨e, f⟩, g, h⟩ := y
  rw [Bool.eq_iff_iff]
  simp
def SV (l : List Ver) (N : Nat) : Prop := l.length ≤ 1000000000000 ∧ l.length < N ∧ ∀ x ∈ l, x.2.1.length ≤ 1000000000000 ∧ x.2.1.length < N
def SI (l : List Ins) (N : Nat) : Prop := l.length ≤ 1000000000000 ∧ l.length < N ∧ ∀ x ∈ l, x.2.2.1.length ≤ 1000000000000 ∧ x.2.2.1.length < N
def SE (l : List Ers) (N : Nat) : Prop := l.length ≤ 1000000000000 ∧ l.length < N
theorem mem_of {α : Type} {a : List α} {i : Nat} {x : α} (h : a[i]? = some x) : x ∈ a := List.mem_of_getElem? h
/-- A message as the functions have it. -/
def den (m : Msg) : Int × Int × Int × Int × Int × Int × Int × Int × Int × Int × Int × Bool × Bool × Bool × (Int × Int) × (List Ins × List Ers) × List Ver :=
  (m.jA, m.jB_, m.jC_, m.jD, m.jE, m.jF, m.jG, m.jH, m.jI, m.jJ, m.jK, m.jL, m.jM, m.jN, m.jO_, (m.jP, m.jP1), m.jQ)
theorem and_s {c : Bool} {x : Bool} {A : Option (Bool × Unit)} (h : A = some (x, ())) : (bif c then A else some (false, ())) = some (c && x, ()) := by cases c <;> simp [h]
theorem or_s {c : Bool} {x : Bool} {A : Option (Bool × Unit)} (h : A = some (x, ())) : (bif !c then some (false, ()) else A) = some (c && x, ()) := by cases c <;> simp [h]
structure SM (m : Msg) (N : Nat) : Prop where
  ins : SI m.jP N
  ers : SE m.jP1 N
  vers : SV m.jQ N
/- The document's. -/
theorem fD145 (N : Nat) (a b : Ver) (h1 : a.2.1.length ≤ 1000000000000) (hN : a.2.1.length < N) : fB25.run N a b = some (decide (a = b), ()) := by
  obtain ⟨p, l, d⟩ := a
  obtain ⟨q, m, f⟩ := b
  by_cases h : p = q
  · refine go_f (by rw [p_eq, decide_eq_true h]; rfl) ?_
    by_cases h2 : d = f
    · refine go_nd h2 ?_
      by_cases hl : l.length = m.length
      · refine go_nd (by show (l.length : Int) = (m.length : Int); omega) ?_
        have hh := eq_loop' (a := l) (b := m) (fun fu i => fB49.go N fu p.1 p.2 l d q.1 q.2 m f i) hl (fun fu => go_n (by omega) rfl) (fun fu i x y g1 g2 => ?_) hN
        · subst h; subst h2
          by_cases e : l = m
          · rw [if_pos e] at hh
            subst e
            rw [decide_eq_true rfl]
            exact go_o hh rfl
          · rw [if_neg e] at hh
            rw [decide_eq_false (by simp [e])]
            exact go_o hh rfl
        · have l1 := lt_of g1
          have l2 := lt_of g2
          have h1' : l.length ≤ 1000000000000 := h1
          refine go_d (by omega) (go_t (inB_nat l1) (go_t (inB_nat l2) ?_))
          rw [fC81 g1, fC81 g2, wrap_succ i (by omega)]
          exact fC102 (v_eq x y)
      · refine go_nn (by show ¬ (l.length : Int) = (m.length : Int); omega) ?_
        rw [decide_eq_false (by rintro e; simp only [Prod.mk.injEq] at e; exact hl (by rw [e.2.1]))]
    · refine go_nn h2 ?_
      simp [h2]
  · refine go_t (by rw [p_eq, decide_eq_false h]; rfl) ?_
    simp [h]
theorem fA158 (N : Nat) (a b : List Ver) (ha : SV a N) : fC34.run N a b = some (decide (a = b), ()) := by
  obtain ⟨h1, hN, hx⟩ := ha
  by_cases hl : a.length = b.length
  · refine go_nd (by omega) ?_
    have h := eq_loop' (a := a) (b := b) (fun f i => fA49.go N f a b i) hl (fun f => go_n (by omega) rfl) (fun f i x y g1 g2 => ?_) hN
    · by_cases e : a = b
      · rw [if_pos e] at h
        rw [decide_eq_true e]
        exact go_o h rfl
      · rw [if_neg e] at h
        rw [decide_eq_false e]
        exact go_o h rfl
    · have l1 := lt_of g1
      have l2 := lt_of g2
      have hm := hx x (mem_of g1)
      refine go_d (by omega) (go_t (inB_nat l1) (go_t (inB_nat l2) ?_))
      rw [fC81 g1, fC81 g2, wrap_succ i (by omega)]
      exact go_o (fD145 N x y hm.1 hm.2) (fC102 rfl)
  · refine go_nn (by omega) ?_
    rw [decide_eq_false (fun e => hl (by rw [e]))]
theorem fD158 (N : Nat) (a b : List Ins × List Ers) (hi : SI a.1 N) (he : SE a.2 N) : fD11.run N a b = some (decide (a = b), ()) := by
  obtain ⟨l, r⟩ := a
  obtain ⟨m, s⟩ := b
  obtain ⟨h1, hN, hx⟩ := hi
  obtain ⟨h2, hN2⟩ := he
  simp only at h1 hN hx h2 hN2
  by_cases hl : l.length = m.length
  · refine go_nd (by show (l.length : Int) = (m.length : Int); omega) ?_
    by_cases hr : r.length = s.length
    · refine go_nd (by show (r.length : Int) = (s.length : Int); omega) ?_
      have g := eq_loop' (a := l) (b := m) (fun f i => fA42.go N f l r m s i) hl (fun f => go_n (by omega) rfl) (fun f i x y g1 g2 => ?_) hN
      · have g' := eq_loop' (a := r) (b := s) (fun f i => fC42.go N f l r m s i) hr (fun f => go_n (by omega) rfl) (fun f i x y g1 g2 => ?_) hN2
        · by_cases e : l = m
          · rw [if_pos e] at g
            refine go_o g ?_
            by_cases e2 : r = s
            · rw [if_pos e2] at g'
              rw [decide_eq_true (by rw [e, e2])]
              exact go_o g' rfl
            · rw [if_neg e2] at g'
              rw [decide_eq_false (by simp [e2])]
              exact go_o g' rfl
          · rw [if_neg e] at g
            rw [decide_eq_false (by simp [e])]
            exact go_o g rfl
        · have l1 := lt_of g1
          have l2 := lt_of g2
          refine go_d (by omega) (go_t (inB_nat l1) (go_t (inB_nat l2) ?_))
          rw [fC81 g1, fC81 g2, wrap_succ i (by omega)]
          exact fC102 (e_eq x y)
      · have l1 := lt_of g1
        have l2 := lt_of g2
        have hm := hx x (mem_of g1)
        refine go_d (by omega) (go_t (inB_nat l1) (go_t (inB_nat l2) ?_))
        rw [fC81 g1, fC81 g2, p_eq, wrap_succ i (by omega)]
        obtain ⟨p, u⟩ := x
        obtain ⟨q, v⟩ := y
        by_cases hp : p = q
        · refine go_nd hp (go_t (inB_nat l1) (go_t (inB_nat l2) (go_o (fD145 N u v hm.1 hm.2) ?_)))
          subst hp
          exact (fC102 rfl).trans (by simp)
        · refine go_nn hp ?_
          simp [hp]
    · refine go_nn (by show ¬ (r.length : Int) = (s.length : Int); omega) ?_
      rw [decide_eq_false (by rintro e; simp only [Prod.mk.injEq] at e; exact hr (by rw [e.2]))]
  · refine go_nn (by show ¬ (l.length : Int) = (m.length : Int); omega) ?_
    rw [decide_eq_false (by rintro e; simp only [Prod.mk.injEq] at e; exact hl (by rw [e.1]))]
theorem fA135 (N : Nat) (a b : Msg) (ha : SM a N) : fC74.run N (den a) (den b) = some (decide (a = b), ()) := by
  obtain ⟨a1, a2, a3, a4, a5, a6, a7, a8, a9, a10, a11, a12, a13, a14, ⟨a15, a16⟩, a17, a18, a19⟩ := a
  obtain ⟨b1, b2, b3, b4, b5, b6, b7, b8, b9, b10, b11, b12, b13, b14, ⟨b15, b16⟩, b17, b18, b19⟩ := b
  have q : fC74.run N (den ⟨a1, a2, a3, a4, a5, a6, a7, a8, a9, a10, a11, a12, a13, a14, (a15, a16), a17, a18, a19⟩) (den ⟨b1, b2, b3, b4, b5, b6, b7, b8, b9, b10, b11, b12, b13, b14, (b15, b16), b17, b18, b19⟩) = some (decide (a1 = b1) && (decide (a2 = b2) && (decide (a3 = b3) && (decide (a4 = b4) && (decide (a5 = b5) && (decide (a6 = b6) && (decide (a7 = b7) && (decide (a8 = b8) && (decide (a9 = b9) && (decide (a10 = b10) && (decide (a11 = b11) && ((a12 == b12) && ((a13 == b13) && ((a14 == b14) && ((decide (a15 = b15) && (decide (a16 = b16) && true)) && (decide ((a17, a18) = (b17, b18)) && (decide (a19 = b19))))))))))))))))), ()) :=
    or_s (or_s (or_s (or_s (or_s (or_s (or_s (or_s (or_s (or_s (or_s (or_s (or_s (or_s (or_s (go_o (fD158 N (a17, a18) (b17, b18) ha.ins ha.ers) (and_s (go_o (fA158 N a19 b19 ha.vers) rfl)))))))))))))))))
  rw [q]
  congr 2
  rw [Bool.eq_iff_iff]
  simp only [Bool.and_eq_true, decide_eq_true_eq, beq_iff_eq, Bool.and_true, Msg.mk.injEq, Prod.mk.injEq]
  constructor
  · rintro ⟨h1, h2, h3, h4, h5, h7, h8, h6, h9, h10, h11, h12, h13, h14, ⟨h15, h16⟩, ⟨h17, h18⟩, h19⟩
    exact ⟨h1, h2, h3, h4, h5, h7, h8, h6, h9, h10, h11, h12, h13, h14, ⟨h15, h16⟩, h17, h18, h19⟩
  · rintro ⟨h1, h2, h3, h4, h5, h6, h7, h8, h9, h10, h11, h12, h13, h14, ⟨h15, h16⟩, h17, h18, h19⟩
    exact ⟨h1, h2, h3, h4, h5, h6, h7, h8, h9, h10, h11, h12, h13, h14, ⟨h15, h16⟩, ⟨h17, h18⟩, h19⟩
end Go.Hay.YtpgamibdlinhjaaGreat
