import Derived.Test.YtfbbfjjmbelfdaaL4
set_option linter.unusedVariables false
set_option linter.unusedSimpArgs false
namespace Go.Hay.Ytfbbfjjmbelfdaa
open Go Go.Hay Go.Proofs

def seg (l : List (List UInt8)) (a n : Nat) : List Msg := (List.range' a n).map fun (k : Nat) => ((k : Int), l.getD k [])
theorem seg_len (l : List (List UInt8)) (a n : Nat) : (seg l a n).length = n := by simp [seg]
theorem seg_cons (l : List (List UInt8)) (a n : Nat) : seg l a (n + 1) = ((a : Int), l.getD a []) :: seg l (a + 1) n := by simp [seg, List.range'_succ]
theorem seg_snoc (l : List (List UInt8)) (a n : Nat) : seg l a n ++ [(((a + n : Nat) : Int), l.getD (a + n) [])] = seg l a (n + 1) := by
  simp [seg, List.range'_concat]

section


theorem take_front (k : Nat) (l : List (List UInt8)) (hL : l.length ≤ 1099511627776) (hb : ∀ j, (l.getD j []).length ≤ 1099511627776) (a n : Nat) (h : n < l.length) : F12.fn (k + 3) (((l.length : Int), seg l a (n + 1), ()), 0, ()) = some (((l.length : Int), seg l (a + 1) n, ()), (a : Int), l.getD a [], true, ()) := by
  have e := F12_in k (l.length : Int) (seg l a (n + 1)) 0 (by rw [seg_len]; omega) (by rw [seg_cons]; exact hb a) (by rw [seg_len]; omega)
  rw [seg_cons] at e ⊢
  exact e


theorem loop0 (k : Nat) (l : List (List UInt8)) (hL : l.length ≤ 1099511627776) (hb : ∀ j, (l.getD j []).length ≤ 1099511627776) (takes : List Bool) : ∀ (d n a : Nat), a + n + d = l.length → ∀ m, d < m → ∃ a', a' ≤ l.length ∧
    F4_0.g (k + 3) m (l, takes, ((l.length : Int), seg l a n, ()), (a : Int), l, (l.length : Int), ((a + n : Nat) : Int), ()) = some (.inr (((l.length : Int), seg l a' (l.length - a'), ()), (a' : Int), ())) := by
  intro d
  induction d with
  | zero =>
    intro n a hs m hm
    obtain ⟨m, rfl⟩ : ∃ m', m = m' + 1 := ⟨m - 1, by omega⟩
    have h1 : decide (((a + n : Nat) : Int) < (l.length : Int)) = false := by simp; omega
    refine ⟨a, by omega, ?_⟩
    have hn : n = l.length - a := by omega
    simp only [F4_0.g, h1, cond_false]
    rw [← hn]
    first | done | rfl
  | succ d ih =>
    intro n a hs m hm
    obtain ⟨m, rfl⟩ : ∃ m', m = m' + 1 := ⟨m - 1, by omega⟩
    have h1 : decide (((a + n : Nat) : Int) < (l.length : Int)) = true := by simp; omega
    have h2 : inB ((a + n : Nat) : Int) l.length = true := inB_t (by omega) (by omega)
    have h3 := F11b_ok (k + 3) (l.length : Int) (seg l a n) ((a + n : Nat) : Int) (l.getD (a + n) []) (hb _) (by rw [seg_len]; omega) (by rw [seg_len]; omega)
    rw [seg_snoc] at h3
    have w1 : IntKind.i64.wrap (((a + n : Nat) : Int) + 1) = ((a + (n + 1) : Nat) : Int) := by rw [wr] <;> omega
    have w2 : IntKind.i64.wrap ((a : Int) + 1) = ((a + 1 : Nat) : Int) := by rw [wr] <;> omega
    have h4 := take_front k l hL hb a n (by omega)
    have h5 : inB (a : Int) l.length = true := inB_t (by omega) (by omega)
    have same := ih (n + 1) a (by omega) m (by omega)
    have next := ih n (a + 1) (by omega) m (by omega)
    rw [show ((a + 1 + n : Nat) : Int) = ((a + (n + 1) : Nat) : Int) by omega] at next
    simp only [F4_0.g, h1, cond_true, h2, Int.toNat_natCast, h3, obind, decide_true, Bool.not_true, cond_false, w1, w2, h5]
    cases h6 : decide (((a + n : Nat) : Int) < (takes.length : Int)) with
    | false => simpa only [cond_false] using same
    | true =>
      have h7 : inB ((a + n : Nat) : Int) takes.length = true := inB_t (by omega) (by simpa using h6)
      simp only [cond_true, h7]
      cases h8 : takes.getD (a + n) false with
      | false => simpa only [cond_false] using same
      | true =>
        simp only [cond_true]
        rw [h4]
        simpa only [decide_true, Bool.not_true, cond_false] using next


theorem loop1 (k : Nat) (l : List (List UInt8)) (hL : l.length ≤ 1099511627776) (hb : ∀ j, (l.getD j []).length ≤ 1099511627776) : ∀ (d a : Nat), a + d = l.length → ∀ m, d < m →
    F4_1.g (k + 3) m (l, ((l.length : Int), seg l a d, ()), (a : Int), ()) = some (.inr (((l.length : Int), [], ()), ())) := by
  intro d
  induction d with
  | zero =>
    intro a hs m hm
    obtain ⟨m, rfl⟩ : ∃ m', m = m' + 1 := ⟨m - 1, by omega⟩
    have h1 : decide ((a : Int) < (l.length : Int)) = false := by simp; omega
    simp only [F4_1.g, h1, cond_false]
    rfl
  | succ d ih =>
    intro a hs m hm
    obtain ⟨m, rfl⟩ : ∃ m', m = m' + 1 := ⟨m - 1, by omega⟩
    have h1 : decide ((a : Int) < (l.length : Int)) = true := by simp; omega
    have w2 : IntKind.i64.wrap ((a : Int) + 1) = ((a + 1 : Nat) : Int) := by rw [wr] <;> omega
    have h4 := take_front k l hL hb a d (by omega)
    have h5 : inB (a : Int) l.length = true := inB_t (by omega) (by omega)
    simp only [F4_1.g, h1, cond_true]
    rw [h4]
    simp only [obind, decide_true, Bool.not_true, cond_false, h5, cond_true, Int.toNat_natCast, w2]
    exact ih (a + 1) (by omega) m (by omega)
end

theorem order_true (l : List (List UInt8)) (takes : List Bool) (hL : l.length ≤ 1048576) (hb : ∀ j, (l.getD j []).length ≤ 1048576) : ∃ N, F4.fn N (l, takes, ()) = some (true, ()) := by
  refine ⟨l.length + 3, ?_⟩
  have e0 := F9_eq l.length (l.length : Int)
  rw [show max (l.length : Int) 0 = l.length by omega] at e0
  obtain ⟨a, ha, e1⟩ := loop0 l.length l (by omega) (fun j => Nat.le_trans (hb j) (by omega)) takes l.length 0 0 (by omega) (l.length + 3) (by omega)
  have e2 := loop1 l.length l (by omega) (fun j => Nat.le_trans (hb j) (by omega)) (l.length - a) a (by omega) (l.length + 3) (by omega)
  unfold F4.fn
  rw [show F9.fn (l.length + 3) ((l.length : Int), PUnit.unit) = _ from e0]
  simp only [obind, Bool.not_true, cond_false]
  rw [show F4_0.g (l.length + 3) (l.length + 3) (l, takes, ((l.length : Int), [], PUnit.unit), (0 : Int), l, (l.length : Int), (0 : Int), PUnit.unit) = _ from e1]
  simp only [Sum.elim_inr]
  rw [show F4_1.g (l.length + 3) (l.length + 3) (l, ((l.length : Int), seg l a (l.length - a), PUnit.unit), (a : Int), PUnit.unit) = _ from e2]
  rfl

end Go.Hay.Ytfbbfjjmbelfdaa
