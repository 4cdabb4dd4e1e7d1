/- The law of all calls: RedoAll. Conditions: sizes below a bound. -/
import Derived.Test.YthlojpcjafefjaaGreatLr
set_option linter.unusedVariables false
set_option linter.unusedSimpArgs false
namespace Go.Hay.YthlojpcjafefjaaGreat
open Go Go.Hay Go.Proofs

section
variable {N : Nat}

/-- The first call: a log is begun. -/
theorem step_a {b : Bool} (hN : 8796093022208 ≤ N) {k : Nat} {d : DD} {r : RS} (h : Inv k d r) (hv : b = true → Live d) (hk : k + 6 ≤ 900000000) :
    ∃ w out, WQ b (k + 6) w ∧ law_step.run N d.room d.used d.files d.steps d.left d.dead r.room r.steps r.files r.armed r.dead r.left [] [] 0 false (3, 0, [], []) = some out ∧
      (match w with | .jM d r x y z => out = .inl (d.t, ((), (), rz r x y z false), true, ()) | .log d r l s => out = .inr (.inl (d.t, ((), lt l s, rz r nm l s true), true, ()))) := by
  have hb := fD49 h (by omega)
  have hp := fB56 hN h (by omega)
  have hr := fD53 hN h (by omega)
  refine ⟨fD47 d r, ?_⟩
  have hq := fC58 (b := b) h hv (by omega)
  revert hq
  unfold fD47
  by_cases he : (fD34 r).2 = 0
  · rw [decide_eq_true he]
    rw [hb.1] at hp
    have hp := hp.1 he
    exact fun hq => ⟨_, hq, go_n (by decide) (go_d rfl (go_o (go_o hp rfl) (go_o (hr.1 he) (go_o (go_d rfl rfl) rfl)))), rfl⟩
  · rw [decide_eq_false he]
    have hp := hp.2 (by rw [hb.1]; exact he)
    exact fun hq => ⟨_, hq, go_n (by decide) (go_d rfl (go_o (go_o hp rfl) (go_o (hr.2 he) (go_o (v := ((fD37 d).1.t, ((), (), rz (fD34 r).1 [] [] 0 false), true, ())) (go_d hb.1 (by rw [decide_eq_false he]; rfl)) rfl)))), rfl⟩

/-! ### The loop -/
def hd (w : Wd) (sc : List Op) (i : Int) : T79 ⊕ T80 := match w with
  | .jM d r x y z => .inl ((d.t, (), rz r x y z false), sc, (sc.length : Int), i, ())
  | .log d r l s => .inr ((d.t, lt l s, rz r nm l s true), sc, (sc.length : Int), i, ())
def fin (w : Wd) : T83 := match w with
  | .jM d r x y z => .inr (.inr (.inl ((d.t, (), rz r x y z false), ())))
  | .log d r l s => .inr (.inr (.inr ((d.t, lt l s, rz r nm l s true), ())))
def costs (l : List Op) : Nat := (l.map cost).sum
theorem fD55 (o : Op) (l : List Op) : costs (o :: l) = cost o + costs l := by simp [costs]
theorem fB73 : ∀ l : List Op, 40 * l.length ≤ costs l
  | [] => by simp [costs]
  | o :: l => by
    have := fB73 l
    rw [fD55, List.length_cons]
    unfold cost
    omega

end
end Go.Hay.YthlojpcjafefjaaGreat
