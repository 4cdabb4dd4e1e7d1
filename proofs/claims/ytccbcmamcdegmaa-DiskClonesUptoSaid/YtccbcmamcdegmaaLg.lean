/- What is done to a clone, or to what a crash leaves, is not seen at the disk. Conditions: sizes below a bound. -/
import Derived.Test.YtccbcmamcdegmaaLf
set_option linter.unusedVariables false
set_option linter.unusedSimpArgs false
namespace Go.Hay.Ytccbcmamcdegmaa
open Go Go.Hay Go.Proofs

section
variable {N : Nat}
abbrev Tri := (DD × RS) × (DD × RS) × (DD × RS)
noncomputable def triGo (N fuel : Nat) (a one two : List Op) (b : Tri) (i : Int) :=
  law_DiskClones_0.go N fuel a one two b.1.1.room b.1.1.used b.1.1.files b.1.1.steps b.1.1.left b.1.1.dead b.1.2.room b.1.2.steps b.1.2.files b.1.2.armed b.1.2.dead b.1.2.left
    b.2.1.1.room b.2.1.1.used b.2.1.1.files b.2.1.1.steps b.2.1.1.left b.2.1.1.dead b.2.2.1.room b.2.2.1.used b.2.2.1.files b.2.2.1.steps b.2.2.1.left b.2.2.1.dead
    b.2.1.2.room b.2.1.2.steps b.2.1.2.files b.2.1.2.armed b.2.1.2.dead b.2.1.2.left b.2.2.2.room b.2.2.2.steps b.2.2.2.files b.2.2.2.armed b.2.2.2.dead b.2.2.2.left i

theorem asks_ok (a one two : List Op) (i : Nat) : law_DiskClones_0_0.run N a one two (i : Int) = some (bif decide (i < max one.length two.length) then .inl () else .inr ()) := by
  by_cases h1 : i < one.length
  · refine go_d (by omega) ?_
    rw [decide_eq_true (by omega)]; rfl
  refine go_n (by omega) ?_
  by_cases h2 : i < two.length
  · refine go_d (by omega) ?_
    rw [decide_eq_true (by omega)]; rfl
  · refine go_n (by omega) ?_
    rw [decide_eq_false (by omega)]; rfl

theorem costs_more {l : List Op} {i : Nat} (h : ¬ i < l.length) : costs (l.take (i + 1)) = costs (l.take i) := by
  rw [List.take_of_length_le (by omega), List.take_of_length_le (by omega)]

theorem one_law (hN : 8796093022208 ≤ N) (a one two : List Op) {k m : Nat} (hl : SB one m) (hk : k + m ≤ 2199023255552) {d : DD} {r : RS} {i : Nat} (h : Inv (k + costs (one.take i)) d r) :
    ∃ d' r', law_DiskClones_0_1.run N a one two d.room d.used d.files d.steps d.left d.dead r.room r.steps r.files r.armed r.dead r.left (i : Int) =
      some (.inl ((r'.room, r'.steps, r'.files, r'.armed, r'.dead, r'.left, ()), d'.t, ())) ∧ Inv (k + costs (one.take (i + 1))) d' r' := by
  have hc := hl.cost
  by_cases hi : i < one.length
  · have hci := costs_take hi
    have hcl := costs_le one (i + 1)
    obtain ⟨d', r', e, hi'⟩ := step_law hN h (hl.ops _ (List.getElem_mem hi)) (by omega)
    refine ⟨d', r', go_d (by omega) (go_t (inB_nat hi) ?_), by rw [hci, ← Nat.add_assoc]; exact hi'⟩
    rw [Int.toNat_natCast, getD_get hi]
    exact go_o e rfl
  · exact ⟨d, r, go_n (by omega) rfl, by rw [costs_more hi]; exact h⟩

theorem clones_loop (hN : 8796093022208 ≤ N) (a one two : List Op) {k m : Nat} (h1 : SB one m) (h2 : SB two m) (hk : k + m ≤ 2199023255552) {b : Tri}
    (hb : Inv k b.1.1 b.1.2 ∧ Inv k b.2.1.1 b.2.1.2 ∧ Inv k b.2.2.1 b.2.2.2) :
    ∃ b' : Tri, (Inv (k + m) b'.1.1 b'.1.2 ∧ Inv (k + m) b'.2.1.1 b'.2.1.2 ∧ Inv (k + m) b'.2.2.1 b'.2.2.2) ∧
      triGo N N a one two b 0 = some (.inr ((b'.1.2.room, b'.1.2.steps, b'.1.2.files, b'.1.2.armed, b'.1.2.dead, b'.1.2.left, ()), (b'.2.1.2.room, b'.2.1.2.steps, b'.2.1.2.files, b'.2.1.2.armed, b'.2.1.2.dead, b'.2.1.2.left, ()),
        (b'.2.2.2.room, b'.2.2.2.steps, b'.2.2.2.files, b'.2.2.2.armed, b'.2.2.2.dead, b'.2.2.2.left, ()), b'.1.1.t, b'.2.1.1.t, b'.2.2.1.t, ())) := by
  have c1 := h1.cost
  have c2 := h2.cost
  have l1 := costs_len one
  have l2 := costs_len two
  obtain ⟨b', hb', e⟩ := loop_turn (β := Tri) (go := fun fuel b i => triGo N fuel a one two b i) (n := max one.length two.length)
    (fin := fun b' => .inr ((b'.1.2.room, b'.1.2.steps, b'.1.2.files, b'.1.2.armed, b'.1.2.dead, b'.1.2.left, ()), (b'.2.1.2.room, b'.2.1.2.steps, b'.2.1.2.files, b'.2.1.2.armed, b'.2.1.2.dead, b'.2.1.2.left, ()),
        (b'.2.2.2.room, b'.2.2.2.steps, b'.2.2.2.files, b'.2.2.2.armed, b'.2.2.2.dead, b'.2.2.2.left, ()), b'.1.1.t, b'.2.1.1.t, b'.2.2.1.t, ()))
    (fun i b => Inv (k + costs (one.take i)) b.1.1 b.1.2 ∧ Inv (k + costs (two.take i)) b.2.1.1 b.2.1.2 ∧ Inv (k + costs (two.take i)) b.2.2.1 b.2.2.2) (by omega)
    (fun fuel b _ => by
      have ha := asks_ok (N := N) a one two (max one.length two.length)
      rw [decide_eq_false (by omega)] at ha
      exact go_o ha rfl)
    (fun i hi b hb => by
      obtain ⟨i1, i2, i3⟩ := hb
      have ha := asks_ok (N := N) a one two i
      rw [decide_eq_true hi] at ha
      obtain ⟨d', r', e1, j1⟩ := one_law hN a one two h1 hk i1
      by_cases h : i < two.length
      · have hci := costs_take h
        have hcl := costs_le two (i + 1)
        obtain ⟨d2, r2, e2, j2⟩ := step_law hN i2 (h2.ops _ (List.getElem_mem h)) (by omega)
        obtain ⟨d3, r3, e3, j3⟩ := step_law hN i3 (h2.ops _ (List.getElem_mem h)) (by omega)
        refine ⟨((d', r'), (d2, r2), (d3, r3)), ⟨j1, by rw [hci, ← Nat.add_assoc]; exact j2, by rw [hci, ← Nat.add_assoc]; exact j3⟩, fun fuel => ?_⟩
        refine go_o ha (go_o e1 (go_d (by omega) (go_t (inB_nat h) ?_)))
        rw [Int.toNat_natCast, getD_get h]
        exact go_o e2 (go_f rfl (go_t (inB_nat h) (go_o e3 rfl)))
      · refine ⟨((d', r'), b.2.1, b.2.2), ⟨j1, by rw [costs_more h]; exact i2, by rw [costs_more h]; exact i3⟩, fun fuel => ?_⟩
        exact go_o ha (go_o e1 (go_n (by omega) rfl))) (show max one.length two.length < N by omega) (b := b) (by simpa [costs] using hb)
  obtain ⟨q1, q2, q3⟩ := hb'
  have t1 := costs_le one (max one.length two.length)
  have t2 := costs_le two (max one.length two.length)
  exact ⟨b', ⟨Go.Hay.Inv.mono q1 (by omega) hk, Go.Hay.Inv.mono q2 (by omega) hk, Go.Hay.Inv.mono q3 (by omega) hk⟩, e⟩

theorem disk_clones (hN : 8796093022208 ≤ N) (n : Int) (hn : n < 9223372036854775808) {l one two : List Op} {m : Nat} (hl : SB l m) (h1 : SB one m) (h2 : SB two m) (hm : m + m ≤ 2199023255552) (keep : List Int) : law_DiskClones.run N n (l, one, two) keep = some (true, ()) := by
  obtain ⟨d, r, e, h⟩ := run_law hN (inv_new n hn) hl (by omega)
  have hc := Go.Hay.Inv.crash h keep
  obtain ⟨b, ⟨q1, q2, q3⟩, e2⟩ := clones_loop hN l one two h1 h2 (k := 0 + m) (by omega) (b := ((d, r), (d, r), (dCrash d r.files keep, rCrash r keep))) ⟨h, h, hc⟩
  unfold law_DiskClones.run
  refine go_o (begun_ok hN n) (go_f rfl (go_o (rnew_ok n) (go_o e (go_f rfl (go_o (v := (d.t, ())) rfl (go_o (crash_ok hN h.fi (by have := h.fi.fits; omega) keep) (go_o (rcrash_ok hN (Inv.rb h) keep) (go_o e2 ?_))))))))
  exact go_o (Inv.stands hN q1) (go_t rfl (go_o (Inv.stands hN q2) (go_t rfl (go_o (Inv.stands hN q3) rfl))))
end
end Go.Hay.Ytccbcmamcdegmaa
