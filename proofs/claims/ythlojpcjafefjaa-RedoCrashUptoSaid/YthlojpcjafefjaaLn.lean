/- Logs on a disk that may die. Conditions: sizes below a bound. -/
import Derived.Test.YthlojpcjafefjaaLm
set_option linter.unusedVariables false
set_option linter.unusedSimpArgs false
namespace Go.Hay.Ythlojpcjafefjaa
open Go Go.Hay Go.Proofs

section
variable {N : Nat}
/-- A disk with one file: its bytes, and how many of them last. -/
def Fi (d : DD) (b : List UInt8) (c : Int) : Prop := d.files = [(nm, (b, c))] ∧ d.used = (b.length : Int) ∧ d.room = big
/-- One that lives, all of whose bytes last; it may be armed. -/
def Al (d : DD) (b : List UInt8) : Prop := Fi d b (b.length : Int) ∧ d.dead = false ∧ -1 ≤ d.left ∧ d.left < 9223372036854775808

theorem step_any {d : DD} (h : -1 ≤ d.left ∧ d.left < 9223372036854775808) : (dStep d).1.files = d.files ∧ (dStep d).1.used = d.used ∧ (dStep d).1.room = d.room ∧
    ((dStep d).2 = true ∧ (dStep d).1.dead = true ∧ d.left = 0 ∨ (dStep d).2 = false ∧ (dStep d).1.dead = d.dead ∧ (-1 ≤ (dStep d).1.left ∧ (dStep d).1.left < 9223372036854775808)) := by
  unfold dStep
  by_cases h1 : d.left = -1
  · rw [decide_eq_true h1]
    exact ⟨rfl, rfl, rfl, .inr ⟨rfl, rfl, h⟩⟩
  · rw [decide_eq_false h1]
    by_cases h0 : d.left = 0
    · rw [decide_eq_true h0]
      exact ⟨rfl, rfl, rfl, .inl ⟨rfl, rfl, h0⟩⟩
    · rw [decide_eq_false h0]
      refine ⟨rfl, rfl, rfl, .inr ⟨rfl, rfl, ?_⟩⟩
      show -1 ≤ wr (d.left - 1) ∧ wr (d.left - 1) < 9223372036854775808
      rw [show wr (d.left - 1) = d.left - 1 from wrap_i64 (by omega) (by omega)]
      omega

theorem fi_get {d : DD} {b : List UInt8} {c : Int} (h : Fi d b c) : dGet d nm = (b, c) := by unfold dGet; rw [h.1, get_one]
theorem fi_has {d : DD} {b : List UInt8} {c : Int} (h : Fi d b c) : mapHas d.files nm = true := by rw [h.1, has_one]
theorem fi_lay {d : DD} {b : List UInt8} {c : Int} (h : Fi d b c) (hb : b.length ≤ 1000000000000) (b' : List UInt8) (hb' : b'.length ≤ 1000000000000) (c' : Int) : Fi (dLay d nm (b', c')) b' c' := by
  have hg := fi_get h
  obtain ⟨h1, h2, h3⟩ := h
  refine ⟨?_, ?_, h3⟩
  · show mapPut d.files nm (b', c') = _
    rw [h1, put_one]
  · show wr (d.used + wr ((b'.length : Int) - ((dGet d nm).1.length : Int))) = _
    rw [hg, h2]
    rw [show wr ((b'.length : Int) - (b.length : Int)) = (b'.length : Int) - (b.length : Int) from wrap_i64 (by omega) (by omega)]
    rw [show wr ((b.length : Int) + ((b'.length : Int) - (b.length : Int))) = (b.length : Int) + ((b'.length : Int) - (b.length : Int)) from wrap_i64 (by omega) (by omega)]
    omega
theorem fi_step {d : DD} {b : List UInt8} {c : Int} (h : Fi d b c) (hl : -1 ≤ d.left ∧ d.left < 9223372036854775808) : Fi (dStep d).1 b c := by
  obtain ⟨s1, s2, s3, _⟩ := step_any hl
  exact ⟨s1.trans h.1, s2.trans h.2.1, s3.trans h.2.2⟩

/-- Bytes are appended: they are there, or the disk is dead. -/
theorem al_append {d : DD} {b : List UInt8} (h : Al d b) (x : List UInt8) (hb : b.length + x.length ≤ 1000000000000) :
    (dAppend d nm x).2 = 0 ∧ Fi (dAppend d nm x).1 (b ++ x) (b.length : Int) ∧ (dAppend d nm x).1.dead = false ∧ (-1 ≤ (dAppend d nm x).1.left ∧ (dAppend d nm x).1.left < 9223372036854775808) ∨
    (dAppend d nm x).2 = 44 ∧ Fi (dAppend d nm x).1 (b ++ x) (b.length : Int) ∧ (dAppend d nm x).1.dead = true ∧ d.left ≠ -1 := by
  obtain ⟨hf, h1, h2⟩ := h
  have hg := fi_get hf
  have hw : ¬ ((x.length : Int) > wr (d.room - d.used)) := by
    rw [hf.2.2, hf.2.1, show wr (big - (b.length : Int)) = 1125899906842624 - (b.length : Int) from wrap_i64 (by show _ ≤ (1125899906842624 : Int) - _; omega) (by show (1125899906842624 : Int) - _ < _; omega)]; omega
  have e : dAppend d nm x = ((dStep (dLay d nm ((dGet d nm).1 ++ x, (dGet d nm).2))).1, bif (dStep (dLay d nm ((dGet d nm).1 ++ x, (dGet d nm).2))).2 then 44 else 0) := by
    unfold dAppend
    rw [h1, nm_ok, decide_eq_false hw]; rfl
  have hl := fi_lay hf (by omega) (b ++ x) (by rw [List.length_append]; omega) (b.length : Int)
  have hll : -1 ≤ (dLay d nm (b ++ x, (b.length : Int))).left ∧ (dLay d nm (b ++ x, (b.length : Int))).left < 9223372036854775808 := h2
  have hs := fi_step hl hll
  rw [e, hg]
  rcases (step_any hll).2.2.2 with ⟨s1, s2, s3⟩ | ⟨s1, s2, s3⟩
  · rw [s1]
    exact .inr ⟨rfl, hs, s2, fun h0 => by rw [show (dLay d nm (b ++ x, (b.length : Int))).left = d.left from rfl, h0] at s3; cases s3⟩
  · rw [s1]
    exact .inl ⟨rfl, hs, s2.trans h1, s3⟩
theorem al_sync {d : DD} {b : List UInt8} {c : Int} (hf : Fi d b c) (h1 : d.dead = false) (h2 : -1 ≤ d.left ∧ d.left < 9223372036854775808) (hb : b.length ≤ 1000000000000) :
    (dSync d nm).2 = 0 ∧ Al (dSync d nm).1 b ∨ (dSync d nm).2 = 44 ∧ Fi (dSync d nm).1 b c ∧ (dSync d nm).1.dead = true ∧ d.left ≠ -1 := by
  have hg := fi_get hf
  have hs := fi_step hf h2
  rcases (step_any h2).2.2.2 with ⟨s1, s2, s3⟩ | ⟨s1, s2, s3⟩
  · have e : dSync d nm = ((dStep d).1, 44) := by
      unfold dSync dDo
      rw [h1, fi_has hf, s1]; rfl
    rw [e]
    exact .inr ⟨rfl, hs, s2, fun h0 => by rw [h0] at s3; cases s3⟩
  · have e : dSync d nm = (dLay (dStep d).1 nm ((dGet d nm).1, ((dGet d nm).1.length : Int)), 0) := by
      unfold dSync dDo
      rw [h1, fi_has hf, s1]; rfl
    rw [e, hg]
    exact .inl ⟨rfl, fi_lay hs hb b hb _, s2.trans h1, s3⟩
theorem al_trunc {d : DD} {b : List UInt8} (h : Al d b) {n : Nat} (hn : n ≤ b.length) (hb : b.length ≤ 1000000000000) :
    (dTrunc d nm (n : Int)).2 = 0 ∧ Al (dTrunc d nm (n : Int)).1 (b.take n) ∨ (dTrunc d nm (n : Int)).2 = 44 ∧ Fi (dTrunc d nm (n : Int)).1 b (b.length : Int) ∧ (dTrunc d nm (n : Int)).1.dead = true ∧ d.left ≠ -1 := by
  obtain ⟨hf, h1, h2⟩ := h
  have hg := fi_get hf
  have hs := fi_step hf h2
  have hw : whyT (n : Int) (dGet d nm) = 0 := by
    unfold whyT
    rw [hg, decide_eq_false (by omega), decide_eq_false (by show ¬ ((n : Int) > (b.length : Int)); omega)]; rfl
  rcases (step_any h2).2.2.2 with ⟨s1, s2, s3⟩ | ⟨s1, s2, s3⟩
  · have e : dTrunc d nm (n : Int) = ((dStep d).1, 44) := by
      unfold dTrunc dDo
      rw [h1, fi_has hf, hw, s1]; rfl
    rw [e]
    exact .inr ⟨rfl, hs, s2, fun h0 => by rw [h0] at s3; cases s3⟩
  · have e : dTrunc d nm (n : Int) = (dLay (dStep d).1 nm ((dGet d nm).1.take (n : Int).toNat, min (dGet d nm).2 (n : Int)), 0) := by
      unfold dTrunc dDo
      rw [h1, fi_has hf, hw, s1]; rfl
    rw [e, hg]
    have hl : (b.take n).length = n := by rw [List.length_take]; omega
    have hm : min (b.length : Int) (n : Int) = ((b.take n).length : Int) := by rw [hl]; omega
    refine .inl ⟨rfl, ?_, s2.trans h1, s3⟩
    show Fi (dLay (dStep d).1 nm (b.take (n : Int).toNat, min (b.length : Int) (n : Int))) (b.take n) ((b.take n).length : Int)
    rw [Int.toNat_natCast, hm]
    exact fi_lay hs hb _ (by omega) _

/-- An Append: it lasts, or the disk is dead. -/
theorem app_any (hN : 8796093022208 ≤ N) {d : DD} {b : List UInt8} (h : Al d b) {rs l : List (List UInt8)} (hs : Small rs) (hb : b.length + (apB rs).length ≤ 1000000000000) (hll : l.length ≤ 1000000000) (size : Int) :
    ∃ (d' : DD) (l' : List (List UInt8)) (size' e : Int), redo_Log_Append_b.run N d.room d.used d.files d.steps d.left d.dead nm l size rs = some (d'.t, ((), nm, l', size', ()), e, ()) ∧
      ((e = 0 ∧ Al d' (b ++ apB rs) ∧ l' = l ++ rs) ∨ (e = 44 ∧ Fi d' (b ++ apB rs) (b.length : Int) ∧ d'.dead = true ∧ l' = l ∧ rs ≠ [])) := by
  obtain ⟨k, rfl⟩ : ∃ k, N = k + 20 := ⟨N - 20, by omega⟩
  by_cases h0 : rs = []
  · subst h0
    refine ⟨d, l, size, 0, go_d rfl rfl, .inl ⟨rfl, by simpa [apB] using h, by simp⟩⟩
  · have hpos : ¬ ((rs.length : Int) = 0) := by
      intro e
      exact h0 (List.eq_nil_of_length_eq_zero (by omega))
    have hst := Small.tl hs
    have htt := tl_tot rs
    have hsm : tot rs + 9 ≤ 16777216 := hs
    have e1 : apB rs = frame (recB rs) := by unfold apB; rw [if_neg h0]
    rw [e1] at hb ⊢
    have hrl := recB_len rs
    have hfl := frame_len (recB rs)
    have hg := fi_get h.1
    have happ := Dk.append_ok (N := k + 20) hN d nm (frame (recB rs)) (by decide) (by rw [hg]; show b.length + _ ≤ _; omega)
    have hfr := frames_ok k rs hs (by omega)
    rcases al_append h (frame (recB rs)) hb with ⟨a1, a2, a3, a4⟩ | ⟨a1, a2, a3, a4⟩
    · have hsync := Dk.sync_ok (N := k + 20) (dAppend d nm (frame (recB rs))).1 nm
      rw [a1] at happ
      rcases al_sync a2 a3 a4 (by rw [List.length_append]; exact hb) with ⟨s1, s2⟩ | ⟨s1, s2, s3, s4⟩
      · rw [s1] at hsync
        have hrow : redo_row_b.run (k + 20) d.room d.used d.files d.steps d.left d.dead nm l size (frame (recB rs)) = some ((dSync (dAppend d nm (frame (recB rs))).1 nm).1.t, 0, ()) :=
          go_o (v := ((dAppend d nm (frame (recB rs))).1.t, 0, ())) (go_o happ rfl) (go_nd rfl (go_o (v := ((dSync (dAppend d nm (frame (recB rs))).1 nm).1.t, 0, ())) (go_o hsync rfl) (go_nd rfl rfl)))
        have h0' := app0_b_ok (N := k + 20) (dSync (dAppend d nm (frame (recB rs))).1 nm).1.room (dSync (dAppend d nm (frame (recB rs))).1 nm).1.used (dSync (dAppend d nm (frame (recB rs))).1 nm).1.files (dSync (dAppend d nm (frame (recB rs))).1 nm).1.steps (dSync (dAppend d nm (frame (recB rs))).1 nm).1.left (dSync (dAppend d nm (frame (recB rs))).1 nm).1.dead nm size rs (by omega) (by omega) rs [] l (k + 20) rfl (by omega) (by omega)
        exact ⟨_, _, _, 0, go_n hpos (go_o hfr (go_nd rfl (go_o hrow (go_d rfl (go_o h0' rfl))))), .inl ⟨rfl, s2, rfl⟩⟩
      · rw [s1] at hsync
        have hrow : redo_row_b.run (k + 20) d.room d.used d.files d.steps d.left d.dead nm l size (frame (recB rs)) = some ((dSync (dAppend d nm (frame (recB rs))).1 nm).1.t, 44, ()) :=
          go_o (v := ((dAppend d nm (frame (recB rs))).1.t, 0, ())) (go_o happ rfl) (go_nd rfl (go_o (v := ((dSync (dAppend d nm (frame (recB rs))).1 nm).1.t, 44, ())) (go_o hsync rfl) (go_nn (by decide) rfl)))
        exact ⟨_, _, _, 44, go_n hpos (go_o hfr (go_nd rfl (go_o hrow (go_n (by decide) rfl)))), .inr ⟨rfl, s2, s3, rfl, h0⟩⟩
    · rw [a1] at happ
      have hrow : redo_row_b.run (k + 20) d.room d.used d.files d.steps d.left d.dead nm l size (frame (recB rs)) = some ((dAppend d nm (frame (recB rs))).1.t, 44, ()) :=
        go_o (v := ((dAppend d nm (frame (recB rs))).1.t, 44, ())) (go_o happ rfl) (go_nn (by decide) rfl)
      exact ⟨_, _, _, 44, go_n hpos (go_o hfr (go_nd rfl (go_o hrow (go_n (by decide) rfl)))), .inr ⟨rfl, a2, a3, rfl, h0⟩⟩

/-- A log is opened: it has what can be read, or the disk is dead and has it. -/
theorem open_any (hN : 8796093022208 ≤ N) {d : DD} {bs : List (List (List UInt8))} {r : List UInt8} (h : Al d (F2 bs ++ r)) (hb : ∀ x ∈ bs, Small x) (hr : r = [] ∨ (unf r).2.2 = 10) (hlen : (F2 bs ++ r).length ≤ 1000000000) :
    (∃ d' : DD, redo_Open.run N d.room d.used d.files d.steps d.left d.dead nm = some (.inr (d'.t, ((), nm, bs.flatten, ((F2 bs).length : Int), ()), 0, ())) ∧ d'.dead = false) ∨
    (∃ (d' : DD) (r' : List UInt8), redo_Open.run N d.room d.used d.files d.steps d.left d.dead nm = some (.inl (d'.t, (), 44, ())) ∧ d'.dead = true ∧ Fi d' (F2 bs ++ r') ((F2 bs ++ r').length : Int) ∧ (r' = [] ∨ (unf r').2.2 = 10) ∧ (F2 bs ++ r').length ≤ 1000000000 ∧ d.left ≠ -1) := by
  obtain ⟨k, rfl⟩ : ∃ k, N = k + 20 := ⟨N - 20, by omega⟩
  have hg := fi_get h.1
  have hread := Dk.read_ok (N := k + 20) d nm (by rw [hg]; show (F2 bs ++ r).length ≤ _; omega)
  have hrd := reads_ok k (F2 bs ++ r) hlen (by omega)
  rw [readP_frames bs r hb hr] at hrd
  rw [hg, fi_has h.1] at hread
  have hhead : ∀ {z}, (obind (redo_row_c.run (k + 20) ((F2 bs).length : Int) (F2 bs ++ r) d.room d.used d.files d.steps d.left d.dead nm) fun (v : (Int × Int × DFs × Int × Int × Bool × Unit) × Int × Unit) =>
      bif !(decide (v.2.1 = (0 : Int))) then some (Sum.inl (v.1, (), v.2.1, ())) else some (.inr (v.1, ((), nm, bs.flatten, ((F2 bs).length : Int), ()), (0 : Int), ()))) = z →
      redo_Open.run (k + 20) d.room d.used d.files d.steps d.left d.dead nm = z := fun {z} hz =>
    go_o hread (go_o (Dk.dead_ok (N := k + 20) d) (go_f h.2.1 (go_f rfl (go_o hrd (go_nd rfl hz)))))
  -- the rest is cut off
  have htr : (∃ d1 : DD, redo_Open_f1.run (k + 20) ((F2 bs).length : Int) (F2 bs ++ r) d.room d.used d.files d.steps d.left d.dead nm = some (d1.t, 0, ()) ∧ Al d1 (F2 bs) ∧ (d.left = -1 → d1.left = -1)) ∨
      (∃ d1 : DD, redo_Open_f1.run (k + 20) ((F2 bs).length : Int) (F2 bs ++ r) d.room d.used d.files d.steps d.left d.dead nm = some (d1.t, 44, ()) ∧ Fi d1 (F2 bs ++ r) ((F2 bs ++ r).length : Int) ∧ d1.dead = true ∧ d.left ≠ -1) := by
    by_cases hlt : (F2 bs).length < (F2 bs ++ r).length
    · have ht := Dk.trunc_ok (N := k + 20) d nm ((F2 bs).length : Int) (by rw [hg]; show (F2 bs ++ r).length ≤ _; omega)
      rcases al_trunc h (n := (F2 bs).length) (by omega) (by omega) with ⟨t1, t2⟩ | ⟨t1, t2, t3, t4⟩
      · rw [t1] at ht
        rw [List.take_left] at t2
        refine .inl ⟨_, go_d (by omega) (go_o ht rfl), t2, fun hl => ?_⟩
        have e : (dTrunc d nm ((F2 bs).length : Int)).1.left = -1 := by
          unfold dTrunc dDo
          have hw : whyT ((F2 bs).length : Int) (dGet d nm) = 0 := by
            unfold whyT
            rw [hg, decide_eq_false (by omega), decide_eq_false (by show ¬ (((F2 bs).length : Int) > ((F2 bs ++ r).length : Int)); omega)]; rfl
          rw [h.2.1, fi_has h.1, hw, step_free hl]
          exact hl
        exact e
      · rw [t1] at ht
        exact .inr ⟨_, go_d (by omega) (go_o ht rfl), t2, t3, t4⟩
    · have hr0 : r = [] := by
        rw [List.length_append] at hlt
        exact List.eq_nil_of_length_eq_zero (by omega)
      subst hr0
      rw [List.append_nil] at h ⊢
      exact .inl ⟨d, go_n (by omega) rfl, h, fun hl => hl⟩
  rcases htr with ⟨d1, f1, f2, f3⟩ | ⟨d1, f1, f2, f3, f4⟩
  · have hF : (F2 bs).length ≤ 1000000000 := by rw [List.length_append] at hlen; omega
    have hsync := Dk.sync_ok (N := k + 20) d1 nm
    rcases al_sync f2.1 f2.2.1 f2.2.2 (by omega) with ⟨s1, s2⟩ | ⟨s1, s2, s3, s4⟩
    · rw [s1] at hsync
      have hrow : redo_row_c.run (k + 20) ((F2 bs).length : Int) (F2 bs ++ r) d.room d.used d.files d.steps d.left d.dead nm = some ((dSync d1 nm).1.t, 0, ()) :=
        go_o f1 (go_nd rfl (go_o (v := ((dSync d1 nm).1.t, 0, ())) (go_o hsync rfl) (go_nd rfl rfl)))
      exact .inl ⟨_, hhead (go_o hrow (go_nd rfl rfl)), s2.2.1⟩
    · rw [s1] at hsync
      have hrow : redo_row_c.run (k + 20) ((F2 bs).length : Int) (F2 bs ++ r) d.room d.used d.files d.steps d.left d.dead nm = some ((dSync d1 nm).1.t, 44, ()) :=
        go_o f1 (go_nd rfl (go_o (v := ((dSync d1 nm).1.t, 44, ())) (go_o hsync rfl) (go_nn (by decide) rfl)))
      exact .inr ⟨_, [], hhead (go_o hrow (go_nn (show ¬ (44 : Int) = 0 by decide) rfl)), s3, by rw [List.append_nil]; exact s2, .inl rfl, by rw [List.append_nil]; exact hF, fun hl => s4 (f3 hl)⟩
  · have hrow : redo_row_c.run (k + 20) ((F2 bs).length : Int) (F2 bs ++ r) d.room d.used d.files d.steps d.left d.dead nm = some (d1.t, 44, ()) :=
      go_o f1 (go_nn (by decide) rfl)
    exact .inr ⟨_, r, hhead (go_o hrow (go_nn (show ¬ (44 : Int) = 0 by decide) rfl)), f3, f2, hr, hlen, f4⟩
end
end Go.Hay.Ythlojpcjafefjaa
