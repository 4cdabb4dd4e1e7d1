/- The document's calls of a log. Conditions: sizes below a bound. -/
import Derived.Test.YthlojpcjafefjaaGreatLp
set_option linter.unusedVariables false
set_option linter.unusedSimpArgs false
namespace Go.Hay.YthlojpcjafefjaaGreat
open Go Go.Hay Go.Proofs

section
variable {N : Nat}

abbrev ru (r : RS) : Int × Int × DFs × Bool × Bool × Int × Unit := (r.room, r.steps, r.files, r.armed, r.dead, r.left, ())
theorem fD53 (hN : 8796093022208 ≤ N) {k : Nat} {d : DD} {r : RS} (h : Inv k d r) (hk : k + 6 ≤ 1000000000) :
    ((fD34 r).2 = 0 → fD1.run N r.t nm = some ((fD34 r).1.t, (nm, [], 0), 0, ())) ∧
    (¬ (fD34 r).2 = 0 → fD1.run N r.t nm = some ((fD34 r).1.t, ([], [], 0), (fD34 r).2, ())) := by
  have hi : Both (k + 2) (bif mapHas d.files nm then dRemove d nm else (d, 0)) (bif mapHas r.files nm then rRemove r nm else (r, 0)) := by
    rw [h.has]
    cases mapHas r.files nm with
    | true => exact h.remove (by omega) nm
    | false => exact ⟨rfl, h.mono (by omega) (by omega)⟩
  have h1 : fA36.run N nm r.room r.steps r.files r.armed r.dead r.left 0 = some (ru (bif mapHas r.files nm then rRemove r nm else (r, 0)).1, (bif mapHas r.files nm then rRemove r nm else (r, 0)).2, ()) := by
    rcases Dk.at_ok hN (Dk.Inv.rb h) nm with ⟨hh, j, hj, e1, e2⟩ | ⟨hh, e1⟩
    · rw [hh]
      exact go_o e1 (go_d (by omega) (go_o (Dk.fD87 hN (Dk.Inv.rb h) nm) rfl))
    · rw [hh]
      exact go_o e1 (go_n (by decide) rfl)
  have hc : fD34 r = thn (thn (bif mapHas r.files nm then rRemove r nm else (r, 0)) fun r => rAppend r nm []) fun r => rSync r nm := rfl
  rw [hc]
  generalize (bif mapHas r.files nm then rRemove r nm else (r, 0)) = y at *
  generalize (bif mapHas d.files nm then dRemove d nm else (d, 0)) = x at *
  have hi2 : Both (k + 4) (thn x fun d => dAppend d nm []) (thn y fun r => rAppend r nm []) := hi.thn (by omega) (by omega) fun d r h => h.append (name := nm) (b := []) (by simp; omega)
  have h2 : fB35.run N nm y.1.room y.1.steps y.1.files y.1.armed y.1.dead y.1.left y.2 = some (ru (thn y fun r => rAppend r nm []).1, (thn y fun r => rAppend r nm []).2, ()) := by
    by_cases he : y.2 = 0
    · rw [thn_ok he]
      exact go_d he (go_o (Dk.fA67 hN (Dk.Inv.rb hi.2) nm [] (by decide) (by decide)) rfl)
    · rw [thn_no he]
      exact go_n he rfl
  generalize (thn y fun r => rAppend r nm []) = z at *
  generalize (thn x fun d => dAppend d nm []) = x2 at *
  have h3 : fD36.run N nm z.1.room z.1.steps z.1.files z.1.armed z.1.dead z.1.left z.2 = some (ru (thn z fun r => rSync r nm).1, (thn z fun r => rSync r nm).2, ()) := by
    by_cases he : z.2 = 0
    · rw [thn_ok he]
      exact go_d he (go_o (Dk.fA66 hN (Dk.Inv.rb hi2.2) nm) rfl)
    · rw [thn_no he]
      exact go_n he rfl
  exact ⟨fun he => go_o h1 (go_o h2 (go_o h3 (go_nd he rfl))), fun he => go_o h1 (go_o h2 (go_o h3 (go_nn he rfl)))⟩
theorem fB53 (hN : 8796093022208 ≤ N) {k : Nat} {d : DD} {r : RS} (h : Inv k d r) (hk : k + 4 ≤ 900000000) :
    ((rOpen r).2 = 0 → fB2.run N r.t nm = some ((rOpen r).1.t, (nm, (readP (rGet r nm).1).1, (readP (rGet r nm).1).2.1), 0, ())) ∧
    (¬ (rOpen r).2 = 0 → fB2.run N r.t nm = some ((rOpen r).1.t, ([], [], 0), (rOpen r).2, ())) := by
  obtain ⟨q, rfl⟩ : ∃ q, N = q + 20 := ⟨N - 20, by omega⟩
  have hl : (rGet r nm).1.length ≤ k := h.fi.lenG nm
  have hrd := fA93 q (rGet r nm).1 (by omega) (by omega)
  by_cases hd : r.dead = true
  · have e : rOpen r = (r, 44) := by unfold rOpen; rw [hd]; rfl
    rw [e]
    exact ⟨fun he => by change (44 : Int) = 0 at he; omega, fun _ => go_t hd rfl⟩
  · have hd := Bool.eq_false_iff.2 hd
    rcases Dk.at_ok hN (Dk.Inv.rb h) nm with ⟨hm, j, hj, e1, e2⟩ | ⟨hm, e1⟩
    · have hb : (r.t.2.2.1.getD (j : Int).toNat (([] : List UInt8), ([] : List UInt8), (0 : Int))).2.1 = (rGet r nm).1 := by
        rw [Int.toNat_natCast]
        show (r.files.getD j Dk.e0).2.1 = _
        rw [e2]
      have hhead : ∀ {z}, (obind (fD39.run (q + 20) nm r.room r.steps r.files r.armed r.dead r.left (rGet r nm).1 (readP (rGet r nm).1).2.1 (readP (rGet r nm).1).2.2) fun (v : (Int × Int × DFs × Bool × Bool × Int × Unit) × Int × Unit) =>
              obind (fB40.run (q + 20) nm v.1.1 v.1.2.1 v.1.2.2.1 v.1.2.2.2.1 v.1.2.2.2.2.1 v.1.2.2.2.2.2.1 v.2.1) fun (u : (Int × Int × DFs × Bool × Bool × Int × Unit) × Int × Unit) =>
                bif !(decide (u.2.1 = (0 : Int))) then
                  some ((u.1.1, u.1.2.1, u.1.2.2.1, u.1.2.2.2.1, u.1.2.2.2.2.1, u.1.2.2.2.2.2.1), (([] : List UInt8), ([] : List (List UInt8)), (0 : Int)), u.2.1, ())
                else some ((u.1.1, u.1.2.1, u.1.2.2.1, u.1.2.2.2.1, u.1.2.2.2.2.1, u.1.2.2.2.2.2.1), (nm, (readP (rGet r nm).1).1, (readP (rGet r nm).1).2.1), (0 : Int), ())) = z →
          fB2.run (q + 20) r.t nm = z := fun {z} hz => by
        refine go_f hd (go_o e1 (go_n (by omega) (go_t (inB_nat hj) ?_)))
        rw [hb]
        exact go_o hrd hz
      by_cases hz : (readP (rGet r nm).1).2.2 = 0
      · have e : rOpen r = thn (bif decide ((readP (rGet r nm).1).2.1 < ((rGet r nm).1.length : Int)) then rTrunc r nm (readP (rGet r nm).1).2.1 else (r, 0)) fun r => rSync r nm := by
          unfold rOpen
          rw [hd, hm, decide_eq_true hz]; rfl
        rw [e]
        have hi : Both (k + 2) (bif decide ((readP (rGet r nm).1).2.1 < ((rGet r nm).1.length : Int)) then dTrunc d nm (readP (rGet r nm).1).2.1 else (d, 0)) (bif decide ((readP (rGet r nm).1).2.1 < ((rGet r nm).1.length : Int)) then rTrunc r nm (readP (rGet r nm).1).2.1 else (r, 0)) := by
          cases decide ((readP (rGet r nm).1).2.1 < ((rGet r nm).1.length : Int)) with
          | true => exact h.trunc (by omega) nm _
          | false => exact ⟨rfl, h.mono (by omega) (by omega)⟩
        have h1 : fD39.run (q + 20) nm r.room r.steps r.files r.armed r.dead r.left (rGet r nm).1 (readP (rGet r nm).1).2.1 (readP (rGet r nm).1).2.2 =
            some (ru (bif decide ((readP (rGet r nm).1).2.1 < ((rGet r nm).1.length : Int)) then rTrunc r nm (readP (rGet r nm).1).2.1 else (r, 0)).1, (bif decide ((readP (rGet r nm).1).2.1 < ((rGet r nm).1.length : Int)) then rTrunc r nm (readP (rGet r nm).1).2.1 else (r, 0)).2, ()) := by
          refine go_d hz ?_
          cases decide ((readP (rGet r nm).1).2.1 < ((rGet r nm).1.length : Int)) with
          | true => exact go_o (Dk.fB91 hN (Dk.Inv.rb h) nm _) rfl
          | false => rw [hz]; rfl
        generalize (bif decide ((readP (rGet r nm).1).2.1 < ((rGet r nm).1.length : Int)) then rTrunc r nm (readP (rGet r nm).1).2.1 else (r, 0)) = y at *
        have h2 : fB40.run (q + 20) nm y.1.room y.1.steps y.1.files y.1.armed y.1.dead y.1.left y.2 = some (ru (thn y fun r => rSync r nm).1, (thn y fun r => rSync r nm).2, ()) := by
          by_cases he : y.2 = 0
          · rw [thn_ok he]
            exact go_d he (go_o (Dk.fA66 hN (Dk.Inv.rb hi.2) nm) rfl)
          · rw [thn_no he]
            exact go_n he rfl
        exact ⟨fun he => hhead (go_o h1 (go_o h2 (go_nd he rfl))), fun he => hhead (go_o h1 (go_o h2 (go_nn he rfl)))⟩
      · have e : rOpen r = (r, (readP (rGet r nm).1).2.2) := by
          unfold rOpen
          rw [hd, hm, decide_eq_false hz]; rfl
        rw [e]
        exact ⟨fun he => absurd he hz, fun _ => hhead (go_o (go_n hz rfl) (go_o (go_n hz rfl) (go_nn hz rfl)))⟩
    · have e : rOpen r = (r, 42) := by unfold rOpen; rw [hd, hm]; rfl
      rw [e]
      exact ⟨fun he => by change (42 : Int) = 0 at he; omega, fun _ => go_f hd (go_o e1 (go_d (by decide) rfl))⟩
theorem fB96 (hN : 8796093022208 ≤ N) {k : Nat} {d : DD} {r : RS} (h : Inv k d r) {rs l : List (List UInt8)} (hk : k + 4 + (frame (recB rs)).length ≤ 1000000000) (hs : Small rs) (hl : l.length ≤ 1000000000) (s : Int) :
    fA2.run N r.t (nm, l, s) rs = some ((rApp r rs).1.t, (nm, appL (rApp r rs).2 l rs, appS (rApp r rs).2 s rs), (rApp r rs).2, ()) := by
  obtain ⟨q, rfl⟩ : ∃ q, N = q + 20 := ⟨N - 20, by omega⟩
  by_cases h0 : (rs.length : Int) = 0
  · have e0 : rs = [] := List.eq_nil_of_length_eq_zero (by omega)
    subst e0
    refine go_d h0 ?_
    simp [rApp, appL, appS]
  · have hst := Small.tl hs
    have htt := tl_tot rs
    have hsm : tot rs + 9 ≤ 16777216 := hs
    have e : rApp r rs = thn (rAppend r nm (frame (recB rs))) fun r => rSync r nm := by unfold rApp; rw [decide_eq_false h0]; rfl
    have eS : ∀ x, appS x s rs = bif decide (x = 0) then IntKind.i64.wrap (s + ((frame (recB rs)).length : Int)) else s := fun x => by unfold appS; rw [decide_eq_false h0]; rfl
    rw [e, eS]
    have hi : Both (k + 2 + (frame (recB rs)).length) (dAppend d nm (frame (recB rs))) (rAppend r nm (frame (recB rs))) := h.append (by omega)
    have h1 : fC22.run (q + 20) r.room r.steps r.files r.armed r.dead r.left nm l s (frame (recB rs)) 0 = some (ru (rAppend r nm (frame (recB rs))).1, (rAppend r nm (frame (recB rs))).2, ()) :=
      go_d rfl (go_o (Dk.fA67 hN (Dk.Inv.rb h) nm (frame (recB rs)) (by decide) (by omega)) rfl)
    generalize rAppend r nm (frame (recB rs)) = y at *
    have h2 : fA23.run (q + 20) y.1.room y.1.steps y.1.files y.1.armed y.1.dead y.1.left nm l s y.2 = some (ru (thn y fun r => rSync r nm).1, (thn y fun r => rSync r nm).2, ()) := by
      by_cases he : y.2 = 0
      · rw [thn_ok he]
        exact go_d he (go_o (Dk.fA66 hN (Dk.Inv.rb hi.2) nm) rfl)
      · rw [thn_no he]
        exact go_n he rfl
    generalize (thn y fun r => rSync r nm) = z at *
    refine go_n h0 (go_o (fC88 q rs hs (by omega)) (go_o h1 (go_o h2 ?_)))
    by_cases he : z.2 = 0
    · have r1 : room l.length 24 = true := room_t (by omega) (by omega)
      have r2 : room (l.length + rs.length) 24 = true := room_t (by omega) (by omega)
      refine go_nd he (go_t r1 (go_t r2 ?_))
      unfold appL
      rw [he]; rfl
    · refine go_nn he ?_
      unfold appL
      rw [decide_eq_false he]; rfl
end
end Go.Hay.YthlojpcjafefjaaGreat
