/- The law of fC63 Appends: RedoRefused. Conditions: sizes below a bound. -/
import Derived.Test.YthlojpcjafefjaaGreatLs
set_option linter.unusedVariables false
set_option linter.unusedSimpArgs false
namespace Go.Hay.YthlojpcjafefjaaGreat
open Go Go.Hay Go.Proofs

section
variable {N : Nat}

theorem fA68 (a : List (List UInt8)) (ha : a.length ≤ 1000000000000) : ∀ (d i fuel : Nat), a.length = i + d → d < fuel → fB31.go N fuel a a (i : Int) = some (.inr ())
  | _, _, 0, _, h => absurd h (Nat.not_lt_zero _)
  | 0, i, fuel + 1, e, _ => go_n (by omega) rfl
  | d + 1, i, fuel + 1, e, h => by
    have hi : i < a.length := by omega
    refine go_d (by omega) (go_t (inB_nat hi) (go_t (inB_nat hi) (go_d hi (go_nd rfl ?_))))
    rw [wrap_succ i (by omega)]
    exact fA68 a ha d (i + 1) fuel (by omega) (by omega)
theorem fC89 (a : List (List UInt8)) (ha : a.length ≤ 1000000000000) (hN : a.length < N) : fA16.run N a a = some (true, ()) :=
  go_nd rfl (go_o (fA68 a ha a.length 0 N (by omega) hN) rfl)

def hdR (w : Wd) (sc : List Op) (i : Int) : T84 ⊕ T85 := match w with
  | .jM d r x y z => .inl ((d.t, (), rz r x y z false), true, sc, (sc.length : Int), i, ())
  | .log d r l s => .inr ((d.t, lt l s, rz r nm l s true), true, sc, (sc.length : Int), i, ())
def finR (w : Wd) : T81 ⊕ T82 := match w with
  | .jM d r x y z => .inl ((d.t, (), rz r x y z false), true, ())
  | .log d r l s => .inr ((d.t, lt l s, rz r nm l s true), true, ())

theorem turnR (hN : 8796093022208 ≤ N) {k : Nat} {w : Wd} (h : WQ true k w) {sc : List Op} {i fuel : Nat} (hi : i < sc.length) (hs : sc.length ≤ 1000000000) (ho : OpQ sc[i]) (hk : k + cost sc[i] ≤ 900000000) :
    ∃ w', WQ true (k + cost sc[i]) w' ∧ law_RedoRefused_1.go N (fuel + 1) (hdR w sc (i : Int)) = law_RedoRefused_1.go N fuel (hdR w' sc ((i + 1 : Nat) : Int)) := by
  have hgd : sc.getD (i : Int).toNat ((0 : Int), (0 : Int), ([] : List (List UInt8)), ([] : List Int)) = sc[i] := by rw [Int.toNat_natCast, getD_get hi]
  have hw := wrap_succ i (by omega)
  by_cases h4 : sc[i].1 = 4
  · refine ⟨w, h.mono (by omega) (by omega), ?_⟩
    cases w with
    | jM d r x y z => exact go_d (by omega) (go_t (inB_nat hi) (go_t rfl (go_nd (by rw [hgd]; exact h4) (by rw [hw]; rfl))))
    | log d r l s => exact go_d (by omega) (go_t (inB_nat hi) (go_t rfl (go_nd (by rw [hgd]; exact h4) (by rw [hw]; rfl))))
  cases w with
  | jM d r x y z =>
    obtain ⟨w', out, q1, q2, q3⟩ := step_c (b := true) hN h.1 h.2 x y z ho (fun _ => h4) hk
    rw [← hgd] at q2
    refine ⟨w', q1, go_d (by omega) (go_t (inB_nat hi) (go_t rfl (go_nn (by rw [hgd]; exact h4) (go_o q2 ?_))))⟩
    cases w' with
    | jM d r x y z =>
      rcases q3 with rfl | ⟨t, rfl⟩
      · rw [hw]; rfl
      · rw [hw]; rfl
    | log d r l s =>
      rcases q3 with rfl | ⟨t, rfl⟩
      · rw [hw]; rfl
      · rw [hw]; rfl
  | log d r l s =>
    obtain ⟨w', out, q1, q2, q3⟩ := step_e (b := true) hN h.1 h.2.1 h.2.2.1 h.2.2.2 s ho (fun _ => h4) hk
    rw [← hgd] at q2
    refine ⟨w', q1, go_d (by omega) (go_t (inB_nat hi) (go_t rfl (go_nn (by rw [hgd]; exact h4) (go_o q2 ?_))))⟩
    cases w' with
    | jM d r x y z =>
      rcases q3 with ⟨t, rfl⟩ | ⟨t, u, rfl⟩
      · rw [hw]; rfl
      · rw [hw]; rfl
    | log d r l s =>
      rcases q3 with ⟨t, rfl⟩ | rfl | ⟨t, u, rfl⟩
      · rw [hw]; rfl
      · rw [hw]; rfl
      · rw [hw]; rfl
theorem turnsR (hN : 8796093022208 ≤ N) {sc : List Op} (hs : sc.length ≤ 1000000000) (ho : ∀ o ∈ sc, OpQ o) : ∀ (m i fuel k : Nat) (w : Wd), sc.length = i + m → m < fuel → WQ true k w → k + costs (sc.drop i) ≤ 900000000 →
    ∃ w', WQ true (k + costs (sc.drop i)) w' ∧ law_RedoRefused_1.go N fuel (hdR w sc (i : Int)) = some (finR w')
  | _, _, 0, _, _, _, h, _, _ => absurd h (Nat.not_lt_zero _)
  | 0, i, fuel + 1, k, w, e, _, h, hk => by
    rw [List.drop_eq_nil_of_le (by omega)]
    refine ⟨w, h, ?_⟩
    cases w with
    | jM d r x y z => exact go_n (by omega) rfl
    | log d r l s => exact go_n (by omega) rfl
  | m + 1, i, fuel + 1, k, w, e, hm, h, hk => by
    have hi : i < sc.length := by omega
    rw [List.drop_eq_getElem_cons hi, fD55] at hk ⊢
    obtain ⟨w1, q1, e1⟩ := turnR (fuel := fuel) hN h hi hs (ho _ (List.getElem_mem hi)) (by omega)
    obtain ⟨w2, q2, e2⟩ := turnsR hN hs ho m (i + 1) fuel _ w1 (by omega) (by omega) q1 (by omega)
    exact ⟨w2, by rw [← Nat.add_assoc]; exact q2, e1.trans e2⟩

/-- The end: an Append at a log. -/
noncomputable def tailR (N : Nat) (d : DD) (l : List (List UInt8)) (s : Int) (rs : List (List UInt8)) : Option (Bool × Unit) :=
  obind (law_gone.run N d.room d.used d.files d.steps d.left d.dead nm l s) fun ((room10, used9, files9, steps9, left9, dead9, _), (_, name3, l5, size3, _), l6, _) =>
    obind (fC3.run N room10 used9 files9 steps9 left9 dead9 name3 l5 size3) fun (n1, _) =>
      obind (fC0.run N room10 used9 files9 steps9 left9 dead9 ([(108 : UInt8), (111 : UInt8), (103 : UInt8)] : List UInt8)) fun (l7, b3, _) =>
        obind (fC1.run N room10 used9 files9 steps9 left9 dead9 name3 l5 size3 rs) fun ((room11, used10, files10, steps10, left10, dead10, _), (_, name4, l8, size4, _), n2, _) =>
          bif decide (n2 = (0 : Int)) then
            obind (fC8.run N room11 used10 files10 steps10 left10 dead10 name4 l8 size4) fun (n3, _) =>
              bif decide (n3 = (IntKind.i64.wrap ((l6.length : Int) + (rs.length : Int)))) then
                obind (law_gone.run N room11 used10 files10 steps10 left10 dead10 name4 l8 size4) fun ((room12, used11, files11, steps11, left11, dead11, _), (_, name5, l9, size5, _), l10, _) =>
                  bif okB (0 : Int) (l6.length : Int) l10.length then
                    obind (fA16.run N ((l10.drop 0).take ((l6.length : Int) - (0 : Int)).toNat) l6) fun (b4, _) =>
                      some (b4, ())
                  else none
              else some (false, ())
          else
            obind (fC0.run N room11 used10 files10 steps10 left10 dead10 ([(108 : UInt8), (111 : UInt8), (103 : UInt8)] : List UInt8)) fun (l11, b5, _) =>
              obind (law_gone.run N room11 used10 files10 steps10 left10 dead10 name4 l8 size4) fun ((room13, used12, files12, steps12, left12, dead12, _), (_, name6, l12, size6, _), l13, _) =>
                obind (fC18.run N l13 l6) fun (b6, _) =>
                  bif b6 then
                    obind (fC3.run N room13 used12 files12 steps12 left12 dead12 name6 l12 size6) fun (n4, _) =>
                      bif decide (n4 = n1) then
                        some (decide (l7 = l11), ())
                      else some (false, ())
                  else some (false, ())
theorem fC84 (hN : 8796093022208 ≤ N) {k : Nat} {d : DD} {r : RS} {l : List (List UInt8)} {s : Int} (h : WQ true k (.log d r l s)) {rs : List (List UInt8)} (hs : Small rs) (hk : k ≤ 800000000) : tailR N d l s rs = some (true, ()) := by
  obtain ⟨hi, hv, hl, hbd⟩ := h
  have hv := hv rfl
  have hfl := fA51 (recB rs)
  have hrl := fB47 rs
  have htt := tl_tot rs
  have hsm : tot rs + 9 ≤ 16777216 := hs
  have hlen : (dGet d nm).1.length ≤ k := by rw [hi.get]; exact hi.fi.lenG nm
  have hread := Dk.fC49 (N := N) d nm (by omega)
  have hp := fA83 hN hi (rs := rs) (l := l) (by omega) hs (by omega) s
  have hg := gone1 (N := N) d nm l s (by omega) hbd (by omega)
  refine go_o hg (go_o rfl (go_o hread (go_o hp ?_)))
  by_cases he : (dApp d rs).2 = 0
  · have ea : appL (dApp d rs).2 l rs = l ++ rs := by unfold appL; rw [decide_eq_true he]; rfl
    have hbd2 : Bd (l ++ rs) := hbd.app (fB80 hs)
    have hg2 := gone1 (N := N) (dApp d rs).1 nm (l ++ rs) (appS (dApp d rs).2 s rs) (by rw [List.length_append]; omega) hbd2 (by rw [List.length_append]; omega)
    rw [ea]
    have hw : (((l ++ rs).length : Nat) : Int) = IntKind.i64.wrap ((l.length : Int) + (rs.length : Int)) := by
      rw [wrap_i64 (by omega) (by omega), List.length_append]; omega
    refine go_d he (go_o rfl (go_d hw (go_o hg2 (go_t (okB_t (by omega) (by omega) (by rw [List.length_append]; omega)) ?_))))
    have e2 : (((l ++ rs).drop 0).take ((l.length : Int) - (0 : Int)).toNat) = l := by
      rw [List.drop_zero, show ((l.length : Int) - (0 : Int)).toNat = l.length by omega, List.take_left]
    rw [e2]
    exact go_o (fC89 l (by omega) (by omega)) rfl
  · obtain ⟨e1, h0⟩ := fC63 hi hv rs (by omega) he
    have ea : appL (dApp d rs).2 l rs = l := by unfold appL; rw [decide_eq_false he]; rfl
    have es : appS (dApp d rs).2 s rs = s := by unfold appS; rw [decide_eq_false h0, decide_eq_false he]; rfl
    rw [ea, es, e1]
    exact go_n he (go_o hread (go_o hg (go_o (fC83 N l (by omega) (by omega)) (go_t rfl (go_o rfl (go_d rfl (by rw [decide_eq_true rfl])))))))

theorem fD74 (hN : 8796093022208 ≤ N) (room_ : Int) (hr : room_ < 9223372036854775808) {sc : List Op} (ho : ∀ o ∈ sc, OpQ o) (hc : costs sc ≤ 700000000) {rs : List (List UInt8)} (hs : Small rs) : law_RedoRefused.run N room_ sc rs = some (true, ()) := by
  have hlen := fB73 sc
  obtain ⟨w, out, q1, q2, q3⟩ := step_a (b := true) hN (inv_new room_ hr) (fun _ => ⟨rfl, rfl⟩) (by omega)
  obtain ⟨w2, p1, p2⟩ := turnsR (N := N) hN (by omega) ho sc.length 0 N _ w (by omega) (by omega) q1 (by rw [List.drop_zero]; omega)
  rw [List.drop_zero] at p1
  refine go_o (Dk.new_ok room_) (go_o (Dk.fB100 room_) (go_o (fC93 hN) (go_f rfl ?_)))
  cases w with
  | jM d r x y z =>
    subst q3
    refine go_o (go_o q2 rfl) (go_o p2 ?_)
    cases w2 with
    | jM d r x y z => rfl
    | log d r l s =>
      have := fC84 hN p1 hs (by omega)
      exact this
  | log d r l s =>
    subst q3
    refine go_o (go_o q2 rfl) (go_o p2 ?_)
    cases w2 with
    | jM d r x y z => rfl
    | log d r l s =>
      have := fC84 hN p1 hs (by omega)
      exact this
end
end Go.Hay.YthlojpcjafefjaaGreat
