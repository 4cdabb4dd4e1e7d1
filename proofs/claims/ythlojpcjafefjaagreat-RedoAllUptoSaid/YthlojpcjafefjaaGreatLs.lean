/- The law of all calls: RedoAll. Conditions: sizes below a bound. -/
import Derived.Test.YthlojpcjafefjaaGreatLr
set_option linter.unusedVariables false
set_option linter.unusedSimpArgs false
namespace Go.Hay.YthlojpcjafefjaaGreat
open Go Go.Hay Go.Proofs

section
variable {N : Nat}

theorem fA69 {k : Nat} {d : DD} {r : RS} (h : Inv k d r) {i : Nat} (hi : i < r.files.length) : (sortKeys d.files).length = r.files.length ∧ (sortKeys d.files).getD i [] = (r.files[i]).1 := by
  have hnames : (sortKeys d.files) = r.files.map (·.1) := h.fi.names
  have hnl : (sortKeys d.files).length = r.files.length := by rw [hnames, List.length_map]
  refine ⟨hnl, ?_⟩
  rw [getD_get (by omega)]
  simp only [hnames, List.getElem_map]
theorem fB70 (hN : 8796093022208 ≤ N) {k : Nat} {d : DD} {r : RS} (h : Inv k d r) {i : Nat} (hi : i < r.files.length) :
    fA4.run N d.room d.used d.files d.steps d.left d.dead ((r.files.getD (i : Int).toNat Dk.e0).1) = some ((r.files[i]).2.1, true, ()) := by
  have hb := Dk.Inv.rb h
  have hget : dGet d (r.files[i]).1 = (r.files[i]).2 := by
    unfold dGet
    rw [h.fi.get, get_mem h.fi.keysL (k := (r.files[i]).1) (v := (r.files[i]).2) (List.getElem_mem hi)]
  have hhas : mapHas d.files (r.files[i]).1 = true := by rw [h.fi.has]; exact has_iff.2 ⟨(r.files[i]).2, List.getElem_mem hi⟩
  have hsm := sumL_mem (List.getElem_mem hi)
  have hsum := hb.sum
  rw [Int.toNat_natCast, getD_get hi, Dk.fC49 d _ (by rw [hget]; omega), hget, hhas]
theorem fC55 (hN : 8796093022208 ≤ N) {k : Nat} {d : DD} {r : RS} (h : Inv k d r) (x : List UInt8) (y : List (List UInt8)) (z : Int) (up : Bool) :
    law_files.run N d.room d.used d.files d.steps d.left d.dead r.room r.steps r.files r.armed r.dead r.left x y z up = some (d.t, true, ()) := by
  have hb := Dk.Inv.rb h
  have hc := hb.cnt
  have hlen : d.files.length = r.files.length := h.fi.perm.length_eq
  have hnl : (sortKeys d.files).length = r.files.length := by rw [h.fi.names, List.length_map]
  have hdd : (d.dead == r.dead) = true := by rw [h.dead]; cases r.dead <;> rfl
  have hk := loop_find (go := fun fuel i => law_files_0.go N fuel d.room d.used d.files d.steps d.left d.dead r.room r.steps r.files r.armed r.dead r.left x y z up (sortKeys d.files) r.files (r.files.length : Int) i) (n := r.files.length) (p := fun _ => false) (v := fun _ => (false, ())) (e := ()) (by omega) (fun fuel => go_n (by omega) rfl)
    (fun i hi fuel _ => by
      have hname := (fA69 h hi).2
      rw [if_neg (by decide)]
      refine go_d (by omega) (go_t (inB_nat hi) (go_o (fB70 hN h hi) (go_t (inB_nat (by omega)) (go_d (by rw [Int.toNat_natCast]; omega) ?_))))
      rw [Int.toNat_natCast, hname, getD_get hi]
      exact go_nd rfl (go_f rfl (go_nd rfl rfl))) (show r.files.length < N by omega)
  refine go_o (Dk.fD79 hN d (by omega)) (go_nd (by show ((sortKeys d.files).length : Int) = (r.files.length : Int); omega) (go_o (Dk.fB79 d) (go_nd h.steps (go_o (Dk.fA48 (N := N) d) (go_f (by rw [hdd]; rfl) ?_)))))
  rcases hk with ⟨j, _, hp, _⟩ | ⟨_, e⟩
  · cases hp
  · exact go_o e rfl
theorem fB49 (hN : 8796093022208 ≤ N) {k : Nat} {d : DD} {r : RS} (h : Inv k d r) (n : List UInt8) (l : List (List UInt8)) (s : Int) (x : List UInt8) (y : List (List UInt8)) (z : Int) (up : Bool) :
    law_files_b.run N d.room d.used d.files d.steps d.left d.dead n l s r.room r.steps r.files r.armed r.dead r.left x y z up = some (d.t, true, ()) := by
  have hb := Dk.Inv.rb h
  have hc := hb.cnt
  have hlen : d.files.length = r.files.length := h.fi.perm.length_eq
  have hnl : (sortKeys d.files).length = r.files.length := by rw [h.fi.names, List.length_map]
  have hdd : (d.dead == r.dead) = true := by rw [h.dead]; cases r.dead <;> rfl
  have hk := loop_find (go := fun fuel i => law_files_b_0.go N fuel d.room d.used d.files d.steps d.left d.dead n l s r.room r.steps r.files r.armed r.dead r.left x y z up (sortKeys d.files) r.files (r.files.length : Int) i) (n := r.files.length) (p := fun _ => false) (v := fun _ => (false, ())) (e := ()) (by omega) (fun fuel => go_n (by omega) rfl)
    (fun i hi fuel _ => by
      have hname := (fA69 h hi).2
      rw [if_neg (by decide)]
      refine go_d (by omega) (go_t (inB_nat hi) (go_o (fB70 hN h hi) (go_t (inB_nat (by omega)) (go_d (by rw [Int.toNat_natCast]; omega) ?_))))
      rw [Int.toNat_natCast, hname, getD_get hi]
      exact go_nd rfl (go_f rfl (go_nd rfl rfl))) (show r.files.length < N by omega)
  refine go_o (Dk.fD79 hN d (by omega)) (go_nd (by show ((sortKeys d.files).length : Int) = (r.files.length : Int); omega) (go_o (Dk.fB79 d) (go_nd h.steps (go_o (Dk.fA48 (N := N) d) (go_f (by rw [hdd]; rfl) ?_)))))
  rcases hk with ⟨j, _, hp, _⟩ | ⟨_, e⟩
  · cases hp
  · exact go_o e rfl

/-- The first call: a log is begun. -/
theorem step_a (hN : 8796093022208 ≤ N) {k : Nat} {d : DD} {r : RS} (h : Inv k d r) (hk : k + 6 ≤ 900000000) :
    ∃ w out, WQ (k + 6) w ∧ law_step.run N d.room d.used d.files d.steps d.left d.dead r.room r.steps r.files r.armed r.dead r.left [] [] 0 false (3, 0, [], []) = some out ∧
      (match w with | .jM d r x y z => out = .inl (d.t, ((), (), rz r x y z false), true, ()) | .log d r l s => out = .inr (.inl (d.t, ((), lt l s, rz r nm l s true), true, ()))) := by
  have hb := fA50 h (by omega)
  have hp := fC57 hN h (by omega)
  have hr := fC53 hN h (by omega)
  refine ⟨fC48 d r, ?_⟩
  have hq := fA59 h (by omega)
  revert hq
  unfold fC48
  by_cases he : (fC34 r).2 = 0
  · rw [decide_eq_true he]
    rw [hb.1] at hp
    have hp := hp.1 he
    exact fun hq => ⟨_, hq, go_n (by decide) (go_d rfl (go_o (go_o hp rfl) (go_o (hr.1 he) (go_o (go_d rfl rfl) rfl)))), rfl⟩
  · rw [decide_eq_false he]
    have hp := hp.2 (by rw [hb.1]; exact he)
    exact fun hq => ⟨_, hq, go_n (by decide) (go_d rfl (go_o (go_o hp rfl) (go_o (hr.2 he) (go_o (v := ((fD40 d).1.t, ((), (), rz (fC34 r).1 [] [] 0 false), true, ())) (go_d hb.1 (by rw [decide_eq_false he]; rfl)) rfl)))), rfl⟩

/-! ### The loop -/
def hd (w : Wd) (sc : List Op) (i : Int) : T79 ⊕ T80 := match w with
  | .jM d r x y z => .inl ((d.t, (), rz r x y z false), sc, (sc.length : Int), i, ())
  | .log d r l s => .inr ((d.t, lt l s, rz r nm l s true), sc, (sc.length : Int), i, ())
def fin (w : Wd) : T83 := match w with
  | .jM d r x y z => .inr (.inr (.inl ((d.t, (), rz r x y z false), ())))
  | .log d r l s => .inr (.inr (.inr ((d.t, lt l s, rz r nm l s true), ())))
def costs (l : List Op) : Nat := (l.map cost).sum
theorem fA55 (o : Op) (l : List Op) : costs (o :: l) = cost o + costs l := by simp [costs]
theorem fA72 : ∀ l : List Op, 40 * l.length ≤ costs l
  | [] => by simp [costs]
  | o :: l => by
    have := fA72 l
    rw [fA55, List.length_cons]
    unfold cost
    omega

theorem turn1 (hN : 8796093022208 ≤ N) {k : Nat} {w : Wd} (h : WQ k w) {sc : List Op} {i fuel : Nat} (hi : i < sc.length) (hs : sc.length ≤ 1000000000) (ho : OpQ sc[i]) (hk : k + cost sc[i] ≤ 900000000) :
    ∃ w', WQ (k + cost sc[i]) w' ∧ law_RedoAll_1.go N (fuel + 1) (hd w sc (i : Int)) = law_RedoAll_1.go N fuel (hd w' sc ((i + 1 : Nat) : Int)) := by
  have hgd : sc.getD (i : Int).toNat ((0 : Int), (0 : Int), ([] : List (List UInt8)), ([] : List Int)) = sc[i] := by rw [Int.toNat_natCast, getD_get hi]
  have hw := wrap_succ i (by omega)
  cases w with
  | jM d r x y z =>
    obtain ⟨w', out, q1, q2, q3⟩ := step_c hN h x y z ho hk
    rw [← hgd] at q2
    refine ⟨w', q1, go_d (by omega) (go_t (inB_nat hi) (go_o q2 ?_))⟩
    cases w' with
    | jM d r x y z =>
      rcases q3 with rfl | ⟨t, rfl⟩
      · exact go_f rfl (go_o (fC55 hN q1 x y z false) (go_f rfl (by rw [hw]; rfl)))
      · exact go_f rfl (go_o (fC55 hN q1 x y z false) (go_f rfl (by rw [hw]; rfl)))
    | log d r l s =>
      rcases q3 with rfl | ⟨t, rfl⟩
      · exact go_f rfl (go_o (fB49 hN q1.1 nm l s nm l s true) (go_f rfl (by rw [hw]; rfl)))
      · exact go_f rfl (go_o (fB49 hN q1.1 nm l s nm l s true) (go_f rfl (by rw [hw]; rfl)))
  | log d r l s =>
    obtain ⟨w', out, q1, q2, q3⟩ := step_e hN h.1 h.2.1 h.2.2 s ho hk
    rw [← hgd] at q2
    refine ⟨w', q1, go_d (by omega) (go_t (inB_nat hi) (go_o q2 ?_))⟩
    cases w' with
    | jM d r x y z =>
      rcases q3 with ⟨t, rfl⟩ | ⟨t, u, rfl⟩
      · exact go_f rfl (go_o (fC55 hN q1 x y z false) (go_f rfl (by rw [hw]; rfl)))
      · exact go_f rfl (go_o (fC55 hN q1 x y z false) (go_f rfl (by rw [hw]; rfl)))
    | log d r l s =>
      rcases q3 with ⟨t, rfl⟩ | rfl | ⟨t, u, rfl⟩
      · exact go_f rfl (go_o (fB49 hN q1.1 nm l s nm l s true) (go_f rfl (by rw [hw]; rfl)))
      · exact go_f rfl (go_o (fB49 hN q1.1 nm l s nm l s true) (go_f rfl (by rw [hw]; rfl)))
      · exact go_f rfl (go_o (fB49 hN q1.1 nm l s nm l s true) (go_f rfl (by rw [hw]; rfl)))
theorem turnsN (hN : 8796093022208 ≤ N) {sc : List Op} (hs : sc.length ≤ 1000000000) (ho : ∀ o ∈ sc, OpQ o) : ∀ (m i fuel k : Nat) (w : Wd), sc.length = i + m → m < fuel → WQ k w → k + costs (sc.drop i) ≤ 900000000 →
    ∃ w', WQ (k + costs (sc.drop i)) w' ∧ law_RedoAll_1.go N fuel (hd w sc (i : Int)) = some (fin w')
  | _, _, 0, _, _, _, h, _, _ => absurd h (Nat.not_lt_zero _)
  | 0, i, fuel + 1, k, w, e, _, h, hk => by
    rw [List.drop_eq_nil_of_le (by omega)]
    refine ⟨w, h, ?_⟩
    cases w with
    | jM d r x y z => exact go_n (by omega) rfl
    | log d r l s => exact go_n (by omega) rfl
  | m + 1, i, fuel + 1, k, w, e, hm, h, hk => by
    have hi : i < sc.length := by omega
    rw [List.drop_eq_getElem_cons hi, fA55] at hk ⊢
    obtain ⟨w1, q1, e1⟩ := turn1 (fuel := fuel) hN h hi hs (ho _ (List.getElem_mem hi)) (by omega)
    obtain ⟨w2, q2, e2⟩ := turnsN hN hs ho m (i + 1) fuel _ w1 (by omega) (by omega) q1 (by omega)
    exact ⟨w2, by rw [← Nat.add_assoc]; exact q2, e1.trans e2⟩

theorem last_q : OpQ (1, 0, [], []) := ⟨by show tot [] + 9 ≤ _; simp [tot], by decide⟩
theorem fB94 (hN : 8796093022208 ≤ N) (room_ : Int) (hr : room_ < 9223372036854775808) {sc : List Op} (ho : ∀ o ∈ sc, OpQ o) (hc : costs sc ≤ 800000000) : law_RedoAll.run N room_ sc = some (true, ()) := by
  have hlen := fA72 sc
  have hc1 : cost (1, 0, [], []) = 40 := by simp [cost, tot]
  obtain ⟨w, out, q1, q2, q3⟩ := step_a hN (inv_new room_ hr) (by omega)
  obtain ⟨w2, p1, p2⟩ := turnsN (N := N) hN (by omega) ho sc.length 0 N _ w (by omega) (by omega) q1 (by rw [List.drop_zero]; omega)
  rw [List.drop_zero] at p1
  refine go_o (Dk.new_ok room_) (go_o (Dk.fC96 room_) (go_o (fC93 hN) (go_f rfl ?_)))
  cases w with
  | jM d r x y z =>
    subst q3
    refine go_o (go_o q2 rfl) (go_f rfl (go_o p2 ?_))
    cases w2 with
    | jM d r x y z =>
      obtain ⟨w3, out, s1, s2, s3⟩ := step_c hN p1 x y z last_q (by omega)
      refine go_o s2 ?_
      cases w3 with
      | jM d r x y z => rcases s3 with rfl | ⟨t, rfl⟩ <;> rfl
      | log d r l s => rcases s3 with rfl | ⟨t, rfl⟩ <;> rfl
    | log d r l s =>
      obtain ⟨w3, out, s1, s2, s3⟩ := step_e hN p1.1 p1.2.1 p1.2.2 s last_q (by omega)
      refine go_o s2 ?_
      cases w3 with
      | jM d r x y z => rcases s3 with ⟨t, rfl⟩ | ⟨t, u, rfl⟩ <;> rfl
      | log d r l s => rcases s3 with ⟨t, rfl⟩ | rfl | ⟨t, u, rfl⟩ <;> rfl
  | log d r l s =>
    subst q3
    refine go_o (go_o q2 rfl) (go_f rfl (go_o p2 ?_))
    cases w2 with
    | jM d r x y z =>
      obtain ⟨w3, out, s1, s2, s3⟩ := step_c hN p1 x y z last_q (by omega)
      refine go_o s2 ?_
      cases w3 with
      | jM d r x y z => rcases s3 with rfl | ⟨t, rfl⟩ <;> rfl
      | log d r l s => rcases s3 with rfl | ⟨t, rfl⟩ <;> rfl
    | log d r l s =>
      obtain ⟨w3, out, s1, s2, s3⟩ := step_e hN p1.1 p1.2.1 p1.2.2 s last_q (by omega)
      refine go_o s2 ?_
      cases w3 with
      | jM d r x y z => rcases s3 with ⟨t, rfl⟩ | ⟨t, u, rfl⟩ <;> rfl
      | log d r l s => rcases s3 with ⟨t, rfl⟩ | rfl | ⟨t, u, rfl⟩ <;> rfl
end
end Go.Hay.YthlojpcjafefjaaGreat
