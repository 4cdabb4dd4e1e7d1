/- The law of other files: DiskApart. Conditions: sizes below a bound. -/
import Derived.Test.YtccbcmamcdegmaaLe
set_option linter.unusedVariables false
set_option linter.unusedSimpArgs false
namespace Go.Hay.Ytccbcmamcdegmaa
open Go Go.Hay Go.Proofs

section
variable {N : Nat}

/-- A disk on which nothing is refused but for what is said of files: it is up, there is room, the files' names are names. -/
structure Up (r : RS) : Prop where
  dead : r.dead = false
  armed : r.armed = false
  sorted : SortedF r.files
  named : ∀ p ∈ r.files, nameOk p.1 = true
/-- What one file is seen as. -/
def see (r : RS) (k : DNm) : Bool × List UInt8 := (mapHas r.files k, (rGet r k).1)

theorem up_step {r : RS} (h : Up r) : Up (rStep r).1 ∧ (rStep r).2 = false ∧ ∀ k, see (rStep r).1 k = see r k := by
  obtain ⟨a1, a2, a3⟩ := free_step h.armed
  obtain ⟨s1, s2⟩ := rStep_files r
  refine ⟨⟨by rw [a3]; exact h.dead, a2, by rw [s1]; exact h.sorted, by rw [s1]; exact h.named⟩, a1, fun k => ?_⟩
  unfold see rGet
  rw [s1]
theorem up_files {r : RS} (h : Up r) {l : DFs} (hs : SortedF l) (hn : ∀ p ∈ l, nameOk p.1 = true) : Up { r with files := l } := ⟨h.dead, h.armed, hs, hn⟩
theorem up_ins {r : RS} (h : Up r) {name : DNm} (hk : nameOk name = true) (f : DFl) : Up { r with files := insF (name, f) r.files } ∧ ∀ k, see { r with files := insF (name, f) r.files } k = if k = name then (true, f.1) else see r k := by
  refine ⟨up_files h (insF_sorted h.sorted) fun p hp => ?_, fun k => ?_⟩
  · rcases List.mem_cons.1 ((insF_perm _ _).mem_iff.1 hp) with rfl | hp
    · exact hk
    · exact h.named p (rm_mem.1 hp).1
  · unfold see rGet
    simp only
    rw [has_ins h.sorted.keys, get_ins h.sorted.keys]
    by_cases e : k = name
    · simp [e]
    · simp [e]
theorem up_rm {r : RS} (h : Up r) (name : DNm) : Up { r with files := rm name r.files } ∧ ∀ k, see { r with files := rm name r.files } k = if k = name then (false, []) else see r k := by
  refine ⟨up_files h (rm_sorted h.sorted name) fun p hp => h.named p (rm_mem.1 hp).1, fun k => ?_⟩
  unfold see rGet
  simp only
  rw [has_rm, get_rm]
  by_cases e : k = name
  · simp [e]
  · simp [e]
theorem up_has {r : RS} (h : Up r) {name : DNm} (hh : mapHas r.files name = true) : nameOk name = true := by
  obtain ⟨v, hv⟩ := has_iff.1 hh
  exact h.named _ hv

/-- Appended, where there is room. -/
theorem up_append {r : RS} (h : Up r) (name : DNm) (b : List UInt8) (hr : ¬ (b.length : Int) > rFree r) :
    Up (rAppend r name b).1 ∧ ∀ k, see (rAppend r name b).1 k = if nameOk name = true ∧ k = name then (true, (see r name).2 ++ b) else see r k := by
  unfold rAppend
  rw [h.dead]
  cases hk : nameOk name with
  | false => exact ⟨h, fun k => by simp⟩
  | true =>
    rw [decide_eq_false hr]
    simp only [Bool.not_true, cond_false]
    obtain ⟨a1, a2⟩ := up_ins h hk ((rGet r name).1 ++ b, (rGet r name).2)
    obtain ⟨b1, b2, b3⟩ := up_step (r := rWith r name ((rGet r name).1 ++ b, (rGet r name).2)) a1
    refine ⟨b1, fun k => ?_⟩
    rw [b3]
    have := a2 k
    unfold rWith
    rw [this]
    by_cases e : k = name
    · simp [e, see]
    · simp [e]
theorem up_do {r : RS} (h : Up r) (why : DFl → Int) (done : DFl → DFs → DFs) (name : DNm) :
    (rDo why done r name).1 = r ∧ (mapHas r.files name = false ∨ why (rGet r name) ≠ 0) ∨ mapHas r.files name = true ∧ why (rGet r name) = 0 ∧ ∃ r1, Up r1 ∧ r1.files = r.files ∧ (rDo why done r name).1 = { r1 with files := done (rGet r name) r1.files } := by
  rw [rDo_some, h.dead]
  cases hh : mapHas r.files name with
  | false => exact .inl ⟨rfl, .inl rfl⟩
  | true =>
    by_cases hw : why (rGet r name) = 0
    · rw [decide_eq_true hw]
      obtain ⟨a1, a2, a3⟩ := up_step h
      rw [a2]
      exact .inr ⟨rfl, hw, _, a1, (rStep_files r).1, by rw [(rStep_files r).1]; rfl⟩
    · rw [decide_eq_false hw]
      exact .inl ⟨rfl, .inr hw⟩
theorem see_files {r r1 : RS} (h : r1.files = r.files) (k : DNm) : see r1 k = see r k := by unfold see rGet; rw [h]

/-- What one file is seen as behind a call of its own. -/
def seeCh (o : Op) (name : DNm) (v : Bool × List UInt8) : Bool × List UInt8 :=
  if o.1 = 0 then (if nameOk name = true then (true, v.2 ++ o.2.2.2.1) else v)
  else if o.1 = 1 then v
  else if o.1 = 2 then (if v.1 = true ∧ ¬ (o.2.2.2.2.1 < 0 ∨ o.2.2.2.2.1 > (v.2.length : Int)) then (true, v.2.take o.2.2.2.2.1.toNat) else v)
  else if o.1 = 3 then (if v.1 = true ∧ nameOk o.2.2.1 = true ∧ ¬ o.2.2.1 = name then (false, []) else v)
  else if o.1 = 4 then (if v.1 = true then (false, []) else v)
  else if flips v.1 (v.2, 0) o.2.2.2.2.1 o.2.2.2.2.2.1 = true then (true, turnedAt v.2 o.2.2.2.2.1 o.2.2.2.2.2.1) else v
theorem no_see {r : RS} {k : DNm} (h : mapHas r.files k = false) : see r k = (false, []) := by
  unfold see rGet
  rw [h, get_no h]

theorem up_ch {r : RS} (h : Up r) (o : Op) (h5 : o.1 < 5) (hr : ¬ (o.2.2.2.1.length : Int) > rFree r) : Up (rCh o r).1 ∧ (see (rCh o r).1 o.2.1 = seeCh o o.2.1 (see r o.2.1)) ∧ (∀ k, k ≠ o.2.1 → ¬ (o.1 = 3 ∧ o.2.2.1 = k) → see (rCh o r).1 k = see r k) := by
  unfold rCh seeCh
  by_cases h0 : o.1 = 0
  · simp only [if_pos h0]
    obtain ⟨a1, a2⟩ := up_append h o.2.1 o.2.2.2.1 hr
    refine ⟨a1, ?_, fun k hk _ => ?_⟩
    · rw [a2]; simp
    · rw [a2, if_neg (fun e => hk e.2)]
  simp only [if_neg h0]
  by_cases h1 : o.1 = 1
  · simp only [if_pos h1]
    rcases up_do h (fun _ => 0) (fun f l => insF (o.2.1, f.1, (f.1.length : Int)) l) o.2.1 with ⟨e, _⟩ | ⟨hh, hw, r1, u1, u2, e⟩
    · unfold rSync
      rw [e]; exact ⟨h, rfl, fun k _ _ => rfl⟩
    · unfold rSync
      rw [e]
      obtain ⟨a1, a2⟩ := up_ins u1 (up_has h hh) ((rGet r o.2.1).1, ((rGet r o.2.1).1.length : Int))
      refine ⟨a1, ?_, fun k hk _ => ?_⟩
      · rw [a2, if_pos rfl]; unfold see; rw [hh]
      · rw [a2, if_neg hk, see_files u2]
  simp only [if_neg h1]
  by_cases h2 : o.1 = 2
  · simp only [if_pos h2]
    have hwt : whyT o.2.2.2.2.1 (rGet r o.2.1) = 0 ↔ ¬ (o.2.2.2.2.1 < 0 ∨ o.2.2.2.2.1 > (((see r o.2.1).2.length : Nat) : Int)) := by
      unfold whyT see
      simp only
      by_cases a : o.2.2.2.2.1 < 0
      · simp [a]
      · by_cases b : o.2.2.2.2.1 > ((rGet r o.2.1).1.length : Int) <;> simp [a, b]
    rcases up_do h (whyT o.2.2.2.2.1) (fun f l => insF (o.2.1, f.1.take o.2.2.2.2.1.toNat, min f.2 o.2.2.2.2.1) l) o.2.1 with ⟨e, hno⟩ | ⟨hh, hw, r1, u1, u2, e⟩
    · unfold rTrunc
      rw [e]
      refine ⟨h, ?_, fun k _ _ => rfl⟩
      rw [if_neg]
      rintro ⟨g1, g2⟩
      rcases hno with hno | hno
      · have : (see r o.2.1).1 = false := hno
        rw [this] at g1; cases g1
      · exact hno (hwt.2 g2)
    · unfold rTrunc
      rw [e]
      obtain ⟨a1, a2⟩ := up_ins u1 (up_has h hh) ((rGet r o.2.1).1.take o.2.2.2.2.1.toNat, min (rGet r o.2.1).2 o.2.2.2.2.1)
      refine ⟨a1, ?_, fun k hk _ => ?_⟩
      · rw [a2, if_pos rfl, if_pos ⟨hh, hwt.1 hw⟩]; rfl
      · rw [a2, if_neg hk, see_files u2]
  simp only [if_neg h2]
  by_cases h3 : o.1 = 3
  · simp only [if_pos h3]
    have hwt : whyR o.2.2.1 (rGet r o.2.1) = 0 ↔ nameOk o.2.2.1 = true := by unfold whyR; cases nameOk o.2.2.1 <;> simp
    rcases up_do h (whyR o.2.2.1) (fun f l => insF (o.2.2.1, f) (rm o.2.1 l)) o.2.1 with ⟨e, hno⟩ | ⟨hh, hw, r1, u1, u2, e⟩
    · unfold rRename
      rw [e]
      refine ⟨h, ?_, fun k _ _ => rfl⟩
      rw [if_neg]
      rintro ⟨g1, g2, _⟩
      rcases hno with hno | hno
      · have : (see r o.2.1).1 = false := hno
        rw [this] at g1; cases g1
      · exact hno (hwt.2 g2)
    · unfold rRename
      rw [e]
      obtain ⟨a1, a2⟩ := up_rm u1 o.2.1
      obtain ⟨b1, b2⟩ := up_ins a1 (hwt.1 hw) (rGet r o.2.1)
      refine ⟨b1, ?_, fun k hk hk3 => ?_⟩
      · refine (b2 o.2.1).trans ?_
        by_cases et : o.2.2.1 = o.2.1
        · rw [if_pos et.symm, if_neg (fun g => g.2.2 et)]
          unfold see; rw [hh]
        · rw [if_neg (fun g => et g.symm), if_pos ⟨hh, hwt.1 hw, et⟩, a2, if_pos rfl]
      · refine (b2 k).trans ?_
        rw [if_neg (fun g : k = o.2.2.1 => hk3 ⟨h3, g.symm⟩), a2, if_neg hk, see_files u2]
  simp only [if_neg h3]
  by_cases h4 : o.1 = 4
  · simp only [if_pos h4]
    rcases up_do h (fun _ => 0) (fun _ l => rm o.2.1 l) o.2.1 with ⟨e, hno⟩ | ⟨hh, hw, r1, u1, u2, e⟩
    · unfold rRemove
      rw [e]
      refine ⟨h, ?_, fun k _ _ => rfl⟩
      rcases hno with hno | hno
      · rw [no_see hno, if_neg (by decide)]
      · exact absurd rfl hno
    · unfold rRemove
      rw [e]
      obtain ⟨a1, a2⟩ := up_rm u1 o.2.1
      refine ⟨a1, ?_, fun k hk _ => ?_⟩
      · refine (a2 o.2.1).trans ?_
        rw [if_pos rfl, if_pos (show (see r o.2.1).1 = true from hh)]
      · refine (a2 k).trans ?_
        rw [if_neg hk, see_files u2]
  simp only [if_neg h4, if_neg (show ¬ o.1 = 7 by omega), if_neg (show ¬ o.1 = 11 by omega)]
  have hf : flips (see r o.2.1).1 ((see r o.2.1).2, 0) o.2.2.2.2.1 o.2.2.2.2.2.1 = flips (mapHas r.files o.2.1) (rGet r o.2.1) o.2.2.2.2.1 o.2.2.2.2.2.1 := rfl
  rw [hf]
  unfold rFlip
  cases hc : flips (mapHas r.files o.2.1) (rGet r o.2.1) o.2.2.2.2.1 o.2.2.2.2.2.1 with
  | false => exact ⟨h, rfl, fun k _ _ => rfl⟩
  | true =>
    have hh : mapHas r.files o.2.1 = true := by
      unfold flips at hc
      simp only [Bool.and_eq_true] at hc
      exact hc.1
    obtain ⟨a1, a2⟩ := up_ins h (up_has h hh) (turnedAt (rGet r o.2.1).1 o.2.2.2.2.1 o.2.2.2.2.2.1, (rGet r o.2.1).2)
    refine ⟨a1, ?_, fun k hk _ => ?_⟩
    · refine (a2 o.2.1).trans ?_
      rw [if_pos rfl, if_pos rfl]
      rfl
    · refine (a2 k).trans ?_
      rw [if_neg hk]

theorem see_len {k : Nat} {d : DD} {r : RS} (h : Inv k d r) (name : DNm) : (see r name).2.length ≤ k := Nat.le_trans (sumL_get name) h.fi.sum
theorem free_big {k : Nat} {d : DD} {r : RS} (h : Inv k d r) (hr : d.room = 1125899906842624) (b : List UInt8) (hb : b.length ≤ 1099511627776) : ¬ (b.length : Int) > rFree r := by
  have h1 := h.fi.sum
  have h2 := h.fi.small
  unfold rFree
  rw [← h.room, hr]
  omega
theorem rAppend_room (d : DD) (name : DNm) (b : List UInt8) : (dAppend d name b).1.room = d.room := by
  have := dCh_room ((0 : Int), name, [], b, 0, 0, []) d
  unfold dCh at this
  rw [if_pos rfl] at this
  exact this
theorem dRemove_room (d : DD) (name : DNm) : (dRemove d name).1.room = d.room := by
  unfold dRemove
  refine dDo_room ?_ d _
  intro f d; rfl

theorem disk_apart (hN : 8796093022208 ≤ N) {l : List Op} (hl : SB l 1048576) (hlen : l.length ≤ 262144) (name : DNm) (hname : name.length ≤ 1099511627776) : law_DiskApart.run N l name = some (true, ()) := by
  have hc := hl.cost
  unfold law_DiskApart.run
  refine go_o (begun_ok hN _) (go_o (begun_ok hN _) (go_f rfl (go_f rfl ?_)))
  obtain ⟨b, hb, e⟩ := loop_turn (β := DD × DD) (go := fun fuel b i => law_DiskApart_0.go N fuel name b.1.room b.1.used b.1.files b.1.steps b.1.left b.1.dead b.2.room b.2.used b.2.files b.2.steps b.2.left b.2.dead l (l.length : Int) i) (n := l.length) (fin := fun b => (b.1.t, b.2.t, ()))
    (fun i b => ∃ r1 r2, Inv (costs (l.take i)) b.1 r1 ∧ Inv (i * 1048580) b.2 r2 ∧ Up r1 ∧ Up r2 ∧ see r1 name = see r2 name ∧ b.1.room = 1125899906842624 ∧ b.2.room = 1125899906842624) (by omega) (fun fuel b _ => go_n (by omega) rfl)
    (fun i hi b hb => by
      obtain ⟨r1, r2, i1, i2, u1, u2, hsee, hr1, hr2⟩ := hb
      have hci := costs_take hi
      have hcl := costs_le l (i + 1)
      have hcl0 := costs_le l i
      have ho := hl.ops _ (List.getElem_mem hi)
      have hob := ho.bytes
      have hi1 : (i + 1) * 1048580 = i * 1048580 + 1048580 := by omega
      by_cases h4 : (l[i]).1 > 4
      · refine ⟨b, ⟨r1, r2, Go.Hay.Inv.mono i1 (by omega) (by omega), Go.Hay.Inv.mono i2 (by omega) (by omega), u1, u2, hsee, hr1, hr2⟩, fun fuel => go_d (by omega) (go_t (inB_nat hi) ?_)⟩
        rw [Int.toNat_natCast, getD_get hi]
        exact go_d h4 rfl
      have j1 := (Inv.ch i1 ho (by omega)).2
      obtain ⟨v1, v2, v3⟩ := up_ch u1 l[i] (by omega) (free_big i1 hr1 _ hob)
      have hd1 : (dCh l[i] b.1).1.room = 1125899906842624 := by rw [dCh_room, hr1]
      have c1 := ch_ok hN ho (inv_gets i1) (rb_new 0 (by decide))
      have hmine : law_DiskApart_0_0.run N name (l[i]).1 (l[i]).2.1 (l[i]).2.2.1 (l[i]).2.2.2.1 (l[i]).2.2.2.2.1 (l[i]).2.2.2.2.2.1 (l[i]).2.2.2.2.2.2 = some (decide ((l[i]).2.1 = name) || (decide ((l[i]).1 = 3) && decide ((l[i]).2.2.1 = name)), ()) := by
        unfold law_DiskApart_0_0.run
        cases decide ((l[i]).2.1 = name) <;> cases decide ((l[i]).1 = 3) <;> rfl
      have hcame : law_DiskApart_0_1.run N name (l[i]).1 (l[i]).2.1 (l[i]).2.2.1 (l[i]).2.2.2.1 (l[i]).2.2.2.2.1 (l[i]).2.2.2.2.2.1 (l[i]).2.2.2.2.2.2 = some (decide ((l[i]).1 = 3) && !decide ((l[i]).2.1 = name), ()) := by
        unfold law_DiskApart_0_1.run
        cases decide ((l[i]).1 = 3) <;> rfl
      by_cases hn : (l[i]).2.1 = name
      · -- a call of the file's own
        have j2 := (Inv.ch i2 ho (by omega)).2
        obtain ⟨w1, w2, w3⟩ := up_ch u2 l[i] (by omega) (free_big i2 hr2 _ hob)
        rw [hn] at v2 w2
        refine ⟨((dCh l[i] b.1).1, (dCh l[i] b.2).1), ⟨_, _, by rw [hci]; exact j1, Go.Hay.Inv.mono j2 (by omega) (by omega), v1, w1, by rw [v2, w2, hsee], hd1, by rw [dCh_room, hr2]⟩, fun fuel => go_d (by omega) (go_t (inB_nat hi) ?_)⟩
        rw [Int.toNat_natCast, getD_get hi]
        refine go_n h4 (go_o (rnew_ok 0) (go_o c1 (go_o hmine ?_)))
        rw [decide_eq_true hn]
        refine go_t rfl (go_o hcame ?_)
        rw [decide_eq_true hn]
        exact go_f (by simp) (go_o (rnew_ok 0) (go_o (ch_ok hN ho (inv_gets i2) (rb_new 0 (by decide))) rfl))
      · by_cases h3 : (l[i]).1 = 3 ∧ (l[i]).2.2.1 = name
        · -- another one comes in its place
          have k1 := Go.Hay.Inv.remove i2 (by omega) name
          have hslen := see_len j1 name
          have hget : dGet (dCh l[i] b.1).1 name = rGet (rCh l[i] r1).1 name := Go.Hay.Inv.get j1 name
          have hhas : mapHas (dCh l[i] b.1).1.files name = mapHas (rCh l[i] r1).1.files name := Go.Hay.Inv.has j1 name
          have ur : Up (rRemove r2 name).1 ∧ see (rRemove r2 name).1 name = (false, []) := by
            rcases up_do u2 (fun _ => 0) (fun _ l => rm name l) name with ⟨e, hno⟩ | ⟨hh, hw, q1, q2, q3, e⟩
            · unfold rRemove
              rw [e]
              rcases hno with hno | hno
              · exact ⟨u2, no_see hno⟩
              · exact absurd rfl hno
            · unfold rRemove
              rw [e]
              obtain ⟨a1, a2⟩ := up_rm q2 name
              exact ⟨a1, (a2 name).trans (if_pos rfl)⟩
          obtain ⟨ur1, ur2⟩ := ur
          have hsl2 : (rGet (rCh l[i] r1).1 name).1.length ≤ costs (l.take i) + cost l[i] := hslen
          have hroomR : (dRemove b.2 name).1.room = 1125899906842624 := by rw [dRemove_room, hr2]
          cases hh : mapHas (rCh l[i] r1).1.files name with
          | true =>
            have hname' := up_has v1 hh
            have k2 := Go.Hay.Inv.append k1.2 (name := name) (b := (rGet (rCh l[i] r1).1 name).1) (by omega)
            obtain ⟨ua1, ua2⟩ := up_append ur1 name (rGet (rCh l[i] r1).1 name).1 (free_big k1.2 hroomR _ (by omega))
            have hs2 : see (rAppend (rRemove r2 name).1 name (rGet (rCh l[i] r1).1 name).1).1 name = see (rCh l[i] r1).1 name := by
              rw [ua2, if_pos ⟨hname', rfl⟩, ur2]
              unfold see
              rw [hh]
              rfl
            refine ⟨((dCh l[i] b.1).1, (dAppend (dRemove b.2 name).1 name (rGet (rCh l[i] r1).1 name).1).1), ⟨_, _, by rw [hci]; exact j1, Go.Hay.Inv.mono k2.2 (by omega) (by omega), v1, ua1, hs2.symm, hd1, by rw [rAppend_room, hroomR]⟩, fun fuel => go_d (by omega) (go_t (inB_nat hi) ?_)⟩
            rw [Int.toNat_natCast, getD_get hi]
            refine go_n h4 (go_o (rnew_ok 0) (go_o c1 (go_o hmine ?_)))
            rw [decide_eq_true h3.1, decide_eq_true h3.2]
            refine go_t (by simp) (go_o hcame ?_)
            rw [decide_eq_false hn, decide_eq_true h3.1]
            refine go_t rfl (go_o (read_ok (dCh l[i] b.1).1 name (by rw [hget]; omega)) (go_o (remove_ok b.2 name) ?_))
            rw [hhas, hh, hget]
            have hl0 : (dGet (dRemove b.2 name).1 name).1.length = 0 := by
              rw [Go.Hay.Inv.get k1.2]
              have : (see (rRemove r2 name).1 name).2 = [] := by rw [ur2]
              show (see (rRemove r2 name).1 name).2.length = 0
              rw [this]; rfl
            exact go_t rfl (go_o (append_ok hN (dRemove b.2 name).1 name _ (by omega) (by rw [hl0]; omega)) rfl)
          | false =>
            refine ⟨((dCh l[i] b.1).1, (dRemove b.2 name).1), ⟨_, _, by rw [hci]; exact j1, Go.Hay.Inv.mono k1.2 (by omega) (by omega), v1, ur1, by rw [ur2, no_see hh], hd1, hroomR⟩, fun fuel => go_d (by omega) (go_t (inB_nat hi) ?_)⟩
            rw [Int.toNat_natCast, getD_get hi]
            refine go_n h4 (go_o (rnew_ok 0) (go_o c1 (go_o hmine ?_)))
            rw [decide_eq_true h3.1, decide_eq_true h3.2]
            refine go_t (by simp) (go_o hcame ?_)
            rw [decide_eq_false hn, decide_eq_true h3.1]
            refine go_t rfl (go_o (read_ok (dCh l[i] b.1).1 name (by rw [hget]; omega)) (go_o (remove_ok b.2 name) ?_))
            rw [hhas, hh]
            exact go_f rfl rfl
        · -- another file's
          refine ⟨((dCh l[i] b.1).1, b.2), ⟨_, r2, by rw [hci]; exact j1, Go.Hay.Inv.mono i2 (by omega) (by omega), v1, u2, by rw [v3 name (fun e => hn e.symm) h3, hsee], hd1, hr2⟩, fun fuel => go_d (by omega) (go_t (inB_nat hi) ?_)⟩
          rw [Int.toNat_natCast, getD_get hi]
          refine go_n h4 (go_o (rnew_ok 0) (go_o c1 (go_o hmine (go_f ?_ rfl))))
          rw [decide_eq_false hn, Bool.false_or]
          by_cases q : (l[i]).1 = 3
          · rw [decide_eq_true q, decide_eq_false (fun q2 => h3 ⟨q, q2⟩)]; rfl
          · rw [decide_eq_false q]; rfl) (show l.length < N by omega) (b := (dNew 1125899906842624, dNew 1125899906842624))
    ⟨rNew 1125899906842624, rNew 1125899906842624, inv_new 1125899906842624 (by decide), (by rw [Nat.zero_mul]; exact inv_new 1125899906842624 (by decide)), ⟨rfl, rfl, .nil, fun p hp => (by cases hp)⟩, ⟨rfl, rfl, .nil, fun p hp => (by cases hp)⟩, rfl, (show max (1125899906842624 : Int) 0 = 1125899906842624 by omega), (show max (1125899906842624 : Int) 0 = 1125899906842624 by omega)⟩
  obtain ⟨r1, r2, i1, i2, u1, u2, hsee, _, _⟩ := hb
  refine go_o e (go_o (read_ok b.1 name (Nat.le_trans (inv_gets i1 name) (by omega))) (go_o (read_ok b.2 name (Nat.le_trans (inv_gets i2 name) (by omega))) ?_))
  rw [Go.Hay.Inv.get i1, Go.Hay.Inv.get i2, Go.Hay.Inv.has i1, Go.Hay.Inv.has i2]
  have e1 : mapHas r1.files name = mapHas r2.files name := congrArg (·.1) hsee
  have e2 : (rGet r1 name).1 = (rGet r2 name).1 := congrArg (·.2) hsee
  rw [e1, e2]
  refine go_t (by cases mapHas r2.files name <;> rfl) ?_
  rw [decide_eq_true rfl]
end
end Go.Hay.Ytccbcmamcdegmaa
