/- The laws of two disks: DiskArmed, DiskWiped, DiskApart. Conditions: sizes below a bound. -/
import Derived.Test.YtccbcmamcdegmaaLd
set_option linter.unusedVariables false
set_option linter.unusedSimpArgs false
namespace Go.Hay.Ytccbcmamcdegmaa
open Go Go.Hay Go.Proofs

section
variable {N : Nat}

/-! ### Files by their names -/
theorem has_cons (p : DNm × DFl) (l : DFs) (k : DNm) : mapHas (p :: l) k = (decide (p.1 = k) || mapHas l k) := rfl
theorem get_cons (p : DNm × DFl) (l : DFs) (k : DNm) : mapGet (p :: l) k f0 = if p.1 = k then p.2 else mapGet l k f0 := by
  by_cases h : p.1 = k
  · rw [if_pos h]; simp [mapGet, h]
  · rw [if_neg h]; simp only [mapGet, List.find?_cons, h, decide_false]
theorem has_rm (l : DFs) (a k : DNm) : mapHas (rm a l) k = (!decide (k = a) && mapHas l k) := by
  rw [Bool.eq_iff_iff, Bool.and_eq_true, has_iff, has_iff]
  constructor
  · rintro ⟨v, hv⟩
    obtain ⟨h1, h2⟩ := rm_mem.1 hv
    exact ⟨by simpa using h2, v, h1⟩
  · rintro ⟨h2, v, h1⟩
    exact ⟨v, rm_mem.2 ⟨h1, by simpa using h2⟩⟩
theorem get_rm (l : DFs) (a k : DNm) : mapGet (rm a l) k f0 = if k = a then f0 else mapGet l k f0 := by
  by_cases h : k = a
  · rw [if_pos h]
    exact get_no (by rw [has_rm, h]; simp) f0
  · rw [if_neg h]
    induction l with
    | nil => rfl
    | cons p l ih =>
      by_cases e : p.1 = a
      · have : rm a (p :: l) = rm a l := by rw [← e]; exact rm_cons_self
        rw [this, ih, get_cons, if_neg (fun e2 => h (by rw [← e2, e]))]
      · rw [rm_cons_ne e, get_cons, get_cons, ih]
theorem ins_keys {l : DFs} (h : KeysN l) (f : DNm × DFl) : KeysN (insF f l) :=
  KeysN.perm (l := f :: rm f.1 l) (List.pairwise_cons.2 ⟨fun p hp => fun e => (rm_mem.1 hp).2 e.symm, rm_keys h _⟩) (insF_perm f l).symm
theorem has_ins {l : DFs} (h : KeysN l) (f : DNm × DFl) (k : DNm) : mapHas (insF f l) k = (decide (k = f.1) || mapHas l k) := by
  rw [perm_has (insF_perm f l), has_cons, has_rm]
  by_cases e : k = f.1
  · subst e; simp
  · have e2 : ¬ f.1 = k := fun h => e h.symm
    simp [e, e2]
theorem get_ins {l : DFs} (h : KeysN l) (f : DNm × DFl) (k : DNm) : mapGet (insF f l) k f0 = if k = f.1 then f.2 else mapGet l k f0 := by
  rw [perm_get (insF_perm f l) (ins_keys h f), get_cons, get_rm]
  by_cases e : k = f.1
  · subst e; simp
  · have e2 : ¬ f.1 = k := fun h => e h.symm
    simp [e, e2]
theorem rm_len_has {l : DFs} (h : KeysN l) {k : DNm} (hh : mapHas l k = true) : (rm k l).length + 1 = l.length := by
  induction l with
  | nil => cases hh
  | cons p l ih =>
    obtain ⟨h1, h2⟩ := List.pairwise_cons.1 h
    by_cases e : p.1 = k
    · subst e
      rw [rm_cons_self, rm_no fun q hq => (h1 q hq).symm]
      rfl
    · rw [rm_cons_ne e]
      rw [has_cons, decide_eq_false e, Bool.false_or] at hh
      simp only [List.length_cons, ih h2 hh]
theorem flip_len {r : RS} (h : SortedF r.files) (name : DNm) (a b : Int) : (rFlip r name a b).1.files.length = r.files.length := by
  unfold rFlip
  cases hc : flips (mapHas r.files name) (rGet r name) a b with
  | false => rfl
  | true =>
    have hh : mapHas r.files name = true := by
      unfold flips at hc
      simp only [Bool.and_eq_true] at hc
      exact hc.1
    show (insF _ r.files).length = _
    rw [(insF_perm _ _).length_eq, List.length_cons, rm_len_has h.keys hh]

/-! ### Two disks that have the same files, of which one may be armed -/
structure Pair (at_ : Int) (g b : RS) : Prop where
  room : g.room = b.room
  files : g.files = b.files
  steps : g.steps = b.steps
  gd : g.dead = false
  bd : b.dead = false
  ga : g.armed = true
  ba : b.armed = false
  left : g.left = at_ - g.steps
  nn : 0 ≤ g.left
structure Gone (at_ : Int) (g b : RS) : Prop where
  gd : g.dead = true
  bd : b.dead = false
  gs : g.steps = at_ + 1
  bs : b.steps = at_ + 1
theorem pair_step {at_ : Int} {g b : RS} (h : Pair at_ g b) (hs : 0 ≤ g.steps ∧ g.steps < 2199023255552) (ha : at_ < 9223372036854775808) :
    (rStep b).2 = false ∧ (rStep b).1.armed = false ∧ ((rStep g).2 = true ∧ Gone at_ (rStep g).1 (rStep b).1 ∨ (rStep g).2 = false ∧ Pair at_ (rStep g).1 (rStep b).1) := by
  have h1 := h.left
  have h2 := h.nn
  have e : wr (g.steps + 1) = g.steps + 1 := wrap_i64 (by omega) (by omega)
  unfold rStep
  rw [h.ba, h.ga, ← h.steps]
  simp only [cond_true, cond_false]
  refine ⟨trivial, trivial, ?_⟩
  by_cases h0 : g.left = 0
  · rw [decide_eq_true h0]
    simp only [cond_true]
    exact .inl ⟨trivial, rfl, h.bd, by show wr (g.steps + 1) = _; rw [e]; omega, by show wr (g.steps + 1) = _; rw [e]; omega⟩
  · rw [decide_eq_false h0]
    simp only [cond_false]
    have e3 : wr (g.left - 1) = g.left - 1 := wrap_i64 (by omega) (by omega)
    exact .inr ⟨trivial, h.room, h.files, rfl, h.gd, h.bd, rfl, rfl, by show wr (g.left - 1) = _ - wr (g.steps + 1); rw [e, e3]; omega, by show 0 ≤ wr (g.left - 1); rw [e3]; omega⟩
theorem pair_files {at_ : Int} {g b : RS} (h : Pair at_ g b) (l : DFs) : Pair at_ { g with files := l } { b with files := l } :=
  ⟨h.room, rfl, h.steps, h.gd, h.bd, h.ga, h.ba, h.left, h.nn⟩
theorem gone_files {at_ : Int} {g b : RS} (h : Gone at_ g b) (l : DFs) : Gone at_ g { b with files := l } := ⟨h.gd, h.bd, h.gs, h.bs⟩
theorem pair_append {at_ : Int} {g b : RS} (h : Pair at_ g b) (hs : 0 ≤ g.steps ∧ g.steps < 2199023255552) (ha : at_ < 9223372036854775808) (name : DNm) (c : List UInt8) : Pair at_ (rAppend g name c).1 (rAppend b name c).1 ∨ Gone at_ (rAppend g name c).1 (rAppend b name c).1 := by
  have hg : rGet g name = rGet b name := by unfold rGet; rw [h.files]
  have hfree : rFree g = rFree b := by unfold rFree; rw [h.files, h.room]
  unfold rAppend
  rw [h.gd, h.bd, hg, hfree]
  cases nameOk name with
  | false => exact .inl h
  | true =>
    cases decide ((c.length : Int) > rFree b) with
    | true => exact .inl h
    | false =>
      simp only [Bool.not_true, cond_false]
      have hw : Pair at_ (rWith g name ((rGet b name).1 ++ c, (rGet b name).2)) (rWith b name ((rGet b name).1 ++ c, (rGet b name).2)) := by
        unfold rWith
        rw [h.files]
        exact pair_files h _
      rcases (pair_step hw hs ha).2.2 with ⟨_, h1⟩ | ⟨_, h1⟩
      · exact .inr h1
      · exact .inl h1
theorem pair_do {at_ : Int} {g b : RS} (h : Pair at_ g b) (hs : 0 ≤ g.steps ∧ g.steps < 2199023255552) (ha : at_ < 9223372036854775808) (why : DFl → Int) (done : DFl → DFs → DFs) (name : DNm) : Pair at_ (rDo why done g name).1 (rDo why done b name).1 ∨ Gone at_ (rDo why done g name).1 (rDo why done b name).1 := by
  have hg : rGet g name = rGet b name := by unfold rGet; rw [h.files]
  rw [rDo_some, rDo_some, h.gd, h.bd, hg, h.files]
  cases mapHas b.files name with
  | false => exact .inl h
  | true =>
    cases decide (why (rGet b name) = 0) with
    | false => exact .inl h
    | true =>
      simp only [Bool.not_true, cond_false]
      obtain ⟨h1, _, h2⟩ := pair_step h hs ha
      rw [h1]
      rcases h2 with ⟨h3, h4⟩ | ⟨h3, h4⟩
      · rw [h3]; exact .inr (gone_files h4 _)
      · rw [h3]; exact .inl (pair_files h4 _)
theorem pair_ch {at_ : Int} {g b : RS} (h : Pair at_ g b) (hs : 0 ≤ g.steps ∧ g.steps < 2199023255552) (ha : at_ < 9223372036854775808) (o : Op) (h4 : ¬ o.1 > 4) : Pair at_ (rCh o g).1 (rCh o b).1 ∨ Gone at_ (rCh o g).1 (rCh o b).1 := by
  unfold rCh
  split
  · exact pair_append h hs ha _ _
  split
  · exact pair_do h hs ha _ _ _
  split
  · exact pair_do h hs ha _ _ _
  split
  · exact pair_do h hs ha _ _ _
  split
  · exact pair_do h hs ha _ _ _
  simp only [if_neg (show ¬ o.1 = 7 by omega), if_neg (show ¬ o.1 = 11 by omega)]
  left
  have hg : rGet g o.2.1 = rGet b o.2.1 := by unfold rGet; rw [h.files]
  unfold rFlip rWith
  rw [hg, h.files]
  cases flips (mapHas b.files o.2.1) (rGet b o.2.1) o.2.2.2.2.1 o.2.2.2.2.2.1 with
  | false => exact h
  | true => exact pair_files h _
theorem gone_ch {g : RS} (h : g.dead = true) (hs : SortedF g.files) (o : Op) (h4 : ¬ o.1 > 4) : (rCh o g).1.dead = true ∧ (rCh o g).1.steps = g.steps ∧ (rCh o g).1.files.length = g.files.length := by
  have hdo : ∀ why done name, (rDo why done g name).1 = g := fun why done name => by rw [rDo_some, h]; rfl
  unfold rCh
  split
  · unfold rAppend; rw [h]; exact ⟨h, rfl, rfl⟩
  split
  · unfold rSync; rw [hdo]; exact ⟨h, rfl, rfl⟩
  split
  · unfold rTrunc; rw [hdo]; exact ⟨h, rfl, rfl⟩
  split
  · unfold rRename; rw [hdo]; exact ⟨h, rfl, rfl⟩
  split
  · unfold rRemove; rw [hdo]; exact ⟨h, rfl, rfl⟩
  rw [if_neg (by omega), if_neg (by omega)]
  refine ⟨?_, ?_, flip_len hs _ _ _⟩
  · show (rFlip g o.2.1 o.2.2.2.2.1 o.2.2.2.2.2.1).1.dead = true
    unfold rFlip
    cases flips (mapHas g.files o.2.1) (rGet g o.2.1) o.2.2.2.2.1 o.2.2.2.2.2.1 <;> exact h
  · show (rFlip g o.2.1 o.2.2.2.2.1 o.2.2.2.2.2.1).1.steps = g.steps
    unfold rFlip
    cases flips (mapHas g.files o.2.1) (rGet g o.2.1) o.2.2.2.2.1 o.2.2.2.2.2.1 <;> rfl

theorem rb_new (n : Int) (hn : n < 9223372036854775808) : RB (rNew n) := Inv.rb (inv_new n hn)
theorem rb_ch {r : RS} {k : Nat} {d : DD} (h : Inv k d r) {o : Op} (ho : OB o) (hk : k + cost o ≤ 2199023255552) : RB (rCh o r).1 := Inv.rb (Inv.ch h ho hk).2

structure ArmedSt where
  a : DD
  b : DD
  ra : RS
  rb : RS
/-- What holds between the rounds of DiskArmed: ghosts of the armed disk, and of the reference that goes with it. -/
def ArmedQ (at_ : Int) (l : List Op) (i : Nat) (s : ArmedSt) : Prop :=
  (∃ g dg, Inv (costs (l.take i)) s.a g ∧ Inv (costs (l.take i)) s.b s.rb ∧ Inv (costs (l.take i)) dg s.ra ∧ (Pair at_ g s.rb ∨ Gone at_ g s.rb))
theorem disk_armed (hN : 8796093022208 ≤ N) (n : Int) (hn : n < 9223372036854775808) {l : List Op} (hl : SB l 1099511627776) (at_ : Int) (ha : at_ < 9223372036854775808) : law_DiskArmed.run N n l at_ = some (true, ()) := by
  have hc := hl.cost
  have hlen := costs_len l
  unfold law_DiskArmed.run
  refine go_o (begun_ok hN n) (go_o (new_ok n) (go_f rfl ?_))
  by_cases hat : at_ < 0
  · exact go_d hat rfl
  refine go_n hat ?_
  have harm := Go.Hay.Inv.arm (inv_new n hn) at_ ha
  refine go_o (arm_ok (dNew n) at_) (go_o (rnew_ok n) (go_o (rnew_ok n) ?_))
  obtain ⟨s, hs, e⟩ := loop_turn (β := ArmedSt) (go := fun fuel s i => law_DiskArmed_0.go N fuel at_ s.a.room s.a.used s.a.files s.a.steps s.a.left s.a.dead s.b.room s.b.used s.b.files s.b.steps s.b.left s.b.dead s.ra.room s.ra.steps s.ra.files s.ra.armed s.ra.dead s.ra.left s.rb.room s.rb.steps s.rb.files s.rb.armed s.rb.dead s.rb.left l (l.length : Int) i) (n := l.length)
    (fin := fun s => .inr (s.a.t, s.b.t, (s.ra.room, s.ra.steps, s.ra.files, s.ra.armed, s.ra.dead, s.ra.left, ()), (s.rb.room, s.rb.steps, s.rb.files, s.rb.armed, s.rb.dead, s.rb.left, ()), ())) (ArmedQ at_ l) (by omega) (fun fuel b _ => go_n (by omega) rfl)
    (fun i hi s hs => by
      obtain ⟨g, dg, i1, i2, i3, hp⟩ := hs
      have hci := costs_take hi
      have hcl := costs_le l (i + 1)
      have ho := hl.ops _ (List.getElem_mem hi)
      by_cases h4 : (l[i]).1 > 4
      · refine ⟨s, ⟨g, dg, Go.Hay.Inv.mono i1 (by omega) (by omega), Go.Hay.Inv.mono i2 (by omega) (by omega), Go.Hay.Inv.mono i3 (by omega) (by omega), hp⟩, fun fuel => go_d (by omega) (go_t (inB_nat hi) ?_)⟩
        rw [Int.toNat_natCast, getD_get hi]
        exact go_d h4 rfl
      have hcost : costs (l.take i) + cost l[i] ≤ 2199023255552 := by omega
      have j1 := (Inv.ch i1 ho hcost).2
      have j2 := Inv.ch i2 ho hcost
      have j3 := (Inv.ch i3 ho hcost).2
      rw [← hci] at j1 j3
      have hst := i1.st
      have hgs : 0 ≤ g.steps ∧ g.steps < 2199023255552 := ⟨hst.1, by have := hst.2; omega⟩
      have ca := ch_ok hN ho (inv_gets i1) (Inv.rb i3)
      rcases hp with hp | hp
      · -- alive
        have cb := ch_ok hN ho (inv_gets i2) (Inv.rb i2)
        rw [decide_eq_true j2.1] at cb
        have j2' := j2.2
        rw [← hci] at j2'
        have had : s.a.dead = false := i1.dead.trans hp.gd
        have hnext := pair_ch hp hgs ha l[i] h4
        refine ⟨⟨(dCh l[i] s.a).1, (dCh l[i] s.b).1, (rCh l[i] s.ra).1, (rCh l[i] s.rb).1⟩, ⟨_, _, j1, j2', j3, hnext⟩, fun fuel => go_d (by omega) (go_t (inB_nat hi) ?_)⟩
        rw [Int.toNat_natCast, getD_get hi]
        refine go_n h4 (go_o rfl (go_f had (go_o ca (go_o cb (go_f rfl (go_o rfl (go_o rfl ?_)))))))
        have hsteps : (dCh l[i] s.a).1.steps = (dCh l[i] s.b).1.steps := by
          rw [j1.steps, j2'.steps]
          rcases hnext with q | q
          · exact q.steps
          · rw [q.gs, q.bs]
        refine go_nd hsteps (go_o rfl ?_)
        rcases hnext with q | q
        · have hd' : (dCh l[i] s.a).1.dead = false := j1.dead.trans q.gd
          have hst' := stands_ok hN (d := (dCh l[i] s.a).1) (r := (rCh l[i] s.rb).1) (by rw [← q.files]; exact j1.fi) (by rw [j1.room, q.room]) (by rw [j1.steps, q.steps]) (by rw [j1.dead, q.gd, q.bd]) (Inv.rb j2')
          refine go_t (by rw [hd']; rfl) (go_o hst' (go_f rfl (go_o rfl (go_o rfl ?_))))
          have hne : ¬ (dCh l[i] s.b).1.steps = IntKind.i64.wrap (at_ + 1) := by
            rw [j2'.steps, ← q.steps]
            have h1 := q.left
            have h2 := q.nn
            have h3 := j1.st
            rw [w_i64]
            omega
          refine go_f ?_ rfl
          rw [hd', decide_eq_false hne]
          rfl
        · have hd' : (dCh l[i] s.a).1.dead = true := j1.dead.trans q.gd
          refine go_f (by rw [hd']; rfl) (go_o rfl (go_o rfl ?_))
          have heq : (dCh l[i] s.b).1.steps = IntKind.i64.wrap (at_ + 1) := by
            rw [j2'.steps, q.bs]
            have h3 := j2'.st
            rw [q.bs] at h3
            rw [wrap_i64 (by omega) (by omega)]
          refine go_f ?_ rfl
          rw [hd', decide_eq_true heq]
          rfl
      · -- dead
        have had : s.a.dead = true := i1.dead.trans hp.gd
        obtain ⟨q1, q2, q3⟩ := gone_ch hp.gd i1.fi.sorted l[i] h4
        have hd' : (dCh l[i] s.a).1.dead = true := j1.dead.trans q1
        have hsteps : (dCh l[i] s.a).1.steps = IntKind.i64.wrap (at_ + 1) := by
          rw [j1.steps, q2, hp.gs]
          have h3 := i1.st
          rw [hp.gs] at h3
          rw [wrap_i64 (by omega) (by omega)]
        refine ⟨⟨(dCh l[i] s.a).1, s.b, s.ra, s.rb⟩, ⟨_, dg, j1, Go.Hay.Inv.mono i2 (by omega) (by omega), Go.Hay.Inv.mono i3 (by omega) (by omega), .inr ⟨q1, hp.bd, by rw [q2, hp.gs], hp.bs⟩⟩, fun fuel => go_d (by omega) (go_t (inB_nat hi) ?_)⟩
        rw [Int.toNat_natCast, getD_get hi]
        have hn1 := i1.fi.cnt
        have hn2 := j1.fi.cnt
        have hp1 := i1.fi.perm.length_eq
        have hp2 := j1.fi.perm.length_eq
        refine go_n h4 (go_o rfl (go_t had (go_o (names_ok hN s.a (by omega)) (go_o ca (go_o rfl (go_f (by rw [hd']; rfl) ?_))))))
        cases decide ((dCh l[i] s.a).2 = (rCh l[i] s.ra).2) with
        | true => exact go_f rfl (go_o rfl (go_nd hsteps rfl))
        | false =>
          refine go_t rfl (go_o (names_ok hN (dCh l[i] s.a).1 (by omega)) (go_nd ?_ (go_o rfl (go_nd hsteps rfl))))
          show ((sortKeys s.a.files).length : Int) = ((sortKeys (dCh l[i] s.a).1.files).length : Int)
          rw [sortKeys_len, sortKeys_len, hp1, hp2, q3]) (show l.length < N by omega) (b := ⟨dArm (dNew n) at_, dNew n, rNew n, rNew n⟩)
    ⟨_, _, harm, inv_new n hn, inv_new n hn, .inl ⟨rfl, rfl, rfl, rfl, rfl, decide_eq_true (by omega), rfl, by show at_ = at_ - 0; omega, by show 0 ≤ at_; omega⟩⟩
  exact go_o e rfl

/-! ### Two disks that have the same files, and go on alike -/
structure Same (g b : RS) : Prop where
  room : g.room = b.room
  files : g.files = b.files
  gd : g.dead = false
  bd : b.dead = false
  ga : g.armed = false
  ba : b.armed = false
theorem free_step {r : RS} (h : r.armed = false) : (rStep r).2 = false ∧ (rStep r).1.armed = false ∧ (rStep r).1.dead = r.dead := by
  unfold rStep; rw [h]; exact ⟨rfl, rfl, rfl⟩
theorem same_files {g b : RS} (h : Same g b) (l : DFs) : Same { g with files := l } { b with files := l } := ⟨h.room, rfl, h.gd, h.bd, h.ga, h.ba⟩
theorem same_step {g b : RS} (h : Same g b) : Same (rStep g).1 (rStep b).1 := by
  obtain ⟨a1, a2, a3⟩ := free_step h.ga
  obtain ⟨b1, b2, b3⟩ := free_step h.ba
  obtain ⟨c1, c2⟩ := rStep_files g
  obtain ⟨d1, d2⟩ := rStep_files b
  exact ⟨by rw [c2, d2, h.room], by rw [c1, d1, h.files], by rw [a3, h.gd], by rw [b3, h.bd], a2, b2⟩
theorem same_append {g b : RS} (h : Same g b) (name : DNm) (c : List UInt8) : Same (rAppend g name c).1 (rAppend b name c).1 := by
  have hg : rGet g name = rGet b name := by unfold rGet; rw [h.files]
  have hfree : rFree g = rFree b := by unfold rFree; rw [h.files, h.room]
  unfold rAppend
  rw [h.gd, h.bd, hg, hfree]
  cases nameOk name with
  | false => exact h
  | true =>
    cases decide ((c.length : Int) > rFree b) with
    | true => exact h
    | false =>
      simp only [Bool.not_true, cond_false]
      refine same_step ?_
      unfold rWith
      rw [h.files]
      exact same_files h _
theorem same_do {g b : RS} (h : Same g b) (why : DFl → Int) (done : DFl → DFs → DFs) (name : DNm) : Same (rDo why done g name).1 (rDo why done b name).1 := by
  have hg : rGet g name = rGet b name := by unfold rGet; rw [h.files]
  rw [rDo_some, rDo_some, h.gd, h.bd, hg, h.files]
  cases mapHas b.files name with
  | false => exact h
  | true =>
    cases decide (why (rGet b name) = 0) with
    | false => exact h
    | true =>
      simp only [Bool.not_true, cond_false]
      rw [(free_step h.ga).1, (free_step h.ba).1]
      exact same_files (same_step h) _
theorem same_flip {g b : RS} (h : Same g b) (name : DNm) (x y : Int) : Same (rFlip g name x y).1 (rFlip b name x y).1 := by
  have hg : rGet g name = rGet b name := by unfold rGet; rw [h.files]
  unfold rFlip rWith
  rw [hg, h.files]
  cases flips (mapHas b.files name) (rGet b name) x y with
  | false => exact h
  | true => exact same_files h _
theorem same_ch {g b : RS} (h : Same g b) (o : Op) (h5 : o.1 < 5) : Same (rCh o g).1 (rCh o b).1 := by
  unfold rCh
  split
  · exact same_append h _ _
  split
  · exact same_do h _ _ _
  split
  · exact same_do h _ _ _
  split
  · exact same_do h _ _ _
  split
  · exact same_do h _ _ _
  simp only [if_neg (show ¬ o.1 = 7 by omega), if_neg (show ¬ o.1 = 11 by omega)]
  exact same_flip h _ _ _

theorem same_self {r : RS} (h1 : r.dead = false) (h2 : r.armed = false) : Same r r := ⟨rfl, rfl, h1, h1, h2, h2⟩
theorem free_ch {r : RS} (h1 : r.dead = false) (h2 : r.armed = false) (o : Op) (h5 : o.1 < 5) : (rCh o r).1.dead = false ∧ (rCh o r).1.armed = false :=
  ⟨(same_ch (same_self h1 h2) o h5).gd, (same_ch (same_self h1 h2) o h5).ga⟩

/-- Reads of two disks that have the same files. -/
theorem wiped_reads (hN : 8796093022208 ≤ N) {k : Nat} {d e : DD} {r1 r2 : RS} (h1 : Inv k d r1) (h2 : Inv k e r2) (hf : r1.files = r2.files) :
    law_DiskWiped_2.go N N d.room d.used d.files d.steps d.left d.dead e.room e.used e.files e.steps e.left e.dead (sortKeys d.files) (sortKeys e.files) ((sortKeys d.files).length : Int) 0 = some (.inr ()) := by
  have hn1 : sortKeys d.files = r1.files.map (·.1) := h1.fi.names
  have hn2 : sortKeys e.files = r1.files.map (·.1) := by rw [hf]; exact h2.fi.names
  have hc := (Inv.rb h1).cnt
  have hl : (sortKeys d.files).length = r1.files.length := by rw [hn1, List.length_map]
  have he : sortKeys e.files = sortKeys d.files := by rw [hn1, hn2]
  have hk := loop_find (go := fun fuel i => law_DiskWiped_2.go N fuel d.room d.used d.files d.steps d.left d.dead e.room e.used e.files e.steps e.left e.dead (sortKeys d.files) (sortKeys d.files) ((sortKeys d.files).length : Int) i) (n := (sortKeys d.files).length) (p := fun _ => false) (v := fun _ => (false, ())) (e := ()) (by omega) (fun fuel => go_n (by omega) rfl)
    (fun i hi fuel _ => by
      rw [if_neg (by decide)]
      have hn : (i : Int).toNat < (sortKeys d.files).length := by rw [Int.toNat_natCast]; exact hi
      have hin := inB_nat hi
      have hg : dGet e ((sortKeys d.files).getD (i : Int).toNat []) = dGet d ((sortKeys d.files).getD (i : Int).toNat []) := by
        rw [Go.Hay.Inv.get h1, Go.Hay.Inv.get h2]
        unfold rGet
        rw [hf]
      have hh : mapHas e.files ((sortKeys d.files).getD (i : Int).toNat []) = true := by
        rw [Go.Hay.Inv.has h2, ← hf, Int.toNat_natCast, getD_get hi]
        have : (sortKeys d.files)[i] = (r1.files[i]'(by omega)).1 := by simp only [hn1, List.getElem_map]
        rw [this]
        exact has_iff.2 ⟨(r1.files[i]'(by omega)).2, List.getElem_mem (by omega)⟩
      refine go_d (by omega) (go_t hin (go_d hn (go_o (read_ok d _ (Nat.le_trans (inv_gets h1 _) (by omega))) (go_t hin (go_d hn (go_o (read_ok e _ (Nat.le_trans (inv_gets h2 _) (by omega))) (go_t hin (go_d hn (go_t hin (go_d hn (go_nd rfl ?_)))))))))))
      rw [hh, hg]
      exact go_f rfl (go_nd rfl rfl)) (show (sortKeys d.files).length < N by omega)
  rw [he]
  rcases hk with ⟨j, _, hp, _⟩ | ⟨_, e⟩
  · cases hp
  · exact e

theorem wiped_ahead (hN : 8796093022208 ≤ N) {d : DD} {r : RS} (h : Inv 0 d r) (h1 : r.dead = false) (h2 : r.armed = false) {l : List Op} (hl : SB l 1099511627776) :
    ∃ d' r', law_DiskWiped_0.go N N d.room d.used d.files d.steps d.left d.dead l (l.length : Int) 0 = some (d'.t, ()) ∧ Inv (costs l) d' r' ∧ r'.dead = false ∧ r'.armed = false ∧ r'.room = r.room := by
  have hc := hl.cost
  have hlen := costs_len l
  obtain ⟨b, hb, e⟩ := loop_turn (β := DD) (go := fun fuel b i => law_DiskWiped_0.go N fuel b.room b.used b.files b.steps b.left b.dead l (l.length : Int) i) (n := l.length) (fin := fun b => (b.t, ()))
    (fun i b => ∃ r', Inv (costs (l.take i)) b r' ∧ r'.dead = false ∧ r'.armed = false ∧ b.room = d.room) (by omega) (fun fuel b _ => go_n (by omega) rfl)
    (fun i hi b hb => by
      obtain ⟨r', i1, i2, i3, i4⟩ := hb
      have hci := costs_take hi
      have hcl := costs_le l (i + 1)
      have ho := hl.ops _ (List.getElem_mem hi)
      by_cases h5 : (l[i]).1 < 5
      · have j := (Inv.ch i1 ho (by omega)).2
        obtain ⟨k1, k2⟩ := free_ch i2 i3 l[i] h5
        refine ⟨(dCh l[i] b).1, ⟨_, by rw [hci]; exact j, k1, k2, by rw [dCh_room]; exact i4⟩, fun fuel => go_d (by omega) (go_t (inB_nat hi) ?_)⟩
        rw [Int.toNat_natCast, getD_get hi]
        exact go_d h5 (go_o (rnew_ok 0) (go_o (ch_ok hN ho (inv_gets i1) (rb_new 0 (by decide))) rfl))
      · refine ⟨b, ⟨r', Go.Hay.Inv.mono i1 (by omega) (by omega), i2, i3, i4⟩, fun fuel => go_d (by omega) (go_t (inB_nat hi) ?_)⟩
        rw [Int.toNat_natCast, getD_get hi]
        exact go_n h5 rfl) (show l.length < N by omega) (b := d) ⟨r, h, h1, h2, rfl⟩
  rw [List.take_length] at hb
  obtain ⟨r', i1, i2, i3, i4⟩ := hb
  exact ⟨b, r', e, i1, i2, i3, by rw [← i1.room, i4, h.room]⟩
theorem wiped_behind (hN : 8796093022208 ≤ N) {k : Nat} {d e : DD} {r1 r2 : RS} (h1 : Inv k d r1) (h2 : Inv k e r2) (hs : Same r1 r2) {l : List Op} (hl : SB l 1099511627776) (hk : k ≤ 1099511627776) :
    ∃ d' e' r1' r2', law_DiskWiped_1.go N N d.room d.used d.files d.steps d.left d.dead e.room e.used e.files e.steps e.left e.dead l (l.length : Int) 0 = some (d'.t, e'.t, ()) ∧ Inv (k + costs l) d' r1' ∧ Inv (k + costs l) e' r2' ∧ Same r1' r2' := by
  have hc := hl.cost
  have hlen := costs_len l
  obtain ⟨b, hb, e⟩ := loop_turn (β := DD × DD) (go := fun fuel b i => law_DiskWiped_1.go N fuel b.1.room b.1.used b.1.files b.1.steps b.1.left b.1.dead b.2.room b.2.used b.2.files b.2.steps b.2.left b.2.dead l (l.length : Int) i) (n := l.length) (fin := fun b => (b.1.t, b.2.t, ()))
    (fun i b => ∃ g1 g2, Inv (k + costs (l.take i)) b.1 g1 ∧ Inv (k + costs (l.take i)) b.2 g2 ∧ Same g1 g2) (by omega) (fun fuel b _ => go_n (by omega) rfl)
    (fun i hi b hb => by
      obtain ⟨g1, g2, i1, i2, i3⟩ := hb
      have hci := costs_take hi
      have hcl := costs_le l (i + 1)
      have ho := hl.ops _ (List.getElem_mem hi)
      by_cases h5 : (l[i]).1 < 5
      · have j1 := (Inv.ch i1 ho (by omega)).2
        have j2 := (Inv.ch i2 ho (by omega)).2
        rw [Nat.add_assoc, ← hci] at j1 j2
        refine ⟨((dCh l[i] b.1).1, (dCh l[i] b.2).1), ⟨_, _, j1, j2, same_ch i3 l[i] h5⟩, fun fuel => go_d (by omega) (go_t (inB_nat hi) ?_)⟩
        rw [Int.toNat_natCast, getD_get hi]
        exact go_d h5 (go_o (rnew_ok 0) (go_o (ch_ok hN ho (inv_gets i1) (rb_new 0 (by decide))) (go_o (rnew_ok 0) (go_o (ch_ok hN ho (inv_gets i2) (rb_new 0 (by decide))) rfl))))
      · refine ⟨b, ⟨g1, g2, Go.Hay.Inv.mono i1 (by omega) (by omega), Go.Hay.Inv.mono i2 (by omega) (by omega), i3⟩, fun fuel => go_d (by omega) (go_t (inB_nat hi) ?_)⟩
        rw [Int.toNat_natCast, getD_get hi]
        exact go_n h5 rfl) (show l.length < N by omega) (b := (d, e)) ⟨r1, r2, h1, h2, hs⟩
  rw [List.take_length] at hb
  obtain ⟨g1, g2, i1, i2, i3⟩ := hb
  exact ⟨b.1, b.2, g1, g2, e, i1, i2, i3⟩
theorem disk_wiped (hN : 8796093022208 ≤ N) (n : Int) (hn : n < 9223372036854775808) {l m : List Op} (hl : SB l 1099511627776) (hm : SB m 1099511627776) : law_DiskWiped.run N n l m = some (true, ()) := by
  have hcl := hl.cost
  have hcm := hm.cost
  unfold law_DiskWiped.run
  refine go_o (begun_ok hN n) (go_o (begun_ok hN n) (go_f rfl (go_f rfl ?_)))
  obtain ⟨d, r, e1, i1, i2, i3, i4⟩ := wiped_ahead hN (inv_new n hn) rfl rfl hl
  have hw := Go.Hay.Inv.wipe i1
  have he := Go.Hay.Inv.mono (inv_new n hn) (k' := costs l) (by omega) (by omega)
  refine go_o e1 (go_o (wipe_ok d) (go_o (names_ok hN (dWipe d) (Nat.zero_le _)) (go_nd (by rw [sortKeys_len]; rfl) (go_o (free_ok (dWipe d)) (go_o (free_ok (dNew n)) (go_nd ?_ ?_))))))
  · rw [Go.Hay.Inv.free hw, Go.Hay.Inv.free he]
    unfold rFree
    show r.room - ((sumL [] : Nat) : Int) = (rNew n).room - ((sumL [] : Nat) : Int)
    rw [i4]
  have hs : Same (rWipe r) (rNew n) := ⟨i4, rfl, i2, rfl, i3, rfl⟩
  obtain ⟨d', e', r1', r2', e2, j1, j2, j3⟩ := wiped_behind hN hw he hs hm (by omega)
  have hn1 := j1.fi.names
  have hn2 := j2.fi.names
  have hc1 := (Inv.rb j1).cnt
  have hc2 := (Inv.rb j2).cnt
  have hp1 := j1.fi.perm.length_eq
  have hp2 := j2.fi.perm.length_eq
  refine go_o e2 (go_o (names_ok hN d' (by omega)) (go_o (names_ok hN e' (by omega)) (go_nd ?_ (go_o (free_ok d') (go_o (free_ok e') (go_nd ?_ (go_o (wiped_reads hN j1 j2 j3.files) rfl)))))))
  · show ((sortKeys d'.files).length : Int) = ((sortKeys e'.files).length : Int)
    rw [hn1, hn2, j3.files]
  · rw [Go.Hay.Inv.free j1, Go.Hay.Inv.free j2]
    unfold rFree
    rw [j3.files, j3.room]
end
end Go.Hay.Ytccbcmamcdegmaa
