/- The laws of a disk's script: DiskAll, DiskLasts, DiskFull. Conditions: sizes below a bound. -/
import Derived.Test.YtccbcmamcdegmaaLc
import Derived.KernelRfl
set_option linter.unusedVariables false
set_option linter.unusedSimpArgs false
namespace Go.Hay.Ytccbcmamcdegmaa
open Go Go.Hay Go.Proofs

section
variable {N : Nat}

/-! ### A script's size -/
def costs (l : List Op) : Nat := (l.map cost).sum
theorem costs_take {l : List Op} {i : Nat} (h : i < l.length) : costs (l.take (i + 1)) = costs (l.take i) + cost l[i] := by
  unfold costs
  rw [take_succ' h, List.map_append, List.sum_append]
  simp
theorem costs_le (l : List Op) (i : Nat) : costs (l.take i) ≤ costs l := by
  have : costs l = costs (l.take i) + costs (l.drop i) := by
    unfold costs
    rw [← List.sum_append, ← List.map_append, List.take_append_drop]
  omega
theorem costs_len (l : List Op) : 2 * l.length ≤ costs l := by
  unfold costs
  induction l with
  | nil => exact Nat.le_refl _
  | cons o l ih => simp only [List.map_cons, List.sum_cons, List.length_cons, cost]; omega
structure SB (l : List Op) (m : Nat) : Prop where
  ops : ∀ o ∈ l, OB o
  cost : costs l ≤ m

/-! ### Answers that the document fixes -/
def b1 : DD := (dAppend (dNew 10) [97] [1, 2]).1
def b2 : DD := (dSync b1 [97]).1
def b3 : DD := (dAppend b2 [97] [3]).1
theorem begun_ok (hN : 8796093022208 ≤ N) (n : Int) : law_begun.run N n = some ((dNew n).t, true, ()) := by
  have i0 := inv_new 10 (by decide)
  have i1 : Inv 4 b1 _ := (Go.Hay.Inv.append i0 (name := [97]) (b := [1, 2]) (by decide)).2
  have i2 : Inv 6 b2 _ := (Go.Hay.Inv.sync i1 (by decide) [97]).2
  have i3 : Inv 9 b3 _ := (Go.Hay.Inv.append i2 (name := [97]) (b := [3]) (by decide)).2
  unfold law_begun.run
  have a1 := append_ok hN (dNew 10) [97] [1, 2] (by decide) (by rw [show (dGet (dNew 10) [97]).1 = [] from rfl]; decide)
  refine go_o (new_ok 10) (go_o a1 (go_nd (show (dAppend (dNew 10) [97] [1, 2]).2 = 0 by kernel_rfl) ?_))
  refine go_o (sync_ok b1 [97]) (go_nd (show (dSync b1 [97]).2 = 0 by kernel_rfl) ?_)
  refine go_o (append_ok hN b2 [97] [3] (by decide) (Nat.le_trans (Nat.add_le_add_right (inv_gets i2 [97]) _) (by decide))) (go_nd (show (dAppend b2 [97] [3]).2 = 0 by kernel_rfl) ?_)
  refine go_o (read_ok b3 [97] (Nat.le_trans (inv_gets i3 [97]) (by decide))) ?_
  refine go_o (crash_ok hN i3.fi (show (0 : Int) ≤ 10 by decide) []) ?_
  have i4 := Go.Hay.Inv.crash i3 []
  refine go_o (read_ok (dCrash b3 _ []) [97] (Nat.le_trans (inv_gets i4 [97]) (by decide))) ?_
  refine go_o (new_ok n) (go_t (show mapHas b3.files [97] = true by kernel_rfl) (go_t ?_ (go_d (show (dGet b3 [97]).1 = [1, 2, 3] by kernel_rfl) (go_d ?_ (go_o rfl ?_)))))
  · kernel_rfl
  · show (dGet (dCrash b3 _ []) [97]).1 = [1, 2]
    kernel_rfl
  · dsimp only
    rw [decide_eq_true (show b3.steps = 3 by kernel_rfl)]

theorem dDo_room {why : DFl → Int} {done : DFl → DD → DD} (hd : ∀ f d, (done f d).room = d.room) (d : DD) (name : DNm) : (dDo why done d name).1.room = d.room := by
  unfold dDo
  have h := (dStep_files d).2.2
  cases d.dead <;> cases mapHas d.files name <;> cases decide (why (dGet d name) = 0) <;> cases (dStep d).2 <;> first | rfl | exact h | exact (hd _ _).trans h
theorem dCh_room (o : Op) (d : DD) : (dCh o d).1.room = d.room := by
  unfold dCh
  split
  · unfold dAppend
    have h := (dStep_files (dLay d o.2.1 ((dGet d o.2.1).1 ++ o.2.2.2.1, (dGet d o.2.1).2))).2.2
    cases d.dead <;> cases nameOk o.2.1 <;> cases decide ((o.2.2.2.1.length : Int) > wr (d.room - d.used)) <;> first | rfl | exact h
  split
  · unfold dSync
    refine dDo_room ?_ d _
    intro f d; rfl
  split
  · unfold dTrunc
    refine dDo_room ?_ d _
    intro f d; rfl
  split
  · unfold dRename
    refine dDo_room ?_ d _
    intro f d; rfl
  split
  · unfold dRemove
    refine dDo_room ?_ d _
    intro f d; rfl
  split
  · unfold dArm; cases d.dead <;> rfl
  split
  · rfl
  · unfold dFlip
    cases flips (mapHas d.files o.2.1) (dGet d o.2.1) o.2.2.2.2.1 o.2.2.2.2.2.1 <;> rfl

/-! ### One call -/
theorem step_law (hN : 8796093022208 ≤ N) {k : Nat} {d : DD} {r : RS} (h : Inv k d r) {o : Op} (ho : OB o) (hk : k + cost o ≤ 2199023255552) :
    ∃ d' r', law_step.run N d.room d.used d.files d.steps d.left d.dead r.t o = some (d'.t, r'.t, true, ()) ∧ Inv (k + cost o) d' r' := by
  have hm := Go.Hay.Inv.mono h (k' := k + cost o) (by omega) hk
  unfold law_step.run
  by_cases h5 : o.1 = 5
  · exact ⟨d, r, go_d h5 (read_law hN h o.2.1 (f := fun d b => some (d.t, r.t, b, ()))), hm⟩
  by_cases h6 : o.1 = 6
  · exact ⟨d, r, go_n h5 (go_d h6 (go_o (Inv.stands hN h) rfl)), hm⟩
  by_cases h9 : o.1 = 9
  · exact ⟨d, r, go_n h5 (go_n h6 (go_d h9 (go_o rfl rfl))), hm⟩
  by_cases h10 : o.1 = 10
  · refine ⟨_, _, go_n h5 (go_n h6 (go_n h9 (go_d h10 (go_o (crash_ok hN h.fi (by have := h.fi.fits; omega) o.2.2.2.2.2.2) (go_o (rcrash_ok hN (Inv.rb h) o.2.2.2.2.2.2) rfl))))), Go.Hay.Inv.mono (Go.Hay.Inv.crash h _) (by omega) hk⟩
  obtain ⟨a, b⟩ := Inv.change hN h ho hk
  exact ⟨_, _, go_n h5 (go_n h6 (go_n h9 (go_n h10 (go_o a rfl)))), b⟩
/-- .. on the same disk. -/
theorem stepped_law (hN : 8796093022208 ≤ N) {k : Nat} {d : DD} {r : RS} (h : Inv k d r) {o : Op} (ho : OB o) (hk : k + cost o ≤ 2199023255552) (h9 : ¬ o.1 = 9) (h10 : ¬ o.1 = 10) :
    ∃ d' r', law_stepped.run N d.room d.used d.files d.steps d.left d.dead r.t o = some (d'.t, r'.t, true, ()) ∧ Inv (k + cost o) d' r' ∧ (o.1 = 0 → d' = (dAppend d o.2.1 o.2.2.2.1).1) ∧ d'.room = d.room := by
  have hm := Go.Hay.Inv.mono h (k' := k + cost o) (by omega) hk
  unfold law_stepped.run law_step_b.run
  by_cases h5 : o.1 = 5
  · exact ⟨d, r, go_o (go_d h5 (read_law hN h o.2.1 (f := fun d b => some (d.t, (), r.t, b, ())))) rfl, hm, fun h => by omega, rfl⟩
  by_cases h6 : o.1 = 6
  · exact ⟨d, r, go_o (go_n h5 (go_d h6 (go_o (Inv.stands hN h) rfl))) rfl, hm, fun h => by omega, rfl⟩
  obtain ⟨a, b⟩ := Inv.change hN h ho hk
  refine ⟨_, _, go_o (go_n h5 (go_n h6 (go_n h9 (go_n h10 (go_o a rfl))))) rfl, b, fun h0 => by unfold dCh; rw [if_pos h0], ?_⟩
  exact dCh_room o d

/-! ### All calls -/
theorem run_law (hN : 8796093022208 ≤ N) {k : Nat} {d : DD} {r : RS} (h : Inv k d r) {l : List Op} {m : Nat} (hl : SB l m) (hk : k + m ≤ 2199023255552) :
    ∃ d' r', law_run.run N d.room d.used d.files d.steps d.left d.dead r.t l = some (d'.t, r'.t, true, ()) ∧ Inv (k + m) d' r' := by
  have hc := hl.cost
  have hlen := costs_len l
  obtain ⟨b, hb, e⟩ := loop_turn (β := DD × RS) (go := fun fuel b i => law_run_0.go N fuel b.1.room b.1.used b.1.files b.1.steps b.1.left b.1.dead b.2.room b.2.steps b.2.files b.2.armed b.2.dead b.2.left 0 0 [] false false 0 l (l.length : Int) i) (n := l.length)
    (fin := fun b => .inr ((b.2.room, b.2.steps, b.2.files, b.2.armed, b.2.dead, b.2.left, ()), ((0 : Int), (0 : Int), ([] : DFs), false, false, (0 : Int), ()), b.1.t, ())) (fun i b => Inv (k + costs (l.take i)) b.1 b.2) (by omega) (fun fuel b _ => go_n (by omega) rfl)
    (fun i hi b hb => by
      have hci := costs_take hi
      have hcl := costs_le l (i + 1)
      obtain ⟨d', r', e, hi'⟩ := step_law hN hb (hl.ops _ (List.getElem_mem hi)) (by omega)
      refine ⟨(d', r'), by rw [hci, ← Nat.add_assoc]; exact hi', fun fuel => ?_⟩
      refine go_d (by omega) (go_t (inB_nat hi) ?_)
      rw [Int.toNat_natCast, getD_get hi]
      exact go_o e rfl) (show l.length < N by omega) (b := (d, r)) h
  rw [List.take_length] at hb
  unfold law_run.run
  refine ⟨b.1, b.2, go_o e (go_o (Inv.stands hN hb) rfl), Go.Hay.Inv.mono hb (by omega) hk⟩

theorem disk_all (hN : 8796093022208 ≤ N) (n : Int) (hn : n < 9223372036854775808) {l : List Op} (hl : SB l 2199023255552) : law_DiskAll.run N n l = some (true, ()) := by
  obtain ⟨d', r', e, _⟩ := run_law hN (inv_new n hn) hl (by omega)
  unfold law_DiskAll.run
  exact go_o (begun_ok hN n) (go_f rfl (go_o (rnew_ok n) (go_o e rfl)))

/-! ### What lasts -/
theorem crash_take : ∀ (l : DFs) (keep : List Int) (i : Nat), crashF (l.take i) keep = (crashF l keep).take i
  | [], keep, i => by simp [crashF]
  | p :: l, keep, 0 => rfl
  | p :: l, keep, i + 1 => by simp only [List.take_succ_cons, crashF, crash_take l]
theorem dCrash_get {k : Nat} {d : DD} {r : RS} (h : Inv k d r) (keep : List Int) : ∀ i (hi : i < r.files.length), ∃ b : List UInt8, dGet (dCrash d r.files keep) (r.files[i]).1 = (b, (b.length : Int)) ∧ mapHas (dCrash d r.files keep).files (r.files[i]).1 = true ∧
    (r.files[i]).2.2 ≤ (b.length : Int) ∧ b.length ≤ (r.files[i]).2.1.length ∧ b = (r.files[i]).2.1.take b.length := by
  intro i hi
  have hc := Go.Hay.Inv.crash h keep
  have hlen : (crashF r.files keep).length = r.files.length := crash_len _ _
  have hel : (crashF r.files keep)[i]'(by omega) = ((r.files[i]).1, (r.files[i]).2.1.take (found (r.files[i]).2 (keep.drop i)).toNat, found (r.files[i]).2 (keep.drop i)) := by
    have h1 : crashF (r.files.take (i + 1)) keep = crashF (r.files.take i) keep ++ [((r.files[i]).1, (r.files[i]).2.1.take (found (r.files[i]).2 (keep.drop i)).toNat, found (r.files[i]).2 (keep.drop i))] := by
      rw [take_succ' hi, crash_snoc, List.length_take, Nat.min_eq_left (Nat.le_of_lt hi)]
    have h2 : crashF (r.files.take (i + 1)) keep = (crashF r.files keep).take (i + 1) := crash_take _ _ _
    have h3 : ((crashF r.files keep).take (i + 1))[i]'(by rw [List.length_take]; omega) = (crashF r.files keep)[i]'(by omega) := List.getElem_take
    rw [← h3]
    simp only [← h2, h1]
    rw [List.getElem_append_right (by rw [crash_len, List.length_take]; omega)]
    simp [crash_len, List.length_take, Nat.min_eq_left (Nat.le_of_lt hi)]
  have hmem := List.getElem_mem (l := crashF r.files keep) (n := i) (by omega)
  rw [hel] at hmem
  have hla := h.fi.last _ (List.getElem_mem hi)
  have hfo := found_ok hla (keep.drop i)
  have hbl : (((r.files[i]).2.1.take (found (r.files[i]).2 (keep.drop i)).toNat).length : Int) = found (r.files[i]).2 (keep.drop i) := by rw [List.length_take]; omega
  refine ⟨(r.files[i]).2.1.take (found (r.files[i]).2 (keep.drop i)).toNat, ?_, has_iff.2 ⟨_, hmem⟩, by omega, by rw [List.length_take]; omega, ?_⟩
  · rw [hbl]
    exact get_mem hc.fi.keysL hmem f0
  · rw [List.length_take, Nat.min_eq_left (by omega)]
theorem lasts_files (hN : 8796093022208 ≤ N) {k : Nat} {d : DD} {r : RS} (h : Inv k d r) (keep : List Int) :
    law_DiskLasts_0_0.go N N (dCrash d r.files keep).room (dCrash d r.files keep).used (dCrash d r.files keep).files (dCrash d r.files keep).steps (dCrash d r.files keep).left (dCrash d r.files keep).dead r.files (r.files.length : Int) 0 = some (.inr ()) := by
  have hb := Inv.rb h
  have hc := hb.cnt
  have hk := loop_find (go := fun fuel i => law_DiskLasts_0_0.go N fuel (dCrash d r.files keep).room (dCrash d r.files keep).used (dCrash d r.files keep).files (dCrash d r.files keep).steps (dCrash d r.files keep).left (dCrash d r.files keep).dead r.files (r.files.length : Int) i) (n := r.files.length) (p := fun _ => false) (v := fun _ => (false, ())) (e := ()) (by omega) (fun fuel => go_n (by omega) rfl)
    (fun i hi fuel _ => by
      obtain ⟨b, g1, g2, g3, g4, g5⟩ := dCrash_get h keep i hi
      have hsl := sumL_mem (List.getElem_mem hi)
      have hsum := hb.sum
      rw [if_neg (by decide)]
      refine go_d (by omega) (go_t (inB_nat hi) ?_)
      rw [Int.toNat_natCast, getD_get hi]
      refine go_o (read_ok (dCrash d r.files keep) (r.files[i]).1 (by rw [g1]; show b.length ≤ _; omega)) ?_
      rw [g1, g2]
      exact go_f rfl (go_n (by show ¬ ((b.length : Int) < _); omega) (go_n (by show ¬ ((b.length : Int) > _); omega) (go_t (okB_t (Int.le_refl _) (by omega) (by show (b.length : Int) ≤ _; omega)) (go_nd g5 rfl))))) (show r.files.length < N by omega)
  rcases hk with ⟨j, _, hp, _⟩ | ⟨_, e⟩
  · cases hp
  · exact e
theorem disk_lasts (hN : 8796093022208 ≤ N) (n : Int) (hn : n < 9223372036854775808) {l : List Op} (hl : SB l 2199023255552) (keep : List Int) : law_DiskLasts.run N n l keep = some (true, ()) := by
  have hc := hl.cost
  have hlen := costs_len l
  obtain ⟨b, hb, e⟩ := loop_turn (β := DD × RS) (go := fun fuel b i => law_DiskLasts_0.go N fuel keep b.1.room b.1.used b.1.files b.1.steps b.1.left b.1.dead b.2.room b.2.steps b.2.files b.2.armed b.2.dead b.2.left l (l.length : Int) i) (n := l.length)
    (fin := fun b => .inr (b.1.t, (b.2.room, b.2.steps, b.2.files, b.2.armed, b.2.dead, b.2.left, ()), ())) (fun i b => Inv (costs (l.take i)) b.1 b.2) (by omega) (fun fuel b _ => go_n (by omega) rfl)
    (fun i hi b hb => by
      have hci := costs_take hi
      have hcl := costs_le l (i + 1)
      have hm : Inv (costs (l.take (i + 1))) b.1 b.2 := Go.Hay.Inv.mono hb (by omega) (by omega)
      by_cases h8 : (l[i]).1 = 8
      · refine ⟨b, hm, fun fuel => go_d (by omega) (go_t (inB_nat hi) ?_)⟩
        rw [Int.toNat_natCast, getD_get hi]
        exact go_d h8 rfl
      by_cases h8' : (l[i]).1 > 8
      · refine ⟨b, hm, fun fuel => go_d (by omega) (go_t (inB_nat hi) ?_)⟩
        rw [Int.toNat_natCast, getD_get hi]
        exact go_n h8 (go_d h8' rfl)
      obtain ⟨d', r', e, hi', _, _⟩ := stepped_law hN hb (hl.ops _ (List.getElem_mem hi)) (by omega) (by omega) (by omega)
      rw [← hci] at hi'
      have hcr := Go.Hay.Inv.crash hi' keep
      have hcn := hcr.fi.cnt
      refine ⟨(d', r'), hi', fun fuel => go_d (by omega) (go_t (inB_nat hi) ?_)⟩
      rw [Int.toNat_natCast, getD_get hi]
      refine go_n h8 (go_n h8' (go_o e (go_o (crash_ok hN hi'.fi (by have := hi'.fi.fits; omega) keep) (go_f rfl (go_o rfl (go_f rfl (go_o rfl (go_nd rfl (go_o (names_ok hN (dCrash d' r'.files keep) (by show (crashF r'.files keep).length ≤ _; have : (crashF r'.files keep).length ≤ costs (l.take (i + 1)) := hcn; omega)) (go_nd ?_ (go_o (lasts_files hN hi' keep) rfl)))))))))))
      show ((sortKeys (crashF r'.files keep)).length : Int) = (r'.files.length : Int)
      rw [sortKeys_len, crash_len]) (show l.length < N by omega) (b := (dNew n, rNew n)) (inv_new n hn)
  unfold law_DiskLasts.run
  exact go_o (begun_ok hN n) (go_f rfl (go_o (rnew_ok n) (go_o e rfl)))

/-! ### Room -/
theorem disk_full (hN : 8796093022208 ≤ N) (n : Int) (hn : n < 9223372036854775808) {l : List Op} (hl : SB l 2199023255552) : law_DiskFull.run N n l = some (true, ()) := by
  have hc := hl.cost
  have hlen := costs_len l
  obtain ⟨b, hb, e⟩ := loop_turn (β := DD × RS) (go := fun fuel b i => law_DiskFull_0.go N fuel n b.1.room b.1.used b.1.files b.1.steps b.1.left b.1.dead b.2.room b.2.steps b.2.files b.2.armed b.2.dead b.2.left l (l.length : Int) i) (n := l.length)
    (fin := fun b => .inr (b.1.t, (b.2.room, b.2.steps, b.2.files, b.2.armed, b.2.dead, b.2.left, ()), ())) (fun i b => Inv (costs (l.take i)) b.1 b.2 ∧ b.1.room = max n 0) (by omega) (fun fuel b _ => go_n (by omega) rfl)
    (fun i hi b hb => by
      obtain ⟨hb, hroom⟩ := hb
      have hci := costs_take hi
      have hcl := costs_le l (i + 1)
      have hm : Inv (costs (l.take (i + 1))) b.1 b.2 := Go.Hay.Inv.mono hb (by omega) (by omega)
      by_cases h8' : (l[i]).1 > 8
      · refine ⟨b, ⟨hm, hroom⟩, fun fuel => go_d (by omega) (go_t (inB_nat hi) ?_)⟩
        rw [Int.toNat_natCast, getD_get hi]
        exact go_d h8' rfl
      obtain ⟨d', r', e, hi', happ, hroom'⟩ := stepped_law hN hb (hl.ops _ (List.getElem_mem hi)) (by omega) (by omega) (by omega)
      rw [← hci] at hi'
      rw [hroom] at hroom'
      have hfree := Go.Hay.Inv.free hi'
      have hfree0 := Go.Hay.Inv.free hb
      have hf1 := hi'.fi.fits
      have hf2 := hi'.room
      have hcn := hb.fi.cnt
      have hcn' := hi'.fi.cnt
      have hp := hb.fi.perm.length_eq
      have hp' := hi'.fi.perm.length_eq
      refine ⟨(d', r'), ⟨hi', hroom'⟩, fun fuel => go_d (by omega) (go_t (inB_nat hi) ?_)⟩
      rw [Int.toNat_natCast, getD_get hi]
      refine go_n h8' (go_o (free_ok b.1) (go_o (names_ok hN b.1 (by omega)) (go_o e (go_f rfl (go_o (free_ok d') (go_n ?_ (go_o (free_ok d') (go_n ?_ ?_))))))))
      · rw [hfree]; unfold rFree; omega
      · rw [hfree]; unfold rFree; omega
      by_cases h0 : (l[i]).1 = 0
      · refine go_d h0 ?_
        by_cases hbig : (((l[i]).2.2.2.1).length : Int) > wr (b.1.room - b.1.used)
        · have hd : d' = b.1 := by
            rw [happ h0]
            unfold dAppend
            cases b.1.dead with
            | true => rfl
            | false =>
              cases nameOk (l[i]).2.1 with
              | false => rfl
              | true => simp only [Bool.not_true, cond_false]; rw [decide_eq_true hbig]; rfl
          refine go_d hbig (go_o (free_ok d') (go_nd (by rw [hd]) (go_o (names_ok hN d' (by omega)) (go_nd (by rw [hd]) rfl))))
        · exact go_n hbig rfl
      · exact go_n h0 rfl) (show l.length < N by omega) (b := (dNew n, rNew n)) ⟨inv_new n hn, rfl⟩
  unfold law_DiskFull.run
  exact go_o (begun_ok hN n) (go_f rfl (go_o (rnew_ok n) (go_o e rfl)))
end
end Go.Hay.Ytccbcmamcdegmaa
