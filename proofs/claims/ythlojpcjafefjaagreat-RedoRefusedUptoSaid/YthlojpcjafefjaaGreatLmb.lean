/- A disk's names, what it tells, what a crash leaves; all calls of the laws' scripts. Conditions: sizes below a bound. -/
import Derived.Test.YthlojpcjafefjaaGreatLma
set_option linter.unusedVariables false
set_option linter.unusedSimpArgs false
namespace Go.Hay.YthlojpcjafefjaaGreat.Dk
open Go Go.Hay Go.Proofs

section
variable {N : Nat}

theorem arm_ok (d : DD) (n : Int) : fD12.run N d.room d.used d.files d.steps d.left d.dead n = some ((dArm d n).t, ()) := by
  unfold fD12.run dArm
  obtain ⟨a1, a2, a3, a4, a5, a6⟩ := d
  cases a6 <;> rfl
/-! ### What a crash leaves -/
theorem fD56 : ∀ (l : DFs) (p : DNm × DFl) (keep : List Int), crashF (l ++ [p]) keep = crashF l keep ++ [(p.1, p.2.1.take (found p.2 (keep.drop l.length)).toNat, found p.2 (keep.drop l.length))]
  | [], p, keep => rfl
  | q :: l, p, keep => by
    simp only [List.cons_append, crashF, fD56 l, List.length_cons]
    rw [List.drop_drop, Nat.add_comm 1]
theorem fC94 {f : DFl} (h : 0 ≤ f.2 ∧ f.2 ≤ (f.1.length : Int)) (hl : f.1.length ≤ 140737488355328) (n : Int) : IntKind.i64.wrap (f.2 + min (max n 0) (IntKind.i64.wrap ((f.1.length : Int) - f.2))) = f.2 + min (max n 0) ((f.1.length : Int) - f.2) := by
  rw [wrap_i64 (x := (f.1.length : Int) - f.2) (by omega) (by omega), wrap_i64 (by omega) (by omega)]

theorem fC95 (hN : 8796093022208 ≤ N) {k : Nat} {d : DD} {l : DFs} (hf : FI k d.room d.used d.files l) (h0 : 0 ≤ d.room) (keep : List Int) :
    fA6.run N d.room d.used d.files d.steps d.left d.dead keep = some (d.t, (dCrash d l keep).t, ()) := by
  have hsm := hf.small
  have hcnt := hf.cnt
  have hsum := hf.sum
  have hlen : d.files.length = l.length := hf.perm.length_eq
  have hnames : (sortKeys d.files) = l.map (·.1) := hf.names
  have hnl : (sortKeys d.files).length = l.length := by rw [hnames, List.length_map]
  have hroom := hf.room
  -- the loop over the names
  obtain ⟨b, hb, e⟩ := loop_turn (β := List Int × DD) (go := fun fuel b i => fD8.go N fuel 0 d.room d.used d.files d.steps d.left d.dead b.1 b.2.room b.2.used b.2.files b.2.steps b.2.left b.2.dead (sortKeys d.files) ((sortKeys d.files).length : Int) i) (n := (sortKeys d.files).length)
    (fin := fun b => ((b.1, ()), b.2.t, ((0 : Int), (), (), (), (), (), (), ()), ())) (fun i b => b = (keep.drop i, dCrash d (l.take i) keep)) (by omega) (fun fuel b _ => go_n (by omega) rfl)
    (fun i hi b hb => ⟨_, rfl, fun fuel => by
      have hil : i < l.length := by omega
      have hname : (sortKeys d.files).getD (i : Int).toNat [] = (l[i]).1 := by
        rw [Int.toNat_natCast, getD_get (by omega)]
        simp only [hnames, List.getElem_map]
      have hmem : l[i] ∈ l := List.getElem_mem hil
      have hget : mapGet d.files (l[i]).1 f0 = (l[i]).2 := by rw [hf.get, get_mem hf.keysL (k := (l[i]).1) (v := (l[i]).2) hmem]
      have hsl := sumL_mem hmem
      have hla := hf.last _ hmem
      subst hb
      have hkeep : Y2_0.run N (keep.drop i) 0 = some (((keep.drop i).drop 1, ()), (keep.drop i).getD 0 0, ()) := by
        unfold Y2_0.run
        cases hkd : keep.drop i with
        | nil => exact go_n (by simp) rfl
        | cons n r => exact go_d (by simp only [List.length_cons]; omega) (go_t (inB_t (Int.le_refl _) (by simp only [List.length_cons]; omega)) (go_t (okB_t (by omega) (by simp only [List.length_cons]; omega) (Int.le_refl _)) rfl))
      have hno : mapHas (crashF (l.take i) keep) (l[i]).1 = false := by
        cases hh : mapHas (crashF (l.take i) keep) (l[i]).1 with
        | false => rfl
        | true =>
          obtain ⟨v, hv⟩ := has_iff.1 hh
          have h1 : (l[i]).1 ∈ (crashF (l.take i) keep).map (·.1) := List.mem_map.2 ⟨_, hv, rfl⟩
          rw [crash_names] at h1
          obtain ⟨q, hq, hqe⟩ := List.mem_map.1 h1
          obtain ⟨j, hj, rfl⟩ := List.mem_iff_getElem.1 hq
          have hj' : j < i := by simp only [List.length_take] at hj; omega
          rw [List.getElem_take] at hqe
          have := (List.pairwise_iff_getElem.1 hf.keysL) j i (by omega) hil hj'
          exact absurd hqe this
      have hfe := fC94 hla (by omega) ((keep.drop i).getD 0 0)
      have hfo := found_ok hla (keep.drop i)
      have hY : Y2.run N d.room d.used d.files d.steps d.left d.dead (keep.drop i) (dCrash d (l.take i) keep).room (dCrash d (l.take i) keep).used (dCrash d (l.take i) keep).files (dCrash d (l.take i) keep).steps (dCrash d (l.take i) keep).left (dCrash d (l.take i) keep).dead ((sortKeys d.files).getD (i : Int).toNat []) =
          some ((keep.drop (i + 1), ()), (dCrash d (l.take (i + 1)) keep).t, ()) := by
        rw [hname]
        unfold Y2.run
        refine go_o hkeep ?_
        rw [hget]
        dsimp only
        rw [hfe]
        show (bif okB 0 (found (l[i]).2 (keep.drop i)) (l[i]).2.1.length then _ else _) = _
        refine go_t (okB_t (Int.le_refl _) (by omega) (by omega)) (go_o (fD43 _ (by simp only [List.length_take]; omega)) (go_o (lay_ok (dCrash d (l.take i) keep) (l[i]).1 ((l[i]).2.1.take (found (l[i]).2 (keep.drop i)).toNat, found (l[i]).2 (keep.drop i))) ?_))
        have hsn : crashF (l.take (i + 1)) keep = crashF (l.take i) keep ++ [((l[i]).1, (l[i]).2.1.take (found (l[i]).2 (keep.drop i)).toNat, found (l[i]).2 (keep.drop i))] := by
          rw [take_succ' hil, fD56, List.length_take, Nat.min_eq_left (Nat.le_of_lt hil)]
        have e1 : dLay (dCrash d (l.take i) keep) (l[i]).1 ((l[i]).2.1.take (found (l[i]).2 (keep.drop i)).toNat, found (l[i]).2 (keep.drop i)) = dCrash d (l.take (i + 1)) keep := by
          have hg0 : dGet (dCrash d (l.take i) keep) (l[i]).1 = f0 := get_no hno f0
          have hcs : sumL (crashF (l.take (i + 1)) keep) ≤ sumL l := by
            refine Nat.le_trans (crash_sum _ _) ?_
            have : sumL l = sumL (l.take (i + 1)) + sumL (l.drop (i + 1)) := by rw [← sumL_app, List.take_append_drop]
            omega
          have hcs2 : sumL (crashF (l.take (i + 1)) keep) = sumL (crashF (l.take i) keep) + ((l[i]).2.1.take (found (l[i]).2 (keep.drop i)).toNat).length := by
            rw [hsn, sumL_app]; simp [sumL]
          unfold dLay
          rw [hg0]
          have e2 : wr ((((l[i]).2.1.take (found (l[i]).2 (keep.drop i)).toNat).length : Int) - ((f0.1.length : Nat) : Int)) = (((l[i]).2.1.take (found (l[i]).2 (keep.drop i)).toNat).length : Int) := by
            rw [show ((f0.1.length : Nat) : Int) = 0 from rfl, Int.sub_zero]
            exact wrap_nat _ (by omega)
          have e3 : wr ((dCrash d (l.take i) keep).used + wr ((((l[i]).2.1.take (found (l[i]).2 (keep.drop i)).toNat).length : Int) - ((f0.1.length : Nat) : Int))) = (sumL (crashF (l.take (i + 1)) keep) : Int) := by
            rw [e2]
            show wr ((sumL (crashF (l.take i) keep) : Int) + _) = _
            unfold wr
            rw [wrap_i64 (by omega) (by omega)]
            omega
          rw [e3]
          have e4 : mapPut (dCrash d (l.take i) keep).files (l[i]).1 ((l[i]).2.1.take (found (l[i]).2 (keep.drop i)).toNat, found (l[i]).2 (keep.drop i)) = crashF (l.take (i + 1)) keep := by rw [hsn]; exact put_new hno _
          rw [e4]
          rfl
        rw [e1, List.drop_drop]
      exact go_d (by omega) (go_t (inB_nat hi) (go_d (by rw [Int.toNat_natCast]; exact hi) (go_d rfl (go_o hY rfl))))⟩) (show (sortKeys d.files).length < N by omega) (b := (keep, dCrash d [] keep)) rfl
  unfold fA6.run
  have hnew : fA29.run N d.room = some ((dCrash d [] keep).t, ()) := by
    unfold fA29.run dCrash
    rw [show max d.room 0 = d.room by omega]
    rfl
  refine go_o hnew (go_o rfl (go_o (v := ((keep.drop l.length, ()), (dCrash d l keep).t, ((0 : Int), (), (), (), (), (), (), ()), ())) ?_ (go_d rfl rfl)))
  unfold fA5.run
  refine go_o rfl (go_o (v := (sortKeys d.files, ())) (go_t (room_t (by omega) (by omega)) rfl) (go_o e ?_))
  rw [hb, hnl, List.take_length]

/-! ### Calls of a script -/
end
end Go.Hay.YthlojpcjafefjaaGreat.Dk
