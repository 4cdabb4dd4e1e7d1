/- Bytes that are handed in, and told, may be written over. Conditions: sizes below a bound. -/
import Derived.Test.YtccbcmamcdegmaaLa
set_option linter.unusedVariables false
set_option linter.unusedSimpArgs false
namespace Go.Hay.Ytccbcmamcdegmaa
open Go Go.Hay Go.Proofs

section
variable {N : Nat}
theorem sortKeys_len {β : Type} (l : List (List UInt8 × β)) : (sortKeys l).length = l.length := by
  unfold sortKeys
  rw [(List.mergeSort_perm _ _).length_eq, List.length_map]

theorem names_ok (hN : 8796093022208 ≤ N) (d : DD) (hl : d.files.length ≤ 2199023255552) : disk_Disk_Names.run N d.room d.used d.files d.steps d.left d.dead = some (d.t, sortKeys d.files, ()) := by
  have hk := sortKeys_len d.files
  obtain ⟨b, hb, e⟩ := loop_turn (go := fun fuel b i => disk_Disk_names_f1_b_0.go N fuel 0 b (sortKeys d.files) ((sortKeys d.files).length : Int) i) (n := (sortKeys d.files).length) (fin := fun b => ((b, ()), ((0 : Int), (), (), (), (), ()), ())) (fun i b => b = (sortKeys d.files).take i) (by omega) (fun fuel b _ => go_n (by omega) rfl)
    (fun i hi b hb => ⟨_, rfl, fun fuel => by
      have hlen : b.length ≤ i := by rw [hb, List.length_take]; omega
      refine go_d (by omega) (go_t (inB_nat hi) (go_d (by rw [Int.toNat_natCast]; exact hi) (go_d rfl ?_)))
      have hy : Y1.run N b ((sortKeys d.files).getD (i : Int).toNat []) = some (((sortKeys d.files).take (i + 1), ()), ()) := by
        unfold Y1.run
        refine go_t (room_t (by omega) (by omega)) ?_
        rw [Int.toNat_natCast, getD_get hi, take_succ' hi, hb]
      exact go_o hy rfl⟩) (show (sortKeys d.files).length < N by omega) (b := []) rfl
  unfold disk_Disk_Names.run
  refine go_o rfl (go_o (v := ((sortKeys d.files, ()), ((0 : Int), (), (), (), (), ()), ())) ?_ (go_d rfl rfl))
  unfold disk_Disk_names_f1_b.run
  refine go_o rfl (go_o (v := (sortKeys d.files, ())) (go_t (room_t (by omega) (by omega)) rfl) (go_o e ?_))
  rw [hb, List.take_length]

theorem crash_snoc : ∀ (l : DFs) (p : DNm × DFl) (keep : List Int), crashF (l ++ [p]) keep = crashF l keep ++ [(p.1, p.2.1.take (found p.2 (keep.drop l.length)).toNat, found p.2 (keep.drop l.length))]
  | [], p, keep => rfl
  | q :: l, p, keep => by
    simp only [List.cons_append, crashF, crash_snoc l, List.length_cons]
    rw [List.drop_drop, Nat.add_comm 1]
theorem found_eq {f : DFl} (h : 0 ≤ f.2 ∧ f.2 ≤ (f.1.length : Int)) (hl : f.1.length ≤ 140737488355328) (n : Int) : IntKind.i64.wrap (f.2 + min (max n 0) (IntKind.i64.wrap ((f.1.length : Int) - f.2))) = f.2 + min (max n 0) ((f.1.length : Int) - f.2) := by
  rw [wrap_i64 (x := (f.1.length : Int) - f.2) (by omega) (by omega), wrap_i64 (by omega) (by omega)]

theorem crash_ok (hN : 8796093022208 ≤ N) {k : Nat} {d : DD} {l : DFs} (hf : FI k d.room d.used d.files l) (h0 : 0 ≤ d.room) (keep : List Int) :
    disk_Disk_Crash.run N d.room d.used d.files d.steps d.left d.dead keep = some (d.t, (dCrash d l keep).t, ()) := by
  have hsm := hf.small
  have hcnt := hf.cnt
  have hsum := hf.sum
  have hlen : d.files.length = l.length := hf.perm.length_eq
  have hnames : (sortKeys d.files) = l.map (·.1) := hf.names
  have hnl : (sortKeys d.files).length = l.length := by rw [hnames, List.length_map]
  have hroom := hf.room
  -- the loop over the names
  obtain ⟨b, hb, e⟩ := loop_turn (β := List Int × DD) (go := fun fuel b i => disk_Disk_names_f1_0.go N fuel 0 d.room d.used d.files d.steps d.left d.dead b.1 b.2.room b.2.used b.2.files b.2.steps b.2.left b.2.dead (sortKeys d.files) ((sortKeys d.files).length : Int) i) (n := (sortKeys d.files).length)
    (fin := fun b => ((b.1, ()), b.2.t, ((0 : Int), (), (), (), (), (), (), ()), ())) (fun i b => b = (keep.drop i, dCrash d (l.take i) keep)) (by omega) (fun fuel b _ => go_n (by omega) rfl)
    (fun i hi b hb => ⟨_, rfl, fun fuel => by
      have hil : i < l.length := by omega
      have hname : (sortKeys d.files).getD (i : Int).toNat [] = (l[i]).1 := by
        rw [Int.toNat_natCast, getD_get (by omega)]
        simp only [hnames, List.getElem_map]
      have hmem : l[i] ∈ l := List.getElem_mem hil
      have hget : mapGet d.files (l[i]).1 f0 = (l[i]).2 := by rw [hf.get, get_mem hf.keysL (k := (l[i]).1) (v := (l[i]).2) hmem]
      have hsl := sumL_mem hmem
      have hla := hf.last _ hmem
      subst hb
      have hkeep : Y0_0.run N (keep.drop i) 0 = some (((keep.drop i).drop 1, ()), (keep.drop i).getD 0 0, ()) := by
        unfold Y0_0.run
        cases hkd : keep.drop i with
        | nil => exact go_n (by simp) rfl
        | cons n r => exact go_d (by simp only [List.length_cons]; omega) (go_t (inB_t (Int.le_refl _) (by simp only [List.length_cons]; omega)) (go_t (okB_t (by omega) (by simp only [List.length_cons]; omega) (Int.le_refl _)) rfl))
      have hno : mapHas (crashF (l.take i) keep) (l[i]).1 = false := by
        cases hh : mapHas (crashF (l.take i) keep) (l[i]).1 with
        | false => rfl
        | true =>
          obtain ⟨v, hv⟩ := has_iff.1 hh
          have h1 : (l[i]).1 ∈ (crashF (l.take i) keep).map (·.1) := List.mem_map.2 ⟨_, hv, rfl⟩
          rw [crash_names] at h1
          obtain ⟨q, hq, hqe⟩ := List.mem_map.1 h1
          obtain ⟨j, hj, rfl⟩ := List.mem_iff_getElem.1 hq
          have hj' : j < i := by simp only [List.length_take] at hj; omega
          rw [List.getElem_take] at hqe
          have := (List.pairwise_iff_getElem.1 hf.keysL) j i (by omega) hil hj'
          exact absurd hqe this
      have hfe := found_eq hla (by omega) ((keep.drop i).getD 0 0)
      have hfo := found_ok hla (keep.drop i)
      have hY : Y0.run N d.room d.used d.files d.steps d.left d.dead (keep.drop i) (dCrash d (l.take i) keep).room (dCrash d (l.take i) keep).used (dCrash d (l.take i) keep).files (dCrash d (l.take i) keep).steps (dCrash d (l.take i) keep).left (dCrash d (l.take i) keep).dead ((sortKeys d.files).getD (i : Int).toNat []) =
          some ((keep.drop (i + 1), ()), (dCrash d (l.take (i + 1)) keep).t, ()) := by
        rw [hname]
        unfold Y0.run
        refine go_o hkeep ?_
        rw [hget]
        dsimp only
        rw [hfe]
        show (bif okB 0 (found (l[i]).2 (keep.drop i)) (l[i]).2.1.length then _ else _) = _
        refine go_t (okB_t (Int.le_refl _) (by omega) (by omega)) (go_o (clone_ok _ (by simp only [List.length_take]; omega)) (go_o (lay_ok (dCrash d (l.take i) keep) (l[i]).1 ((l[i]).2.1.take (found (l[i]).2 (keep.drop i)).toNat, found (l[i]).2 (keep.drop i))) ?_))
        have hsn : crashF (l.take (i + 1)) keep = crashF (l.take i) keep ++ [((l[i]).1, (l[i]).2.1.take (found (l[i]).2 (keep.drop i)).toNat, found (l[i]).2 (keep.drop i))] := by
          rw [take_succ' hil, crash_snoc, List.length_take, Nat.min_eq_left (Nat.le_of_lt hil)]
        have e1 : dLay (dCrash d (l.take i) keep) (l[i]).1 ((l[i]).2.1.take (found (l[i]).2 (keep.drop i)).toNat, found (l[i]).2 (keep.drop i)) = dCrash d (l.take (i + 1)) keep := by
          have hg0 : dGet (dCrash d (l.take i) keep) (l[i]).1 = f0 := get_no hno f0
          have hcs : sumL (crashF (l.take (i + 1)) keep) ≤ sumL l := by
            refine Nat.le_trans (crash_sum _ _) ?_
            have : sumL l = sumL (l.take (i + 1)) + sumL (l.drop (i + 1)) := by rw [← sumL_app, List.take_append_drop]
            omega
          have hcs2 : sumL (crashF (l.take (i + 1)) keep) = sumL (crashF (l.take i) keep) + ((l[i]).2.1.take (found (l[i]).2 (keep.drop i)).toNat).length := by
            rw [hsn, sumL_app]; simp [sumL]
          unfold dLay
          rw [hg0]
          have e2 : wr ((((l[i]).2.1.take (found (l[i]).2 (keep.drop i)).toNat).length : Int) - ((f0.1.length : Nat) : Int)) = (((l[i]).2.1.take (found (l[i]).2 (keep.drop i)).toNat).length : Int) := by
            rw [show ((f0.1.length : Nat) : Int) = 0 from rfl, Int.sub_zero]
            exact wrap_nat _ (by omega)
          have e3 : wr ((dCrash d (l.take i) keep).used + wr ((((l[i]).2.1.take (found (l[i]).2 (keep.drop i)).toNat).length : Int) - ((f0.1.length : Nat) : Int))) = (sumL (crashF (l.take (i + 1)) keep) : Int) := by
            rw [e2]
            show wr ((sumL (crashF (l.take i) keep) : Int) + _) = _
            unfold wr
            rw [wrap_i64 (by omega) (by omega)]
            omega
          rw [e3]
          have e4 : mapPut (dCrash d (l.take i) keep).files (l[i]).1 ((l[i]).2.1.take (found (l[i]).2 (keep.drop i)).toNat, found (l[i]).2 (keep.drop i)) = crashF (l.take (i + 1)) keep := by rw [hsn]; exact put_new hno _
          rw [e4]
          rfl
        rw [e1, List.drop_drop]
      exact go_d (by omega) (go_t (inB_nat hi) (go_d (by rw [Int.toNat_natCast]; exact hi) (go_d rfl (go_o hY rfl))))⟩) (show (sortKeys d.files).length < N by omega) (b := (keep, dCrash d [] keep)) rfl
  unfold disk_Disk_Crash.run
  have hnew : disk_New.run N d.room = some ((dCrash d [] keep).t, ()) := by
    unfold disk_New.run dCrash
    rw [show max d.room 0 = d.room by omega]
    rfl
  refine go_o hnew (go_o rfl (go_o (v := ((keep.drop l.length, ()), (dCrash d l keep).t, ((0 : Int), (), (), (), (), (), (), ()), ())) ?_ (go_d rfl rfl)))
  unfold disk_Disk_names_f1.run
  refine go_o rfl (go_o (v := (sortKeys d.files, ())) (go_t (room_t (by omega) (by omega)) rfl) (go_o e ?_))
  rw [hb, hnl, List.take_length]

theorem inv_gets {k : Nat} {d : DD} {r : RS} (h : Inv k d r) (name : DNm) : (dGet d name).1.length ≤ 2199023255552 := by
  rw [Go.Hay.Inv.get h]
  exact Nat.le_trans (Go.Hay.FI.lenG h.fi name) h.fi.small
def b1 : DD := (dAppend (dNew 10) [97] [1, 2]).1
def b2 : DD := (dSync b1 [97]).1
def b3 : DD := (dAppend b2 [97] [3]).1
theorem begun_ok (hN : 8796093022208 ≤ N) (n : Int) : law_begun.run N n = some ((dNew n).t, true, ()) := by
  have i0 := inv_new 10 (by decide)
  have i1 : Inv 4 b1 _ := (Go.Hay.Inv.append i0 (name := [97]) (b := [1, 2]) (by decide)).2
  have i2 : Inv 6 b2 _ := (Go.Hay.Inv.sync i1 (by decide) [97]).2
  have i3 : Inv 9 b3 _ := (Go.Hay.Inv.append i2 (name := [97]) (b := [3]) (by decide)).2
  unfold law_begun.run
  have a1 := append_ok hN (dNew 10) [97] [1, 2] (by decide) (by rw [show (dGet (dNew 10) [97]).1 = [] from rfl]; decide)
  refine go_o (new_ok 10) (go_o a1 (go_nd (show (dAppend (dNew 10) [97] [1, 2]).2 = 0 by kernel_rfl) ?_))
  refine go_o (sync_ok b1 [97]) (go_nd (show (dSync b1 [97]).2 = 0 by kernel_rfl) ?_)
  refine go_o (append_ok hN b2 [97] [3] (by decide) (Nat.le_trans (Nat.add_le_add_right (inv_gets i2 [97]) _) (by decide))) (go_nd (show (dAppend b2 [97] [3]).2 = 0 by kernel_rfl) ?_)
  refine go_o (read_ok b3 [97] (Nat.le_trans (inv_gets i3 [97]) (by decide))) ?_
  refine go_o (crash_ok hN i3.fi (show (0 : Int) ≤ 10 by decide) []) ?_
  have i4 := Go.Hay.Inv.crash i3 []
  refine go_o (read_ok (dCrash b3 _ []) [97] (Nat.le_trans (inv_gets i4 [97]) (by decide))) ?_
  refine go_o (new_ok n) (go_t (show mapHas b3.files [97] = true by kernel_rfl) (go_t ?_ (go_d (show (dGet b3 [97]).1 = [1, 2, 3] by kernel_rfl) (go_d ?_ (go_o rfl ?_)))))
  · kernel_rfl
  · show (dGet (dCrash b3 _ []) [97]).1 = [1, 2]
    kernel_rfl
  · dsimp only
    rw [decide_eq_true (show b3.steps = 3 by kernel_rfl)]


theorem memory0 (N : Nat) (n : Nat) (hn : n ≤ 1000000000) : ∀ (d i : Nat) (own : List UInt8) (fuel : Nat), n = i + d → own.length = n → d < fuel → law_DiskMemory_0.go N fuel own (n : Int) (i : Int) = some ()
  | _, _, _, 0, _, _, h => absurd h (Nat.not_lt_zero _)
  | 0, i, own, fuel + 1, e, hl, h => go_n (by omega) rfl
  | d + 1, i, own, fuel + 1, e, hl, h => by
    refine go_d (by omega) (go_t (inB_nat (by omega)) (go_d (by omega) (go_t (inB_nat (by omega)) (go_d (by omega) ?_))))
    rw [wrap_succ i (by omega)]
    exact memory0 N n hn d (i + 1) _ fuel (by omega) (by rw [List.length_set]; exact hl) (by omega)
theorem memory1 (N : Nat) (n : Nat) (hn : n ≤ 1000000000) : ∀ (d i : Nat) (own : List UInt8) (fuel : Nat), n = i + d → own.length = n → d < fuel → ∃ v : List UInt8, law_DiskMemory_1.go N fuel own (n : Int) (i : Int) = some (v, ()) ∧ v.length = n
  | _, _, _, 0, _, _, h => absurd h (Nat.not_lt_zero _)
  | 0, i, own, fuel + 1, e, hl, h => ⟨own, go_n (by omega) rfl, hl⟩
  | d + 1, i, own, fuel + 1, e, hl, h => by
    obtain ⟨v, v1, v2⟩ := memory1 N n hn d (i + 1) (own.set (i : Int).toNat (Hay.u8 (IntKind.u8.wrap (((own.getD (i : Int).toNat (0 : UInt8)).toNat : Int) + (2 : Int))))) fuel (by omega) (by rw [List.length_set]; exact hl) (by omega)
    refine ⟨v, go_d (by omega) (go_t (inB_nat (by omega)) (go_d (by omega) (go_t (inB_nat (by omega)) (go_d (by omega) ?_)))), v2⟩
    rw [wrap_succ i (by omega)]
    exact v1

theorem disk_memory (hN : 8796093022208 ≤ N) (b : List UInt8) (hb : b.length ≤ 1000000000) : law_DiskMemory.run N b = some (true, ()) := by
  have hm : max (b.length : Int) 0 = (b.length : Int) := by omega
  have hn : nameOk [102] = true := by decide
  have hw : ¬ ((b.length : Int) > wr ((dNew (b.length : Int)).room - (dNew (b.length : Int)).used)) := by
    show ¬ ((b.length : Int) > wr (max (b.length : Int) 0 - 0))
    rw [hm, Int.sub_zero, show wr (b.length : Int) = (b.length : Int) from wrap_nat _ (by omega)]; omega
  have ed : dAppend (dNew (b.length : Int)) [102] b = ((dStep (dLay (dNew (b.length : Int)) [102] (b, 0))).1, 0) := by
    unfold dAppend
    rw [show (dNew (b.length : Int)).dead = false from rfl, hn, decide_eq_false hw]; rfl
  have hd : ∃ d1 : DD, dAppend (dNew (b.length : Int)) [102] b = (d1, 0) ∧ d1.files = [([102], (b, 0))] := ⟨_, ed, rfl⟩
  obtain ⟨d1, e1, hf⟩ := hd
  have happ := append_ok (N := N) hN (dNew (b.length : Int)) [102] b (by decide) (by show 0 + b.length ≤ _; omega)
  rw [e1] at happ
  have hg : dGet d1 [102] = (b, 0) := by unfold dGet; rw [hf]; simp [mapGet]
  have hh : mapHas d1.files [102] = true := by rw [hf]; simp [mapHas]
  have hread := read_ok (N := N) d1 [102] (by rw [hg]; show b.length ≤ _; omega)
  rw [hg, hh] at hread
  have hnames := names_ok (N := N) hN d1 (by rw [hf]; simp)
  have hsk : sortKeys d1.files = [[102]] := by rw [hf]; simp [sortKeys]
  rw [hsk] at hnames
  obtain ⟨v, v1, v2⟩ := memory1 N b.length hb b.length 0 b N (by omega) rfl (by omega)
  have w1 : IntKind.i64.wrap ((b.length : Int) + 1) = ((b.length + 1 : Nat) : Int) := wrap_succ _ (by omega)
  refine go_o (begun_ok hN _) (go_f rfl (go_t (room_t (by omega) (by omega)) (go_o happ (go_nd rfl (go_o (memory0 N b.length hb b.length 0 b N (by omega) rfl (by omega)) ?_)))))
  refine go_o hread (go_o v1 (go_t (room_t (by omega) (by omega)) (go_o hread (go_o hnames (go_t rfl (go_d (by decide) (go_d rfl (go_d ?_ (go_d rfl ?_)))))))))
  · rw [w1, List.length_append, v2]; rfl
  · exact go_o hnames (go_d rfl (go_o hnames (go_t rfl (go_d (by decide) rfl))))
end
end Go.Hay.Ytccbcmamcdegmaa
