/- A disk's names, what it tells, what a crash leaves; all calls of the laws' scripts. Conditions: sizes below a bound. -/
import Derived.Test.YtccbcmamcdegmaaLb
set_option linter.unusedVariables false
set_option linter.unusedSimpArgs false
namespace Go.Hay.Ytccbcmamcdegmaa
open Go Go.Hay Go.Proofs

section
variable {N : Nat}

theorem sortKeys_len {β : Type} (l : List (List UInt8 × β)) : (sortKeys l).length = l.length := by
  unfold sortKeys
  rw [(List.mergeSort_perm _ _).length_eq, List.length_map]

theorem names_ok (hN : 8796093022208 ≤ N) (d : DD) (hl : d.files.length ≤ 2199023255552) : disk_Disk_Names.run N d.room d.used d.files d.steps d.left d.dead = some (d.t, sortKeys d.files, ()) := by
  have hk := sortKeys_len d.files
  obtain ⟨b, hb, e⟩ := loop_turn (go := fun fuel b i => disk_Disk_names_f1_b_0.go N fuel 0 b (sortKeys d.files) ((sortKeys d.files).length : Int) i) (n := (sortKeys d.files).length) (fin := fun b => ((b, ()), ((0 : Int), (), (), (), (), ()), ())) (fun i b => b = (sortKeys d.files).take i) (by omega) (fun fuel b _ => go_n (by omega) rfl)
    (fun i hi b hb => ⟨_, rfl, fun fuel => by
      have hlen : b.length ≤ i := by rw [hb, List.length_take]; omega
      refine go_d (by omega) (go_t (inB_nat hi) (go_d (by rw [Int.toNat_natCast]; exact hi) (go_d rfl ?_)))
      have hy : Y1.run N b ((sortKeys d.files).getD (i : Int).toNat []) = some (((sortKeys d.files).take (i + 1), ()), ()) := by
        unfold Y1.run
        refine go_t (room_t (by omega) (by omega)) ?_
        rw [Int.toNat_natCast, getD_get hi, take_succ' hi, hb]
      exact go_o hy rfl⟩) (show (sortKeys d.files).length < N by omega) (b := []) rfl
  unfold disk_Disk_Names.run
  refine go_o rfl (go_o (v := ((sortKeys d.files, ()), ((0 : Int), (), (), (), (), ()), ())) ?_ (go_d rfl rfl))
  unfold disk_Disk_names_f1_b.run
  refine go_o rfl (go_o (v := (sortKeys d.files, ())) (go_t (room_t (by omega) (by omega)) rfl) (go_o e ?_))
  rw [hb, List.take_length]

theorem stands_ok (hN : 8796093022208 ≤ N) {k : Nat} {d : DD} {r : RS} (hf : FI k d.room d.used d.files r.files) (hr : d.room = r.room) (hs : d.steps = r.steps) (hd : d.dead = r.dead) (hb : RB r) :
    law_stands.run N d.room d.used d.files d.steps d.left d.dead r.t = some (d.t, true, ()) := by
  have hc := hb.cnt
  have hlen : d.files.length = r.files.length := hf.perm.length_eq
  have hnames : (sortKeys d.files) = r.files.map (·.1) := hf.names
  have hnl : (sortKeys d.files).length = r.files.length := by rw [hnames, List.length_map]
  have hfree : wr (d.room - d.used) = rFree r := by
    have h2 := hf.fits
    have h3 := hf.room
    unfold wr rFree
    rw [hf.used, ← hr, wrap_i64 (by omega) (by omega)]
  unfold law_stands.run
  refine go_o (names_ok hN d (by omega)) (go_nd (by show ((sortKeys d.files).length : Int) = (r.files.length : Int); omega) (go_o (free_ok d) (go_o (rfree_ok hN hb) (go_nd hfree (go_o rfl (go_nd hs (go_o rfl ?_)))))))
  show (bif !(d.dead == r.dead) then _ else _) = _
  rw [hd]
  refine go_f (by cases r.dead <;> rfl) ?_
  have hk := loop_find (go := fun fuel i => law_stands_0.go N fuel d.room d.used d.files d.steps d.left d.dead (sortKeys d.files) r.files (r.files.length : Int) i) (n := r.files.length) (p := fun _ => false) (v := fun _ => (false, ())) (e := ()) (by omega) (fun fuel => go_n (by omega) rfl)
    (fun i hi fuel _ => by
      have hname : (sortKeys d.files).getD i [] = (r.files[i]).1 := by
        rw [getD_get (by omega)]
        simp only [hnames, List.getElem_map]
      have hget : dGet d (r.files[i]).1 = (r.files[i]).2 := by
        unfold dGet
        rw [hf.get, get_mem hf.keysL (k := (r.files[i]).1) (v := (r.files[i]).2) (List.getElem_mem hi)]
      have hhas : mapHas d.files (r.files[i]).1 = true := by rw [hf.has]; exact has_iff.2 ⟨(r.files[i]).2, List.getElem_mem hi⟩
      have hsm := sumL_mem (List.getElem_mem hi)
      have hsum := hb.sum
      have hrd : disk_Disk_Read.run N d.room d.used d.files d.steps d.left d.dead ((r.files.getD (i : Int).toNat e0).1) = some ((r.files[i]).2.1, true, ()) := by
        rw [Int.toNat_natCast, getD_get hi, read_ok d _ (by rw [hget]; omega), hget, hhas]
      rw [if_neg (by decide)]
      refine go_d (by omega) (go_t (inB_nat hi) (go_o hrd (go_t (inB_nat (by omega)) (go_d (by rw [Int.toNat_natCast]; omega) ?_))))
      rw [Int.toNat_natCast, hname, getD_get hi]
      exact go_nd rfl (go_f rfl (go_nd rfl rfl))) (show r.files.length < N by omega)
  rw [← hd]
  rcases hk with ⟨j, _, hp, _⟩ | ⟨_, e⟩
  · cases hp
  · exact go_o e rfl
theorem Inv.stands (hN : 8796093022208 ≤ N) {k : Nat} {d : DD} {r : RS} (h : Inv k d r) : law_stands.run N d.room d.used d.files d.steps d.left d.dead r.t = some (d.t, true, ()) := stands_ok hN h.fi h.room h.steps h.dead (Inv.rb h)

/-! ### What a crash leaves -/
theorem crash_snoc : ∀ (l : DFs) (p : DNm × DFl) (keep : List Int), crashF (l ++ [p]) keep = crashF l keep ++ [(p.1, p.2.1.take (found p.2 (keep.drop l.length)).toNat, found p.2 (keep.drop l.length))]
  | [], p, keep => rfl
  | q :: l, p, keep => by
    simp only [List.cons_append, crashF, crash_snoc l, List.length_cons]
    rw [List.drop_drop, Nat.add_comm 1]
theorem found_eq {f : DFl} (h : 0 ≤ f.2 ∧ f.2 ≤ (f.1.length : Int)) (hl : f.1.length ≤ 140737488355328) (n : Int) : IntKind.i64.wrap (f.2 + min (max n 0) (IntKind.i64.wrap ((f.1.length : Int) - f.2))) = f.2 + min (max n 0) ((f.1.length : Int) - f.2) := by
  rw [wrap_i64 (x := (f.1.length : Int) - f.2) (by omega) (by omega), wrap_i64 (by omega) (by omega)]

theorem crash_ok (hN : 8796093022208 ≤ N) {k : Nat} {d : DD} {l : DFs} (hf : FI k d.room d.used d.files l) (h0 : 0 ≤ d.room) (keep : List Int) :
    disk_Disk_Crash.run N d.room d.used d.files d.steps d.left d.dead keep = some (d.t, (dCrash d l keep).t, ()) := by
  have hsm := hf.small
  have hcnt := hf.cnt
  have hsum := hf.sum
  have hlen : d.files.length = l.length := hf.perm.length_eq
  have hnames : (sortKeys d.files) = l.map (·.1) := hf.names
  have hnl : (sortKeys d.files).length = l.length := by rw [hnames, List.length_map]
  have hroom := hf.room
  -- the loop over the names
  obtain ⟨b, hb, e⟩ := loop_turn (β := List Int × DD) (go := fun fuel b i => disk_Disk_names_f1_0.go N fuel 0 d.room d.used d.files d.steps d.left d.dead b.1 b.2.room b.2.used b.2.files b.2.steps b.2.left b.2.dead (sortKeys d.files) ((sortKeys d.files).length : Int) i) (n := (sortKeys d.files).length)
    (fin := fun b => ((b.1, ()), b.2.t, ((0 : Int), (), (), (), (), (), (), ()), ())) (fun i b => b = (keep.drop i, dCrash d (l.take i) keep)) (by omega) (fun fuel b _ => go_n (by omega) rfl)
    (fun i hi b hb => ⟨_, rfl, fun fuel => by
      have hil : i < l.length := by omega
      have hname : (sortKeys d.files).getD (i : Int).toNat [] = (l[i]).1 := by
        rw [Int.toNat_natCast, getD_get (by omega)]
        simp only [hnames, List.getElem_map]
      have hmem : l[i] ∈ l := List.getElem_mem hil
      have hget : mapGet d.files (l[i]).1 f0 = (l[i]).2 := by rw [hf.get, get_mem hf.keysL (k := (l[i]).1) (v := (l[i]).2) hmem]
      have hsl := sumL_mem hmem
      have hla := hf.last _ hmem
      subst hb
      have hkeep : Y0_0.run N (keep.drop i) 0 = some (((keep.drop i).drop 1, ()), (keep.drop i).getD 0 0, ()) := by
        unfold Y0_0.run
        cases hkd : keep.drop i with
        | nil => exact go_n (by simp) rfl
        | cons n r => exact go_d (by simp only [List.length_cons]; omega) (go_t (inB_t (Int.le_refl _) (by simp only [List.length_cons]; omega)) (go_t (okB_t (by omega) (by simp only [List.length_cons]; omega) (Int.le_refl _)) rfl))
      have hno : mapHas (crashF (l.take i) keep) (l[i]).1 = false := by
        cases hh : mapHas (crashF (l.take i) keep) (l[i]).1 with
        | false => rfl
        | true =>
          obtain ⟨v, hv⟩ := has_iff.1 hh
          have h1 : (l[i]).1 ∈ (crashF (l.take i) keep).map (·.1) := List.mem_map.2 ⟨_, hv, rfl⟩
          rw [crash_names] at h1
          obtain ⟨q, hq, hqe⟩ := List.mem_map.1 h1
          obtain ⟨j, hj, rfl⟩ := List.mem_iff_getElem.1 hq
          have hj' : j < i := by simp only [List.length_take] at hj; omega
          rw [List.getElem_take] at hqe
          have := (List.pairwise_iff_getElem.1 hf.keysL) j i (by omega) hil hj'
          exact absurd hqe this
      have hfe := found_eq hla (by omega) ((keep.drop i).getD 0 0)
      have hfo := found_ok hla (keep.drop i)
      have hY : Y0.run N d.room d.used d.files d.steps d.left d.dead (keep.drop i) (dCrash d (l.take i) keep).room (dCrash d (l.take i) keep).used (dCrash d (l.take i) keep).files (dCrash d (l.take i) keep).steps (dCrash d (l.take i) keep).left (dCrash d (l.take i) keep).dead ((sortKeys d.files).getD (i : Int).toNat []) =
          some ((keep.drop (i + 1), ()), (dCrash d (l.take (i + 1)) keep).t, ()) := by
        rw [hname]
        unfold Y0.run
        refine go_o hkeep ?_
        rw [hget]
        dsimp only
        rw [hfe]
        show (bif okB 0 (found (l[i]).2 (keep.drop i)) (l[i]).2.1.length then _ else _) = _
        refine go_t (okB_t (Int.le_refl _) (by omega) (by omega)) (go_o (clone_ok _ (by simp only [List.length_take]; omega)) (go_o (lay_ok (dCrash d (l.take i) keep) (l[i]).1 ((l[i]).2.1.take (found (l[i]).2 (keep.drop i)).toNat, found (l[i]).2 (keep.drop i))) ?_))
        have hsn : crashF (l.take (i + 1)) keep = crashF (l.take i) keep ++ [((l[i]).1, (l[i]).2.1.take (found (l[i]).2 (keep.drop i)).toNat, found (l[i]).2 (keep.drop i))] := by
          rw [take_succ' hil, crash_snoc, List.length_take, Nat.min_eq_left (Nat.le_of_lt hil)]
        have e1 : dLay (dCrash d (l.take i) keep) (l[i]).1 ((l[i]).2.1.take (found (l[i]).2 (keep.drop i)).toNat, found (l[i]).2 (keep.drop i)) = dCrash d (l.take (i + 1)) keep := by
          have hg0 : dGet (dCrash d (l.take i) keep) (l[i]).1 = f0 := get_no hno f0
          have hcs : sumL (crashF (l.take (i + 1)) keep) ≤ sumL l := by
            refine Nat.le_trans (crash_sum _ _) ?_
            have : sumL l = sumL (l.take (i + 1)) + sumL (l.drop (i + 1)) := by rw [← sumL_app, List.take_append_drop]
            omega
          have hcs2 : sumL (crashF (l.take (i + 1)) keep) = sumL (crashF (l.take i) keep) + ((l[i]).2.1.take (found (l[i]).2 (keep.drop i)).toNat).length := by
            rw [hsn, sumL_app]; simp [sumL]
          unfold dLay
          rw [hg0]
          have e2 : wr ((((l[i]).2.1.take (found (l[i]).2 (keep.drop i)).toNat).length : Int) - ((f0.1.length : Nat) : Int)) = (((l[i]).2.1.take (found (l[i]).2 (keep.drop i)).toNat).length : Int) := by
            rw [show ((f0.1.length : Nat) : Int) = 0 from rfl, Int.sub_zero]
            exact wrap_nat _ (by omega)
          have e3 : wr ((dCrash d (l.take i) keep).used + wr ((((l[i]).2.1.take (found (l[i]).2 (keep.drop i)).toNat).length : Int) - ((f0.1.length : Nat) : Int))) = (sumL (crashF (l.take (i + 1)) keep) : Int) := by
            rw [e2]
            show wr ((sumL (crashF (l.take i) keep) : Int) + _) = _
            unfold wr
            rw [wrap_i64 (by omega) (by omega)]
            omega
          rw [e3]
          have e4 : mapPut (dCrash d (l.take i) keep).files (l[i]).1 ((l[i]).2.1.take (found (l[i]).2 (keep.drop i)).toNat, found (l[i]).2 (keep.drop i)) = crashF (l.take (i + 1)) keep := by rw [hsn]; exact put_new hno _
          rw [e4]
          rfl
        rw [e1, List.drop_drop]
      exact go_d (by omega) (go_t (inB_nat hi) (go_d (by rw [Int.toNat_natCast]; exact hi) (go_d rfl (go_o hY rfl))))⟩) (show (sortKeys d.files).length < N by omega) (b := (keep, dCrash d [] keep)) rfl
  unfold disk_Disk_Crash.run
  have hnew : disk_New.run N d.room = some ((dCrash d [] keep).t, ()) := by
    unfold disk_New.run dCrash
    rw [show max d.room 0 = d.room by omega]
    rfl
  refine go_o hnew (go_o rfl (go_o (v := ((keep.drop l.length, ()), (dCrash d l keep).t, ((0 : Int), (), (), (), (), (), (), ()), ())) ?_ (go_d rfl rfl)))
  unfold disk_Disk_names_f1.run
  refine go_o rfl (go_o (v := (sortKeys d.files, ())) (go_t (room_t (by omega) (by omega)) rfl) (go_o e ?_))
  rw [hb, hnl, List.take_length]

theorem rcrash_ok (hN : 8796093022208 ≤ N) {r : RS} (h : RB r) (keep : List Int) : ref_Crash.run N r.t keep = some ((rCrash r keep).t, ()) := by
  have hc := h.cnt
  have hsum := h.sum
  obtain ⟨b, hb, e⟩ := loop_turn (go := fun fuel b i => ref_Crash_0.go N fuel keep r.room r.steps r.files r.armed r.dead r.left r.room 0 b false false 0 i) (n := r.files.length) (fin := fun b => ((r.room, (0 : Int), b, false, false, (0 : Int), ()), ())) (fun i b => b = crashF (r.files.take i) keep) (by omega) (fun fuel b _ => go_n (by omega) rfl)
    (fun i hi b hb => ⟨_, rfl, fun fuel => by
      have hmem : r.files[i] ∈ r.files := List.getElem_mem hi
      have hsl := sumL_mem hmem
      have hla := h.last _ hmem
      have hlen : b.length ≤ i := by rw [hb, crash_len, List.length_take]; omega
      have hfo := found_ok hla (keep.drop i)
      have hn : ∃ n : Int, ref_Crash_0_0.run N keep (i : Int) (r.files[i]).1 (r.files[i]).2.1 (r.files[i]).2.2 0 = some (n, ()) ∧ IntKind.i64.wrap ((r.files[i]).2.2 + n) = found (r.files[i]).2 (keep.drop i) := by
        unfold ref_Crash_0_0.run
        have hgd : (keep.drop i).getD 0 0 = keep.getD i 0 := by rw [List.getD_eq_getElem?_getD, List.getElem?_drop, Nat.add_zero, List.getD_eq_getElem?_getD]
        unfold found
        rw [hgd]
        by_cases h1 : i < keep.length
        · by_cases h2 : keep.getD i 0 > 0
          · refine ⟨_, go_d (by omega) (go_t (inB_nat h1) (go_d (by rw [Int.toNat_natCast]; exact h2) (go_t (inB_nat h1) rfl))), ?_⟩
            rw [Int.toNat_natCast, wrap_i64 (x := ((r.files[i]).2.1.length : Int) - (r.files[i]).2.2) (by omega) (by omega), wrap_i64 (by omega) (by omega)]
            omega
          · refine ⟨_, go_d (by omega) (go_t (inB_nat h1) (go_n (by rw [Int.toNat_natCast]; exact h2) rfl)), ?_⟩
            rw [wrap_i64 (by omega) (by omega)]
            omega
        · have h2 : keep.getD i 0 = 0 := by rw [List.getD_eq_getElem?_getD, List.getElem?_eq_none (by omega)]; rfl
          refine ⟨_, go_n (by omega) rfl, ?_⟩
          rw [h2, wrap_i64 (by omega) (by omega)]
          omega
      obtain ⟨n, hn1, hn2⟩ := hn
      refine go_d (by omega) (go_t (inB_nat hi) ?_)
      rw [Int.toNat_natCast, getD_get hi]
      refine go_o hn1 ?_
      dsimp only
      rw [hn2]
      have hj : ref_joined.run N ((r.files[i]).2.1.take (found (r.files[i]).2 (keep.drop i)).toNat) [] = some ((r.files[i]).2.1.take (found (r.files[i]).2 (keep.drop i)).toNat, ()) := by
        rw [joined_ok _ _ (by simp only [List.length_take, List.length_nil]; omega), List.append_nil]
      have hl : (((r.files[i]).2.1.take (found (r.files[i]).2 (keep.drop i)).toNat).length : Int) = found (r.files[i]).2 (keep.drop i) := by
        rw [List.length_take]; omega
      refine go_t (okB_t (Int.le_refl _) (by omega) (by omega)) (go_o hj (go_t (room48 (by omega)) ?_))
      rw [hl, take_succ' hi, crash_snoc, List.length_take, Nat.min_eq_left (Nat.le_of_lt hi), hb]⟩) (show r.files.length < N by omega) (b := []) rfl
  unfold ref_Crash.run
  refine go_o e ?_
  rw [hb, List.take_length]
  rfl

/-! ### Calls of a script -/
abbrev Op := Int × (List UInt8) × (List UInt8) × (List UInt8) × Int × Int × List Int
abbrev o0 : Op := ((0 : Int), ([] : List UInt8), ([] : List UInt8), ([] : List UInt8), (0 : Int), (0 : Int), ([] : List Int))
def dCh (o : Op) (d : DD) : DD × Int :=
  if o.1 = 0 then dAppend d o.2.1 o.2.2.2.1 else if o.1 = 1 then dSync d o.2.1 else if o.1 = 2 then dTrunc d o.2.1 o.2.2.2.2.1 else if o.1 = 3 then dRename d o.2.1 o.2.2.1 else if o.1 = 4 then dRemove d o.2.1
  else if o.1 = 7 then (dArm d o.2.2.2.2.1, 0) else if o.1 = 11 then (dWipe d, 0) else ((dFlip d o.2.1 o.2.2.2.2.1 o.2.2.2.2.2.1).1, if (dFlip d o.2.1 o.2.2.2.2.1 o.2.2.2.2.2.1).2 then 1 else 0)
def rCh (o : Op) (r : RS) : RS × Int :=
  if o.1 = 0 then rAppend r o.2.1 o.2.2.2.1 else if o.1 = 1 then rSync r o.2.1 else if o.1 = 2 then rTrunc r o.2.1 o.2.2.2.2.1 else if o.1 = 3 then rRename r o.2.1 o.2.2.1 else if o.1 = 4 then rRemove r o.2.1
  else if o.1 = 7 then (rArm r o.2.2.2.2.1, 0) else if o.1 = 11 then (rWipe r, 0) else ((rFlip r o.2.1 o.2.2.2.2.1 o.2.2.2.2.2.1).1, if (rFlip r o.2.1 o.2.2.2.2.1 o.2.2.2.2.2.1).2 then 1 else 0)
/-- A call of bounded size. -/
structure OB (o : Op) : Prop where
  name : o.2.1.length ≤ 1099511627776
  to : o.2.2.1.length ≤ 1099511627776
  bytes : o.2.2.2.1.length ≤ 1099511627776
  n : o.2.2.2.2.1 < 9223372036854775808
def cost (o : Op) : Nat := 2 + o.2.2.2.1.length

theorem ch_ok (hN : 8796093022208 ≤ N) {o : Op} (ho : OB o) {d : DD} (hd : ∀ name, (dGet d name).1.length ≤ 2199023255552) {r : RS} (hr : RB r) :
    law_change.run N d.room d.used d.files d.steps d.left d.dead r.t o = some ((dCh o d).1.t, (rCh o r).1.t, decide ((dCh o d).2 = (rCh o r).2), ()) := by
  have hn := ho.name
  have ht := ho.to
  have hb := ho.bytes
  have hg := hd o.2.1
  unfold law_change.run dCh rCh
  by_cases h0 : o.1 = 0
  · simp only [if_pos h0]
    exact go_d h0 (go_o (rappend_ok hN hr _ _ (by omega) (by omega)) (go_o (append_ok hN d _ _ (by omega) (by omega)) rfl))
  simp only [if_neg h0]
  refine go_n h0 ?_
  by_cases h1 : o.1 = 1
  · simp only [if_pos h1]
    exact go_d h1 (go_o (rsync_ok hN hr _) (go_o (sync_ok d _) rfl))
  simp only [if_neg h1]
  refine go_n h1 ?_
  by_cases h2 : o.1 = 2
  · simp only [if_pos h2]
    exact go_d h2 (go_o (rtrunc_ok hN hr _ _) (go_o (trunc_ok d _ _ (by omega)) rfl))
  simp only [if_neg h2]
  refine go_n h2 ?_
  by_cases h3 : o.1 = 3
  · simp only [if_pos h3]
    exact go_d h3 (go_o (rrename_ok hN hr _ _ (by omega)) (go_o (rename_ok hN d _ _ (by omega)) rfl))
  simp only [if_neg h3]
  refine go_n h3 ?_
  by_cases h4 : o.1 = 4
  · simp only [if_pos h4]
    exact go_d h4 (go_o (rremove_ok hN hr _) (go_o (remove_ok d _) rfl))
  simp only [if_neg h4]
  refine go_n h4 ?_
  by_cases h7 : o.1 = 7
  · simp only [if_pos h7]
    exact go_d h7 (go_o (arm_ok d _) (go_o (rarm_ok r _) rfl))
  simp only [if_neg h7]
  refine go_n h7 ?_
  by_cases h11 : o.1 = 11
  · simp only [if_pos h11]
    exact go_d h11 (go_o (wipe_ok d) (go_o (rwipe_ok r) rfl))
  simp only [if_neg h11]
  refine go_n h11 (go_o (rflip_ok hN hr _ _ _) (go_o (flip_ok d _ _ _ (by omega)) ?_))
  have e1 : (dFlip d o.2.1 o.2.2.2.2.1 o.2.2.2.2.2.1).1.t = (d.room, d.used, (dFlip d o.2.1 o.2.2.2.2.1 o.2.2.2.2.2.1).1.files, d.steps, d.left, d.dead, ()) := by
    unfold dFlip
    cases flips (mapHas d.files o.2.1) (dGet d o.2.1) o.2.2.2.2.1 o.2.2.2.2.2.1 <;> rfl
  rw [e1]
  cases (dFlip d o.2.1 o.2.2.2.2.1 o.2.2.2.2.2.1).2 <;> cases (rFlip r o.2.1 o.2.2.2.2.1 o.2.2.2.2.2.1).2 <;> rfl

theorem Inv.ch {k : Nat} {d : DD} {r : RS} (h : Inv k d r) {o : Op} (ho : OB o) (hk : k + cost o ≤ 2199023255552) : (dCh o d).2 = (rCh o r).2 ∧ Inv (k + cost o) (dCh o d).1 (rCh o r).1 := by
  unfold cost at hk ⊢
  have hm : ∀ {d' : DD} {r' : RS}, Inv (k + 2) d' r' → Inv (k + (2 + o.2.2.2.1.length)) d' r' := fun h' => Go.Hay.Inv.mono h' (by omega) hk
  unfold dCh rCh
  by_cases h0 : o.1 = 0
  · simp only [if_pos h0]
    have := Go.Hay.Inv.append h (name := o.2.1) (b := o.2.2.2.1) (by omega)
    rw [← Nat.add_assoc]
    exact this
  simp only [if_neg h0]
  by_cases h1 : o.1 = 1
  · simp only [if_pos h1]
    obtain ⟨a, b⟩ := Go.Hay.Inv.sync h (by omega) o.2.1
    exact ⟨a, hm b⟩
  simp only [if_neg h1]
  by_cases h2 : o.1 = 2
  · simp only [if_pos h2]
    obtain ⟨a, b⟩ := Go.Hay.Inv.trunc h (by omega) o.2.1 o.2.2.2.2.1
    exact ⟨a, hm b⟩
  simp only [if_neg h2]
  by_cases h3 : o.1 = 3
  · simp only [if_pos h3]
    obtain ⟨a, b⟩ := Go.Hay.Inv.rename h (by omega) o.2.1 o.2.2.1
    exact ⟨a, hm b⟩
  simp only [if_neg h3]
  by_cases h4 : o.1 = 4
  · simp only [if_pos h4]
    obtain ⟨a, b⟩ := Go.Hay.Inv.remove h (by omega) o.2.1
    exact ⟨a, hm b⟩
  simp only [if_neg h4]
  by_cases h7 : o.1 = 7
  · simp only [if_pos h7]
    exact ⟨trivial, Go.Hay.Inv.mono (Go.Hay.Inv.arm h _ ho.n) (by omega) hk⟩
  simp only [if_neg h7]
  by_cases h11 : o.1 = 11
  · simp only [if_pos h11]
    exact ⟨trivial, Go.Hay.Inv.mono (Go.Hay.Inv.wipe h) (by omega) hk⟩
  simp only [if_neg h11]
  obtain ⟨a, b⟩ := Go.Hay.Inv.flip h (by omega) o.2.1 o.2.2.2.2.1 o.2.2.2.2.2.1
  exact ⟨by rw [a], hm b⟩
theorem inv_gets {k : Nat} {d : DD} {r : RS} (h : Inv k d r) (name : DNm) : (dGet d name).1.length ≤ 2199023255552 := by
  rw [Go.Hay.Inv.get h]
  exact rb_get (Inv.rb h) name
theorem Inv.change (hN : 8796093022208 ≤ N) {k : Nat} {d : DD} {r : RS} (h : Inv k d r) {o : Op} (ho : OB o) (hk : k + cost o ≤ 2199023255552) :
    law_change.run N d.room d.used d.files d.steps d.left d.dead r.t o = some ((dCh o d).1.t, (rCh o r).1.t, true, ()) ∧ Inv (k + cost o) (dCh o d).1 (rCh o r).1 := by
  obtain ⟨a, b⟩ := Inv.ch h ho hk
  refine ⟨?_, b⟩
  rw [ch_ok hN ho (inv_gets h) (Inv.rb h), decide_eq_true a]

theorem read_law (hN : 8796093022208 ≤ N) {k : Nat} {d : DD} {r : RS} (h : Inv k d r) (name : DNm) {β : Type} {f : DD → Bool → Option β} :
    (obind (disk_Disk_Read.run N d.room d.used d.files d.steps d.left d.dead name) fun (l, b, _) => obind (ref_At.run N r.t name) fun (n_, _) =>
        bif decide (n_ < (0 : Int)) then (bif decide ((l.length : Int) = (0 : Int)) then f d (!b) else f d false)
        else bif b then (bif inB n_ r.t.2.2.1.length then f d (decide (l = (r.t.2.2.1.getD n_.toNat (([] : List UInt8), ([] : List UInt8), (0 : Int))).2.1)) else none) else f d false) = f d true := by
  have hrb := Inv.rb h
  refine go_o (read_ok d name (Nat.le_trans (inv_gets h name) (by omega))) ?_
  rw [Go.Hay.Inv.has h, Go.Hay.Inv.get h]
  rcases at_ok hN hrb name with ⟨hh, j, hj, e1, e2⟩ | ⟨hh, e1⟩
  · refine go_o e1 (go_n (by omega) ?_)
    rw [hh]
    refine go_t rfl (go_t (inB_nat hj) ?_)
    rw [Int.toNat_natCast]
    show f d (decide ((rGet r name).1 = (r.files.getD j e0).2.1)) = _
    rw [e2, decide_eq_true rfl]
  · refine go_o e1 (go_d (by decide) ?_)
    have : rGet r name = f0 := get_no hh f0
    rw [this, hh]
    exact go_d rfl rfl
end
end Go.Hay.Ytccbcmamcdegmaa
