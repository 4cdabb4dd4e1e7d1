/- Operations that make or write memory of ours: the evaluator is right, second part. -/
import Derived.Test.YthlojpcjafefjaaHayJ
set_option linter.unusedVariables false
set_option linter.unusedSimpArgs false
namespace Go.Hay
open Go.RowKit
section
variable {P : Program} {U : TEnv} {B : Bs} {c : Cf} {w : World} {s : Obs} {nx : Nat} {ρ : Operand → Option AV} {e : Operand → Value}

theorem flat_rep {α : Type} (l : List α) : ∀ (n i : Nat), i < n * l.length → (List.flatten (List.replicate n l))[i]? = l[i % l.length]?
  | 0, i, h => by omega
  | n + 1, i, h => by
    rw [List.replicate_succ, List.flatten_cons]
    by_cases hi : i < l.length
    · rw [List.getElem?_append_left hi, Nat.mod_eq_of_lt hi]
    · rw [List.getElem?_append_right (by omega), flat_rep l n (i - l.length) (by rw [Nat.add_mul] at h; omega)]
      congr 1
      conv => rhs; rw [show i = (i - l.length) + l.length by omega]
      rw [Nat.add_mod_right]

theorem zeros_list [Sites] (z : Array Value) (n : Nat) (hz : 0 < z.size) : ((Array.range (n * z.size)).map fun i => z[i % z.size]!).toList = List.flatten (List.replicate n z.toList) := by
  apply List.ext_getElem?
  intro i
  by_cases hi : i < n * z.size
  · rw [flat_rep z.toList n i (by simpa using hi)]
    have hm : i % z.size < z.size := Nat.mod_lt _ hz
    simp [hi, hm]
  · have h1 : (List.flatten (List.replicate n z.toList)).length = n * z.size := by simp
    rw [List.getElem?_eq_none (by simp; omega), List.getElem?_eq_none (by omega)]

theorem vrs_flat [Sites] (l : List Value) : ∀ n, VRs c w (List.flatten (List.replicate n (atoms l))) (List.flatten (List.replicate n l))
  | 0 => by simp [VRs]
  | n + 1 => by
    rw [List.replicate_succ, List.replicate_succ, List.flatten_cons, List.flatten_cons]
    exact (vrs_atoms l).append (vrs_flat l n)

theorem fillIn_len {place : Nat → Option (Nat × Nat)} : ∀ (parts : List (Nat × Option AV)) (cs out : List AV), fillIn place cs parts = some out → out.length = cs.length
  | [], cs, out, h => by simp only [fillIn, Option.some.injEq] at h; rw [h]
  | (i, x) :: r, cs, out, h => by
    unfold fillIn at h
    split at h
    · split at h
      · rename_i hb
        simp only [Bool.and_eq_true, Nat.ble_eq] at hb
        have hb1 := Nat.eq_of_beq_eq_true hb.1.1
        rw [fillIn_len r _ out h]
        simp only [List.length_append, List.length_take, List.length_drop]
        omega
      · cases h
    · cases h

theorem Ops.ext {c' : Cf} {w' : World} (h : Ops.Ok c w ρ e) (hE : Ext c w c' w') : Ops.Ok c' w' ρ e := fun o x hx => VR.ext hE _ _ (h o x hx)

theorem eBuildSlice_ok [Sites] (hU : U.Ok P) {o : Oper} {t : TypeId} {len : Nat} {parts : Array (Nat × Operand)} (ho : o.op = .buildSlice t len parts) {v : AV} {s1 : Obs} {n1 : Nat}
    (h : eBuildSlice U s nx (U t) len (evParts ρ parts.toList) = some (v, s1, n1, true)) (hR : Rel B c s w) (hρ : Ops.Ok c w ρ e) : Does P B c w (execOp e o) v s1 := by
  unfold eBuildSlice at h
  split at h
  · rename_i el hk
    have hu := (hU t (by simp [hk])).1
    simp only [TD.kindOk, hk] at hu
    split at h
    · rename_i T hr hT
      obtain ⟨_, hi, hs⟩ := real_ok hU hr
      obtain ⟨z, hz, hzc⟩ := run_zero_of (w := w) hi
      have hzs : z.cells.size = (U el).size := by rw [← Array.length_toList, hzc]; exact (real_zero hr).2
      split at h
      · rename_i cs hf
        split at h
        · rename_i l hml
          split at h
          · rename_i hc
            simp only [Bool.and_eq_true, Nat.ble_eq] at hc
            obtain ⟨hc1, hc2, hc3⟩ := hc
            have hc2 := Nat.eq_of_beq_eq_true hc2
            simp only [Option.some.injEq, Prod.mk.injEq] at h
            obtain ⟨rfl, rfl, _⟩ := h
            have hzl : VRs c w (List.flatten (List.replicate len (atoms (U el).zero))) ((Array.range (len * (U el).size)).map fun i => z.cells[i % z.cells.size]!).toList := by
              rw [← hzs, zeros_list z.cells len (by omega), hzc]
              exact vrs_flat _ _
            obtain ⟨cells', hfill, hv⟩ := fillIn_ok (place' := fun i => some (i * (U el).size, (U el).size)) (fun i p hp => hp) _ _ _ _ _ (parts_ok hρ parts.toList) hf hzl
            obtain ⟨I1, hR1, hE1⟩ := frz_ok cs hR
            obtain ⟨hcat, hll⟩ := mkList_ok hR1.obs hml (VRs.ext hE1 _ _ hv)
            have hlen := hcat.length TR_len_fun
            obtain ⟨c', g1, g2, g3⟩ := newRow_does (nx := nx) (el := el) (t := T) (l := l) (v := .slice (some ⟨w.heap.size, 0, none⟩) len len) (us := cells'.toList) (w' := w.alloc (.cells cells' el)) hR1 (isFresh_none hc1)
              (fun b hb => Below.heap_alloc w _ b hb) rfl rfl rfl (by simp)
              ⟨hlen, by
                rcases Nat.eq_zero_or_pos len with h0 | h0
                · exact .inl ⟨by omega, _, by rw [h0]⟩
                · refine .inr <| .inl ⟨w.heap.size, len, cells', by rw [hll], h0, by omega, ?_, heap_alloc_new w _, by rw [← Array.length_toList, hlen, hll], by rw [← hlen, List.take_length]⟩
                  have := Nat.le_mul_of_pos_right len hs
                  unfold maxLen; omega⟩
              (fun b hb => by
                simp only [blockOf] at hb
                split at hb
                · cases hb
                · simp only [Option.some.injEq] at hb; omega) hcat
            refine ⟨c', _, _, .inl ?_, g1, by simp only [VR]; exact ⟨g2, rfl⟩, hE1.trans g3⟩
            have hne : ¬ len * (U el).size > 2 ^ 24 := by omega
            simp only [execOp, ho, Instr.buildSlice, Sem.run_bind, run_underlying hu, Result.andThen_ok, run_sizeOf_of hi, hne, if_false]
            have hm : (Array.map (fun p : Nat × Operand => (p.1, e p.2)) parts).toList = parts.toList.map fun p => (p.1, e p.2) := by simp
            rw [hm]
            split
            · rename_i h0
              rw [h0] at hfill ⊢
              have hr0 : ∀ f : Nat → Value, Array.map f (Array.range 0) = #[] := fun f => by apply Array.toList_inj.1; simp
              rw [hr0] at hfill
              simp only [Sem.run_bind, Sem.run_pure, Result.andThen_ok, hr0, hfill]
              simp [Go.newRow, newObj, Sem.run]
            · simp only [Sem.run_bind, hz, Result.andThen_ok, Sem.run_pure, hfill]
              simp [Go.newRow, newObj, Sem.run]
          · cases h
        · cases h
      · cases h
    · rename_i hr hT
      obtain ⟨_, hi, hs⟩ := real_ok hU hr
      obtain ⟨z, hz, hzc⟩ := run_zero_of (w := w) hi
      have hzs : z.cells.size = (U el).size := by rw [← Array.length_toList, hzc]; exact (real_zero hr).2
      split at h
      · rename_i cs hf
        split at h
        · rename_i hc
          simp only [Bool.and_eq_true, Nat.ble_eq, Nat.blt_eq] at hc
          obtain ⟨hc1, hc2, hc3⟩ := hc
          simp only [Option.some.injEq, Prod.mk.injEq] at h
          obtain ⟨rfl, rfl, _⟩ := h
          have hzl : VRs c w (List.flatten (List.replicate len (atoms (U el).zero))) ((Array.range (len * (U el).size)).map fun i => z.cells[i % z.cells.size]!).toList := by
            rw [← hzs, zeros_list z.cells len (by omega), hzc]
            exact vrs_flat _ _
          have hzn : ((Array.range (len * (U el).size)).map fun i => z.cells[i % z.cells.size]!).toList.length = len * (U el).size := by simp
          obtain ⟨cells', hfill, hv⟩ := fillIn_ok (place' := fun i => some (i * (U el).size, (U el).size)) (fun i p hp => hp) _ _ _ _ _ (parts_ok hρ parts.toList) hf hzl
          have hfr := isFresh_none hc1
          obtain ⟨h1, h2⟩ := hR.upd (c' := ⟨c.nm, fun b => c.I b ∨ b = w.heap.size⟩) (w' := w.alloc (.cells cells' el)) nx .dead (fun _ => False)
            (fun _ _ h => h) (fun _ _ => rfl) (fun _ h => .inl h) (fun b hb => hb.imp (fun h => h) fun hb => ⟨.inr (by omega), fun hh => hh, by rw [hb]; simp⟩)
            (fun b hb _ => Below.heap_alloc w _ b hb) (fun b hb => hb.elim) (fun _ => trivial) (fun b hb => hb.elim) rfl rfl rfl (by simp)
          have hlen : cells'.toList.length = len * (U el).size := by
            have h3 := (hv.length).symm
            have h4 := fillIn_len (place := fun i => some (i * (U el).size, (U el).size)) _ _ _ hf
            rw [h4] at h3
            rw [← h3, ← hzn, hzl.length]
          refine ⟨_, _, .slice (some ⟨w.heap.size, 0, none⟩) len len, .inl ?_, h1, ?_, h2⟩
          rotate_left 1
          · simp only [VR]
            refine ⟨w.heap.size, cells'.toList, rfl, ⟨hc2, ?_, ?_⟩, .inr rfl, VRs.ext h2 _ _ hv, fun j u hj => ?_⟩
            · have := Nat.le_mul_of_pos_right len hs
              unfold maxLen; omega
            · rw [← hv.length, hlen]
            · rw [cell_of_row _ w.heap.size (0 + j) cells' el (0, 0) (heap_alloc_new w _), Nat.zero_add]
              simpa using hj
          · have hne : ¬ len * (U el).size > 2 ^ 24 := by omega
            simp only [execOp, ho, Instr.buildSlice, Sem.run_bind, run_underlying hu, Result.andThen_ok, run_sizeOf_of hi, hne, if_false]
            have hm : (Array.map (fun p : Nat × Operand => (p.1, e p.2)) parts).toList = parts.toList.map fun p => (p.1, e p.2) := by simp
            rw [hm]
            split
            · rename_i h0; exact absurd h0 (Nat.ne_of_gt (Nat.mul_pos hc2 hs))
            · simp only [Sem.run_bind, hz, Result.andThen_ok, Sem.run_pure, hfill]
              simp [Go.newRow, newObj, Sem.run]
        · cases h
      · cases h
    · cases h
  · cases h

/-- Cells of a box are written anew. -/
theorem boxSet_rel [Sites] (h : Rel B c s w) {i : Nat} {t : TypeId} (hbig : isBig t = false) {cs0 cs : List AV} (hb : look s i = some (.box t cs0)) {us : List Value} (hv : VRs c w cs us) {b : Nat} (hn : c.nm i = some (.pointer (some ⟨b, 0, none⟩))) :
    Rel B c (put s i (.box t cs)) (w.setRow b us.toArray) ∧ Ext c w c (w.setRow b us.toArray) := by
  have hown : Own c i (.box t cs0) b := ⟨_, hn, rfl⟩
  obtain ⟨b', us0, h1, h2, h3⟩ := h.ob _ _ hb
  rw [boxObj_small hbig] at h2
  rw [hn] at h1
  simp only [Option.some.injEq, Value.pointer.injEq, Addr.mk.injEq, and_true] at h1
  subst h1
  refine h.upd i (.box t cs) (fun k => k = b) (fun _ _ h => h) (fun _ _ => rfl) (fun _ h => h) (fun _ h => .inl h) (fun k _ hk => ?_) (fun k hk => by subst hk; exact h.free hb hown) (fun hE => ?_) (fun k hk => ?_) rfl rfl rfl (by simp [World.setRow])
  · exact setRow_other w b k _ hk
  · exact ⟨b, us, hn, by rw [boxObj_small hbig]; exact setRow_heap w _ _ _ _ _ h2, VRs.ext hE _ _ hv⟩
  · obtain ⟨v, h4, h5⟩ := hk
    rw [hn] at h4
    simp only [Option.some.injEq] at h4
    subst h4
    simp only [blockOf, Option.some.injEq] at h5
    exact .inl h5.symm

theorem splice_take {α : Type} (C vs : List α) {off N : Nat} (h : off + vs.length ≤ N) (hN : N ≤ C.length) :
    (C.take off ++ vs ++ C.drop (off + vs.length)).take N = (C.take N).take off ++ vs ++ (C.take N).drop (off + vs.length) := by
  have h1 : (C.take off).length = off := by simp; omega
  rw [List.take_append, List.take_of_length_le (by simp [h1]; omega), List.take_take, Nat.min_eq_left (by omega), List.drop_take]
  simp [h1]

theorem elem_splice {α : Type} (us vs : List α) {i sz j n : Nat} (hi : i < n) (hl : us.length = n * sz) (hj : j + vs.length ≤ sz) :
    us.take (i * sz) ++ ((((us.drop (i * sz)).take sz).take j) ++ vs ++ (((us.drop (i * sz)).take sz).drop (j + vs.length))) ++ us.drop ((i + 1) * sz) =
      us.take (i * sz + j) ++ vs ++ us.drop (i * sz + j + vs.length) := by
  have hle : i * sz + sz ≤ n * sz := by
    have := Nat.mul_le_mul_right sz (show i + 1 ≤ n by omega)
    rw [Nat.add_mul] at this
    omega
  rw [List.take_take, Nat.min_eq_left (by omega), List.take_add, List.drop_take]
  have e2 : us.drop (i * sz + j + vs.length) = ((us.drop (i * sz)).drop (j + vs.length)).take (sz - (j + vs.length)) ++ us.drop ((i + 1) * sz) := by
    have : us.drop ((i + 1) * sz) = ((us.drop (i * sz)).drop (j + vs.length)).drop (sz - (j + vs.length)) := by
      rw [List.drop_drop, List.drop_drop]
      congr 1
      rw [Nat.add_mul]
      omega
    rw [this, List.take_append_drop, List.drop_drop]
    congr 1
    omega
  rw [e2]
  simp only [List.append_assoc]

/-- An element of a row is written. -/
theorem rowSet_rel [Sites] (h : Rel B c s w) {id : Nat} {el : TypeId} {t : Ty} {l : List t.den} (hl : look s id = some (.row el t l)) {b n cap : Nat} (hn : c.nm id = some (.slice (some ⟨b, 0, none⟩) n cap))
    {i j : Nat} (hi : i < l.length) {vs : List Value} (hj : j + vs.length ≤ t.size) (hone : ∀ u ∈ vs, u.oneCell' = true) {y : t.den}
    (hy : ∀ a, TR c.I w t (l.getD i t.dflt) a → TR c.I w t y (a.take j ++ vs ++ a.drop (j + vs.length))) :
    ∃ w', (storeCells ⟨b, i * t.size + j, none⟩ vs 0).run P w = .ok () w' ∧ Rel B c (put s id (.row el t (l.set i y))) w' ∧ Ext c w c w' := by
  obtain ⟨v, us, h1, h2, h3⟩ := h.ob _ _ hl
  rw [hn] at h1
  simp only [Option.some.injEq] at h1
  rcases h2.2 with ⟨h0, _⟩ | ⟨b', cap', cur, ev, hpos, hnc, hm, hg, hs, ht⟩ | ⟨b', es, q, ev, _⟩
  rotate_left 2
  · rw [ev] at h1; cases h1
  · omega
  · rw [ev] at h1
    simp only [Value.slice.injEq, Option.some.injEq, Addr.mk.injEq, and_true] at h1
    obtain ⟨rfl, rfl, rfl⟩ := h1
    have hown : Own c id (.row el t l) b := ⟨_, hn, by simp [blockOf]; omega⟩
    have hle : i * t.size + t.size ≤ l.length * t.size := by
      have := Nat.mul_le_mul_right t.size (show i + 1 ≤ l.length by omega)
      rw [Nat.add_mul] at this
      omega
    have hle2 : l.length * t.size ≤ cap * t.size := Nat.mul_le_mul_right _ hnc
    have hfit : i * t.size + j + 0 + vs.length ≤ cur.size := by rw [hs]; omega
    have hst := run_storeCells_at P b (i * t.size + j) el vs 0 cur w hg hfit hone
    rw [Nat.add_zero] at hst
    refine ⟨_, hst, ?_⟩
    have hcur : cur.toList.length = cap * t.size := by rw [Array.length_toList, hs]
    have hlen' : (cur.toList.take (i * t.size + j) ++ vs ++ cur.toList.drop (i * t.size + j + vs.length)).length = cap * t.size := by
      simp only [List.length_append, List.length_take, List.length_drop, hcur]; omega
    refine h.upd id (.row el t (l.set i y)) (fun k => k = b) (fun _ _ h => h) (fun _ _ => rfl) (fun _ h => h) (fun _ h => .inl h) (fun k _ hk => setRow_other w b k _ hk) (fun k hk => by subst hk; exact h.free hl hown) (fun hE => ?_) (fun k hk => ?_) rfl rfl rfl (by simp [World.setRow])
    · have hx := Cat.get TR_len_fun h3 (x := l.getD i t.dflt) (i := i) (by simp [List.getElem?_eq_getElem hi])
      have hset := Cat.set TR_len_fun h3 hi (hy _ hx)
      rw [elem_splice us vs hi h2.1 hj] at hset
      refine ⟨_, _, hn, ⟨?_, .inr <| .inl ⟨b, cap, _, by rw [List.length_set], hpos, by rw [List.length_set]; exact hnc, hm, setRow_heap w b cur _ el _ hg, by rw [List.size_toArray, hlen'], ?_⟩⟩, Cat.lasts hE.lasts hset⟩
      · rw [List.length_set]
        simp only [List.length_append, List.length_take, List.length_drop, h2.1]; omega
      · rw [List.length_set, List.toList_toArray, splice_take _ _ (by omega) (by rw [hcur]; omega), ht]
    · obtain ⟨v', h4, h5⟩ := hk
      rw [hn] at h4
      simp only [Option.some.injEq] at h4
      subst h4
      simp [blockOf] at h5
      exact .inl h5.2.symm

theorem eStore_ok [Sites] (hU : U.Ok P) {o : Oper} {t : TypeId} {x y : Operand} (ho : o.op = .store t x y) {v : AV} {s1 : Obs} {n1 : Nat} (h : eStore (U t) s nx (ρ x) (ρ y) = some (v, s1, n1, true)) (hR : Rel B c s w) (hρ : Ops.Ok c w ρ e) : Does P B c w (execOp e o) v s1 := by
  unfold eStore at h
  split at h
  · rename_i i j v' hr hx hy
    obtain ⟨hk, hi, hs⟩ := real_ok hU hr
    have h1 := hρ _ _ hx
    simp only [VR] at h1
    obtain ⟨b, h1, h2⟩ := h1
    split at h
    · rename_i bt cs hb
      split at h
      · rename_i hc
        simp only [Bool.and_eq_true, Nat.ble_eq] at hc
        obtain ⟨⟨hc1, hc2, hc3⟩, hc4⟩ := hc
        have hbig : isBig bt = false := by simpa using hc4
        have hc1 := Nat.eq_of_beq_eq_true hc1
        simp only [Option.some.injEq, Prod.mk.injEq] at h
        obtain ⟨rfl, rfl, _⟩ := h
        obtain ⟨b', us, g1, hw, hv⟩ := hR.ob _ _ hb
        rw [boxObj_small hbig] at hw
        rw [h1] at g1
        simp only [Option.some.injEq, Value.pointer.injEq, Addr.mk.injEq, and_true] at g1
        subst g1
        have hcv := cells_ok hc3 (hρ _ _ hy)
        have hl1 := hcv.length
        have hl2 := hv.length
        have hlc : (e y).cells.toList.length = (U t).size := by rw [hl1, hc1]
        obtain ⟨g2, g3⟩ := boxSet_rel hR hbig hb (((hv.take j).append hcv).append (hv.drop (j + (U t).size))) h1
        refine ⟨c, _, undef, .inr ⟨?_, rfl⟩, g2, by simp only [VR], g3⟩
        have hst := run_storeCells_at P b j bt (e y).cells.toList 0 us.toArray w hw (by simp only [Nat.add_zero, hlc, List.size_toArray]; omega) (allOne_ok hc3 hcv)
        simp only [Nat.add_zero, hlc, List.toList_toArray] at hst
        simp [execOp, ho, h2, Instr.storeAt, Instr.sureAddr, storeVar, run_sizeOf_of hi, hst]
        simpa using hlc
      · cases h
    · cases h
  · rename_i id sz i j v' hr hx hy
    obtain ⟨hk, hi, hs⟩ := real_ok hU hr
    have h1 := hρ _ _ hx
    simp only [VR] at h1
    obtain ⟨b, n, cap, h1, h2⟩ := h1
    split at h
    · rename_i el T l hl
      split at h
      · rename_i y' hmk
        split at h
        · rename_i hc
          simp only [Bool.and_eq_true, Nat.ble_eq] at hc
          obtain ⟨hc0, hc1, hc2, hc3⟩ := hc
          have hc0 := Nat.eq_of_beq_eq_true hc0
          have hc1 := Nat.eq_of_beq_eq_true hc1
          simp only [Option.some.injEq, Prod.mk.injEq, decide_eq_true_eq] at h
          obtain ⟨rfl, rfl, _, hlt⟩ := h
          obtain ⟨I1, hR1, hE1⟩ := frz_ok v'.cells hR
          have hcv := cells_ok hc3 (VR.ext hE1 _ _ (hρ _ _ hy))
          have hl1 := hcv.length
          have hlc : (e y).cells.toList.length = (U t).size := by rw [hl1, hc1]
          obtain ⟨w', g1, g2, g3⟩ := rowSet_rel (P := P) hR1 hl h1 hlt (j := j) (vs := (e y).cells.toList) (by rw [hlc]; exact hc2) (allOne_ok hc3 hcv) (y := y') (fun a ha => by
            rw [hlc]
            exact mk1_ok hR1.obs hmk ((((cellsOf_ok ha).take j).append hcv).append ((cellsOf_ok ha).drop _)))
          refine ⟨_, w', undef, .inr ⟨?_, rfl⟩, g2, by simp only [VR], hE1.trans g3⟩
          rw [← hc0] at g1
          simp [execOp, ho, h2, Instr.storeAt, Instr.sureAddr, storeVar, run_sizeOf_of hi, g1]
          simpa using hlc
        · cases h
      · cases h
    · cases h
  · cases h
end
end Go.Hay
