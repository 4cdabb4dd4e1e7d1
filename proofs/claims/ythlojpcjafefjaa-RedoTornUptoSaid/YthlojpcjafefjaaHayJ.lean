/- Operations that make or write memory of ours: the evaluator is right, first part. -/
import Derived.Test.YthlojpcjafefjaaHayI
set_option linter.unusedVariables false
set_option linter.unusedSimpArgs false
namespace Go.Hay
open Go.RowKit

/-- What an operation does: its run, and what stands behind it. -/
def Does [Sites] (P : Program) (B : Bs) (c : Cf) (w : World) (sem : Sem Next) (v : AV) (s1 : Obs) : Prop :=
  ∃ c' w' u, (sem.run P w = .ok (.value u) w' ∨ (sem.run P w = .ok .skip w' ∧ u = undef)) ∧ Rel B c' s1 w' ∧ VR c' w' v u ∧ Ext c w c' w'

section
variable {P : Program} {U : TEnv} {B : Bs} {c : Cf} {w : World} {s : Obs} {nx : Nat} {ρ : Operand → Option AV} {e : Operand → Value}

theorem Rel.obs [Sites] (h : Rel B c s w) : Obs.Ok c w (look s) := fun id o ho => h.ob id o ho
theorem Rel.rdk [Sites] (h : Rel B c s w) : Obs.Ok c w (rdk s) := fun id o ho => by
  unfold Hay.rdk at ho
  split at ho
  · rename_i o' hl
    simp only [Option.some.injEq] at ho
    subst ho
    exact rd_obr.2 (h.ob id o' hl)
  · cases ho

theorem isFresh_none (h : isFresh s nx = true) : look s nx = none := by
  unfold isFresh at h
  split at h
  · assumption
  · cases h

theorem frozenList_ok [Sites] {lk : Lk} (hk : Obs.Ok c w lk) {t : Ty} {x : AV} {l : List t.den} (h : frozenList lk t x = some l) {u : Value} (hv : VR c w x u) : SliceAt c.I w (TR c.I w t) l u := by
  unfold frozenList at h
  split at h
  · obtain ⟨rfl, rfl⟩ := castL_some h
    simpa only [VR] using hv
  · simp only [Option.some.injEq] at h
    subst h
    simp only [VR] at hv
    obtain ⟨A, rfl⟩ := hv
    exact ⟨A, 0, rfl, Nat.le_refl _, Nat.zero_le _, fun _ => rfl, fun _ _ hp => by simp at hp⟩
  · rename_i id
    simp only [VR] at hv
    split at h
    · rename_i t' l' hl
      obtain ⟨rfl, rfl⟩ := castL_some h
      obtain ⟨v, h1, h2⟩ := hk _ _ hl
      rw [hv.1] at h1; simp only [Option.some.injEq] at h1; subst h1
      exact h2
    · cases h
  · rename_i id sz lo n
    simp only [VR] at hv
    split at h
    · rename_i t' l' hl
      cases hb : Nat.beq sz t'.size with
      | false => simp [hb] at h
      | true =>
        simp only [hb, cond_true] at h
        obtain ⟨rfl, rfl⟩ := castL_some h
        obtain ⟨A, n0, cap, h1, h2, h3, rfl⟩ := hv
        obtain ⟨v, h4, h5⟩ := hk _ _ hl
        rw [h1] at h4
        simp only [Option.some.injEq] at h4
        subst h4
        have hn : l'.length = n0 := by
          obtain ⟨A', cap', e', _⟩ := h5
          simp only [Value.slice.injEq] at e'
          exact e'.2.1.symm
        have := h5.part (lo := lo) (hi := lo + n) TR_len_fun (by omega) (by omega)
        rw [List.drop_take, Nat.add_sub_cancel_left] at this
        rw [← Nat.eq_of_beq_eq_true hb] at this
        exact this
    · cases h
  · cases h

theorem mk_ok [Sites] {lk : Lk} (hk : Obs.Ok c w lk) : ∀ {t : Ty} {cs : List AV} {x : t.den} {r : List AV} {us : List Value}, mk lk t cs = some (x, r) → VRs c w cs us →
    ∃ a b, us = a ++ b ∧ TR c.I w t x a ∧ VRs c w r b
  | .byte, cs, x, r, us, h, hv => by
    simp only [mk] at h
    unfold mkByte at h
    split at h
    · simp only [Option.some.injEq, Prod.mk.injEq] at h
      obtain ⟨rfl, rfl⟩ := h
      simp only [VRs, VR] at hv
      obtain ⟨u, us', rfl, ⟨rfl, hf⟩, h2⟩ := hv
      exact ⟨[_], us', rfl, by simp only [TR]; rw [u8_toNat hf], h2⟩
    · cases h
  | .int k, cs, x, r, us, h, hv => by
    simp only [mk] at h
    unfold mkInt at h
    split at h
    · rename_i k' n r'
      cases hb : ikEq k k' with
      | false => simp [hb] at h
      | true =>
        have := ikEq_eq hb
        subst this
        simp only [hb, cond_true, Option.some.injEq, Prod.mk.injEq] at h
        obtain ⟨rfl, rfl⟩ := h
        simp only [VRs, VR] at hv
        obtain ⟨u, us', rfl, ⟨rfl, hf⟩, h2⟩ := hv
        exact ⟨[_], us', rfl, by simp only [TR]; exact ⟨trivial, hf⟩, h2⟩
    · cases h
  | .bool, cs, x, r, us, h, hv => by
    simp only [mk] at h
    unfold mkBool at h
    split at h
    · simp only [Option.some.injEq, Prod.mk.injEq] at h
      obtain ⟨rfl, rfl⟩ := h
      simp only [VRs, VR] at hv
      obtain ⟨u, us', rfl, rfl, h2⟩ := hv
      exact ⟨[_], us', rfl, by simp only [TR], h2⟩
    · cases h
  | .str, cs, x, r, us, h, hv => by
    simp only [mk] at h
    unfold mkStr at h
    split at h
    · simp only [Option.some.injEq, Prod.mk.injEq] at h
      obtain ⟨rfl, rfl⟩ := h
      simp only [VRs, VR] at hv
      obtain ⟨u, us', rfl, ⟨rfl, hf⟩, h2⟩ := hv
      exact ⟨[_], us', rfl, by simp only [TR]; exact ⟨trivial, hf⟩, h2⟩
    · cases h
  | .slice t, cs, x, r, us, h, hv => by
    cases cs with
    | nil => simp [mk] at h
    | cons y cs =>
      simp only [mk] at h
      split at h
      · rename_i l hl
        simp only [Option.some.injEq, Prod.mk.injEq] at h
        obtain ⟨rfl, rfl⟩ := h
        simp only [VRs] at hv
        obtain ⟨u, us', rfl, h1, h2⟩ := hv
        exact ⟨[u], us', rfl, by simp only [TR]; exact ⟨u, rfl, frozenList_ok hk hl h1⟩, h2⟩
      · cases h
  | .pair a b, cs, x, r, us, h, hv => by
    simp only [mk] at h
    split at h
    · rename_i x1 r1 h1
      split at h
      · rename_i x2 r2 h2
        simp only [Option.some.injEq, Prod.mk.injEq] at h
        obtain ⟨rfl, rfl⟩ := h
        obtain ⟨p, q, rfl, g1, g2⟩ := mk_ok hk h1 hv
        obtain ⟨p', q', rfl, g3, g4⟩ := mk_ok hk h2 g2
        exact ⟨p ++ p', q', by rw [List.append_assoc], by simp only [TR]; exact ⟨p, p', rfl, g1, g3⟩, g4⟩
      · cases h
    · cases h
  | .unit, cs, x, r, us, h, hv => by
    simp only [mk, Option.some.injEq, Prod.mk.injEq] at h
    obtain ⟨_, rfl⟩ := h
    exact ⟨[], us, rfl, by simp only [TR], hv⟩

theorem mk1_ok [Sites] {lk : Lk} (hk : Obs.Ok c w lk) {t : Ty} {cs : List AV} {x : t.den} {us : List Value} (h : mk1 lk t cs = some x) (hv : VRs c w cs us) : TR c.I w t x us := by
  unfold mk1 at h
  split at h
  · rename_i x' h1
    simp only [Option.some.injEq] at h
    subst h
    obtain ⟨a, b, rfl, g1, g2⟩ := mk_ok hk h1 hv
    simp only [VRs] at g2
    rw [g2, List.append_nil]
    exact g1
  · cases h

theorem mkList_ok [Sites] {lk : Lk} (hk : Obs.Ok c w lk) {t : Ty} : ∀ {n : Nat} {cs : List AV} {l : List t.den} {us : List Value}, mkList lk t n cs = some l → VRs c w cs us → Cat (TR c.I w t) l us ∧ l.length = n
  | 0, [], l, us, h, hv => by
    simp only [mkList, Option.some.injEq] at h
    subst h
    simpa [VRs, Cat] using hv
  | 0, _ :: _, l, us, h, hv => by simp [mkList] at h
  | n + 1, cs, l, us, h, hv => by
    simp only [mkList] at h
    split at h
    · rename_i x r h1
      split at h
      · rename_i l' h2
        simp only [Option.some.injEq] at h
        subst h
        obtain ⟨a, b, rfl, g1, g2⟩ := mk_ok hk h1 hv
        obtain ⟨g3, g4⟩ := mkList_ok hk h2 g2
        exact ⟨⟨a, b, rfl, g1, g3⟩, by simp [g4]⟩
      · cases h
    · cases h

/-- A row is not written any more. -/
theorem frz_row [Sites] (h : Rel B c s w) {id : Nat} {el : TypeId} {t : Ty} {l : List t.den} (hl : look s id = some (.row el t l)) (hmt : isMapTy el = false) :
    ∃ I', Rel B ⟨c.nm, I'⟩ (put s id (.frow t l)) w ∧ Ext c w ⟨c.nm, I'⟩ w := by
  refine ⟨fun b => c.I b ∨ Own c id (.row el t l) b, ?_⟩
  refine h.upd (c' := ⟨c.nm, fun b => c.I b ∨ Own c id (.row el t l) b⟩) id (.frow t l) (fun b => Own c id (.row el t l) b) (fun _ _ h => h) (fun _ _ => rfl) (fun _ h => .inl h) (fun b hb => ?_) (fun _ _ _ => rfl)
    (fun b hb => h.free hl hb) (fun hE => ?_) (fun b hb => hb.elim) rfl rfl rfl (Nat.le_refl _)
  · rcases hb with hb | hb
    · exact .inl hb
    · exact .inr ⟨.inl hb, fun hh => hh, (h.ob _ _ hl).lt hb⟩
  · obtain ⟨v, us, h1, h2, h3⟩ := h.ob _ _ hl
    refine ⟨v, h1, ?_⟩
    have h3' := Cat.lasts hE.lasts h3
    rcases h2.2 with ⟨h0, A, rfl⟩ | ⟨b, cap, cur, rfl, hpos, hn, hm, hg, hs, ht⟩ | ⟨b, es, q, _, _, _, _, hq⟩
    rotate_left 2
    · rw [hmt] at hq; cases hq
    · refine ⟨A, 0, by rw [h0], by rw [h0]; exact Nat.le_refl _, Nat.zero_le _, fun _ => h0, fun ad _ hp => by omega⟩
    · refine ⟨some ⟨b, 0, none⟩, cap, rfl, hn, hm, (fun e => by cases e), fun ad ha _ => ?_⟩
      cases ha
      refine ⟨rfl, .inr ⟨_, h1, by simp [blockOf]; omega⟩, us, h3', fun j u hj => ?_⟩
      rw [cell_of_row w b (0 + j) cur el (0, 0) hg, Nat.zero_add]
      rw [← ht, List.getElem?_take] at hj
      split at hj
      · simpa using hj
      · cases hj

theorem frz1_ok [Sites] (h : Rel B c s w) (x : AV) : ∃ I', Rel B ⟨c.nm, I'⟩ (frz1 s x) w ∧ Ext c w ⟨c.nm, I'⟩ w := by
  have hself : ∃ I', Rel B ⟨c.nm, I'⟩ s w ∧ Ext c w ⟨c.nm, I'⟩ w := ⟨c.I, h, Ext.refl c w⟩
  unfold frz1
  split
  · split
    · rename_i hl; exact frz_row h (lookR_row hl).1 (lookR_row hl).2
    · exact hself
  · split
    · rename_i hl; exact frz_row h (lookR_row hl).1 (lookR_row hl).2
    · exact hself
  · exact hself

theorem frz_ok [Sites] : ∀ (xs : List AV) {c : Cf} {s : Obs}, Rel B c s w → ∃ I', Rel B ⟨c.nm, I'⟩ (frz s xs) w ∧ Ext c w ⟨c.nm, I'⟩ w
  | [], c, s, h => ⟨c.I, h, Ext.refl c w⟩
  | x :: xs, c, s, h => by
    obtain ⟨I1, h1, h2⟩ := frz1_ok h x
    obtain ⟨I2, h3, h4⟩ := frz_ok xs h1
    exact ⟨I2, h3, h2.trans h4⟩

/-- A box that is new. -/
theorem newBox_does [Sites] (h : Rel B c s w) {t : TypeId} {cs : List AV} {us : List Value} (hv : VRs c w cs us) {v : AV} {s1 : Obs} {n1 : Nat} (hb : newBox s nx t cs = some (v, s1, n1, true))
    {sem : Sem Next} (hrun : sem.run P w = .ok (.value (.pointer (some ⟨w.heap.size, 0, none⟩))) (w.alloc (.cells us.toArray t))) : Does P B c w sem v s1 := by
  unfold newBox at hb
  split at hb
  · rename_i hc
    simp only [Bool.and_eq_true] at hc
    simp only [Option.some.injEq, Prod.mk.injEq] at hb
    obtain ⟨rfl, rfl, _⟩ := hb
    have hfr := isFresh_none hc.1.1
    have hnone := h.dom nx hfr
    have hbig : isBig t = false := by simpa using hc.2
    obtain ⟨h1, h2⟩ := h.upd (c' := ⟨fun i => if i = nx then some (.pointer (some ⟨w.heap.size, 0, none⟩)) else c.nm i, c.I⟩) (w' := w.alloc (.cells us.toArray t)) nx (.box t cs) (fun _ => False)
      (fun i v hv => by
        by_cases e : i = nx
        · subst e; rw [hnone] at hv; cases hv
        · simp [e, hv])
      (fun i hi => by simp [hi]) (fun _ h => h) (fun b hb => .inl hb) (fun b hb _ => Below.heap_alloc w _ b hb) (fun b hb => hb.elim)
      (fun hE => ⟨w.heap.size, us, by simp, by rw [boxObj_small hbig]; exact heap_alloc_new w _, VRs.ext hE _ _ hv⟩)
      (fun b hb => by
        obtain ⟨v, h1, h2⟩ := hb
        simp at h1
        subst h1
        simp [blockOf] at h2
        right; omega)
      rfl rfl rfl (by simp)
    exact ⟨_, _, _, .inl hrun, h1, by simp only [VR]; exact ⟨w.heap.size, by simp, rfl⟩, h2⟩
  · cases hb

/-- A row that is new. -/
theorem newRow_does [Sites] (h : Rel B c s w) {el : TypeId} {t : Ty} {l : List t.den} {w' : World} {v : Value} {us : List Value} (hfr : look s nx = none)
    (hh : ∀ b, b < w.heap.size → w'.heap[b]? = w.heap[b]?) (hos : w'.os = w.os) (htp : w'.tape = w.tape) (hout : w'.output = w.output) (hsz : w.heap.size ≤ w'.heap.size)
    (hrow : RowAt w' el t.size v l.length us) (hnew : ∀ b, blockOf v = some b → w.heap.size ≤ b) (hcat : Cat (TR c.I w t) l us) :
    ∃ c', Rel B c' (put s nx (.row el t l)) w' ∧ c'.nm nx = some v ∧ Ext c w c' w' := by
  have hnone := h.dom nx hfr
  obtain ⟨h1, h2⟩ := h.upd (c' := ⟨fun i => if i = nx then some v else c.nm i, c.I⟩) (w' := w') nx (.row el t l) (fun _ => False)
    (fun i u hv => by
      by_cases e : i = nx
      · subst e; rw [hnone] at hv; cases hv
      · simp [e, hv])
    (fun i hi => by simp [hi]) (fun _ h => h) (fun b hb => .inl hb) (fun b hb _ => hh b hb) (fun b hb => hb.elim)
    (fun hE => ⟨v, us, by simp, hrow, Cat.lasts hE.lasts hcat⟩)
    (fun b hb => by
      obtain ⟨v', h1, h2⟩ := hb
      simp at h1
      subst h1
      exact .inr (hnew b h2))
    hos htp hout hsz
  exact ⟨_, h1, by simp, h2⟩

theorem eAlloc_ok [Sites] (hU : U.Ok P) {o : Oper} {t : TypeId} (ho : o.op = .alloc t) {v : AV} {s1 : Obs} {n1 : Nat} (h : eAlloc U s nx t = some (v, s1, n1, true)) (hR : Rel B c s w) : Does P B c w (execOp e o) v s1 := by
  unfold eAlloc at h
  split at h
  · rename_i hr
    obtain ⟨z, hz, hzc⟩ := run_zero_of (w := w) (real_ok hU hr).2.1
    have hrun : (execOp e o).run P w = .ok (.value (.pointer (some ⟨w.heap.size, 0, none⟩))) (w.alloc (.cells z.cells t)) := by
      simp [execOp, ho, Instr.alloc, hz, newVar, Go.newRow, newObj, Sem.run]
    split at h
    · rename_i n el hk
      split at h
      · rename_i T hT
        split at h
        · rename_i hc
          simp only [Bool.and_eq_true, Nat.blt_eq, Nat.ble_eq] at hc
          obtain ⟨h0, h1, h2, h3, h4⟩ := hc
          have h3 := Nat.eq_of_beq_eq_true h3
          simp only [Option.some.injEq, Prod.mk.injEq] at h
          obtain ⟨rfl, rfl, _⟩ := h
          have hzl : z.cells.toList.length = n * T.size := by rw [hzc, (real_zero hr).2, h3]
          obtain ⟨c', g1, g2, g3⟩ := newRow_does (nx := nx) (el := t) (t := T) (l := List.replicate n T.dflt) (v := .slice (some ⟨w.heap.size, 0, none⟩) n n) (us := z.cells.toList) (w' := w.alloc (.cells z.cells t)) hR (isFresh_none h0)
            (fun b hb => Below.heap_alloc w _ b hb) rfl rfl rfl (by simp)
            ⟨by rw [List.length_replicate, hzl], .inr <| .inl ⟨w.heap.size, n, z.cells, by rw [List.length_replicate], h1, by rw [List.length_replicate]; exact Nat.le_refl _, by unfold maxLen; omega, heap_alloc_new w _, by rw [← Array.length_toList, hzl],
              by rw [List.length_replicate, ← hzl, List.take_length]⟩⟩
            (fun b hb => by simp [blockOf] at hb; omega) (by rw [hzc]; exact areZero_ok h4)
          exact ⟨c', _, _, .inl hrun, g1, by simp only [VR]; exact ⟨w.heap.size, g2, by unfold maxLen; omega, rfl⟩, g3⟩
        · cases h
      · cases h
    · refine newBox_does hR (us := z.cells.toList) (by rw [hzc]; exact vrs_atoms _) h (by simpa using hrun)
  · cases h

theorem cells_ok [Sites] {x : AV} {u : Value} (h : allOne x.cells = true) (hv : VR c w x u) : VRs c w x.cells u.cells.toList := by
  have one : ∀ (hx : x.cells = [x]), VRs c w x.cells u.cells.toList := fun hx => by
    rw [hx] at h ⊢
    have h1 : u.oneCell' = true := one_ok (by simpa [allOne] using h) hv
    rw [cells_of_one h1]
    simp only [VRs]
    exact ⟨u, [], rfl, hv, rfl⟩
  cases x with
  | agg cs => simp only [VR] at hv; obtain ⟨us, rfl, hv⟩ := hv; simpa [AV.cells, Value.cells] using hv
  | _ => exact one rfl

theorem eBox_ok [Sites] {o : Oper} {t : TypeId} {x : Operand} (ho : o.op = .box t x) {v : AV} {s1 : Obs} {n1 : Nat} (h : eBox s nx t (ρ x) = some (v, s1, n1, true)) (hR : Rel B c s w) (hρ : Ops.Ok c w ρ e) : Does P B c w (execOp e o) v s1 := by
  unfold eBox at h
  split at h
  · rename_i y hy
    have h1 : allOne y.cells = true := by
      unfold newBox at h
      split at h
      · rename_i hc
        simp only [Bool.and_eq_true] at hc
        exact hc.1.2
      · cases h
    refine newBox_does hR (us := (e x).cells.toList) (cells_ok h1 (hρ _ _ hy)) h ?_
    simp [execOp, ho, Instr.box, newVar, Go.newRow, newObj, Sem.run]
  · cases h
end
end Go.Hay
