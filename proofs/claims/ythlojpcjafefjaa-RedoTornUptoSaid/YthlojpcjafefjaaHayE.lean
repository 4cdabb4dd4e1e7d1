/- The evaluator of reading operations is right, second part: memory. -/
import Derived.Test.YthlojpcjafefjaaHayD
set_option linter.unusedVariables false
set_option linter.unusedSimpArgs false
namespace Go.Hay
open Go.RowKit
section
variable {P : Program} {U : TEnv} {c : Cf} {w : World} {lk : Lk} {ρ : Operand → Option AV} {e : Operand → Value}

theorem real_zero {d : TD} (h : d.real = true) : 0 < d.size ∧ d.zero.length = d.size := by
  unfold TD.real at h
  split at h
  · cases h
  · simp only [Bool.and_eq_true, Nat.blt_eq] at h
    exact ⟨h.1, Nat.eq_of_beq_eq_true h.2⟩

theorem real_ok [Sites] (hU : U.Ok P) {t : TypeId} (h : (U t).real = true) : TD.kindOk P t (U t) ∧ TD.infoOk P t (U t) ∧ 0 < (U t).size := by
  have hk : (U t).k ≠ .none := by
    intro e
    simp [TD.real, e] at h
  exact ⟨(hU t hk).1, (hU t hk).2.1, (real_zero h).1⟩

theorem run_sizeOf_of {t : TypeId} {d : TD} (h : TD.infoOk P t d) : (sizeOf t).run P w = .ok d.size w := by
  unfold TD.infoOk at h
  cases hi : P.info? t with
  | none => simp [hi] at h
  | some i =>
    simp only [hi, Option.map_some, Option.some.injEq, Prod.mk.injEq] at h
    simp [sizeOf, typeInfo, hi, h.1]

theorem run_isAgg_of {t : TypeId} (h : TD.kindOk P t (U t)) (hr : (U t).real = true) : (isAgg t).run P w = .ok (U t).isAgg w := by
  unfold TD.kindOk at h
  unfold TD.isAgg
  cases hk : (U t).k with
  | none => simp [TD.real, hk] at hr
  | struct fs =>
    rw [hk] at h
    cases hd : P.underlying t with
    | none => simp [hd] at h
    | some d =>
      simp only [hd, Option.bind_some] at h
      cases d <;> simp [fieldsOf] at h
      simp [isAgg, run_underlying hd]
  | other =>
    rw [hk] at h
    cases hd : P.underlying t with
    | none => simp [hd] at h
    | some d =>
      simp only [hd, Option.map_some] at h
      cases d <;> simp [aggDesc] at h <;> simp [isAgg, run_underlying hd]
  | func =>
    rw [hk] at h
    cases hd : P.underlying t with
    | none => simp [hd] at h
    | some d =>
      simp only [hd, Option.map_some] at h
      cases d <;> simp [funcDesc] at h <;> simp [isAgg, run_underlying hd]
  | map k e agg =>
    rw [hk] at h
    simp [isAgg, run_underlying h.1]
  | _ =>
    rw [hk] at h
    simp [isAgg, run_underlying h]

theorem pack_ok {d : TD} {cs : List AV} {us : List Value} {v : AV} (h : d.pack cs = some v) (hv : VRs c w cs us) :
    (d.isAgg = true ∧ VR c w v (.agg us.toArray)) ∨ (d.isAgg = false ∧ ∃ u, us = [u] ∧ VR c w v u) := by
  unfold TD.pack at h
  split at h
  · rename_i ha
    left
    simp only [Option.some.injEq] at h
    subst h
    exact ⟨ha, by simp only [VR]; exact ⟨us, rfl, hv⟩⟩
  · rename_i ha
    right
    refine ⟨ha, ?_⟩
    split at h
    · rename_i x
      simp only [Option.some.injEq] at h
      subst h
      simp only [VRs] at hv
      obtain ⟨u, us', rfl, h1, rfl⟩ := hv
      exact ⟨u, rfl, h1⟩
    · cases h

theorem run_load_of [Sites] (hU : U.Ok P) {t : TypeId} (hr : (U t).real = true) {b o : Nat} {us : List Value} (hl : us.length = (U t).size) (hc : CellsAt w b o us)
    {u : Value} (hu : ((U t).isAgg = true ∧ u = .agg us.toArray) ∨ ((U t).isAgg = false ∧ us = [u])) : (loadVar t ⟨b, o, none⟩).run P w = .ok u w := by
  obtain ⟨hk, hi, hs⟩ := real_ok hU hr
  rcases hu with ⟨ha, rfl⟩ | ⟨ha, rfl⟩
  · have hlc : (loadCells ⟨b, o, none⟩ us.length).run P w = .ok us.toArray w := run_loadCells_list (P := P) w ⟨b, o, none⟩ us fun j v hj => by
      rw [addr_add]; exact hc j v hj
    simp [loadVar, run_isAgg_of hk hr, ha, run_sizeOf_of hi, ← hl, hlc]
  · have h0 := hc 0 u rfl
    simp at h0
    simp [loadVar, run_isAgg_of hk hr, ha, load, Sem.run, h0]

/-- Known cells are loaded as a value. -/
theorem loadCs_ok [Sites] (hU : U.Ok P) {t : TypeId} (hr : (U t).real = true) {cs : List AV} {v : AV} (h : loadCs (U t) cs = some v) {us : List Value} (hv : VRs c w cs us) {b o : Nat} (hc : CellsAt w b o us) :
    ∃ u, (loadVar t ⟨b, o, none⟩).run P w = .ok u w ∧ VR c w v u := by
  unfold loadCs at h
  split at h
  · rename_i v' hp
    split at h
    · rename_i hlen
      simp only [Option.some.injEq] at h
      subst h
      have hlen := Nat.eq_of_beq_eq_true hlen
      have hvd := hv.take (U t).size
      have hl2 := hvd.length
      rw [hlen] at hl2
      rcases pack_ok hp hvd with ⟨ha, hv'⟩ | ⟨ha, u, hu', hv'⟩
      · exact ⟨_, run_load_of hU hr hl2 hc.take (.inl ⟨ha, rfl⟩), hv'⟩
      · exact ⟨u, run_load_of hU hr hl2 hc.take (.inr ⟨ha, hu'⟩), hv'⟩
    · cases h
  · cases h

theorem inB_iff {k : Int} {n : Nat} : inB k n = true ↔ 0 ≤ k ∧ k < (n : Int) := by simp [inB]

/-- Element i of a slice that can be read. -/
theorem SeqAt.elem [Sites] {t : Ty} {l : List t.den} {A : Option Addr} {n cap : Nat} (h : SeqAt c w t l (.slice A n cap)) {i : Nat} (hi : i < l.length) :
    ∃ b o, A = some ⟨b, o, none⟩ ∧ ∃ us, TR c.I w t (l.getD i t.dflt) us ∧ CellsAt w b (o + i * t.size) us := by
  obtain ⟨A', cap', us, e, h1, h2, h3, hc, hcell⟩ := h
  simp only [Value.slice.injEq] at e
  obtain ⟨rfl, rfl, rfl⟩ := e
  cases A with
  | none => have := h3 rfl; omega
  | some ad =>
    obtain ⟨hs, hcl⟩ := hcell ad rfl (by omega)
    obtain ⟨b, o, sp⟩ := ad
    simp only at hs hcl
    subst hs
    refine ⟨b, o, rfl, _, Cat.get TR_len_fun hc (x := l.getD i t.dflt) (by simp [List.getElem?_eq_getElem hi]), (hcl.drop (n := i * t.size)).take⟩

theorem SliceAt.elem [Sites] {t : Ty} {l : List t.den} {A : Option Addr} {n cap : Nat} (h : SliceAt c.I w (TR c.I w t) l (.slice A n cap)) {i : Nat} (hi : i < l.length) :
    ∃ b o, A = some ⟨b, o, none⟩ ∧ c.I b ∧ ∃ us, TR c.I w t (l.getD i t.dflt) us ∧ CellsAt w b (o + i * t.size) us := by
  obtain ⟨b, o, rfl, us, h1, h2⟩ := (SliceAt.seq h).elem hi
  obtain ⟨A', cap', e, _, _, _, h4⟩ := h
  simp only [Value.slice.injEq] at e
  obtain ⟨rfl, rfl, rfl⟩ := e
  exact ⟨b, o, rfl, (h4 _ rfl (by omega)).2.1, us, h1, h2⟩

theorem run_index_slice [Sites] (hU : U.Ok P) {t el : TypeId} (hk : (U t).k = .slice el) (hr : (U el).real = true) {b o n cap : Nat} {k : Int} {kk : IntKind} (h : 0 ≤ k ∧ k < (n : Int)) :
    (Instr.indexAt t (.slice (some ⟨b, o, none⟩) n cap) (.int kk k)).run P w = .ok (.pointer (some ⟨b, o + k.toNat * (U el).size, none⟩)) w := by
  have hu := (hU t (by simp [hk])).1
  simp only [TD.kindOk, hk] at hu
  obtain ⟨_, hinfo, _⟩ := real_ok hU hr
  simp [Instr.indexAt, asIntOf, run_underlying hu, h.1, h.2, run_sizeOf_of hinfo, addr_add]

theorem eptr_elem {t : Ty} {x : t.den} {us : List Value} {b o : Nat} (hI : c.I b) (h1 : TR c.I w t x us) (h2 : CellsAt w b o us) : VR c w (.eptr (cellsOf t x)) (.pointer (some ⟨b, o, none⟩)) := by
  simp only [VR]
  exact ⟨b, o, us, rfl, fun _ => hI, cellsOf_ok h1, h2⟩

theorem vIndexAddr_ok [Sites] (hU : U.Ok P) {o : Oper} {t : TypeId} {x i : Operand} (ho : o.op = .indexAddr t x i) {v : AV} (h : vIndexAddr U lk (U t) (ρ x) (ρ i) = some (v, true)) (hρ : Ops.Ok c w ρ e) (hk : Obs.Ok c w lk) : Reads P c w (execOp e o) v := by
  unfold vIndexAddr at h
  split at h
  · rename_i el hkk
    split at h
    · rename_i ik k hr hi
      have hi' := hρ _ _ hi
      simp only [VR] at hi'
      split at h
      · rename_i t' l hx
        split at h
        · rename_i hb
          have hb := Nat.eq_of_beq_eq_true hb
          simp only [Option.some.injEq, Prod.mk.injEq] at h
          obtain ⟨rfl, hq⟩ := h
          have hq := inB_iff.1 hq
          have hx' := hρ _ _ hx
          simp only [VR] at hx'
          have hx2 := hx'
          obtain ⟨A, cap, ex, _⟩ := hx2
          rw [ex] at hx'
          obtain ⟨b, q, rfl, hI, us, h1, h2⟩ := hx'.elem (i := k.toNat) (by omega)
          exact ⟨_, by simp [execOp, ho, ex, hi'.1, run_index_slice hU hkk hr hq]; rfl, by rw [← hb]; exact eptr_elem hI h1 h2⟩
        · cases h
      · rename_i sz n cs hx
        split at h
        · rename_i hb
          have hb := Nat.eq_of_beq_eq_true hb
          simp only [Option.some.injEq, Prod.mk.injEq] at h
          obtain ⟨rfl, hq⟩ := h
          have hq := inB_iff.1 hq
          have hx' := hρ _ _ hx
          simp only [VR] at hx'
          obtain ⟨b, us, ex, hn, hI, hp, hc⟩ := hx'
          refine ⟨_, by simp [execOp, ho, ex, hi'.1, run_index_slice hU hkk hr hq]; rfl, ?_⟩
          simp only [VR]
          refine ⟨b, k.toNat * sz, us.drop (k.toNat * sz), by rw [hb], fun _ => hI, hp.drop _, fun j u hj => ?_⟩
          rw [List.getElem?_drop] at hj
          have := hc _ u hj
          rwa [Nat.zero_add] at this
        · cases h
      · rename_i id hx
        have hx' := hρ _ _ hx
        simp only [VR] at hx'
        split at h
        · rename_i e' t' l hl
          split at h
          · rename_i hb
            have hb := Nat.eq_of_beq_eq_true hb
            simp only [Option.some.injEq, Prod.mk.injEq] at h
            obtain ⟨rfl, hq⟩ := h
            have hq := inB_iff.1 hq
            obtain ⟨v, us, h1, h2, h3⟩ := hk _ _ hl
            rw [hx'.1] at h1
            simp only [Option.some.injEq] at h1
            rcases h2.2 with ⟨h0, _⟩ | ⟨b, cap, cur, ev, _⟩ | ⟨b, es, q, ev, _⟩
            rotate_left 2
            · have h4 := hx'.2
              rw [h1, ev] at h4
              cases h4
            · omega
            · rw [ev] at h1
              refine ⟨_, by simp [execOp, ho, h1, hi'.1, run_index_slice hU hkk hr hq]; rfl, ?_⟩
              simp only [VR]
              exact ⟨b, l.length, cap, by rw [hx'.1, h1], by rw [← hb]; simp⟩
          · cases h
        · rename_i t' l hl
          split at h
          · rename_i hb
            have hb := Nat.eq_of_beq_eq_true hb
            simp only [Option.some.injEq, Prod.mk.injEq] at h
            obtain ⟨rfl, hq⟩ := h
            have hq := inB_iff.1 hq
            obtain ⟨v, h1, h2⟩ := hk _ _ hl
            rw [hx'.1] at h1
            simp only [Option.some.injEq] at h1
            have hx2 := h2
            obtain ⟨A, cap, ex, _⟩ := hx2
            rw [ex] at h2
            obtain ⟨b, q, rfl, hI, us, h3, h4⟩ := h2.elem (i := k.toNat) (by omega)
            exact ⟨_, by simp [execOp, ho, h1, ex, hi'.1, run_index_slice hU hkk hr hq]; rfl, by rw [← hb]; exact eptr_elem hI h3 h4⟩
          · cases h
        · cases h
      · cases h
    · cases h
  · rename_i n el hkk
    split at h
    · rename_i ik k hr hi
      have hi' := hρ _ _ hi
      simp only [VR] at hi'
      split at h
      · rename_i id n' hx
        have hx' := hρ _ _ hx
        simp only [VR] at hx'
        split at h
        · rename_i e' t' l hl
          split at h
          · rename_i hb
            simp only [Bool.and_eq_true] at hb
            have hb1 := Nat.eq_of_beq_eq_true hb.1
            have hb2 := Nat.eq_of_beq_eq_true hb.2
            simp only [Option.some.injEq, Prod.mk.injEq] at h
            obtain ⟨rfl, hq⟩ := h
            have hq := inB_iff.1 hq
            subst hb2
            obtain ⟨b, h1, _, h2⟩ := hx'
            have hu := (hU t (by simp [hkk])).1
            simp only [TD.kindOk, hkk] at hu
            obtain ⟨_, hinfo, _⟩ := real_ok hU hr
            refine ⟨.pointer (some ⟨b, k.toNat * (U el).size, none⟩), ?_, ?_⟩
            · simp [execOp, ho, h2, hi'.1, Instr.indexAt, asIntOf, run_underlying hu, Instr.sureAddr, hq.1, hq.2, run_sizeOf_of hinfo, addr_add]
            · simp only [VR]
              exact ⟨b, n', n', h1, by rw [hb1]; simp⟩
          · cases h
        · cases h
      · cases h
    · cases h
  · cases h

theorem vNil_ok [Sites] {o : Oper} {x : Operand} (ho : o.op = .nilCheck x) {v : AV} {q : Bool} (h : vNil (ρ x) = some (v, q)) (hρ : Ops.Ok c w ρ e) : Reads P c w (execOp e o) v := by
  unfold vNil at h
  split at h
  · rename_i i j hx
    have h1 := hρ _ _ hx
    have h1' := h1
    simp only [VR] at h1
    obtain ⟨b, _, e1⟩ := h1
    rw [(ok_some h).1]
    exact ⟨e x, by simp [execOp, ho, e1], h1'⟩
  · rename_i cs hx
    have h1 := hρ _ _ hx
    have h1' := h1
    simp only [VR] at h1
    obtain ⟨b, q, us, e1, _⟩ := h1
    rw [(ok_some h).1]
    exact ⟨e x, by simp [execOp, ho, e1], h1'⟩
  · rename_i i1 i2 i j hx
    have h1 := hρ _ _ hx
    have h1' := h1
    simp only [VR] at h1
    obtain ⟨b, n, m, _, e1⟩ := h1
    rw [(ok_some h).1]
    exact ⟨e x, by simp [execOp, ho, e1], h1'⟩
  · rename_i i j hx
    have h1 := hρ _ _ hx
    have h1' := h1
    simp only [VR] at h1
    obtain ⟨b, _, _, e1⟩ := h1
    rw [(ok_some h).1]
    exact ⟨e x, by simp [execOp, ho, e1], h1'⟩
  · rename_i f a b hx
    have h1 := hρ _ _ hx
    have h1' := h1
    simp only [VR] at h1
    obtain ⟨us, vs, e1, _⟩ := h1
    rw [(ok_some h).1]
    exact ⟨e x, by simp [execOp, ho, e1], h1'⟩
  · cases h

theorem fields_at {t : TypeId} {fs : List (TypeId × Nat)} (h : (P.underlying t).bind fieldsOf = some fs) {f : Nat} {d : TypeId × Nat} (hd : fs[f]? = some d) :
    ∃ Fs F, P.underlying t = some (.struct Fs) ∧ Fs[f]? = some F ∧ F.type = d.1 ∧ F.offset = d.2 := by
  cases hu : P.underlying t with
  | none => simp [hu] at h
  | some D =>
    simp only [hu, Option.bind_some] at h
    cases D <;> simp [fieldsOf] at h
    rename_i Fs
    subst h
    simp only [List.getElem?_map, Array.getElem?_toList, Option.map_eq_some_iff] at hd
    obtain ⟨F, hF, rfl⟩ := hd
    exact ⟨Fs, F, rfl, hF, rfl, rfl⟩

theorem vFieldAddr_ok [Sites] (hU : U.Ok P) {o : Oper} {t : TypeId} {x : Operand} {f : Nat} (ho : o.op = .fieldAddr t x f) {v : AV} {q : Bool} (h : vFieldAddr U (U t) (ρ x) f = some (v, q)) (hρ : Ops.Ok c w ρ e) : Reads P c w (execOp e o) v := by
  unfold vFieldAddr at h
  split at h
  · rename_i fs hk
    have hu := (hU t (by simp [hk])).1
    simp only [TD.kindOk, hk] at hu
    split at h
    · rename_i d hd
      obtain ⟨Fs, F, hP, hF, e1, e2⟩ := fields_at hu hd
      split at h
      · rename_i hr
        obtain ⟨_, hi, hs⟩ := real_ok hU hr
        rw [← e1] at hi
        have hsz : (sizeOf F.type).run P w = .ok (U F.type).size w := run_sizeOf_of (by rw [← e1] at *; exact hi)
        have hne : (U F.type).size ≠ 0 := by rw [e1]; omega
        split at h
        · rename_i i j hx
          have h1 := hρ _ _ hx
          simp only [VR] at h1
          obtain ⟨b, h1, h2⟩ := h1
          rw [(ok_some h).1]
          refine ⟨.pointer (some ⟨b, j + d.2, none⟩), ?_, by simp only [VR]; exact ⟨b, h1, rfl⟩⟩
          simp [execOp, ho, h2, Instr.fieldAt, run_underlying hP, hF, Instr.sureAddr, fieldPlace, hsz, hne, e2, addr_add]
        · rename_i i1 i2 i j hx
          have h1 := hρ _ _ hx
          simp only [VR] at h1
          obtain ⟨b, n, cap, h1, h2⟩ := h1
          rw [(ok_some h).1]
          refine ⟨.pointer (some ⟨b, i * i2 + j + d.2, none⟩), ?_, by simp only [VR]; exact ⟨b, n, cap, h1, by rw [Nat.add_assoc]⟩⟩
          simp [execOp, ho, h2, Instr.fieldAt, run_underlying hP, hF, Instr.sureAddr, fieldPlace, hsz, hne, e2, addr_add]
        · rename_i cs hx
          have h1 := hρ _ _ hx
          simp only [VR] at h1
          obtain ⟨b, q, us, e3, hI, hp, hc⟩ := h1
          rw [(ok_some h).1]
          refine ⟨.pointer (some ⟨b, q + d.2, none⟩), ?_, by simp only [VR]; exact ⟨b, q + d.2, us.drop d.2, rfl, fun hl => hI (by simp at hl; omega), hp.drop _, hc.drop⟩⟩
          simp [execOp, ho, e3, Instr.fieldAt, run_underlying hP, hF, Instr.sureAddr, fieldPlace, hsz, hne, e2, addr_add]
        · cases h
      · cases h
    · cases h
  · cases h

theorem vField_ok [Sites] (hU : U.Ok P) {o : Oper} {t : TypeId} {x : Operand} {f : Nat} (ho : o.op = .field t x f) {v : AV} {q : Bool} (h : vField U (U t) (ρ x) f = some (v, q)) (hρ : Ops.Ok c w ρ e) : Reads P c w (execOp e o) v := by
  unfold vField at h
  split at h
  · rename_i fs hk
    have hu := (hU t (by simp [hk])).1
    simp only [TD.kindOk, hk] at hu
    split at h
    · rename_i d hd
      obtain ⟨Fs, F, hP, hF, e1, e2⟩ := fields_at hu hd
      split at h
      · rename_i cs hr hx
        obtain ⟨hkd, hi, hs⟩ := real_ok hU hr
        have h1 := hρ _ _ hx
        simp only [VR] at h1
        obtain ⟨us, e3, hv⟩ := h1
        split at h
        · rename_i v' hp
          split at h
          · rename_i hb
            rw [(ok_some h).1]
            have hlen := Nat.eq_of_beq_eq_true hb
            have hvd : VRs c w ((cs.drop d.2).take (U d.1).size) ((us.drop d.2).take (U d.1).size) := (hv.drop _).take _
            have hl2 := hvd.length
            rw [hlen] at hl2
            have hg : (isAgg F.type).run P w = .ok (U F.type).isAgg w := by rw [e1]; exact run_isAgg_of hkd hr
            have hz : (sizeOf F.type).run P w = .ok (U F.type).size w := by rw [e1]; exact run_sizeOf_of hi
            rcases pack_ok hp hvd with ⟨ha, hv'⟩ | ⟨ha, u, hu', hv'⟩
            · refine ⟨_, ?_, hv'⟩
              have hg' : (isAgg F.type).run P w = .ok true w := by rw [hg, e1, ha]
              have : us.toArray.extract d.2 (d.2 + (U d.1).size) = ((us.drop d.2).take (U d.1).size).toArray := by
                simp [List.extract_toArray, List.extract_eq_drop_take']
              rw [e1] at hg' hz
              simp [execOp, ho, e3, Instr.field, run_underlying hP, hF, part, hg', hz, asAgg, e1, e2, List.extract_eq_drop_take']
            · refine ⟨u, ?_, hv'⟩
              have hg' : (isAgg F.type).run P w = .ok false w := by rw [hg, e1, ha]
              have hget : us[d.2]? = some u := by
                have h0 : ((us.drop d.2).take (U d.1).size)[0]? = some u := by rw [hu']; rfl
                rw [List.getElem?_take, if_pos hs, List.getElem?_drop] at h0
                simpa using h0
              simp [execOp, ho, e3, Instr.field, run_underlying hP, hF, part, hg', asAgg, e2, hget]
          · cases h
        · cases h
      · cases h
    · cases h
  · cases h

theorem vIndex_ok [Sites] (hU : U.Ok P) {o : Oper} {t : TypeId} {x i : Operand} (ho : o.op = .index t x i) {v : AV} (h : vIndex (U t) (ρ x) (ρ i) = some (v, true)) (hρ : Ops.Ok c w ρ e) : Reads P c w (execOp e o) v := by
  unfold vIndex at h
  split at h
  · rename_i hk
    have hu := (hU t (by simp [hk])).1
    simp only [TD.kindOk, hk] at hu
    split at h
    · rename_i b kk k hx hi
      simp only [Option.some.injEq, Prod.mk.injEq] at h
      obtain ⟨rfl, hq⟩ := h
      have hq := inB_iff.1 hq
      have hi' := hρ _ _ hi
      have hx' := hρ _ _ hx
      simp only [VR] at hi' hx'
      have hlt : k.toNat < b.length := by omega
      refine ⟨.int .u8 ((b.getD k.toNat 0).toNat : Int), ?_, by simp only [VR]; exact ⟨trivial, fits_byte _⟩⟩
      have hg : (⟨b.toArray⟩ : ByteArray)[k.toNat]? = some (b.getD k.toNat 0) := by
        have h0 : k.toNat < (⟨b.toArray⟩ : ByteArray).size := by simpa [ByteArray.size] using hlt
        have h1 : (⟨b.toArray⟩ : ByteArray)[k.toNat]? = some (⟨b.toArray⟩ : ByteArray)[k.toNat] := by simp [h0]
        rw [h1]
        simp [hlt, ByteArray.getElem_eq_getElem_data]
      simp only [execOp, ho, hx'.1, hi'.1, Instr.index, asIntOf, Sem.run_bind, Sem.run_pure, Result.andThen_ok, run_underlying hu, hq.1, if_true, hg]
    · cases h
  · cases h

theorem vLoad_ok [Sites] (hU : U.Ok P) {o : Oper} {t : TypeId} {x : Operand} (ho : o.op = .load t x) {v : AV} (h : vLoad lk (U t) (ρ x) = some (v, true)) (hρ : Ops.Ok c w ρ e) (hk : Obs.Ok c w lk) : Reads P c w (execOp e o) v := by
  unfold vLoad at h
  split at h
  · rename_i hr
    split at h
    · rename_i i j hx
      have h1 := hρ _ _ hx
      simp only [VR] at h1
      obtain ⟨b, h1, h2⟩ := h1
      split at h
      · rename_i bt cs hb
        split at h
        rotate_left
        · cases h
        rename_i hbig
        split at h
        · rename_i v' hl
          rw [(ok_some h).1]
          obtain ⟨b', us, h3, h4, h5⟩ := hk _ _ hb
          rw [boxObj_small hbig] at h4
          rw [h1] at h3
          simp only [Option.some.injEq, Value.pointer.injEq, Addr.mk.injEq, and_true] at h3
          subst h3
          have hc0 : CellsAt w b 0 us := fun k u hk => by
            rw [cell_of_row w b (0 + k) us.toArray bt (0, 0) h4]
            simpa using hk
          have hc := hc0.drop (n := j)
          rw [Nat.zero_add] at hc
          obtain ⟨u, hu, hv⟩ := loadCs_ok (P := P) hU hr hl (h5.drop j) hc
          exact ⟨u, by simp [execOp, ho, h2, Instr.loadAt, Instr.sureAddr, hu], hv⟩
        · cases h
      · cases h
    · rename_i cs hx
      have h1 := hρ _ _ hx
      simp only [VR] at h1
      obtain ⟨b, q, us, e3, hI, hp', hc⟩ := h1
      split at h
      · rename_i v' hl
        rw [(ok_some h).1]
        obtain ⟨u, hu, hv⟩ := loadCs_ok (P := P) hU hr hl hp' hc
        exact ⟨u, by simp [execOp, ho, e3, Instr.loadAt, Instr.sureAddr, hu], hv⟩
      · cases h
    · rename_i id sz i j hx
      have h1 := hρ _ _ hx
      simp only [VR] at h1
      obtain ⟨b, n, cap, h1, h2⟩ := h1
      split at h
      · rename_i e' t' l hl
        split at h
        · rename_i hb
          have hb := Nat.eq_of_beq_eq_true hb
          split at h
          · rename_i v' hv'
            simp only [Option.some.injEq, Prod.mk.injEq, decide_eq_true_eq] at h
            obtain ⟨rfl, hlt⟩ := h
            obtain ⟨v, us, h3, h4, h5⟩ := hk _ _ hl
            rw [h1] at h3
            simp only [Option.some.injEq] at h3
            have hseq := h4.seq (by rw [← h3]; rfl) h5
            rw [← h3] at hseq
            obtain ⟨b', o', e4, us', h6, h7⟩ := hseq.elem hlt
            simp only [Option.some.injEq, Addr.mk.injEq, and_true] at e4
            obtain ⟨rfl, rfl⟩ := e4
            rw [Nat.zero_add, ← hb] at h7
            obtain ⟨u, hu, hv⟩ := loadCs_ok (P := P) hU hr hv' ((cellsOf_ok h6).drop j) (h7.drop (n := j))
            exact ⟨u, by simp [execOp, ho, h2, Instr.loadAt, Instr.sureAddr, hu], hv⟩
          · cases h
        · cases h
      · cases h
    · cases h
  · cases h

theorem vExtract_ok [Sites] {o : Oper} {x : Operand} {i : Nat} (ho : o.op = .extract x i) {v : AV} {q : Bool} (h : vExtract (ρ x) i = some (v, q)) (hρ : Ops.Ok c w ρ e) : Reads P c w (execOp e o) v := by
  unfold vExtract at h
  split at h
  · rename_i cs hx
    have h1 := hρ _ _ hx
    simp only [VR] at h1
    obtain ⟨us, e3, hv⟩ := h1
    obtain ⟨u, hu, hvu⟩ := hv.get (vMove_some h)
    exact ⟨u, by simp [execOp, ho, e3, Instr.extract, hu], hvu⟩
  · cases h
end
end Go.Hay
