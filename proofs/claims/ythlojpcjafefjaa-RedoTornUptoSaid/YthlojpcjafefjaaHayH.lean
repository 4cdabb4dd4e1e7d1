/- All reading operations: right, and looking at nothing but what they name. -/
import Derived.Test.YthlojpcjafefjaaHayGa
set_option linter.unusedVariables false
set_option linter.unusedSimpArgs false
namespace Go.Hay
open Go.RowKit
section
variable {P : Program} {U : TEnv} {c : Cf} {w : World} {lk : Lk} {ρ : Operand → Option AV} {e : Operand → Value}

theorem run_zero_of {t : TypeId} {d : TD} (h : TD.infoOk P t d) : ∃ z, (zeroValue t).run P w = .ok z w ∧ z.cells.toList = d.zero := by
  unfold TD.infoOk at h
  cases hi : P.info? t with
  | none => simp [hi] at h
  | some i =>
    simp only [hi, Option.map_some, Option.some.injEq, Prod.mk.injEq] at h
    obtain ⟨_, _, hz⟩ := h
    cases hz0 : i.zero with
    | none => simp [hz0] at hz
    | some z =>
      simp only [hz0, Option.map_some, Option.some.injEq] at hz
      exact ⟨z, by simp [zeroValue, typeInfo, hi, hz0], hz⟩

theorem one_ok {x : AV} {u : Value} (h : x.one = true) (hv : VR c w x u) : u.oneCell' = true := by
  cases x <;> (try simp only [AV.one, Bool.false_eq_true] at h) <;> (try simp only [VR] at hv)
  case int => rw [hv.1]; rfl
  case bool => rw [hv]; rfl
  case str => rw [hv.1]; rfl
  case list => obtain ⟨A, cap, e, _⟩ := hv; rw [e]; rfl
  case nils => obtain ⟨A, e⟩ := hv; rw [e]; rfl
  case own => cases u <;> simp [isSlice] at hv <;> rfl
  case view => obtain ⟨A, n0, cap, _, _, _, e⟩ := hv; rw [e]; rfl
  case ptr => obtain ⟨b, _, e⟩ := hv; rw [e]; rfl
  case rptr => obtain ⟨b, n, cap, _, e⟩ := hv; rw [e]; rfl
  case aptr => obtain ⟨b, _, _, e⟩ := hv; rw [e]; rfl
  case eptr => obtain ⟨b, o, us, e, _⟩ := hv; rw [e]; rfl
  case elist => obtain ⟨b, us, e, _⟩ := hv; rw [e]; rfl
  case nilp => rw [hv]; rfl
  case fn => obtain ⟨us, vs, e, _⟩ := hv; rw [e]; rfl
  case raw => rw [hv]; exact h
  case yld => obtain ⟨b, _, e⟩ := hv; rw [e]; rfl
  case mp => obtain ⟨b, _, e⟩ := hv; rw [e]; rfl

theorem cells_of_one {u : Value} (h : u.oneCell' = true) : u.cells = #[u] := by
  cases u <;> simp [Value.oneCell'] at h <;> rfl

theorem allOne_ok [Sites] {xs : List AV} : ∀ {us : List Value}, allOne xs = true → VRs c w xs us → ∀ u ∈ us, u.oneCell' = true := by
  induction xs with
  | nil => intro us _ hv; simp only [VRs] at hv; subst hv; simp
  | cons x xs ih =>
    intro us h hv
    simp only [allOne, Bool.and_eq_true] at h
    simp only [VRs] at hv
    obtain ⟨u, us', rfl, h1, h2⟩ := hv
    intro y hy
    rcases List.mem_cons.1 hy with rfl | hy
    · exact one_ok h.1 h1
    · exact ih h.2 h2 y hy

theorem plain_cells [Sites] {x : AV} {u : Value} (h : x.plain = true) (hv : VR c w x u) : VRs c w x.cells u.cells.toList := by
  cases x with
  | agg cs => simp only [VR] at hv; obtain ⟨us, rfl, hv⟩ := hv; simpa [AV.cells, Value.cells] using hv
  | _ =>
    have h1 := one_ok (by simpa [AV.plain] using h) hv
    rw [cells_of_one h1]
    simp only [AV.cells, VRs]
    exact ⟨u, [], rfl, hv, rfl⟩

theorem vrs_atoms [Sites] (l : List Value) : VRs c w (atoms l) l := by
  induction l with
  | nil => simp [atoms, VRs]
  | cons x l ih => simp only [atoms, List.map_cons, VRs] at ih ⊢; exact ⟨x, l, rfl, constAV_ok x, ih⟩

theorem splice_list : ∀ (vs : List Value) (k off : Nat) (cs : Array Value), off + k + vs.length ≤ cs.size →
    ((vs.zipIdx k).foldl (fun (cs : Array Value) (x : Value × Nat) => cs.setIfInBounds (off + x.2) x.1) cs).toList = cs.toList.take (off + k) ++ vs ++ cs.toList.drop (off + k + vs.length)
  | [], k, off, cs, _ => by simp
  | v :: vs, k, off, cs, h => by
    simp only [List.length_cons] at h
    simp only [List.zipIdx_cons, List.foldl_cons]
    rw [splice_list vs (k + 1) off (cs.setIfInBounds (off + k) v) (by simp; omega)]
    have := list_seg_step cs.toList (off + k) v vs (by simp; omega)
    simp only [Array.toList_setIfInBounds, List.length_cons] at this ⊢
    rw [← Nat.add_assoc]
    exact this

theorem splice_ok [Sites] (u : Value) (off : Nat) (cells : Array Value) (h : off + u.cells.size ≤ cells.size) :
    (u.cells.zipIdx.foldl (fun cs (x : Value × Nat) => cs.setIfInBounds (off + x.2) x.1) cells).toList = cells.toList.take off ++ u.cells.toList ++ cells.toList.drop (off + u.cells.size) := by
  rw [← Array.foldl_toList, Array.toList_zipIdx]
  have := splice_list u.cells.toList 0 off cells (by simpa using h)
  simpa using this

/-- The parts of a composite: each stands for its operand's value, and fits cells. -/
def PartsOk (c : Cf) (w : World) : List (Nat × Option AV) → List (Nat × Value) → Prop
  | [], [] => True
  | (i, x) :: r, (j, u) :: r' => i = j ∧ (∀ y, x = some y → VR c w y u) ∧ PartsOk c w r r'
  | _, _ => False

theorem parts_ok (hρ : Ops.Ok c w ρ e) : ∀ (l : List (Nat × Operand)), PartsOk c w (evParts ρ l) (l.map fun p => (p.1, e p.2))
  | [] => trivial
  | (i, x) :: r => ⟨rfl, fun y hy => hρ _ _ hy, parts_ok hρ r⟩

theorem fillIn_ok [Sites] {place : Nat → Option (Nat × Nat)} {place' : Nat → Option (Nat × Nat)} (hpl : ∀ i p, place i = some p → place' i = some p) :
    ∀ (parts : List (Nat × Option AV)) (vals : List (Nat × Value)) (cs out : List AV) (cells : Array Value), PartsOk c w parts vals → fillIn place cs parts = some out → VRs c w cs cells.toList →
      ∃ cells', Instr.fill place' cells vals = some cells' ∧ VRs c w out cells'.toList
  | [], [], cs, out, cells, _, h, hv => by
    simp only [fillIn, Option.some.injEq] at h
    subst h
    exact ⟨cells, rfl, hv⟩
  | [], _ :: _, cs, out, cells, hp, h, hv => hp.elim
  | _ :: _, [], cs, out, cells, hp, h, hv => hp.elim
  | (i, x) :: r, (j, u) :: r', cs, out, cells, hp, h, hv => by
    obtain ⟨rfl, hx, hp'⟩ := hp
    unfold fillIn at h
    split at h
    · rename_i off size y hpi
      split at h
      · rename_i hb
        simp only [Bool.and_eq_true, Nat.ble_eq] at hb
        obtain ⟨⟨hb1, hb2⟩, hb3⟩ := hb
        have hb1 := Nat.eq_of_beq_eq_true hb1
        have hc : VRs c w y.cells u.cells.toList := plain_cells hb3 (hx y rfl)
        have hl1 := hc.length
        have hl2 := hv.length
        simp only [Array.length_toList] at hl1 hl2
        have hsz : u.cells.size = size := by rw [hl1, hb1]
        have hle : off + u.cells.size ≤ cells.size := by rw [hsz, hl2]; exact hb2
        have hsp := splice_ok u off cells hle
        have hnew : VRs c w (cs.take off ++ y.cells ++ cs.drop (off + size)) (u.cells.zipIdx.foldl (fun cs (x : Value × Nat) => cs.setIfInBounds (off + x.2) x.1) cells).toList := by
          rw [hsp, hsz]
          exact ((hv.take off).append hc).append (hv.drop _)
        obtain ⟨cells', h1, h2⟩ := fillIn_ok hpl r r' _ out _ hp' h hnew
        refine ⟨cells', ?_, h2⟩
        simp only [Instr.fill, hpl i _ hpi]
        rw [if_neg (by simp only [ne_eq, Bool.or_eq_true, decide_eq_true_eq, not_or]; omega)]
        exact h1
      · cases h
    · cases h

theorem allReal_mem {fs : List (TypeId × Nat)} (h : allReal U fs = true) : ∀ d ∈ fs, (U d.1).real = true := by
  induction fs with
  | nil => simp
  | cons d r ih =>
    simp only [allReal, Bool.and_eq_true] at h
    intro x hx
    rcases List.mem_cons.1 hx with rfl | hx
    · exact h.1
    · exact ih h.2 x hx

theorem run_places [Sites] (hU : U.Ok P) : ∀ (l : List Field), (∀ f ∈ l, (U f.type).real = true) →
    (l.mapM fun f => Prod.mk f.offset <$> sizeOf f.type : Sem (List (Nat × Nat))).run P w = .ok (l.map fun f => (f.offset, (U f.type).size)) w
  | [], _ => by simp
  | f :: r, h => by
    have h1 := run_sizeOf_of (w := w) (real_ok hU (h f (by simp))).2.1
    have h2 := run_places hU r fun x hx => h x (by simp [hx])
    simp [List.mapM_cons, h1, h2]

theorem vBuild_ok [Sites] (hU : U.Ok P) {o : Oper} {t : TypeId} {parts : Array (Nat × Operand)} (ho : o.op = .build t parts) {v : AV} {q : Bool} (h : vBuild U (U t) (evParts ρ parts.toList) = some (v, q)) (hρ : Ops.Ok c w ρ e) : Reads P c w (execOp e o) v := by
  unfold vBuild at h
  split at h
  · rename_i fs hr hk
    have hu := (hU t (by simp [hk])).1
    simp only [TD.kindOk, hk] at hu
    split at h
    · rename_i hall
      split at h
      · rename_i cs hf
        rw [(ok_some h).1]
        obtain ⟨z, hz, hzc⟩ := run_zero_of (w := w) (real_ok hU hr).2.1
        obtain ⟨hP, hfs⟩ := fields_of hu
        have hpl := run_places (P := P) (w := w) hU (P.fieldsOf t).toList fun f hf => allReal_mem hall (f.type, f.offset) (by rw [hfs]; exact List.mem_map.2 ⟨f, hf, rfl⟩)
        obtain ⟨cells', hfill, hv⟩ := fillIn_ok (c := c) (w := w) (place := placeOf U fs) (place' := fun i => ((P.fieldsOf t).toList.map fun f => (f.offset, (U f.type).size)).toArray[i]?) (fun i p hp => by
          unfold placeOf at hp
          rw [hfs, List.getElem?_map] at hp
          cases hF : (P.fieldsOf t).toList[i]? with
          | none => simp [hF] at hp
          | some F =>
            simp only [hF, Option.map_some] at hp
            split at hp
            · simp only [List.getElem?_toArray, List.getElem?_map, hF, Option.map_some]; exact hp
            · cases hp) _ _ _ _ z.cells (parts_ok hρ parts.toList) hf (by rw [hzc]; exact vrs_atoms _)
        refine ⟨.agg cells', ?_, by simp only [VR]; exact ⟨cells'.toList, by simp, hv⟩⟩
        simp only [List.getElem?_toArray, List.getElem?_map, Array.getElem?_toList] at hfill
        simp [execOp, ho, Instr.build, hz, run_underlying hP, Array.mapM_eq_mapM_toList, hpl, hfill]
      · cases h
    · cases h
  · cases h

theorem allSome_ok (hρ : Ops.Ok c w ρ e) : ∀ {l : List Operand} {xs : List AV}, allSome (l.map ρ) = some xs → VRs c w xs (l.map e)
  | [], xs, h => by simp only [List.map_nil, allSome, Option.some.injEq] at h; subst h; simp [VRs]
  | o :: l, xs, h => by
    simp only [List.map_cons] at h
    cases ho : ρ o with
    | none => simp [ho, allSome] at h
    | some x =>
      simp only [ho, allSome] at h
      cases hl : allSome (l.map ρ) with
      | none => simp [hl] at h
      | some ys =>
        simp only [hl, Option.some.injEq] at h
        subst h
        simp only [List.map_cons, VRs]
        exact ⟨_, _, rfl, hρ _ _ ho, allSome_ok hρ hl⟩

theorem vMakeFunc_ok [Sites] {o : Oper} {fn : Fn} {first cap : Array Operand} (ho : o.op = .makeFunc fn first cap) {v : AV} {q : Bool} (h : vMakeFunc fn (first.toList.map ρ) (cap.toList.map ρ) = some (v, q)) (hρ : Ops.Ok c w ρ e) : Reads P c w (execOp e o) v := by
  unfold vMakeFunc at h
  split at h
  · rename_i a b h1 h2
    rw [(ok_some h).1]
    refine ⟨.func fn (first.map e) (cap.map e), by simp [execOp, ho, Instr.makeFunc], ?_⟩
    simp only [VR]
    exact ⟨first.toList.map e, cap.toList.map e, by simp [← Array.toList_map], allSome_ok hρ h1, allSome_ok hρ h2⟩
  · cases h

/-- Every reading operation: its run. -/
theorem isZero_ok [Sites] {I : Nat → Prop} {w : World} : ∀ {t : Ty} {r r' : List Value}, isZero t r = some r' → ∃ a, r = a ++ r' ∧ TR I w t t.dflt a
  | .byte, r, r', h => by
    unfold isZero at h
    split at h <;> simp only [reduceCtorEq, Option.some.injEq] at *
    subst h
    exact ⟨[_], rfl, by simp only [TR, Ty.dflt]; rfl⟩
  | .int k, r, r', h => by
    unfold isZero at h
    split at h <;> simp only [reduceCtorEq, Ty.int.injEq] at *
    rename_i k1 k' q e1
    subst e1
    cases hb : ikEq k k' with
    | false => simp [hb] at h
    | true =>
      have := ikEq_eq hb
      subst this
      simp only [hb, cond_true, Option.some.injEq] at h
      subst h
      exact ⟨[_], rfl, by simp only [TR, Ty.dflt]; exact ⟨trivial, by cases k <;> decide⟩⟩
  | .bool, r, r', h => by
    unfold isZero at h
    split at h <;> simp only [reduceCtorEq, Option.some.injEq] at *
    subst h
    exact ⟨[_], rfl, by simp only [TR, Ty.dflt]⟩
  | .str, r, r', h => by
    unfold isZero at h
    split at h <;> simp only [reduceCtorEq] at *
    rename_i s q _
    cases hb : Nat.beq s.data.toList.length 0 with
    | false => rw [hb] at h; cases h
    | true =>
      rw [hb] at h
      simp only [cond_true, Option.some.injEq] at h
      subst h
      refine ⟨[_], rfl, ?_⟩
      simp only [TR, Ty.dflt, List.cons.injEq, Value.string.injEq, and_true]
      refine ⟨?_, Nat.zero_le _⟩
      have := Nat.eq_of_beq_eq_true hb
      obtain ⟨⟨d⟩⟩ := s
      simp at this
      rw [this]
  | .slice t, r, r', h => by
    unfold isZero at h
    split at h <;> simp only [reduceCtorEq, Option.some.injEq] at *
    subst h
    exact ⟨[_], rfl, by simp only [TR, Ty.dflt]; exact ⟨_, rfl, none, 0, rfl, Nat.le_refl _, Nat.zero_le _, fun _ => rfl, fun _ e => by cases e⟩⟩
  | .pair a b, r, r', h => by
    simp only [isZero] at h
    split at h
    · rename_i r1 h1
      obtain ⟨p, rfl, g1⟩ := isZero_ok h1
      obtain ⟨q, rfl, g2⟩ := isZero_ok h
      exact ⟨p ++ q, by rw [List.append_assoc], by simp only [TR, Ty.dflt]; exact ⟨p, q, rfl, g1, g2⟩⟩
    · cases h
  | .unit, r, r', h => by
    simp only [isZero, Option.some.injEq] at h
    subst h
    exact ⟨[], rfl, by simp only [TR]⟩

theorem areZero_ok [Sites] {I : Nat → Prop} {w : World} {t : Ty} : ∀ {n : Nat} {r : List Value}, areZero t n r = true → Cat (TR I w t) (List.replicate n t.dflt) r
  | 0, [], h => by simp [Cat]
  | 0, _ :: _, h => by simp [areZero] at h
  | n + 1, r, h => by
    simp only [areZero] at h
    split at h
    · rename_i r' h1
      obtain ⟨a, rfl, g⟩ := isZero_ok (I := I) (w := w) h1
      exact ⟨a, r', rfl, g, areZero_ok h⟩
    · cases h


theorem valOf_vr [Sites] {E : Ty} {x : E.den} {u : Value} (h : TR c.I w E x u.cells.toList) (ha : isAggV u = E.isAgg) : VR c w (valOf E x) u := by
  have hc := cellsOf_ok (c := c) (w := w) h
  unfold valOf
  cases hag : E.isAgg with
  | true =>
    rw [hag] at ha
    cases u <;> simp only [isAggV, Bool.false_eq_true] at ha
    simp only [VR]
    exact ⟨_, rfl, by simpa [Value.cells] using hc⟩
  | false =>
    have hu : u.cells = #[u] := by
      rw [hag] at ha
      cases u <;> first | rfl | (simp only [isAggV, Bool.true_eq_false] at ha)
    rw [hu] at hc
    have hlen := hc.length
    simp only [List.length_cons, List.length_nil, Nat.zero_add] at hlen
    match hcs : cellsOf E x, hlen with
    | [y], _ =>
      rw [hcs] at hc
      simp only [VRs] at hc
      obtain ⟨u', us', e, h1, h2⟩ := hc
      simp only [List.cons.injEq] at e
      rw [e.1]
      exact h1

theorem vLookup_ok [Sites] (hU : U.Ok P) {o : Oper} {t : TypeId} {x k : Operand} {cm : Bool} (ho : o.op = .lookup t x k cm) {v : AV} (h : vLookup U lk (U t) (ρ x) (ρ k) cm = some (v, true)) (hρ : Ops.Ok c w ρ e) (hk : Obs.Ok c w lk) : Reads P c w (execOp e o) v := by
  unfold vLookup at h
  split at h
  · rename_i kt et agg hkk
    have hu := (hU t (by simp [hkk])).1
    simp only [TD.kindOk, hkk] at hu
    split at h
    · rename_i id s hkt hx hs
      have hkd := (hU kt (by simp [hkt])).1
      simp only [TD.kindOk, hkt] at hkd
      have hx' := hρ _ _ hx
      have hs' := hρ _ _ hs
      simp only [VR] at hx' hs'
      obtain ⟨b, hn, hx'⟩ := hx'
      split at h
      · rename_i e' E l hl
        split at h
        · rename_i hc
          simp only [Bool.and_eq_true] at hc
          obtain ⟨⟨⟨c1, c2⟩, c3, c4⟩, c5, c6⟩ := hc
          have c2 := Nat.eq_of_beq_eq_true c2
          have c4 := beqB_eq c4
          have c5 := beqB_eq c5
          obtain ⟨es, clock, hb, hst, hE, _⟩ := map_ents (hk _ _ hl) hn
          obtain ⟨_, hinfo, _⟩ := real_ok hU c1
          obtain ⟨z, hz, hzc⟩ := run_zero_of (P := P) (w := w) hinfo
          have hzz : (P.info? et).bind (·.zero) = some z := by
            simp only [zeroValue, typeInfo] at hz
            cases hi : P.info? et with
            | none => simp [hi] at hz
            | some i =>
              cases hzz : i.zero with
              | none => simp [hi, hzz] at hz
              | some z' => simp [hi, hzz] at hz; simp [hzz, hz]
          have hza : isAggV z = agg := by
            have := hu.2
            rw [hzz] at this
            simpa using this
          have hzt : TR c.I w E E.dflt z.cells.toList := by
            have := areZero_ok (I := c.I) (w := w) c6
            rw [hzc]
            simp only [List.replicate_succ, List.replicate_zero, Cat] at this
            obtain ⟨x, y, e1, e2, e3⟩ := this
            subst e3
            rw [e1, List.append_nil]
            exact e2
          have hik : MapKept.IsKey .string (.string ⟨s.toArray⟩) := trivial
          have key : ∃ u, (∀ cm' : Bool, (Instr.lookup t (.map (some b)) (.string ⟨s.toArray⟩) cm').run P w = .ok (if cm' then .tuple #[u, .bool (mapHas l s)] else u) w) ∧ VR c w (valOf E (mapGet l s E.dflt)) u := by
            rcases MapKept.findNow_spec hik es.toList 0 (EntR.key hE) with ⟨h1, h2⟩ | ⟨j, x0, h1, h2, h3⟩
            · obtain ⟨g1, g2, _⟩ := hE.miss h2
              refine ⟨z, fun cm' => ?_, ?_⟩
              · rw [g1]
                cases cm' <;> simp [Instr.lookup, run_underlying hu.1, MapKept.run_getObj_map hb, MapKept.run_checkKey hkd hik, MapKept.run_findKey hkd h1, hz, Result.andThen]
              · rw [g2]
                exact valOf_vr hzt (by rw [hza, c5])
            · obtain ⟨g1, g2, g3, _⟩ := hE.hit ((MapKept.stamped_iff es clock).1 hst).2.2 h2 h3
              refine ⟨x0.val, fun cm' => ?_, ?_⟩
              · rw [g1]
                cases cm' <;> simp [Instr.lookup, run_underlying hu.1, MapKept.run_getObj_map hb, MapKept.run_checkKey hkd hik, MapKept.run_findKey hkd h1, Result.andThen]
              · exact valOf_vr (g2 _) (by rw [g3, c4, c5])
          obtain ⟨u, hrun, hv⟩ := key
          cases cm with
          | true =>
            simp only at h
            rw [(ok_some h).1]
            refine ⟨_, by simp [execOp, ho, hx', hs'.1, hrun]; rfl, ?_⟩
            simp only [VR]
            refine ⟨_, rfl, ?_⟩
            simp only [VRs, VR]
            exact ⟨_, _, rfl, hv, _, _, rfl, rfl, rfl⟩
          | false =>
            simp only at h
            rw [(ok_some h).1]
            exact ⟨u, by simp [execOp, ho, hx', hs'.1, hrun], hv⟩
        · cases h
      · cases h
    · cases h
  · cases h

theorem evalV_ok [Sites] (hU : U.Ok P) {o : Oper} {v : AV} (h : evalV U ρ lk o.op = some (v, true)) (hρ : Ops.Ok c w ρ e) (hk : Obs.Ok c w lk) : Reads P c w (execOp e o) v := by
  unfold evalV at h
  split at h
  · rename_i x ho; exact ⟨e x, by simp [execOp, ho], hρ _ _ (vMove_some h)⟩
  · rename_i x ho; exact ⟨e x, by simp [execOp, ho], hρ _ _ (vMove_some h)⟩
  · rename_i x y z ho
    obtain ⟨t, ht, hv⟩ := vPick_ok (c := c) (w := w) (vc := e x) (va := e y) (vb := e z) h (fun _ hx => hρ _ _ hx) (fun _ hx => hρ _ _ hx) (fun _ hx => hρ _ _ hx)
    exact ⟨_, by simp [execOp, ho, ht, asBool, Sem.run]; try rfl, hv⟩
  · rename_i ho; exact vBin_ok hU ho h hρ
  · rename_i ho; exact vUn_ok ho h hρ
  · rename_i ho; exact vConv_ok hU ho h hρ hk
  · rename_i ho; exact vNil_ok ho h hρ
  · rename_i ho; exact vFieldAddr_ok hU ho h hρ
  · rename_i ho; exact vField_ok hU ho h hρ
  · rename_i ho; exact vIndexAddr_ok hU ho h hρ hk
  · rename_i ho; exact vIndex_ok hU ho h hρ
  · rename_i ho; exact vLoad_ok hU ho h hρ hk
  · rename_i ho; exact vLookup_ok hU ho h hρ hk
  · rename_i ho; exact vExtract_ok ho h hρ
  · rename_i ho; exact vSlice_ok hU ho h hρ hk
  · rename_i ho; exact vBuild_ok hU ho h hρ
  · rename_i ho; exact vMakeFunc_ok ho h hρ
  · rename_i ho; exact vBuiltin_ok hU ho h hρ hk
  · cases h
end
end Go.Hay
