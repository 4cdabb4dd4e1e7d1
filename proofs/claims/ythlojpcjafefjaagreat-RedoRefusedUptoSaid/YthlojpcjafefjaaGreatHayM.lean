/- Maps: entries and what is said of them. Conditions: none. -/
import Derived.Test.YthlojpcjafefjaaGreatHayG
import Derived.Laws.MakeOwn
import Derived.Carry
set_option linter.unusedVariables false
set_option linter.unusedSimpArgs false
namespace Go.Hay
open Go.RowKit

def EntR (I : Nat → Prop) (w : World) (agg : Bool) (E : Ty) : List (List UInt8 × E.den) → List MapEntry → Prop
  | [], es => es = []
  | p :: l, es => ∃ x r, es = x :: r ∧ (x.key = .string ⟨p.1.toArray⟩ ∧ p.1.length ≤ maxLen ∧ TR I w E p.2 x.val.cells.toList ∧ isAggV x.val = agg) ∧ EntR I w agg E l r

section
variable {I : Nat → Prop} {w : World} {agg : Bool} {E : Ty}

theorem EntR.of : ∀ {l : List (List UInt8 × E.den)} {es : List MapEntry} {us : List Value}, us = (es.flatMap fun x => x.key :: x.val.cells.toList) → (∀ x ∈ es, x.val.cells.size + 1 = (Ty.pair .str E).size) → (∀ x ∈ es, isAggV x.val = agg) → es.length = l.length →
    Cat (TR I w (.pair .str E)) l us → EntR I w agg E l es
  | [], es, us, hu, hz, ha, hl, hc => by simpa [EntR] using List.eq_nil_of_length_eq_zero hl
  | p :: l, [], us, hu, hz, ha, hl, hc => by simp at hl
  | p :: l, x :: es, us, hu, hz, ha, hl, hc => by
    obtain ⟨a, b, e, h1, h2⟩ := hc
    have hlen := TR.len h1
    rw [hu, List.flatMap_cons] at e
    have hx := hz x List.mem_cons_self
    obtain ⟨e1, e2⟩ := List.append_inj e (by rw [hlen, ← hx]; simp)
    simp only [TR] at h1
    obtain ⟨u, v, e3, ⟨e4, e5⟩, h3⟩ := h1
    rw [e3, e4] at e1
    simp only [List.cons_append, List.nil_append, List.cons.injEq] at e1
    refine ⟨x, es, rfl, ⟨e1.1, e5, by rw [e1.2]; exact h3, ha x List.mem_cons_self⟩, EntR.of (us := b) e2.symm (fun y hy => hz y (List.mem_cons_of_mem _ hy)) (fun y hy => ha y (List.mem_cons_of_mem _ hy)) (by simpa using hl) h2⟩

theorem EntR.cat : ∀ {l : List (List UInt8 × E.den)} {es : List MapEntry}, EntR I w agg E l es → Cat (TR I w (.pair .str E)) l (es.flatMap fun x => x.key :: x.val.cells.toList) ∧ (∀ x ∈ es, x.val.cells.size + 1 = (Ty.pair .str E).size) ∧ (∀ x ∈ es, isAggV x.val = agg) ∧ es.length = l.length
  | [], es, h => by simp only [EntR] at h; subst h; simp [Cat]
  | p :: l, es, ⟨x, r, e, ⟨h1, h2, h3, h4⟩, h5⟩ => by
    subst e
    obtain ⟨g1, g2, g3, g4⟩ := EntR.cat h5
    refine ⟨?_, ?_, ?_, by simp [g4]⟩
    · rw [List.flatMap_cons]
      exact ⟨x.key :: x.val.cells.toList, _, rfl, ⟨[x.key], x.val.cells.toList, rfl, ⟨by rw [h1], h2⟩, h3⟩, g1⟩
    · intro y hy
      rcases List.mem_cons.1 hy with rfl | hy
      · have := TR.len h3
        simp only [Array.length_toList] at this
        simp only [Ty.size, this]
        omega
      · exact g2 y hy
    · intro y hy
      rcases List.mem_cons.1 hy with rfl | hy
      · exact h4
      · exact g3 y hy

theorem EntR.key : ∀ {l : List (List UInt8 × E.den)} {es : List MapEntry}, EntR I w agg E l es → ∀ x ∈ es, MapKept.IsKey .string x.key
  | [], es, h, x, hx => by simp only [EntR] at h; subst h; cases hx
  | p :: l, es, ⟨y, r, e, ⟨h1, _⟩, h5⟩, x, hx => by
    subst e
    rcases List.mem_cons.1 hx with rfl | hx
    · rw [h1]; trivial
    · exact EntR.key h5 x hx

theorem str_inj {a b : List UInt8} : (Value.string ⟨a.toArray⟩ = Value.string ⟨b.toArray⟩) ↔ a = b := by
  constructor
  · intro h
    simp only [Value.string.injEq, ByteArray.mk.injEq] at h
    simpa using congrArg Array.toList h
  · rintro rfl; rfl

theorem EntR.miss {k : List UInt8} : ∀ {l : List (List UInt8 × E.den)} {es : List MapEntry}, EntR I w agg E l es → (∀ x ∈ es, x.key ≠ .string ⟨k.toArray⟩) →
    mapHas l k = false ∧ (∀ d, mapGet l k d = d) ∧ (∀ y, mapPut l k y = l ++ [(k, y)]) ∧ mapDel l k = l
  | [], es, h, hk => ⟨rfl, fun _ => rfl, fun _ => rfl, rfl⟩
  | p :: l, es, ⟨x, r, e, ⟨h1, _⟩, h5⟩, hk => by
    subst e
    have hne : ¬ p.1 = k := fun e => hk x List.mem_cons_self (by rw [h1, e])
    obtain ⟨g1, g2, g3, g4⟩ := EntR.miss h5 fun y hy => hk y (List.mem_cons_of_mem _ hy)
    refine ⟨?_, fun d => ?_, fun y => ?_, ?_⟩
    · simp only [mapHas, List.any_cons, hne, decide_false, Bool.false_or]; exact g1
    · have := g2 d
      simp only [mapGet, List.find?_cons, hne, decide_false] at *
      exact this
    · simp only [mapPut, hne, decide_false, cond_false, g3, List.cons_append]
    · simp only [mapDel, hne, decide_false, cond_false, g4]

theorem EntR.hit {k : List UInt8} : ∀ {l : List (List UInt8 × E.den)} {es : List MapEntry} {j : Nat} {e : MapEntry}, EntR I w agg E l es → es.Pairwise (fun x y => x.key ≠ y.key) → es[j]? = some e → e.key = .string ⟨k.toArray⟩ →
    mapHas l k = true ∧ (∀ d, TR I w E (mapGet l k d) e.val.cells.toList) ∧ isAggV e.val = agg ∧ k.length ≤ maxLen ∧
    (∀ y v, TR I w E y v.cells.toList → isAggV v = agg → EntR I w agg E (mapPut l k y) (es.modify j fun e => { e with key := .string ⟨k.toArray⟩, val := v })) ∧
    EntR I w agg E (mapDel l k) (es.eraseIdx j)
  | [], es, j, e, h, hp, hj, hk => by simp only [EntR] at h; subst h; simp at hj
  | p :: l, es, j, e, ⟨x, r, e1, ⟨h1, h2, h3, h4⟩, h5⟩, hp, hj, hk => by
    subst e1
    cases j with
    | zero =>
      simp only [List.getElem?_cons_zero, Option.some.injEq] at hj
      subst hj
      rw [h1] at hk
      have hk := str_inj.1 hk
      refine ⟨by simp [mapHas, hk], fun d => by simpa [mapGet, List.find?_cons, hk] using h3, h4, by rw [← hk]; exact h2, fun y v hy hv => ?_, ?_⟩
      · simp only [mapPut, hk, decide_true, cond_true, List.modify_zero_cons]
        exact ⟨_, r, rfl, ⟨rfl, by rw [← hk]; exact h2, hy, hv⟩, h5⟩
      · simpa only [mapDel, hk, decide_true, cond_true, List.eraseIdx_cons_zero] using h5
    | succ j =>
      simp only [List.getElem?_cons_succ] at hj
      obtain ⟨q1, q2⟩ := List.pairwise_cons.1 hp
      have hne : ¬ p.1 = k := fun e' => q1 e (List.mem_of_getElem? hj) (by rw [h1, hk, e'])
      obtain ⟨g1, g2, g3, g4, g5, g6⟩ := EntR.hit h5 q2 hj hk
      refine ⟨?_, fun d => ?_, g3, g4, fun y v hy hv => ?_, ?_⟩
      · simp only [mapHas, List.any_cons, hne, decide_false, Bool.false_or]; exact g1
      · have := g2 d
        simp only [mapGet, List.find?_cons, hne, decide_false] at *
        exact this
      · simp only [mapPut, hne, decide_false, cond_false, List.modify_succ_cons]
        exact ⟨x, _, rfl, ⟨h1, h2, h3, h4⟩, g5 y v hy hv⟩
      · simp only [mapDel, hne, decide_false, cond_false, List.eraseIdx_cons_succ]
        exact ⟨x, _, rfl, ⟨h1, h2, h3, h4⟩, g6⟩

theorem EntR.push {k : List UInt8} {y : E.den} {v : Value} {b : Nat} (hk : k.length ≤ maxLen) (hy : TR I w E y v.cells.toList) (hv : isAggV v = agg) : ∀ {l : List (List UInt8 × E.den)} {es : List MapEntry}, EntR I w agg E l es →
    EntR I w agg E (l ++ [(k, y)]) (es ++ [⟨.string ⟨k.toArray⟩, v, b⟩])
  | [], es, h => by simp only [EntR] at h; subst h; exact ⟨_, [], rfl, ⟨rfl, hk, hy, hv⟩, rfl⟩
  | p :: l, es, ⟨x, r, e1, h1, h5⟩ => by subst e1; exact ⟨x, _, rfl, h1, EntR.push hk hy hv h5⟩

theorem EntR.lasts {I' : Nat → Prop} {w' : World} (h : Lasts I I' w w') : ∀ {l : List (List UInt8 × E.den)} {es : List MapEntry}, EntR I w agg E l es → EntR I' w' agg E l es
  | [], es, hc => hc
  | p :: l, es, ⟨x, r, e1, ⟨h1, h2, h3, h4⟩, h5⟩ => ⟨x, r, e1, ⟨h1, h2, TR.lasts h h3, h4⟩, EntR.lasts h h5⟩
end

theorem map_ents [Sites] {c : Cf} {w : World} {id b : Nat} {e : TypeId} {E : Ty} {l : List (Ty.pair .str E).den} (ho : ObR c w id (.row e (.pair .str E) l)) (hn : c.nm id = some (.map (some b))) :
    ∃ es clock, w.heap[b]? = some (.map es clock) ∧ MapKept.Stamped es clock ∧ EntR c.I w (mapAgg e) E l es.toList ∧ isMapTy e = true := by
  obtain ⟨v, us, h1, h2, h3⟩ := ho
  rw [hn] at h1
  simp only [Option.some.injEq] at h1
  subst h1
  rcases h2.2 with ⟨_, A, h4⟩ | ⟨_, _, _, h4, _⟩ | ⟨b', es, clock, h4, h5, h6, h7, h8⟩
  · cases h4
  · cases h4
  · simp only [Value.map.injEq, Option.some.injEq] at h4
    subst h4
    exact ⟨es, clock, h5, h7.stamped, EntR.of h7.cells h7.len h7.agg (by simpa using h6) h3, h8⟩
theorem ents_map [Sites] {c : Cf} {w : World} {id b : Nat} {e : TypeId} {E : Ty} {l : List (Ty.pair .str E).den} (hn : c.nm id = some (.map (some b))) {es : Array MapEntry} {clock : Nat} (h1 : w.heap[b]? = some (.map es clock)) (h2 : MapKept.Stamped es clock)
    (h3 : EntR c.I w (mapAgg e) E l es.toList) (h4 : isMapTy e = true) : ObR c w id (.row e (.pair .str E) l) := by
  obtain ⟨g1, g2, g3, g4⟩ := h3.cat
  exact ⟨_, _, hn, ⟨g1.length TR_len_fun, .inr (.inr ⟨b, es, clock, rfl, h1, by simpa using g4, ⟨rfl, g2, g3, h2⟩, h4⟩)⟩, g1⟩
end Go.Hay
/- All reading operations: right, and looking at nothing but what they name. -/
set_option linter.unusedVariables false
set_option linter.unusedSimpArgs false
namespace Go.Hay
open Go.RowKit
section
variable {P : Program} {U : TEnv} {c : Cf} {w : World} {lk : Lk} {ρ : Operand → Option AV} {e : Operand → Value}

theorem run_zero_of {t : TypeId} {d : TD} (h : TD.infoOk P t d) : ∃ z, (zeroValue t).run P w = .ok z w ∧ z.cells.toList = d.zero := by
  unfold TD.infoOk at h
  cases hi : P.info? t with
  | none => simp [hi] at h
  | some i =>
    simp only [hi, Option.map_some, Option.some.injEq, Prod.mk.injEq] at h
    obtain ⟨_, _, hz⟩ := h
    cases hz0 : i.zero with
    | none => simp [hz0] at hz
    | some z =>
      simp only [hz0, Option.map_some, Option.some.injEq] at hz
      exact ⟨z, by simp [zeroValue, typeInfo, hi, hz0], hz⟩

theorem one_ok {x : AV} {u : Value} (h : x.one = true) (hv : VR c w x u) : u.oneCell' = true := by
  cases x <;> (try simp only [AV.one, Bool.false_eq_true] at h) <;> (try simp only [VR] at hv)
  case int => rw [hv.1]; rfl
  case bool => rw [hv]; rfl
  case str => rw [hv.1]; rfl
  case list => obtain ⟨A, cap, e, _⟩ := hv; rw [e]; rfl
  case nils => obtain ⟨A, e⟩ := hv; rw [e]; rfl
  case own => cases u <;> simp [isSlice] at hv <;> rfl
  case view => obtain ⟨A, n0, cap, _, _, _, e⟩ := hv; rw [e]; rfl
  case ptr => obtain ⟨b, _, e⟩ := hv; rw [e]; rfl
  case rptr => obtain ⟨b, n, cap, _, e⟩ := hv; rw [e]; rfl
  case aptr => obtain ⟨b, _, _, e⟩ := hv; rw [e]; rfl
  case eptr => obtain ⟨b, o, us, e, _⟩ := hv; rw [e]; rfl
  case elist => obtain ⟨b, us, e, _⟩ := hv; rw [e]; rfl
  case nilp => rw [hv]; rfl
  case fn => obtain ⟨us, vs, e, _⟩ := hv; rw [e]; rfl
  case raw => rw [hv]; exact h
  case yld => obtain ⟨b, _, e⟩ := hv; rw [e]; rfl
  case mp => obtain ⟨b, _, e⟩ := hv; rw [e]; rfl
  case any => exact hv

theorem cells_of_one {u : Value} (h : u.oneCell' = true) : u.cells = #[u] := by
  cases u <;> simp [Value.oneCell'] at h <;> rfl

theorem allOne_ok [Sites] {xs : List AV} : ∀ {us : List Value}, allOne xs = true → VRs c w xs us → ∀ u ∈ us, u.oneCell' = true := by
  induction xs with
  | nil => intro us _ hv; simp only [VRs] at hv; subst hv; simp
  | cons x xs ih =>
    intro us h hv
    simp only [allOne, Bool.and_eq_true] at h
    simp only [VRs] at hv
    obtain ⟨u, us', rfl, h1, h2⟩ := hv
    intro y hy
    rcases List.mem_cons.1 hy with rfl | hy
    · exact one_ok h.1 h1
    · exact ih h.2 h2 y hy

theorem plain_cells [Sites] {x : AV} {u : Value} (h : x.plain = true) (hv : VR c w x u) : VRs c w x.cells u.cells.toList := by
  cases x with
  | agg cs => simp only [VR] at hv; obtain ⟨us, rfl, hv⟩ := hv; simpa [AV.cells, Value.cells] using hv
  | _ =>
    have h1 := one_ok (by simpa [AV.plain] using h) hv
    rw [cells_of_one h1]
    simp only [AV.cells, VRs]
    exact ⟨u, [], rfl, hv, rfl⟩

theorem vrs_atoms [Sites] (l : List Value) : VRs c w (atoms l) l := by
  induction l with
  | nil => simp [atoms, VRs]
  | cons x l ih => simp only [atoms, List.map_cons, VRs] at ih ⊢; exact ⟨x, l, rfl, constAV_ok x, ih⟩

theorem splice_list : ∀ (vs : List Value) (k off : Nat) (cs : Array Value), off + k + vs.length ≤ cs.size →
    ((vs.zipIdx k).foldl (fun (cs : Array Value) (x : Value × Nat) => cs.setIfInBounds (off + x.2) x.1) cs).toList = cs.toList.take (off + k) ++ vs ++ cs.toList.drop (off + k + vs.length)
  | [], k, off, cs, _ => by simp
  | v :: vs, k, off, cs, h => by
    simp only [List.length_cons] at h
    simp only [List.zipIdx_cons, List.foldl_cons]
    rw [splice_list vs (k + 1) off (cs.setIfInBounds (off + k) v) (by simp; omega)]
    have := list_seg_step cs.toList (off + k) v vs (by simp; omega)
    simp only [Array.toList_setIfInBounds, List.length_cons] at this ⊢
    rw [← Nat.add_assoc]
    exact this

theorem splice_ok [Sites] (u : Value) (off : Nat) (cells : Array Value) (h : off + u.cells.size ≤ cells.size) :
    (u.cells.zipIdx.foldl (fun cs (x : Value × Nat) => cs.setIfInBounds (off + x.2) x.1) cells).toList = cells.toList.take off ++ u.cells.toList ++ cells.toList.drop (off + u.cells.size) := by
  rw [← Array.foldl_toList, Array.toList_zipIdx]
  have := splice_list u.cells.toList 0 off cells (by simpa using h)
  simpa using this

def PartsOk (c : Cf) (w : World) : List (Nat × Option AV) → List (Nat × Value) → Prop
  | [], [] => True
  | (i, x) :: r, (j, u) :: r' => i = j ∧ (∀ y, x = some y → VR c w y u) ∧ PartsOk c w r r'
  | _, _ => False

theorem parts_ok (hρ : Ops.Ok c w ρ e) : ∀ (l : List (Nat × Operand)), PartsOk c w (evParts ρ l) (l.map fun p => (p.1, e p.2))
  | [] => trivial
  | (i, x) :: r => ⟨rfl, fun y hy => hρ _ _ hy, parts_ok hρ r⟩

theorem fillIn_ok [Sites] {place : Nat → Option (Nat × Nat)} {place' : Nat → Option (Nat × Nat)} (hpl : ∀ i p, place i = some p → place' i = some p) :
    ∀ (parts : List (Nat × Option AV)) (vals : List (Nat × Value)) (cs out : List AV) (cells : Array Value), PartsOk c w parts vals → fillIn place cs parts = some out → VRs c w cs cells.toList →
      ∃ cells', Instr.fill place' cells vals = some cells' ∧ VRs c w out cells'.toList
  | [], [], cs, out, cells, _, h, hv => by
    simp only [fillIn, Option.some.injEq] at h
    subst h
    exact ⟨cells, rfl, hv⟩
  | [], _ :: _, cs, out, cells, hp, h, hv => hp.elim
  | _ :: _, [], cs, out, cells, hp, h, hv => hp.elim
  | (i, x) :: r, (j, u) :: r', cs, out, cells, hp, h, hv => by
    obtain ⟨rfl, hx, hp'⟩ := hp
    unfold fillIn at h
    split at h
    · rename_i off size y hpi
      split at h
      · rename_i hb
        simp only [Bool.and_eq_true, Nat.ble_eq] at hb
        obtain ⟨⟨hb1, hb2⟩, hb3⟩ := hb
        have hb1 := Nat.eq_of_beq_eq_true hb1
        have hc : VRs c w y.cells u.cells.toList := plain_cells hb3 (hx y rfl)
        have hl1 := hc.length
        have hl2 := hv.length
        simp only [Array.length_toList] at hl1 hl2
        have hsz : u.cells.size = size := by rw [hl1, hb1]
        have hle : off + u.cells.size ≤ cells.size := by rw [hsz, hl2]; exact hb2
        have hsp := splice_ok u off cells hle
        have hnew : VRs c w (cs.take off ++ y.cells ++ cs.drop (off + size)) (u.cells.zipIdx.foldl (fun cs (x : Value × Nat) => cs.setIfInBounds (off + x.2) x.1) cells).toList := by
          rw [hsp, hsz]
          exact ((hv.take off).append hc).append (hv.drop _)
        obtain ⟨cells', h1, h2⟩ := fillIn_ok hpl r r' _ out _ hp' h hnew
        refine ⟨cells', ?_, h2⟩
        simp only [Instr.fill, hpl i _ hpi]
        rw [if_neg (by simp only [ne_eq, Bool.or_eq_true, decide_eq_true_eq, not_or]; omega)]
        exact h1
      · cases h
    · cases h

theorem allReal_mem {fs : List (TypeId × Nat)} (h : allReal U fs = true) : ∀ d ∈ fs, (U d.1).real = true := by
  induction fs with
  | nil => simp
  | cons d r ih =>
    simp only [allReal, Bool.and_eq_true] at h
    intro x hx
    rcases List.mem_cons.1 hx with rfl | hx
    · exact h.1
    · exact ih h.2 x hx

theorem run_places [Sites] (hU : U.Ok P) : ∀ (l : List Field), (∀ f ∈ l, (U f.type).real = true) →
    (l.mapM fun f => Prod.mk f.offset <$> sizeOf f.type : Sem (List (Nat × Nat))).run P w = .ok (l.map fun f => (f.offset, (U f.type).size)) w
  | [], _ => by simp
  | f :: r, h => by
    have h1 := run_sizeOf_of (w := w) (real_ok hU (h f (by simp))).2.1
    have h2 := run_places hU r fun x hx => h x (by simp [hx])
    simp [List.mapM_cons, h1, h2]

theorem vBuild_ok [Sites] (hU : U.Ok P) {o : Oper} {t : TypeId} {parts : Array (Nat × Operand)} (ho : o.op = .build t parts) {v : AV} {q : Bool} (h : vBuild U (U t) (evParts ρ parts.toList) = some (v, q)) (hρ : Ops.Ok c w ρ e) : Reads P c w (execOp e o) v := by
  unfold vBuild at h
  split at h
  · rename_i fs hr hk
    have hu := (hU t (by simp [hk])).1
    simp only [TD.kindOk, hk] at hu
    split at h
    · rename_i hall
      split at h
      · rename_i cs hf
        rw [(ok_some h).1]
        obtain ⟨z, hz, hzc⟩ := run_zero_of (w := w) (real_ok hU hr).2.1
        obtain ⟨hP, hfs⟩ := fields_of hu
        have hpl := run_places (P := P) (w := w) hU (P.fieldsOf t).toList fun f hf => allReal_mem hall (f.type, f.offset) (by rw [hfs]; exact List.mem_map.2 ⟨f, hf, rfl⟩)
        obtain ⟨cells', hfill, hv⟩ := fillIn_ok (c := c) (w := w) (place := placeOf U fs) (place' := fun i => ((P.fieldsOf t).toList.map fun f => (f.offset, (U f.type).size)).toArray[i]?) (fun i p hp => by
          unfold placeOf at hp
          rw [hfs, List.getElem?_map] at hp
          cases hF : (P.fieldsOf t).toList[i]? with
          | none => simp [hF] at hp
          | some F =>
            simp only [hF, Option.map_some] at hp
            split at hp
            · simp only [List.getElem?_toArray, List.getElem?_map, hF, Option.map_some]; exact hp
            · cases hp) _ _ _ _ z.cells (parts_ok hρ parts.toList) hf (by rw [hzc]; exact vrs_atoms _)
        refine ⟨.agg cells', ?_, by simp only [VR]; exact ⟨cells'.toList, by simp, hv⟩⟩
        simp only [List.getElem?_toArray, List.getElem?_map, Array.getElem?_toList] at hfill
        simp [execOp, ho, Instr.build, hz, run_underlying hP, Array.mapM_eq_mapM_toList, hpl, hfill]
      · cases h
    · cases h
  · cases h

theorem allSome_ok (hρ : Ops.Ok c w ρ e) : ∀ {l : List Operand} {xs : List AV}, allSome (l.map ρ) = some xs → VRs c w xs (l.map e)
  | [], xs, h => by simp only [List.map_nil, allSome, Option.some.injEq] at h; subst h; simp [VRs]
  | o :: l, xs, h => by
    simp only [List.map_cons] at h
    cases ho : ρ o with
    | none => simp [ho, allSome] at h
    | some x =>
      simp only [ho, allSome] at h
      cases hl : allSome (l.map ρ) with
      | none => simp [hl] at h
      | some ys =>
        simp only [hl, Option.some.injEq] at h
        subst h
        simp only [List.map_cons, VRs]
        exact ⟨_, _, rfl, hρ _ _ ho, allSome_ok hρ hl⟩

theorem vMakeFunc_ok [Sites] {o : Oper} {fn : Fn} {first cap : Array Operand} (ho : o.op = .makeFunc fn first cap) {v : AV} {q : Bool} (h : vMakeFunc fn (first.toList.map ρ) (cap.toList.map ρ) = some (v, q)) (hρ : Ops.Ok c w ρ e) : Reads P c w (execOp e o) v := by
  unfold vMakeFunc at h
  split at h
  · rename_i a b h1 h2
    rw [(ok_some h).1]
    refine ⟨.func fn (first.map e) (cap.map e), by simp [execOp, ho, Instr.makeFunc], ?_⟩
    simp only [VR]
    exact ⟨first.toList.map e, cap.toList.map e, by simp [← Array.toList_map], allSome_ok hρ h1, allSome_ok hρ h2⟩
  · cases h

theorem isZero_ok [Sites] {I : Nat → Prop} {w : World} : ∀ {t : Ty} {r r' : List Value}, isZero t r = some r' → ∃ a, r = a ++ r' ∧ TR I w t t.dflt a
  | .byte, r, r', h => by
    unfold isZero at h
    split at h <;> simp only [reduceCtorEq, Option.some.injEq] at *
    subst h
    exact ⟨[_], rfl, by simp only [TR, Ty.dflt]; rfl⟩
  | .int k, r, r', h => by
    unfold isZero at h
    split at h <;> simp only [reduceCtorEq, Ty.int.injEq] at *
    rename_i k1 k' q e1
    subst e1
    cases hb : ikEq k k' with
    | false => simp [hb] at h
    | true =>
      have := ikEq_eq hb
      subst this
      simp only [hb, cond_true, Option.some.injEq] at h
      subst h
      exact ⟨[_], rfl, by simp only [TR, Ty.dflt]; exact ⟨trivial, by cases k <;> decide⟩⟩
  | .bool, r, r', h => by
    unfold isZero at h
    split at h <;> simp only [reduceCtorEq, Option.some.injEq] at *
    subst h
    exact ⟨[_], rfl, by simp only [TR, Ty.dflt]⟩
  | .str, r, r', h => by
    unfold isZero at h
    split at h <;> simp only [reduceCtorEq] at *
    rename_i s q _
    cases hb : Nat.beq s.data.toList.length 0 with
    | false => rw [hb] at h; cases h
    | true =>
      rw [hb] at h
      simp only [cond_true, Option.some.injEq] at h
      subst h
      refine ⟨[_], rfl, ?_⟩
      simp only [TR, Ty.dflt, List.cons.injEq, Value.string.injEq, and_true]
      refine ⟨?_, Nat.zero_le _⟩
      have := Nat.eq_of_beq_eq_true hb
      obtain ⟨⟨d⟩⟩ := s
      simp at this
      rw [this]
  | .slice t, r, r', h => by
    unfold isZero at h
    split at h <;> simp only [reduceCtorEq, Option.some.injEq] at *
    subst h
    exact ⟨[_], rfl, by simp only [TR, Ty.dflt]; exact ⟨_, rfl, none, 0, rfl, Nat.le_refl _, Nat.zero_le _, fun _ => rfl, fun _ e => by cases e⟩⟩
  | .pair a b, r, r', h => by
    simp only [isZero] at h
    split at h
    · rename_i r1 h1
      obtain ⟨p, rfl, g1⟩ := isZero_ok h1
      obtain ⟨q, rfl, g2⟩ := isZero_ok h
      exact ⟨p ++ q, by rw [List.append_assoc], by simp only [TR, Ty.dflt]; exact ⟨p, q, rfl, g1, g2⟩⟩
    · cases h
  | .unit, r, r', h => by
    simp only [isZero, Option.some.injEq] at h
    subst h
    exact ⟨[], rfl, by simp only [TR]⟩

theorem areZero_ok [Sites] {I : Nat → Prop} {w : World} {t : Ty} : ∀ {n : Nat} {r : List Value}, areZero t n r = true → Cat (TR I w t) (List.replicate n t.dflt) r
  | 0, [], h => by simp [Cat]
  | 0, _ :: _, h => by simp [areZero] at h
  | n + 1, r, h => by
    simp only [areZero] at h
    split at h
    · rename_i r' h1
      obtain ⟨a, rfl, g⟩ := isZero_ok (I := I) (w := w) h1
      exact ⟨a, r', rfl, g, areZero_ok h⟩
    · cases h


theorem valOf_vr [Sites] {E : Ty} {x : E.den} {u : Value} (h : TR c.I w E x u.cells.toList) (ha : isAggV u = E.isAgg) : VR c w (valOf E x) u := by
  have hc := cellsOf_ok (c := c) (w := w) h
  unfold valOf
  cases hag : E.isAgg with
  | true =>
    rw [hag] at ha
    cases u <;> simp only [isAggV, Bool.false_eq_true] at ha
    simp only [VR]
    exact ⟨_, rfl, by simpa [Value.cells] using hc⟩
  | false =>
    have hu : u.cells = #[u] := by
      rw [hag] at ha
      cases u <;> first | rfl | (simp only [isAggV, Bool.true_eq_false] at ha)
    rw [hu] at hc
    have hlen := hc.length
    simp only [List.length_cons, List.length_nil, Nat.zero_add] at hlen
    match hcs : cellsOf E x, hlen with
    | [y], _ =>
      rw [hcs] at hc
      simp only [VRs] at hc
      obtain ⟨u', us', e, h1, h2⟩ := hc
      simp only [List.cons.injEq] at e
      rw [e.1]
      exact h1

theorem vLookup_ok [Sites] (hU : U.Ok P) {o : Oper} {t : TypeId} {x k : Operand} {cm : Bool} (ho : o.op = .lookup t x k cm) {v : AV} (h : vLookup U lk (U t) (ρ x) (ρ k) cm = some (v, true)) (hρ : Ops.Ok c w ρ e) (hk : Obs.Ok c w lk) : Reads P c w (execOp e o) v := by
  unfold vLookup at h
  split at h
  · rename_i kt et agg hkk
    have hu := (hU t (by simp [hkk])).1
    simp only [TD.kindOk, hkk] at hu
    split at h
    · rename_i id s hkt hx hs
      have hkd := (hU kt (by simp [hkt])).1
      simp only [TD.kindOk, hkt] at hkd
      have hx' := hρ _ _ hx
      have hs' := hρ _ _ hs
      simp only [VR] at hx' hs'
      obtain ⟨b, hn, hx'⟩ := hx'
      split at h
      · rename_i e' E l hl
        split at h
        · rename_i hc
          simp only [Bool.and_eq_true] at hc
          obtain ⟨⟨⟨c1, c2⟩, c3, c4⟩, c5, c6⟩ := hc
          have c2 := Nat.eq_of_beq_eq_true c2
          have c4 := beqB_eq c4
          have c5 := beqB_eq c5
          obtain ⟨es, clock, hb, hst, hE, _⟩ := map_ents (hk _ _ hl) hn
          obtain ⟨_, hinfo, _⟩ := real_ok hU c1
          obtain ⟨z, hz, hzc⟩ := run_zero_of (P := P) (w := w) hinfo
          have hzz : (P.info? et).bind (·.zero) = some z := by
            simp only [zeroValue, typeInfo] at hz
            cases hi : P.info? et with
            | none => simp [hi] at hz
            | some i =>
              cases hzz : i.zero with
              | none => simp [hi, hzz] at hz
              | some z' => simp [hi, hzz] at hz; simp [hzz, hz]
          have hza : isAggV z = agg := by
            have := hu.2
            rw [hzz] at this
            simpa using this
          have hzt : TR c.I w E E.dflt z.cells.toList := by
            have := areZero_ok (I := c.I) (w := w) c6
            rw [hzc]
            simp only [List.replicate_succ, List.replicate_zero, Cat] at this
            obtain ⟨x, y, e1, e2, e3⟩ := this
            subst e3
            rw [e1, List.append_nil]
            exact e2
          have hik : MapKept.IsKey .string (.string ⟨s.toArray⟩) := trivial
          have key : ∃ u, (∀ cm' : Bool, (Instr.lookup t (.map (some b)) (.string ⟨s.toArray⟩) cm').run P w = .ok (if cm' then .tuple #[u, .bool (mapHas l s)] else u) w) ∧ VR c w (valOf E (mapGet l s E.dflt)) u := by
            rcases MapKept.findNow_spec hik es.toList 0 (EntR.key hE) with ⟨h1, h2⟩ | ⟨j, x0, h1, h2, h3⟩
            · obtain ⟨g1, g2, _⟩ := hE.miss h2
              refine ⟨z, fun cm' => ?_, ?_⟩
              · rw [g1]
                cases cm' <;> simp [Instr.lookup, run_underlying hu.1, MapKept.run_getObj_map hb, MapKept.run_checkKey hkd hik, MapKept.run_findKey hkd h1, hz, Result.andThen]
              · rw [g2]
                exact valOf_vr hzt (by rw [hza, c5])
            · obtain ⟨g1, g2, g3, _⟩ := hE.hit ((MapKept.stamped_iff es clock).1 hst).2.2 h2 h3
              refine ⟨x0.val, fun cm' => ?_, ?_⟩
              · rw [g1]
                cases cm' <;> simp [Instr.lookup, run_underlying hu.1, MapKept.run_getObj_map hb, MapKept.run_checkKey hkd hik, MapKept.run_findKey hkd h1, Result.andThen]
              · exact valOf_vr (g2 _) (by rw [g3, c4, c5])
          obtain ⟨u, hrun, hv⟩ := key
          cases cm with
          | true =>
            simp only at h
            rw [(ok_some h).1]
            refine ⟨_, by simp [execOp, ho, hx', hs'.1, hrun]; rfl, ?_⟩
            simp only [VR]
            refine ⟨_, rfl, ?_⟩
            simp only [VRs, VR]
            exact ⟨_, _, rfl, hv, _, _, rfl, rfl, rfl⟩
          | false =>
            simp only at h
            rw [(ok_some h).1]
            exact ⟨u, by simp [execOp, ho, hx', hs'.1, hrun], hv⟩
        · cases h
      · cases h
    · cases h
  · cases h

theorem evalV_ok [Sites] (hU : U.Ok P) {o : Oper} {v : AV} (h : evalV U ρ lk o.op = some (v, true)) (hρ : Ops.Ok c w ρ e) (hk : Obs.Ok c w lk) : Reads P c w (execOp e o) v := by
  unfold evalV at h
  split at h
  · rename_i x ho; exact ⟨e x, by simp [execOp, ho], hρ _ _ (vMove_some h)⟩
  · rename_i x ho; exact ⟨e x, by simp [execOp, ho], hρ _ _ (vMove_some h)⟩
  · rename_i x y z ho
    obtain ⟨t, ht, hv⟩ := vPick_ok (c := c) (w := w) (vc := e x) (va := e y) (vb := e z) h (fun _ hx => hρ _ _ hx) (fun _ hx => hρ _ _ hx) (fun _ hx => hρ _ _ hx)
    exact ⟨_, by simp [execOp, ho, ht, asBool, Sem.run]; try rfl, hv⟩
  · rename_i ho; exact vBin_ok hU ho h hρ
  · rename_i ho; exact vUn_ok ho h hρ
  · rename_i ho; exact vConv_ok hU ho h hρ hk
  · rename_i ho; exact vNil_ok ho h hρ
  · rename_i ho; exact vFieldAddr_ok hU ho h hρ
  · rename_i ho; exact vField_ok hU ho h hρ
  · rename_i ho; exact vIndexAddr_ok hU ho h hρ hk
  · rename_i ho; exact vIndex_ok hU ho h hρ
  · rename_i ho; exact vLoad_ok hU ho h hρ hk
  · rename_i ho; exact vLookup_ok hU ho h hρ hk
  · rename_i ho; exact vExtract_ok ho h hρ
  · rename_i ho; exact vSlice_ok hU ho h hρ hk
  · rename_i ho; exact vBuild_ok hU ho h hρ
  · rename_i ho; exact vMakeFunc_ok ho h hρ
  · rename_i ho; exact vBuiltin_ok hU ho h hρ hk
  · cases h
end
end Go.Hay
/- Operations that make or write memory of ours: what they come to; what they look at. -/
set_option linter.unusedVariables false
set_option linter.unusedSimpArgs false
namespace Go.Hay
open Go.RowKit

def u8 (n : Int) : UInt8 := UInt8.ofNat n.toNat

theorem u8_byte (x : UInt8) : u8 (x.toNat : Int) = x := by simp [u8]
theorem u8_toNat {n : Int} (h : fits .u8 n = true) : ((u8 n).toNat : Int) = n := by
  simp [fits] at h
  simp [u8]
  omega

def frozenList (lk : Lk) (t : Ty) (x : AV) : Option (List t.den) :=
  match x with
  | .list t' l => castL t t' l
  | .nils => some []
  | .own id => match lk id with
    | some (.frow t' l) => castL t t' l
    | _ => none
  | .view id sz lo n => match lk id with
    | some (.frow t' l) => bif Nat.beq sz t'.size then castL t t' ((l.drop lo).take n) else none
    | _ => none
  | _ => none

def mkByte : List AV → Option (UInt8 × List AV)
  | .int .u8 n :: r => some (u8 n, r)
  | _ => none
def mkInt (k : IntKind) : List AV → Option (Int × List AV)
  | .int k' n :: r => bif ikEq k k' then some (n, r) else none
  | _ => none
def mkBool : List AV → Option (Bool × List AV)
  | .bool b :: r => some (b, r)
  | _ => none
def mkStr : List AV → Option (List UInt8 × List AV)
  | .str s :: r => some (s, r)
  | _ => none

def mk (lk : Lk) : (t : Ty) → List AV → Option (t.den × List AV)
  | .byte, cs => mkByte cs
  | .int k, cs => mkInt k cs
  | .bool, cs => mkBool cs
  | .str, cs => mkStr cs
  | .slice t, cs => match cs with
    | x :: r => match frozenList lk t x with
      | some l => some (l, r)
      | none => none
    | [] => none
  | .pair a b, cs => match mk lk a cs with
    | some (x, r) => match mk lk b r with
      | some (y, r') => some ((x, y), r')
      | none => none
    | none => none
  | .unit, cs => some ((), cs)

def mk1 (lk : Lk) (t : Ty) (cs : List AV) : Option t.den :=
  match mk lk t cs with
  | some (x, []) => some x
  | _ => none

def mkList (lk : Lk) (t : Ty) : Nat → List AV → Option (List t.den)
  | 0, [] => some []
  | 0, _ => none
  | n + 1, cs => match mk lk t cs with
    | some (x, r) => match mkList lk t n r with
      | some l => some (x :: l)
      | none => none
    | none => none

def lookR (s : Obs) (id : Nat) : Option Ob := match look s id with
  | some (.row e t l) => bif isMapTy e then none else some (.row e t l)
  | _ => none
theorem lookR_row {s : Obs} {id : Nat} {e : TypeId} {t : Ty} {l : List t.den} (h : lookR s id = some (.row e t l)) : look s id = some (.row e t l) ∧ isMapTy e = false := by
  unfold lookR at h
  split at h
  · rename_i e' t' l' hl
    cases hm : isMapTy e' with
    | true => simp [hm] at h
    | false =>
      simp only [hm, cond_false, Option.some.injEq, Ob.row.injEq] at h
      obtain ⟨rfl, rfl, h⟩ := h
      cases h
      exact ⟨hl, hm⟩
  · cases h

def frz1 (s : Obs) : AV → Obs
  | .own id => match lookR s id with
    | some (.row _ t l) => put s id (.frow t l)
    | _ => s
  | .view id _ _ _ => match lookR s id with
    | some (.row _ t l) => put s id (.frow t l)
    | _ => s
  | _ => s
def frz (s : Obs) : List AV → Obs
  | [] => s
  | x :: r => frz (frz1 s x) r

abbrev Res := Option (AV × Obs × Nat × Bool)

def isFresh (s : Obs) (nx : Nat) : Bool := match look s nx with | none => true | _ => false

def newBox (s : Obs) (nx : Nat) (t : TypeId) (cs : List AV) : Res :=
  match (isFresh s nx && allOne cs) && !isBig t with
  | true => some (.ptr nx 0, put s nx (.box t cs), nx + 1, true)
  | false => .none

def eAlloc (U : TEnv) (s : Obs) (nx : Nat) (t : TypeId) : Res :=
  match (U t).real with
  | true => match (U t).k with
    | .array n e => match (U e).ty with
      | some T => match isFresh s nx && (Nat.blt 0 n && (Nat.ble n 1000000 && (Nat.beq (n * T.size) (U t).size && areZero T n (U t).zero))) with
        | true => some (.aptr nx n, put s nx (.row t T (List.replicate n T.dflt)), nx + 1, true)
        | false => .none
      | .none => .none
    | _ => newBox s nx t (atoms (U t).zero)
  | false => .none

def eBox (s : Obs) (nx : Nat) (t : TypeId) (x : Option AV) : Res := match x with | some v => newBox s nx t v.cells | .none => .none

def eList (s : Obs) (nx sz len : Nat) (cs : List AV) : Res :=
  match isFresh s nx && (Nat.blt 0 len && Nat.ble (len * sz) 16777216) with
  | true => some (.elist sz len cs, put s nx .dead, nx + 1, true)
  | false => .none

def eBuildSlice (U : TEnv) (s : Obs) (nx : Nat) (d : TD) (len : Nat) (parts : List (Nat × Option AV)) : Res :=
  match d.k with
  | .slice e => match (U e).real, (U e).ty with
    | true, some T => match fillIn (fun i => some (i * (U e).size, (U e).size)) (List.flatten (List.replicate len (atoms (U e).zero))) parts with
      | some cs => match mkList (look (frz s cs)) T len cs with
        | some l => match isFresh (frz s cs) nx && (Nat.beq T.size (U e).size && Nat.ble (len * (U e).size) 16777216) with
          | true => some (.own nx, put (frz s cs) nx (.row e T l), nx + 1, true)
          | false => .none
        | .none => eList s nx (U e).size len cs
      | .none => .none
    | true, .none => match fillIn (fun i => some (i * (U e).size, (U e).size)) (List.flatten (List.replicate len (atoms (U e).zero))) parts with
      | some cs => eList s nx (U e).size len cs
      | .none => .none
    | _, _ => .none
  | _ => .none

def eStore (d : TD) (s : Obs) (nx : Nat) (x v : Option AV) : Res :=
  match d.real, x, v with
  | true, some (.ptr i j), some v => match look s i with
    | some (.box t cs) => match (Nat.beq v.cells.length d.size && (Nat.ble (j + d.size) cs.length && allOne v.cells)) && !isBig t with
      | true => some (.junk, put s i (.box t (cs.take j ++ v.cells ++ cs.drop (j + d.size))), nx, true)
      | false => .none
    | _ => .none
  | true, some (.rptr id sz i j), some v => match look (frz s v.cells) id with
    | some (.row e t l) => match mk1 (look (frz s v.cells)) t ((cellsOf t (l.getD i t.dflt)).take j ++ v.cells ++ (cellsOf t (l.getD i t.dflt)).drop (j + d.size)) with
      | some y => match Nat.beq sz t.size && (Nat.beq v.cells.length d.size && (Nat.ble (j + d.size) t.size && allOne v.cells)) with
        | true => some (.junk, put (frz s v.cells) id (.row e t (l.set i y)), nx, decide (i < l.length))
        | false => .none
      | .none => .none
    | _ => .none
  | _, _, _ => .none

def room (n bytes : Nat) : Bool := decide (n * bytes ≤ 140737488355328) && decide (n ≤ 140737488355328)

def srcOf (lk : Lk) (T : Ty) (y : Option AV) : Option (List T.den) := match y with | some y => listOf lk T y | .none => .none
def srcStr (T : Ty) (y : Option AV) : Option (List T.den) :=
  match T, y with
  | .byte, some (.str l) => some l
  | _, _ => .none

def eAppend (U : TEnv) (s : Obs) (nx : Nat) (t t' : TypeId) (x y : Option AV) : Res :=
  match (U t).k with
  | .slice e => match (U e).real with
    | true => match x with
      | some (.own id) => match look s id with
        | some (.row e' T l) => match (match Nat.beq t t', (U t').k with | true, _ => srcOf (rdk s) T y | false, .string => srcStr T y | _, _ => .none) with
          | some m => match isFresh s nx && (Nat.beq e' e && Nat.beq T.size (U e).size) with
            | true => some (.own nx, put (put s id .dead) nx (.row e T (l ++ m)), nx + 1, room (l.length + m.length) (U e).bytes)
            | false => .none
          | .none => .none
        | _ => .none
      | some .nils => match (U e).ty with
        | some T => match (match Nat.beq t t', (U t').k with | true, _ => srcOf (rdk s) T y | false, .string => srcStr T y | _, _ => .none) with
          | some m => match isFresh s nx && Nat.beq T.size (U e).size with
            | true => some (.own nx, put s nx (.row e T m), nx + 1, room m.length (U e).bytes)
            | false => .none
          | .none => .none
        | .none => .none
      | _ => .none
    | false => .none
  | _ => .none

def eBytes (U : TEnv) (s : Obs) (nx : Nat) (src dst : TD) (x : Option AV) : Res :=
  match src.k, dst.k, x with
  | .string, .slice e, some (.str l) => match (U e).k with
    | .int .u8 => match isFresh s nx with
      | true => some (.own nx, put s nx (.frow .byte l), nx + 1, true)
      | false => .none
    | _ => .none
  | _, _, _ => .none

def eMark (U : TEnv) (s : Obs) (nx : Nat) (src dst : TypeId) (x : Option AV) : Res :=
  match Nat.beq src dst, (U src).k with
  | true, .slice e => match (U e).k, x with
    | .int .u8, some (.own id) => match look s id with
      | some (.row e' .byte l) => match Nat.beq e' e with
        | true => some (.own id, put s id (.frow .byte l), nx, decide (0 < l.length))
        | false => .none
      | _ => .none
    | _, _ => .none
  | _, _ => .none

def eConv (U : TEnv) (s : Obs) (nx : Nat) (src dst : TypeId) (x : Option AV) : Res :=
  match (U src).k with
  | .string => eBytes U s nx (U src) (U dst) x
  | _ => eMark U s nx src dst x

def eMake (U : TEnv) (s : Obs) (nx : Nat) (t : TypeId) (l c : Option AV) : Res :=
  match (U t).k with
  | .slice e => match (U e).real, (U e).ty, l, c with
    | true, some T, some (.int _ a), some (.int _ b) => match isFresh s nx && (Nat.beq T.size (U e).size && areZero T 1 (U e).zero) with
      | true => some (.own nx, put s nx (.row e T (List.replicate a.toNat T.dflt)), nx + 1, (decide (0 ≤ a) && decide (a ≤ b)) && room b.toNat (U e).bytes)
      | false => .none
    | _, _, _, _ => .none
  | _ => .none

def eZeros (U : TEnv) (s : Obs) (nx : Nat) (t t' : TypeId) (x y : Option AV) : Res :=
  match (U t).k, (U t').k, x, y with
  | .slice e, .int _, some .nils, some (.int _ a) => match (U e).real, (U e).ty with
    | true, some T => match isFresh s nx && (Nat.beq T.size (U e).size && areZero T 1 (U e).zero) with
      | true => some (.own nx, put s nx (.row e T (List.replicate a.toNat T.dflt)), nx + 1, decide (0 ≤ a) && room a.toNat (U e).bytes)
      | false => .none
    | _, _ => .none
  | _, _, _, _ => .none

def eMakeMap (U : TEnv) (s : Obs) (nx : Nat) (t : TypeId) : Res :=
  match (U t).k with
  | .map kt et agg => match (U kt).k, (U et).ty with
    | .string, some E => match (isFresh s nx && (U et).real) && (Nat.beq E.size (U et).size && beqB E.isAgg agg) with
      | true => some (.mp nx, put s nx (.row (bif agg then 3000000 else 2000000) (.pair .str E) []), nx + 1, true)
      | false => .none
    | _, _ => .none
  | _ => .none

def eMapUpdate (U : TEnv) (s : Obs) (nx : Nat) (t : TypeId) (m k v : Option AV) : Res :=
  match (U t).k with
  | .map kt et agg => match (U kt).k, m, k, v with
    | .string, some (.mp id), some (.str key), some v => match look (frz s v.cells) id with
      | some (.row e (.pair .str E) l) => match mk1 (look (frz s v.cells)) E v.cells with
        | some y => match beqB E.isAgg (mapAgg e) && (aggOk E v && allOne v.cells) with
          | true => some (.junk, put (frz s v.cells) id (.row e (.pair .str E) (mapPut l key y)), nx, true)
          | false => .none
        | .none => .none
      | _ => .none
    | _, _, _, _ => .none
  | _ => .none

def eDelete (U : TEnv) (s : Obs) (nx : Nat) (t : TypeId) (m k : Option AV) : Res :=
  match (U t).k with
  | .map kt et agg => match (U kt).k, m, k with
    | .string, some (.mp id), some (.str key) => match look s id with
      | some (.row e (.pair .str E) l) => some (.tup [], put s id (.row e (.pair .str E) (mapDel l key)), nx, true)
      | _ => .none
    | _, _, _ => .none
  | _ => .none

def evalE (U : TEnv) (ρ : Operand → Option AV) (s : Obs) (nx : Nat) (o : Op) : Res :=
  match o with
  | .alloc t => eAlloc U s nx t
  | .box t x => eBox s nx t (ρ x)
  | .buildSlice t len parts => eBuildSlice U s nx (U t) len (evParts ρ parts.toList)
  | .store t x v => eStore (U t) s nx (ρ x) (ρ v)
  | .convert src dst x => eConv U s nx src dst (ρ x)
  | .makeSlice t l c => eMake U s nx t (ρ l) (ρ c)
  | .makeMap t .none => eMakeMap U s nx t
  | .mapUpdate t m k v => eMapUpdate U s nx t (ρ m) (ρ k) (ρ v)
  | .call { callee := .builtin .delete, args := args, argTypes := ts } => match args.toList, ts.toList with
    | [m, k], t :: _ => eDelete U s nx t (ρ m) (ρ k)
    | _, _ => .none
  | .call { callee := .builtin .append, args := args, argTypes := ts } => match args.toList, ts.toList with
    | [x, y], [t, t'] => match eAppend U s nx t t' (ρ x) (ρ y) with
      | some r => some r
      | .none => eZeros U s nx t t' (ρ x) (ρ y)
    | _, _ => .none
  | _ => .none

def AV.ids : AV → List Nat
  | .own i | .view i _ _ _ | .ptr i _ | .rptr i _ _ _ | .aptr i _ | .yld i | .mp i => [i]
  | _ => []
def idsO (x : Option AV) : List Nat := match x with | some v => v.ids | none => []
def looks : Op → Bool
  | .convert _ _ _ | .indexAddr _ _ _ | .load _ _ | .slice _ _ _ _ _ | .call _ | .lookup _ _ _ _ => true
  | _ => false
def foot (ρ : Operand → Option AV) (o : Op) : List Nat := bif looks o then o.operands.toList.flatMap fun x => idsO (ρ x) else []
end Go.Hay
/- Operations that make or write memory of ours: the evaluator is right, first part. -/
set_option linter.unusedVariables false
set_option linter.unusedSimpArgs false
namespace Go.Hay
open Go.RowKit

def Does [Sites] (P : Program) (B : Bs) (c : Cf) (w : World) (sem : Sem Next) (v : AV) (s1 : Obs) : Prop :=
  ∃ c' w' u, (sem.run P w = .ok (.value u) w' ∨ (sem.run P w = .ok .skip w' ∧ u = undef)) ∧ Rel B c' s1 w' ∧ VR c' w' v u ∧ Ext c w c' w'

section
variable {P : Program} {U : TEnv} {B : Bs} {c : Cf} {w : World} {s : Obs} {nx : Nat} {ρ : Operand → Option AV} {e : Operand → Value}

theorem Rel.obs [Sites] (h : Rel B c s w) : Obs.Ok c w (look s) := fun id o ho => h.ob id o ho
theorem Rel.rdk [Sites] (h : Rel B c s w) : Obs.Ok c w (rdk s) := fun id o ho => by
  unfold Hay.rdk at ho
  split at ho
  · rename_i o' hl
    simp only [Option.some.injEq] at ho
    subst ho
    exact rd_obr.2 (h.ob id o' hl)
  · cases ho

theorem isFresh_none (h : isFresh s nx = true) : look s nx = none := by
  unfold isFresh at h
  split at h
  · assumption
  · cases h

theorem frozenList_ok [Sites] {lk : Lk} (hk : Obs.Ok c w lk) {t : Ty} {x : AV} {l : List t.den} (h : frozenList lk t x = some l) {u : Value} (hv : VR c w x u) : SliceAt c.I w (TR c.I w t) l u := by
  unfold frozenList at h
  split at h
  · obtain ⟨rfl, rfl⟩ := castL_some h
    simpa only [VR] using hv
  · simp only [Option.some.injEq] at h
    subst h
    simp only [VR] at hv
    obtain ⟨A, rfl⟩ := hv
    exact ⟨A, 0, rfl, Nat.le_refl _, Nat.zero_le _, fun _ => rfl, fun _ _ hp => by simp at hp⟩
  · rename_i id
    simp only [VR] at hv
    split at h
    · rename_i t' l' hl
      obtain ⟨rfl, rfl⟩ := castL_some h
      obtain ⟨v, h1, h2⟩ := hk _ _ hl
      rw [hv.1] at h1; simp only [Option.some.injEq] at h1; subst h1
      exact h2
    · cases h
  · rename_i id sz lo n
    simp only [VR] at hv
    split at h
    · rename_i t' l' hl
      cases hb : Nat.beq sz t'.size with
      | false => simp [hb] at h
      | true =>
        simp only [hb, cond_true] at h
        obtain ⟨rfl, rfl⟩ := castL_some h
        obtain ⟨A, n0, cap, h1, h2, h3, rfl⟩ := hv
        obtain ⟨v, h4, h5⟩ := hk _ _ hl
        rw [h1] at h4
        simp only [Option.some.injEq] at h4
        subst h4
        have hn : l'.length = n0 := by
          obtain ⟨A', cap', e', _⟩ := h5
          simp only [Value.slice.injEq] at e'
          exact e'.2.1.symm
        have := h5.part (lo := lo) (hi := lo + n) TR_len_fun (by omega) (by omega)
        rw [List.drop_take, Nat.add_sub_cancel_left] at this
        rw [← Nat.eq_of_beq_eq_true hb] at this
        exact this
    · cases h
  · cases h

theorem mk_ok [Sites] {lk : Lk} (hk : Obs.Ok c w lk) : ∀ {t : Ty} {cs : List AV} {x : t.den} {r : List AV} {us : List Value}, mk lk t cs = some (x, r) → VRs c w cs us →
    ∃ a b, us = a ++ b ∧ TR c.I w t x a ∧ VRs c w r b
  | .byte, cs, x, r, us, h, hv => by
    simp only [mk] at h
    unfold mkByte at h
    split at h
    · simp only [Option.some.injEq, Prod.mk.injEq] at h
      obtain ⟨rfl, rfl⟩ := h
      simp only [VRs, VR] at hv
      obtain ⟨u, us', rfl, ⟨rfl, hf⟩, h2⟩ := hv
      exact ⟨[_], us', rfl, by simp only [TR]; rw [u8_toNat hf], h2⟩
    · cases h
  | .int k, cs, x, r, us, h, hv => by
    simp only [mk] at h
    unfold mkInt at h
    split at h
    · rename_i k' n r'
      cases hb : ikEq k k' with
      | false => simp [hb] at h
      | true =>
        have := ikEq_eq hb
        subst this
        simp only [hb, cond_true, Option.some.injEq, Prod.mk.injEq] at h
        obtain ⟨rfl, rfl⟩ := h
        simp only [VRs, VR] at hv
        obtain ⟨u, us', rfl, ⟨rfl, hf⟩, h2⟩ := hv
        exact ⟨[_], us', rfl, by simp only [TR]; exact ⟨trivial, hf⟩, h2⟩
    · cases h
  | .bool, cs, x, r, us, h, hv => by
    simp only [mk] at h
    unfold mkBool at h
    split at h
    · simp only [Option.some.injEq, Prod.mk.injEq] at h
      obtain ⟨rfl, rfl⟩ := h
      simp only [VRs, VR] at hv
      obtain ⟨u, us', rfl, rfl, h2⟩ := hv
      exact ⟨[_], us', rfl, by simp only [TR], h2⟩
    · cases h
  | .str, cs, x, r, us, h, hv => by
    simp only [mk] at h
    unfold mkStr at h
    split at h
    · simp only [Option.some.injEq, Prod.mk.injEq] at h
      obtain ⟨rfl, rfl⟩ := h
      simp only [VRs, VR] at hv
      obtain ⟨u, us', rfl, ⟨rfl, hf⟩, h2⟩ := hv
      exact ⟨[_], us', rfl, by simp only [TR]; exact ⟨trivial, hf⟩, h2⟩
    · cases h
  | .slice t, cs, x, r, us, h, hv => by
    cases cs with
    | nil => simp [mk] at h
    | cons y cs =>
      simp only [mk] at h
      split at h
      · rename_i l hl
        simp only [Option.some.injEq, Prod.mk.injEq] at h
        obtain ⟨rfl, rfl⟩ := h
        simp only [VRs] at hv
        obtain ⟨u, us', rfl, h1, h2⟩ := hv
        exact ⟨[u], us', rfl, by simp only [TR]; exact ⟨u, rfl, frozenList_ok hk hl h1⟩, h2⟩
      · cases h
  | .pair a b, cs, x, r, us, h, hv => by
    simp only [mk] at h
    split at h
    · rename_i x1 r1 h1
      split at h
      · rename_i x2 r2 h2
        simp only [Option.some.injEq, Prod.mk.injEq] at h
        obtain ⟨rfl, rfl⟩ := h
        obtain ⟨p, q, rfl, g1, g2⟩ := mk_ok hk h1 hv
        obtain ⟨p', q', rfl, g3, g4⟩ := mk_ok hk h2 g2
        exact ⟨p ++ p', q', by rw [List.append_assoc], by simp only [TR]; exact ⟨p, p', rfl, g1, g3⟩, g4⟩
      · cases h
    · cases h
  | .unit, cs, x, r, us, h, hv => by
    simp only [mk, Option.some.injEq, Prod.mk.injEq] at h
    obtain ⟨_, rfl⟩ := h
    exact ⟨[], us, rfl, by simp only [TR], hv⟩

theorem mk1_ok [Sites] {lk : Lk} (hk : Obs.Ok c w lk) {t : Ty} {cs : List AV} {x : t.den} {us : List Value} (h : mk1 lk t cs = some x) (hv : VRs c w cs us) : TR c.I w t x us := by
  unfold mk1 at h
  split at h
  · rename_i x' h1
    simp only [Option.some.injEq] at h
    subst h
    obtain ⟨a, b, rfl, g1, g2⟩ := mk_ok hk h1 hv
    simp only [VRs] at g2
    rw [g2, List.append_nil]
    exact g1
  · cases h

theorem mkList_ok [Sites] {lk : Lk} (hk : Obs.Ok c w lk) {t : Ty} : ∀ {n : Nat} {cs : List AV} {l : List t.den} {us : List Value}, mkList lk t n cs = some l → VRs c w cs us → Cat (TR c.I w t) l us ∧ l.length = n
  | 0, [], l, us, h, hv => by
    simp only [mkList, Option.some.injEq] at h
    subst h
    simpa [VRs, Cat] using hv
  | 0, _ :: _, l, us, h, hv => by simp [mkList] at h
  | n + 1, cs, l, us, h, hv => by
    simp only [mkList] at h
    split at h
    · rename_i x r h1
      split at h
      · rename_i l' h2
        simp only [Option.some.injEq] at h
        subst h
        obtain ⟨a, b, rfl, g1, g2⟩ := mk_ok hk h1 hv
        obtain ⟨g3, g4⟩ := mkList_ok hk h2 g2
        exact ⟨⟨a, b, rfl, g1, g3⟩, by simp [g4]⟩
      · cases h
    · cases h

theorem frz_row [Sites] (h : Rel B c s w) {id : Nat} {el : TypeId} {t : Ty} {l : List t.den} (hl : look s id = some (.row el t l)) (hmt : isMapTy el = false) :
    ∃ I', Rel B ⟨c.nm, I'⟩ (put s id (.frow t l)) w ∧ Ext c w ⟨c.nm, I'⟩ w := by
  refine ⟨fun b => c.I b ∨ Own c id (.row el t l) b, ?_⟩
  refine h.upd (c' := ⟨c.nm, fun b => c.I b ∨ Own c id (.row el t l) b⟩) id (.frow t l) (fun b => Own c id (.row el t l) b) (fun _ _ h => h) (fun _ _ => rfl) (fun _ h => .inl h) (fun b hb => ?_) (fun _ _ _ => rfl)
    (fun b hb => h.free hl hb) (fun hE => ?_) (fun b hb => hb.elim) rfl rfl rfl (Nat.le_refl _)
  · rcases hb with hb | hb
    · exact .inl hb
    · exact .inr ⟨.inl hb, fun hh => hh, (h.ob _ _ hl).lt hb⟩
  · obtain ⟨v, us, h1, h2, h3⟩ := h.ob _ _ hl
    refine ⟨v, h1, ?_⟩
    have h3' := Cat.lasts hE.lasts h3
    rcases h2.2 with ⟨h0, A, rfl⟩ | ⟨b, cap, cur, rfl, hpos, hn, hm, hg, hs, ht⟩ | ⟨b, es, q, _, _, _, _, hq⟩
    rotate_left 2
    · rw [hmt] at hq; cases hq
    · refine ⟨A, 0, by rw [h0], by rw [h0]; exact Nat.le_refl _, Nat.zero_le _, fun _ => h0, fun ad _ hp => by omega⟩
    · refine ⟨some ⟨b, 0, none⟩, cap, rfl, hn, hm, (fun e => by cases e), fun ad ha _ => ?_⟩
      cases ha
      refine ⟨rfl, .inr ⟨_, h1, by simp [blockOf]; omega⟩, us, h3', fun j u hj => ?_⟩
      rw [cell_of_row w b (0 + j) cur el (0, 0) hg, Nat.zero_add]
      rw [← ht, List.getElem?_take] at hj
      split at hj
      · simpa using hj
      · cases hj

theorem frz1_ok [Sites] (h : Rel B c s w) (x : AV) : ∃ I', Rel B ⟨c.nm, I'⟩ (frz1 s x) w ∧ Ext c w ⟨c.nm, I'⟩ w := by
  have hself : ∃ I', Rel B ⟨c.nm, I'⟩ s w ∧ Ext c w ⟨c.nm, I'⟩ w := ⟨c.I, h, Ext.refl c w⟩
  unfold frz1
  split
  · split
    · rename_i hl; exact frz_row h (lookR_row hl).1 (lookR_row hl).2
    · exact hself
  · split
    · rename_i hl; exact frz_row h (lookR_row hl).1 (lookR_row hl).2
    · exact hself
  · exact hself

theorem frz_ok [Sites] : ∀ (xs : List AV) {c : Cf} {s : Obs}, Rel B c s w → ∃ I', Rel B ⟨c.nm, I'⟩ (frz s xs) w ∧ Ext c w ⟨c.nm, I'⟩ w
  | [], c, s, h => ⟨c.I, h, Ext.refl c w⟩
  | x :: xs, c, s, h => by
    obtain ⟨I1, h1, h2⟩ := frz1_ok h x
    obtain ⟨I2, h3, h4⟩ := frz_ok xs h1
    exact ⟨I2, h3, h2.trans h4⟩

theorem newBox_does [Sites] (h : Rel B c s w) {t : TypeId} {cs : List AV} {us : List Value} (hv : VRs c w cs us) {v : AV} {s1 : Obs} {n1 : Nat} (hb : newBox s nx t cs = some (v, s1, n1, true))
    {sem : Sem Next} (hrun : sem.run P w = .ok (.value (.pointer (some ⟨w.heap.size, 0, none⟩))) (w.alloc (.cells us.toArray t))) : Does P B c w sem v s1 := by
  unfold newBox at hb
  split at hb
  · rename_i hc
    simp only [Bool.and_eq_true] at hc
    simp only [Option.some.injEq, Prod.mk.injEq] at hb
    obtain ⟨rfl, rfl, _⟩ := hb
    have hfr := isFresh_none hc.1.1
    have hnone := h.dom nx hfr
    have hbig : isBig t = false := by simpa using hc.2
    obtain ⟨h1, h2⟩ := h.upd (c' := ⟨fun i => if i = nx then some (.pointer (some ⟨w.heap.size, 0, none⟩)) else c.nm i, c.I⟩) (w' := w.alloc (.cells us.toArray t)) nx (.box t cs) (fun _ => False)
      (fun i v hv => by
        by_cases e : i = nx
        · subst e; rw [hnone] at hv; cases hv
        · simp [e, hv])
      (fun i hi => by simp [hi]) (fun _ h => h) (fun b hb => .inl hb) (fun b hb _ => Below.heap_alloc w _ b hb) (fun b hb => hb.elim)
      (fun hE => ⟨w.heap.size, us, by simp, by rw [boxObj_small hbig]; exact heap_alloc_new w _, VRs.ext hE _ _ hv⟩)
      (fun b hb => by
        obtain ⟨v, h1, h2⟩ := hb
        simp at h1
        subst h1
        simp [blockOf] at h2
        right; omega)
      rfl rfl rfl (by simp)
    exact ⟨_, _, _, .inl hrun, h1, by simp only [VR]; exact ⟨w.heap.size, by simp, rfl⟩, h2⟩
  · cases hb

theorem newRow_does [Sites] (h : Rel B c s w) {el : TypeId} {t : Ty} {l : List t.den} {w' : World} {v : Value} {us : List Value} (hfr : look s nx = none)
    (hh : ∀ b, b < w.heap.size → w'.heap[b]? = w.heap[b]?) (hos : w'.os = w.os) (htp : w'.tape = w.tape) (hout : w'.output = w.output) (hsz : w.heap.size ≤ w'.heap.size)
    (hrow : RowAt w' el t.size v l.length us) (hnew : ∀ b, blockOf v = some b → w.heap.size ≤ b) (hcat : Cat (TR c.I w t) l us) :
    ∃ c', Rel B c' (put s nx (.row el t l)) w' ∧ c'.nm nx = some v ∧ Ext c w c' w' := by
  have hnone := h.dom nx hfr
  obtain ⟨h1, h2⟩ := h.upd (c' := ⟨fun i => if i = nx then some v else c.nm i, c.I⟩) (w' := w') nx (.row el t l) (fun _ => False)
    (fun i u hv => by
      by_cases e : i = nx
      · subst e; rw [hnone] at hv; cases hv
      · simp [e, hv])
    (fun i hi => by simp [hi]) (fun _ h => h) (fun b hb => .inl hb) (fun b hb _ => hh b hb) (fun b hb => hb.elim)
    (fun hE => ⟨v, us, by simp, hrow, Cat.lasts hE.lasts hcat⟩)
    (fun b hb => by
      obtain ⟨v', h1, h2⟩ := hb
      simp at h1
      subst h1
      exact .inr (hnew b h2))
    hos htp hout hsz
  exact ⟨_, h1, by simp, h2⟩

theorem eAlloc_ok [Sites] (hU : U.Ok P) {o : Oper} {t : TypeId} (ho : o.op = .alloc t) {v : AV} {s1 : Obs} {n1 : Nat} (h : eAlloc U s nx t = some (v, s1, n1, true)) (hR : Rel B c s w) : Does P B c w (execOp e o) v s1 := by
  unfold eAlloc at h
  split at h
  · rename_i hr
    obtain ⟨z, hz, hzc⟩ := run_zero_of (w := w) (real_ok hU hr).2.1
    have hrun : (execOp e o).run P w = .ok (.value (.pointer (some ⟨w.heap.size, 0, none⟩))) (w.alloc (.cells z.cells t)) := by
      simp [execOp, ho, Instr.alloc, hz, newVar, Go.newRow, newObj, Sem.run]
    split at h
    · rename_i n el hk
      split at h
      · rename_i T hT
        split at h
        · rename_i hc
          simp only [Bool.and_eq_true, Nat.blt_eq, Nat.ble_eq] at hc
          obtain ⟨h0, h1, h2, h3, h4⟩ := hc
          have h3 := Nat.eq_of_beq_eq_true h3
          simp only [Option.some.injEq, Prod.mk.injEq] at h
          obtain ⟨rfl, rfl, _⟩ := h
          have hzl : z.cells.toList.length = n * T.size := by rw [hzc, (real_zero hr).2, h3]
          obtain ⟨c', g1, g2, g3⟩ := newRow_does (nx := nx) (el := t) (t := T) (l := List.replicate n T.dflt) (v := .slice (some ⟨w.heap.size, 0, none⟩) n n) (us := z.cells.toList) (w' := w.alloc (.cells z.cells t)) hR (isFresh_none h0)
            (fun b hb => Below.heap_alloc w _ b hb) rfl rfl rfl (by simp)
            ⟨by rw [List.length_replicate, hzl], .inr <| .inl ⟨w.heap.size, n, z.cells, by rw [List.length_replicate], h1, by rw [List.length_replicate]; exact Nat.le_refl _, by unfold maxLen; omega, heap_alloc_new w _, by rw [← Array.length_toList, hzl],
              by rw [List.length_replicate, ← hzl, List.take_length]⟩⟩
            (fun b hb => by simp [blockOf] at hb; omega) (by rw [hzc]; exact areZero_ok h4)
          exact ⟨c', _, _, .inl hrun, g1, by simp only [VR]; exact ⟨w.heap.size, g2, by unfold maxLen; omega, rfl⟩, g3⟩
        · cases h
      · cases h
    · refine newBox_does hR (us := z.cells.toList) (by rw [hzc]; exact vrs_atoms _) h (by simpa using hrun)
  · cases h

theorem cells_ok [Sites] {x : AV} {u : Value} (h : allOne x.cells = true) (hv : VR c w x u) : VRs c w x.cells u.cells.toList := by
  have one : ∀ (hx : x.cells = [x]), VRs c w x.cells u.cells.toList := fun hx => by
    rw [hx] at h ⊢
    have h1 : u.oneCell' = true := one_ok (by simpa [allOne] using h) hv
    rw [cells_of_one h1]
    simp only [VRs]
    exact ⟨u, [], rfl, hv, rfl⟩
  cases x with
  | agg cs => simp only [VR] at hv; obtain ⟨us, rfl, hv⟩ := hv; simpa [AV.cells, Value.cells] using hv
  | _ => exact one rfl

theorem eBox_ok [Sites] {o : Oper} {t : TypeId} {x : Operand} (ho : o.op = .box t x) {v : AV} {s1 : Obs} {n1 : Nat} (h : eBox s nx t (ρ x) = some (v, s1, n1, true)) (hR : Rel B c s w) (hρ : Ops.Ok c w ρ e) : Does P B c w (execOp e o) v s1 := by
  unfold eBox at h
  split at h
  · rename_i y hy
    have h1 : allOne y.cells = true := by
      unfold newBox at h
      split at h
      · rename_i hc
        simp only [Bool.and_eq_true] at hc
        exact hc.1.2
      · cases h
    refine newBox_does hR (us := (e x).cells.toList) (cells_ok h1 (hρ _ _ hy)) h ?_
    simp [execOp, ho, Instr.box, newVar, Go.newRow, newObj, Sem.run]
  · cases h
end
end Go.Hay
/- Operations that make or write memory of ours: the evaluator is right, second part. -/
set_option linter.unusedVariables false
set_option linter.unusedSimpArgs false
namespace Go.Hay
open Go.RowKit
section
variable {P : Program} {U : TEnv} {B : Bs} {c : Cf} {w : World} {s : Obs} {nx : Nat} {ρ : Operand → Option AV} {e : Operand → Value}

theorem flat_rep {α : Type} (l : List α) : ∀ (n i : Nat), i < n * l.length → (List.flatten (List.replicate n l))[i]? = l[i % l.length]?
  | 0, i, h => by omega
  | n + 1, i, h => by
    rw [List.replicate_succ, List.flatten_cons]
    by_cases hi : i < l.length
    · rw [List.getElem?_append_left hi, Nat.mod_eq_of_lt hi]
    · rw [List.getElem?_append_right (by omega), flat_rep l n (i - l.length) (by rw [Nat.add_mul] at h; omega)]
      congr 1
      conv => rhs; rw [show i = (i - l.length) + l.length by omega]
      rw [Nat.add_mod_right]

theorem zeros_list [Sites] (z : Array Value) (n : Nat) (hz : 0 < z.size) : ((Array.range (n * z.size)).map fun i => z[i % z.size]!).toList = List.flatten (List.replicate n z.toList) := by
  apply List.ext_getElem?
  intro i
  by_cases hi : i < n * z.size
  · rw [flat_rep z.toList n i (by simpa using hi)]
    have hm : i % z.size < z.size := Nat.mod_lt _ hz
    simp [hi, hm]
  · have h1 : (List.flatten (List.replicate n z.toList)).length = n * z.size := by simp
    rw [List.getElem?_eq_none (by simp; omega), List.getElem?_eq_none (by omega)]

theorem vrs_flat [Sites] (l : List Value) : ∀ n, VRs c w (List.flatten (List.replicate n (atoms l))) (List.flatten (List.replicate n l))
  | 0 => by simp [VRs]
  | n + 1 => by
    rw [List.replicate_succ, List.replicate_succ, List.flatten_cons, List.flatten_cons]
    exact (vrs_atoms l).append (vrs_flat l n)

theorem fillIn_len {place : Nat → Option (Nat × Nat)} : ∀ (parts : List (Nat × Option AV)) (cs out : List AV), fillIn place cs parts = some out → out.length = cs.length
  | [], cs, out, h => by simp only [fillIn, Option.some.injEq] at h; rw [h]
  | (i, x) :: r, cs, out, h => by
    unfold fillIn at h
    split at h
    · split at h
      · rename_i hb
        simp only [Bool.and_eq_true, Nat.ble_eq] at hb
        have hb1 := Nat.eq_of_beq_eq_true hb.1.1
        rw [fillIn_len r _ out h]
        simp only [List.length_append, List.length_take, List.length_drop]
        omega
      · cases h
    · cases h

theorem Ops.ext {c' : Cf} {w' : World} (h : Ops.Ok c w ρ e) (hE : Ext c w c' w') : Ops.Ok c' w' ρ e := fun o x hx => VR.ext hE _ _ (h o x hx)

theorem eList_ok [Sites] (hU : U.Ok P) {o : Oper} {t el : TypeId} {len : Nat} {parts : Array (Nat × Operand)} (ho : o.op = .buildSlice t len parts) (hu : P.underlying t = some (.slice el)) (hr : (U el).real = true) {cs : List AV}
    (hf : fillIn (fun i => some (i * (U el).size, (U el).size)) (List.flatten (List.replicate len (atoms (U el).zero))) (evParts ρ parts.toList) = some cs) {v : AV} {s1 : Obs} {n1 : Nat}
    (h : eList s nx (U el).size len cs = some (v, s1, n1, true)) (hR : Rel B c s w) (hρ : Ops.Ok c w ρ e) : Does P B c w (execOp e o) v s1 := by
  obtain ⟨_, hi, hs⟩ := real_ok hU hr
  obtain ⟨z, hz, hzc⟩ := run_zero_of (w := w) hi
  have hzs : z.cells.size = (U el).size := by rw [← Array.length_toList, hzc]; exact (real_zero hr).2
  unfold eList at h
  split at h
  · rename_i hc
    simp only [Bool.and_eq_true, Nat.ble_eq, Nat.blt_eq] at hc
    obtain ⟨hc1, hc2, hc3⟩ := hc
    simp only [Option.some.injEq, Prod.mk.injEq] at h
    obtain ⟨rfl, rfl, _⟩ := h
    have hzl : VRs c w (List.flatten (List.replicate len (atoms (U el).zero))) ((Array.range (len * (U el).size)).map fun i => z.cells[i % z.cells.size]!).toList := by
      rw [← hzs, zeros_list z.cells len (by omega), hzc]
      exact vrs_flat _ _
    have hzn : ((Array.range (len * (U el).size)).map fun i => z.cells[i % z.cells.size]!).toList.length = len * (U el).size := by simp
    obtain ⟨cells', hfill, hv⟩ := fillIn_ok (place' := fun i => some (i * (U el).size, (U el).size)) (fun i p hp => hp) _ _ _ _ _ (parts_ok hρ parts.toList) hf hzl
    have hfr := isFresh_none hc1
    obtain ⟨h1, h2⟩ := hR.upd (c' := ⟨c.nm, fun b => c.I b ∨ b = w.heap.size⟩) (w' := w.alloc (.cells cells' el)) nx .dead (fun _ => False)
      (fun _ _ h => h) (fun _ _ => rfl) (fun _ h => .inl h) (fun b hb => hb.imp (fun h => h) fun hb => ⟨.inr (by omega), fun hh => hh, by rw [hb]; simp⟩)
      (fun b hb _ => Below.heap_alloc w _ b hb) (fun b hb => hb.elim) (fun _ => trivial) (fun b hb => hb.elim) rfl rfl rfl (by simp)
    have hlen : cells'.toList.length = len * (U el).size := by
      have h3 := (hv.length).symm
      have h4 := fillIn_len (place := fun i => some (i * (U el).size, (U el).size)) _ _ _ hf
      rw [h4] at h3
      rw [← h3, ← hzn, hzl.length]
    refine ⟨_, _, .slice (some ⟨w.heap.size, 0, none⟩) len len, .inl ?_, h1, ?_, h2⟩
    rotate_left 1
    · simp only [VR]
      refine ⟨w.heap.size, cells'.toList, rfl, ⟨hc2, ?_, ?_⟩, .inr rfl, VRs.ext h2 _ _ hv, fun j u hj => ?_⟩
      · have := Nat.le_mul_of_pos_right len hs
        unfold maxLen; omega
      · rw [← hv.length, hlen]
      · rw [cell_of_row _ w.heap.size (0 + j) cells' el (0, 0) (heap_alloc_new w _), Nat.zero_add]
        simpa using hj
    · have hne : ¬ len * (U el).size > 2 ^ 24 := by omega
      simp only [execOp, ho, Instr.buildSlice, Sem.run_bind, run_underlying hu, Result.andThen_ok, run_sizeOf_of hi, hne, if_false]
      have hm : (Array.map (fun p : Nat × Operand => (p.1, e p.2)) parts).toList = parts.toList.map fun p => (p.1, e p.2) := by simp
      rw [hm]
      split
      · rename_i h0; exact absurd h0 (Nat.ne_of_gt (Nat.mul_pos hc2 hs))
      · simp only [Sem.run_bind, hz, Result.andThen_ok, Sem.run_pure, hfill]
        simp [Go.newRow, newObj, Sem.run]
  · cases h

theorem eBuildSlice_ok [Sites] (hU : U.Ok P) {o : Oper} {t : TypeId} {len : Nat} {parts : Array (Nat × Operand)} (ho : o.op = .buildSlice t len parts) {v : AV} {s1 : Obs} {n1 : Nat}
    (h : eBuildSlice U s nx (U t) len (evParts ρ parts.toList) = some (v, s1, n1, true)) (hR : Rel B c s w) (hρ : Ops.Ok c w ρ e) : Does P B c w (execOp e o) v s1 := by
  unfold eBuildSlice at h
  split at h
  · rename_i el hk
    have hu := (hU t (by simp [hk])).1
    simp only [TD.kindOk, hk] at hu
    split at h
    · rename_i T hr hT
      obtain ⟨_, hi, hs⟩ := real_ok hU hr
      obtain ⟨z, hz, hzc⟩ := run_zero_of (w := w) hi
      have hzs : z.cells.size = (U el).size := by rw [← Array.length_toList, hzc]; exact (real_zero hr).2
      split at h
      · rename_i cs hf
        split at h
        · rename_i l hml
          split at h
          · rename_i hc
            simp only [Bool.and_eq_true, Nat.ble_eq] at hc
            obtain ⟨hc1, hc2, hc3⟩ := hc
            have hc2 := Nat.eq_of_beq_eq_true hc2
            simp only [Option.some.injEq, Prod.mk.injEq] at h
            obtain ⟨rfl, rfl, _⟩ := h
            have hzl : VRs c w (List.flatten (List.replicate len (atoms (U el).zero))) ((Array.range (len * (U el).size)).map fun i => z.cells[i % z.cells.size]!).toList := by
              rw [← hzs, zeros_list z.cells len (by omega), hzc]
              exact vrs_flat _ _
            obtain ⟨cells', hfill, hv⟩ := fillIn_ok (place' := fun i => some (i * (U el).size, (U el).size)) (fun i p hp => hp) _ _ _ _ _ (parts_ok hρ parts.toList) hf hzl
            obtain ⟨I1, hR1, hE1⟩ := frz_ok cs hR
            obtain ⟨hcat, hll⟩ := mkList_ok hR1.obs hml (VRs.ext hE1 _ _ hv)
            have hlen := hcat.length TR_len_fun
            obtain ⟨c', g1, g2, g3⟩ := newRow_does (nx := nx) (el := el) (t := T) (l := l) (v := .slice (some ⟨w.heap.size, 0, none⟩) len len) (us := cells'.toList) (w' := w.alloc (.cells cells' el)) hR1 (isFresh_none hc1)
              (fun b hb => Below.heap_alloc w _ b hb) rfl rfl rfl (by simp)
              ⟨hlen, by
                rcases Nat.eq_zero_or_pos len with h0 | h0
                · exact .inl ⟨by omega, _, by rw [h0]⟩
                · refine .inr <| .inl ⟨w.heap.size, len, cells', by rw [hll], h0, by omega, ?_, heap_alloc_new w _, by rw [← Array.length_toList, hlen, hll], by rw [← hlen, List.take_length]⟩
                  have := Nat.le_mul_of_pos_right len hs
                  unfold maxLen; omega⟩
              (fun b hb => by
                simp only [blockOf] at hb
                split at hb
                · cases hb
                · simp only [Option.some.injEq] at hb; omega) hcat
            refine ⟨c', _, _, .inl ?_, g1, by simp only [VR]; exact ⟨g2, rfl⟩, hE1.trans g3⟩
            have hne : ¬ len * (U el).size > 2 ^ 24 := by omega
            simp only [execOp, ho, Instr.buildSlice, Sem.run_bind, run_underlying hu, Result.andThen_ok, run_sizeOf_of hi, hne, if_false]
            have hm : (Array.map (fun p : Nat × Operand => (p.1, e p.2)) parts).toList = parts.toList.map fun p => (p.1, e p.2) := by simp
            rw [hm]
            split
            · rename_i h0
              rw [h0] at hfill ⊢
              have hr0 : ∀ f : Nat → Value, Array.map f (Array.range 0) = #[] := fun f => by apply Array.toList_inj.1; simp
              rw [hr0] at hfill
              simp only [Sem.run_bind, Sem.run_pure, Result.andThen_ok, hr0, hfill]
              simp [Go.newRow, newObj, Sem.run]
            · simp only [Sem.run_bind, hz, Result.andThen_ok, Sem.run_pure, hfill]
              simp [Go.newRow, newObj, Sem.run]
          · cases h
        · exact eList_ok hU ho hu hr hf h hR hρ
      · cases h
    · rename_i hr hT
      split at h
      · rename_i cs hf
        exact eList_ok hU ho hu hr hf h hR hρ
      · cases h
    · cases h
  · cases h

theorem boxSet_rel [Sites] (h : Rel B c s w) {i : Nat} {t : TypeId} (hbig : isBig t = false) {cs0 cs : List AV} (hb : look s i = some (.box t cs0)) {us : List Value} (hv : VRs c w cs us) {b : Nat} (hn : c.nm i = some (.pointer (some ⟨b, 0, none⟩))) :
    Rel B c (put s i (.box t cs)) (w.setRow b us.toArray) ∧ Ext c w c (w.setRow b us.toArray) := by
  have hown : Own c i (.box t cs0) b := ⟨_, hn, rfl⟩
  obtain ⟨b', us0, h1, h2, h3⟩ := h.ob _ _ hb
  rw [boxObj_small hbig] at h2
  rw [hn] at h1
  simp only [Option.some.injEq, Value.pointer.injEq, Addr.mk.injEq, and_true] at h1
  subst h1
  refine h.upd i (.box t cs) (fun k => k = b) (fun _ _ h => h) (fun _ _ => rfl) (fun _ h => h) (fun _ h => .inl h) (fun k _ hk => ?_) (fun k hk => by subst hk; exact h.free hb hown) (fun hE => ?_) (fun k hk => ?_) rfl rfl rfl (by simp [World.setRow])
  · exact setRow_other w b k _ hk
  · exact ⟨b, us, hn, by rw [boxObj_small hbig]; exact setRow_heap w _ _ _ _ _ h2, VRs.ext hE _ _ hv⟩
  · obtain ⟨v, h4, h5⟩ := hk
    rw [hn] at h4
    simp only [Option.some.injEq] at h4
    subst h4
    simp only [blockOf, Option.some.injEq] at h5
    exact .inl h5.symm

theorem splice_take {α : Type} (C vs : List α) {off N : Nat} (h : off + vs.length ≤ N) (hN : N ≤ C.length) :
    (C.take off ++ vs ++ C.drop (off + vs.length)).take N = (C.take N).take off ++ vs ++ (C.take N).drop (off + vs.length) := by
  have h1 : (C.take off).length = off := by simp; omega
  rw [List.take_append, List.take_of_length_le (by simp [h1]; omega), List.take_take, Nat.min_eq_left (by omega), List.drop_take]
  simp [h1]

theorem elem_splice {α : Type} (us vs : List α) {i sz j n : Nat} (hi : i < n) (hl : us.length = n * sz) (hj : j + vs.length ≤ sz) :
    us.take (i * sz) ++ ((((us.drop (i * sz)).take sz).take j) ++ vs ++ (((us.drop (i * sz)).take sz).drop (j + vs.length))) ++ us.drop ((i + 1) * sz) =
      us.take (i * sz + j) ++ vs ++ us.drop (i * sz + j + vs.length) := by
  have hle : i * sz + sz ≤ n * sz := by
    have := Nat.mul_le_mul_right sz (show i + 1 ≤ n by omega)
    rw [Nat.add_mul] at this
    omega
  rw [List.take_take, Nat.min_eq_left (by omega), List.take_add, List.drop_take]
  have e2 : us.drop (i * sz + j + vs.length) = ((us.drop (i * sz)).drop (j + vs.length)).take (sz - (j + vs.length)) ++ us.drop ((i + 1) * sz) := by
    have : us.drop ((i + 1) * sz) = ((us.drop (i * sz)).drop (j + vs.length)).drop (sz - (j + vs.length)) := by
      rw [List.drop_drop, List.drop_drop]
      congr 1
      rw [Nat.add_mul]
      omega
    rw [this, List.take_append_drop, List.drop_drop]
    congr 1
    omega
  rw [e2]
  simp only [List.append_assoc]

theorem rowSet_rel [Sites] (h : Rel B c s w) {id : Nat} {el : TypeId} {t : Ty} {l : List t.den} (hl : look s id = some (.row el t l)) {b n cap : Nat} (hn : c.nm id = some (.slice (some ⟨b, 0, none⟩) n cap))
    {i j : Nat} (hi : i < l.length) {vs : List Value} (hj : j + vs.length ≤ t.size) (hone : ∀ u ∈ vs, u.oneCell' = true) {y : t.den}
    (hy : ∀ a, TR c.I w t (l.getD i t.dflt) a → TR c.I w t y (a.take j ++ vs ++ a.drop (j + vs.length))) :
    ∃ w', (storeCells ⟨b, i * t.size + j, none⟩ vs 0).run P w = .ok () w' ∧ Rel B c (put s id (.row el t (l.set i y))) w' ∧ Ext c w c w' := by
  obtain ⟨v, us, h1, h2, h3⟩ := h.ob _ _ hl
  rw [hn] at h1
  simp only [Option.some.injEq] at h1
  rcases h2.2 with ⟨h0, _⟩ | ⟨b', cap', cur, ev, hpos, hnc, hm, hg, hs, ht⟩ | ⟨b', es, q, ev, _⟩
  rotate_left 2
  · rw [ev] at h1; cases h1
  · omega
  · rw [ev] at h1
    simp only [Value.slice.injEq, Option.some.injEq, Addr.mk.injEq, and_true] at h1
    obtain ⟨rfl, rfl, rfl⟩ := h1
    have hown : Own c id (.row el t l) b := ⟨_, hn, by simp [blockOf]; omega⟩
    have hle : i * t.size + t.size ≤ l.length * t.size := by
      have := Nat.mul_le_mul_right t.size (show i + 1 ≤ l.length by omega)
      rw [Nat.add_mul] at this
      omega
    have hle2 : l.length * t.size ≤ cap * t.size := Nat.mul_le_mul_right _ hnc
    have hfit : i * t.size + j + 0 + vs.length ≤ cur.size := by rw [hs]; omega
    have hst := run_storeCells_at P b (i * t.size + j) el vs 0 cur w hg hfit hone
    rw [Nat.add_zero] at hst
    refine ⟨_, hst, ?_⟩
    have hcur : cur.toList.length = cap * t.size := by rw [Array.length_toList, hs]
    have hlen' : (cur.toList.take (i * t.size + j) ++ vs ++ cur.toList.drop (i * t.size + j + vs.length)).length = cap * t.size := by
      simp only [List.length_append, List.length_take, List.length_drop, hcur]; omega
    refine h.upd id (.row el t (l.set i y)) (fun k => k = b) (fun _ _ h => h) (fun _ _ => rfl) (fun _ h => h) (fun _ h => .inl h) (fun k _ hk => setRow_other w b k _ hk) (fun k hk => by subst hk; exact h.free hl hown) (fun hE => ?_) (fun k hk => ?_) rfl rfl rfl (by simp [World.setRow])
    · have hx := Cat.get TR_len_fun h3 (x := l.getD i t.dflt) (i := i) (by simp [List.getElem?_eq_getElem hi])
      have hset := Cat.set TR_len_fun h3 hi (hy _ hx)
      rw [elem_splice us vs hi h2.1 hj] at hset
      refine ⟨_, _, hn, ⟨?_, .inr <| .inl ⟨b, cap, _, by rw [List.length_set], hpos, by rw [List.length_set]; exact hnc, hm, setRow_heap w b cur _ el _ hg, by rw [List.size_toArray, hlen'], ?_⟩⟩, Cat.lasts hE.lasts hset⟩
      · rw [List.length_set]
        simp only [List.length_append, List.length_take, List.length_drop, h2.1]; omega
      · rw [List.length_set, List.toList_toArray, splice_take _ _ (by omega) (by rw [hcur]; omega), ht]
    · obtain ⟨v', h4, h5⟩ := hk
      rw [hn] at h4
      simp only [Option.some.injEq] at h4
      subst h4
      simp [blockOf] at h5
      exact .inl h5.2.symm

theorem eStore_ok [Sites] (hU : U.Ok P) {o : Oper} {t : TypeId} {x y : Operand} (ho : o.op = .store t x y) {v : AV} {s1 : Obs} {n1 : Nat} (h : eStore (U t) s nx (ρ x) (ρ y) = some (v, s1, n1, true)) (hR : Rel B c s w) (hρ : Ops.Ok c w ρ e) : Does P B c w (execOp e o) v s1 := by
  unfold eStore at h
  split at h
  · rename_i i j v' hr hx hy
    obtain ⟨hk, hi, hs⟩ := real_ok hU hr
    have h1 := hρ _ _ hx
    simp only [VR] at h1
    obtain ⟨b, h1, h2⟩ := h1
    split at h
    · rename_i bt cs hb
      split at h
      · rename_i hc
        simp only [Bool.and_eq_true, Nat.ble_eq] at hc
        obtain ⟨⟨hc1, hc2, hc3⟩, hc4⟩ := hc
        have hbig : isBig bt = false := by simpa using hc4
        have hc1 := Nat.eq_of_beq_eq_true hc1
        simp only [Option.some.injEq, Prod.mk.injEq] at h
        obtain ⟨rfl, rfl, _⟩ := h
        obtain ⟨b', us, g1, hw, hv⟩ := hR.ob _ _ hb
        rw [boxObj_small hbig] at hw
        rw [h1] at g1
        simp only [Option.some.injEq, Value.pointer.injEq, Addr.mk.injEq, and_true] at g1
        subst g1
        have hcv := cells_ok hc3 (hρ _ _ hy)
        have hl1 := hcv.length
        have hl2 := hv.length
        have hlc : (e y).cells.toList.length = (U t).size := by rw [hl1, hc1]
        obtain ⟨g2, g3⟩ := boxSet_rel hR hbig hb (((hv.take j).append hcv).append (hv.drop (j + (U t).size))) h1
        refine ⟨c, _, undef, .inr ⟨?_, rfl⟩, g2, by simp only [VR], g3⟩
        have hst := run_storeCells_at P b j bt (e y).cells.toList 0 us.toArray w hw (by simp only [Nat.add_zero, hlc, List.size_toArray]; omega) (allOne_ok hc3 hcv)
        simp only [Nat.add_zero, hlc, List.toList_toArray] at hst
        simp [execOp, ho, h2, Instr.storeAt, Instr.sureAddr, storeVar, run_sizeOf_of hi, hst]
        simpa using hlc
      · cases h
    · cases h
  · rename_i id sz i j v' hr hx hy
    obtain ⟨hk, hi, hs⟩ := real_ok hU hr
    have h1 := hρ _ _ hx
    simp only [VR] at h1
    obtain ⟨b, n, cap, h1, h2⟩ := h1
    split at h
    · rename_i el T l hl
      split at h
      · rename_i y' hmk
        split at h
        · rename_i hc
          simp only [Bool.and_eq_true, Nat.ble_eq] at hc
          obtain ⟨hc0, hc1, hc2, hc3⟩ := hc
          have hc0 := Nat.eq_of_beq_eq_true hc0
          have hc1 := Nat.eq_of_beq_eq_true hc1
          simp only [Option.some.injEq, Prod.mk.injEq, decide_eq_true_eq] at h
          obtain ⟨rfl, rfl, _, hlt⟩ := h
          obtain ⟨I1, hR1, hE1⟩ := frz_ok v'.cells hR
          have hcv := cells_ok hc3 (VR.ext hE1 _ _ (hρ _ _ hy))
          have hl1 := hcv.length
          have hlc : (e y).cells.toList.length = (U t).size := by rw [hl1, hc1]
          obtain ⟨w', g1, g2, g3⟩ := rowSet_rel (P := P) hR1 hl h1 hlt (j := j) (vs := (e y).cells.toList) (by rw [hlc]; exact hc2) (allOne_ok hc3 hcv) (y := y') (fun a ha => by
            rw [hlc]
            exact mk1_ok hR1.obs hmk ((((cellsOf_ok ha).take j).append hcv).append ((cellsOf_ok ha).drop _)))
          refine ⟨_, w', undef, .inr ⟨?_, rfl⟩, g2, by simp only [VR], hE1.trans g3⟩
          rw [← hc0] at g1
          simp [execOp, ho, h2, Instr.storeAt, Instr.sureAddr, storeVar, run_sizeOf_of hi, g1]
          simpa using hlc
        · cases h
      · cases h
    · cases h
  · cases h
end
end Go.Hay
/- append; bytes of a string; all operations that make or write memory of ours. -/
set_option linter.unusedVariables false
set_option linter.unusedSimpArgs false
namespace Go.Hay
open Go.RowKit
section
variable {P : Program} {U : TEnv} {B : Bs} {c : Cf} {w : World} {s : Obs} {nx : Nat} {ρ : Operand → Option AV} {e : Operand → Value}

def SrcAt (P : Program) (w : World) (sz : Nat) (u : TypeId) (y : Value) (m : Nat) (news : List Value) : Prop :=
  news.length = m * sz ∧ (∀ v ∈ news, v.oneCell' = true) ∧ (∃ d, P.underlying u = some d ∧ (d = .string ∨ ∃ e', d = .slice e')) ∧
  ∀ w', w'.heap = w.heap → (Builtin.lenOf y).run P w' = .ok m w' ∧ (Builtin.firstCells sz m y).run P w' = .ok news.toArray w'

theorem run_append_row [Sites] (hU : U.Ok P) {t t' ty el : TypeId} (hk : (U t).k = .slice el) (hr : (U el).real = true) {v y : Value} {n m : Nat} {us news : List Value}
    (hrow : RowAt w el (U el).size v n us) (hsl : isSlice v = true) (hsrc : SrcAt P w (U el).size t' y m news) (hb : (n + m) * (U el).bytes ≤ 140737488355328) (hm : n + m ≤ 140737488355328) :
    ∃ v' w', (Builtin.append_ #[t, t'] ty #[v, y]).run P w = .ok v' w' ∧ RowAt w' el (U el).size v' (n + m) (us ++ news) ∧
      (∀ b, b < w.heap.size → blockOf v ≠ some b → w'.heap[b]? = w.heap[b]?) ∧ (∀ b, blockOf v' = some b → blockOf v = some b ∨ w.heap.size ≤ b) ∧
      w'.os = w.os ∧ w'.tape = w.tape ∧ w'.output = w.output ∧ w.heap.size ≤ w'.heap.size ∧ isSlice v' = true := by
  have hu := (hU t (by simp [hk])).1
  simp only [TD.kindOk, hk] at hu
  obtain ⟨hkd, hi, hs⟩ := real_ok hU hr
  have hzl := (real_zero hr).2
  unfold TD.infoOk at hi
  cases hinfo : P.info? el with
  | none => simp [hinfo] at hi
  | some i =>
    simp only [hinfo, Option.map_some, Option.some.injEq, Prod.mk.injEq] at hi
    obtain ⟨i1, i2, i3⟩ := hi
    cases hz : i.zero with
    | none => simp [hz] at i3
    | some z =>
      simp only [hz, Option.map_some, Option.some.injEq] at i3
      have hzs : z.cells.size = (U el).size := by rw [← Array.length_toList, i3, hzl]
      obtain ⟨hl, h1, ⟨d, hd, hdi⟩, hrun⟩ := hsrc
      have hlen : (us ++ news).length = (n + m) * (U el).size := by rw [List.length_append, hrow.1, hl, Nat.add_mul]
      have h63 : ¬ (9223372036854775807 < ((n : Int) + (m : Int))) := by omega
      -- a new block
      have grow : ∀ (A : Option Addr) (cap : Nat), v = .slice A n cap → cap < n + m → (∀ w', w'.heap = w.heap → (Builtin.firstCells (U el).size n v).run P w' = .ok us.toArray w') →
          ∃ v' w', (Builtin.append_ #[t, t'] ty #[v, y]).run P w = .ok v' w' ∧ RowAt w' el (U el).size v' (n + m) (us ++ news) ∧
            (∀ b, b < w.heap.size → blockOf v ≠ some b → w'.heap[b]? = w.heap[b]?) ∧ (∀ b, blockOf v' = some b → blockOf v = some b ∨ w.heap.size ≤ b) ∧
            w'.os = w.os ∧ w'.tape = w.tape ∧ w'.output = w.output ∧ w.heap.size ≤ w'.heap.size ∧ isSlice v' = true := by
        intro A cap ev hlt hold
        have hge := grownCap_ge w (n + m) cap el
        have hcm := grownCap_le_maxLen w (n + m) cap el (by unfold maxLen; omega)
        have hfit := growslice_fits (old := cap) hlt hb
        have h48 : ¬ (281474976710656 < Builtin.nextslicecap (n + m) cap * i.bytes) := by rw [i2]; omega
        refine ⟨.slice (some ⟨w.heap.size, 0, none⟩) (n + m) (grownCap w (n + m) cap el), w.drew.alloc (.cells (us.toArray ++ news.toArray ++ Builtin.zeroCells z.cells (grownCap w (n + m) cap el - (n + m))) el), ?_, ?_, ?_, ?_, rfl, rfl, rfl, by simp, rfl⟩
        · have g1 := (hrun w rfl).1
          have g2 := (hrun w.drew rfl).2
          have g3 := hold w.drew rfl
          have hn : ¬ (n + m ≤ cap) := by omega
          rw [ev] at g3 ⊢
          simp only [Builtin.append_, Array.getElem?_toList, List.getElem?_toArray, List.getElem?_cons_zero, List.getElem?_cons_succ, Sem.run_bind, run_underlying hu, Result.andThen_ok, run_underlying hd]
          have hsz : (sizeOf el).run P w = .ok (U el).size w := by simp [sizeOf, typeInfo, hinfo, i1]
          rcases hdi with rfl | ⟨e', rfl⟩ <;> simp [hsz, g1, hn, typeInfo, hinfo, h63, h48, Question.forced, g2, g3, zeroValue, hz, newRow, newObj, Sem.run, grownCap] <;> (congr 2; apply Array.ext'; simp [List.append_assoc])
        · refine ⟨hlen, .inr <| .inl ⟨w.heap.size, _, _, rfl, by omega, hge, hcm, heap_alloc_new w.drew _, ?_, ?_⟩⟩
          · simp only [Array.size_append, List.size_toArray, size_zeroCells, hzs, hrow.1, hl, ← Nat.add_mul]
            congr 1
            omega
          · simp only [Array.toList_append, List.append_assoc]
            rw [← List.append_assoc, ← hlen]
            exact List.take_left
        · intro b hb' _
          exact heap_alloc_old w.drew _ b hb'
        · intro b hb'
          simp only [blockOf] at hb'
          split at hb'
          · cases hb'
          · simp only [Option.some.injEq] at hb'; right; omega
      rcases hrow.2 with ⟨h0, A, rfl⟩ | ⟨b, cap, cur, rfl, hpos, hnc, hcm, hg, hcs, htake⟩ | ⟨b, es, q, rfl, _⟩
      rotate_left 2
      · cases hsl
      · subst h0
        have hx : us = [] := List.eq_nil_of_length_eq_zero (by simpa using hrow.1)
        subst hx
        rcases Nat.eq_zero_or_pos m with rfl | hmp
        · have hn : news = [] := List.eq_nil_of_length_eq_zero (by simpa using hl)
          subst hn
          refine ⟨.slice A 0 0, w, ?_, ⟨by simp, .inl ⟨rfl, A, rfl⟩⟩, fun _ _ _ => rfl, fun b hb' => .inl hb', rfl, rfl, rfl, Nat.le_refl _, rfl⟩
          have g1 := (hrun w rfl).1
          have g2 := (hrun w rfl).2
          simp only [Builtin.append_, Array.getElem?_toList, List.getElem?_toArray, List.getElem?_cons_zero, List.getElem?_cons_succ, Sem.run_bind, run_underlying hu, Result.andThen_ok, run_underlying hd]
          have hsz : (sizeOf el).run P w = .ok (U el).size w := by simp [sizeOf, typeInfo, hinfo, i1]
          rcases hdi with rfl | ⟨e', rfl⟩ <;> cases A <;> simp [hsz, g1, g2, storeCells]
        · refine grow A 0 rfl (by omega) fun w' _ => ?_
          cases A <;> simp [Builtin.firstCells, loadCells, loadCellsFrom]
      · by_cases hroom : n + m ≤ cap
        · have hfit : n * (U el).size + news.length ≤ cur.size := by rw [hl, hcs, ← Nat.add_mul]; exact Nat.mul_le_mul_right _ hroom
          have hst := run_storeCells_at P b (n * (U el).size) el news 0 cur w hg (by simpa using hfit) h1
          simp only [Nat.add_zero] at hst
          refine ⟨.slice (some ⟨b, 0, none⟩) (n + m) cap, w.setRow b (cur.toList.take (n * (U el).size) ++ news ++ cur.toList.drop (n * (U el).size + news.length)).toArray, ?_, ⟨hlen, .inr <| .inl ⟨b, cap, _, rfl, hpos, hroom, hcm, setRow_heap w b cur _ el _ hg, ?_, ?_⟩⟩, fun k _ hk => setRow_other w b k _ (fun e => hk (by rw [e]; simp [blockOf]; omega)), fun k hk => .inl (by simpa [blockOf] using hk), rfl, rfl, rfl, by simp [World.setRow], rfl⟩
          · have g1 := (hrun w rfl).1
            have g2 := (hrun w rfl).2
            simp only [Builtin.append_, Array.getElem?_toList, List.getElem?_toArray, List.getElem?_cons_zero, List.getElem?_cons_succ, Sem.run_bind, run_underlying hu, Result.andThen_ok, run_underlying hd]
            have hsz : (sizeOf el).run P w = .ok (U el).size w := by simp [sizeOf, typeInfo, hinfo, i1]
            rcases hdi with rfl | ⟨e', rfl⟩ <;> simp [hsz, g1, hroom, g2, addr_add, hst]
          · simp only [List.size_toArray, List.length_append, List.length_take, List.length_drop, Array.length_toList]
            omega
          · simp only [List.toList_toArray]
            rw [htake, ← hlen]
            exact List.take_left
        · refine grow (some ⟨b, 0, none⟩) cap rfl (by omega) fun w' hw' => ?_
          have hc' : ∀ j u, us[j]? = some u → w'.cell? ((⟨b, 0, none⟩ : Addr).add j) = some u := fun j u hj => by
            rw [addr_add, cell_of_row w' b (0 + j) cur el (0, 0) (by rw [hw']; exact hg), Nat.zero_add]
            rw [← htake, List.getElem?_take] at hj
            split at hj
            · simpa using hj
            · cases hj
          exact run_firstCells_some (P := P) w' (U el).size n ⟨b, 0, none⟩ n cap us hrow.1 hc'

theorem SeqAt.src [Sites] (hU : U.Ok P) {t el : TypeId} (hk : (U t).k = .slice el) {T : Ty} {l : List T.den} {y : Value} (h : SeqAt c w T l y) (hT : T.size = (U el).size) : ∃ news, SrcAt P w (U el).size t y l.length news ∧ Cat (TR c.I w T) l news := by
  have hu := (hU t (by simp [hk])).1
  simp only [TD.kindOk, hk] at hu
  obtain ⟨A, cap, us, rfl, h1, h2, h3, hc, hcell⟩ := h
  refine ⟨us, ⟨by rw [hc.length TR_len_fun, hT], Cat.one hc, ⟨_, hu, .inr ⟨_, rfl⟩⟩, fun w' hw' => ⟨by simp [Builtin.lenOf], ?_⟩⟩, hc⟩
  have hul : us.length = l.length * (U el).size := by rw [hc.length TR_len_fun, hT]
  cases A with
  | none =>
    have : l = [] := List.eq_nil_of_length_eq_zero (h3 rfl)
    subst this
    simp only [Cat] at hc
    subst hc
    simp [Builtin.firstCells]
  | some ad =>
    rcases Nat.eq_zero_or_pos l.length with h0 | h0
    · have : l = [] := List.eq_nil_of_length_eq_zero h0
      subst this
      simp only [Cat] at hc
      subst hc
      simp [Builtin.firstCells, loadCells, loadCellsFrom]
    · obtain ⟨hs, hcl⟩ := hcell ad rfl h0
      obtain ⟨b, o, sp⟩ := ad
      simp only at hs hcl
      subst hs
      refine run_firstCells_some (P := P) w' (U el).size l.length ⟨b, o, none⟩ l.length cap us hul fun j u hj => ?_
      rw [addr_add]
      have := hcl j u hj
      rw [← this]
      exact World.cell?_of_block (w := w) (w' := w') (a := ⟨b, o + j, none⟩) (by rw [hw'])

theorem str_src (hU : U.Ok P) {t' el : TypeId} (hk : (U t').k = .string) {l : List UInt8} (hsz : (U el).size = 1) : SrcAt P w (U el).size t' (.string ⟨l.toArray⟩) l.length ((l.map fun x => (x.toNat : Int)).map (Value.int .u8)) := by
  have hu := (hU t' (by simp [hk])).1
  simp only [TD.kindOk, hk] at hu
  have e1 : (⟨l.toArray⟩ : ByteArray).size = l.length := by simp [ByteArray.size]
  refine ⟨by simp [hsz], fun v hv => by simp only [List.mem_map] at hv; obtain ⟨n, _, rfl⟩ := hv; rfl, ⟨_, hu, .inl rfl⟩, fun w' _ => ⟨by simp only [Builtin.lenOf, Sem.run_pure, e1], ?_⟩⟩
  have e2 : (⟨l.toArray⟩ : ByteArray).extract 0 l.length = ⟨l.toArray⟩ := by
    apply ByteArray.ext
    simp [List.extract_eq_drop_take']
  simp only [Builtin.firstCells, e2, Sem.run_pure]
  congr 1
  apply Array.toList_inj.1
  simp

theorem byte_cat {I : Nat → Prop} : ∀ (l : List UInt8), Cat (TR I w .byte) l ((l.map fun x => (x.toNat : Int)).map (Value.int .u8))
  | [] => rfl
  | x :: l => ⟨[.int .u8 (x.toNat : Int)], _, rfl, by simp only [TR], byte_cat l⟩

theorem src_ok [Sites] (hU : U.Ok P) {t t' el : TypeId} (hk : (U t).k = .slice el) {T : Ty} (hT : T.size = (U el).size) {y : Option AV} {m : List T.den} (hlk : Obs.Ok c w (rdk s)) {u : Value} (hy : ∀ x, y = some x → VR c w x u)
    (h : (match Nat.beq t t', (U t').k with | true, _ => srcOf (rdk s) T y | false, .string => srcStr T y | _, _ => .none) = some m) : ∃ news, SrcAt P w (U el).size t' u m.length news ∧ Cat (TR c.I w T) m news := by
  split at h
  · rename_i hb
    have := Nat.eq_of_beq_eq_true hb
    subst this
    unfold srcOf at h
    split at h
    · exact (listOf_ok hlk h (hy _ rfl)).src hU hk hT
    · cases h
  · rename_i hb hs
    unfold srcStr at h
    split at h
    · rename_i l
      simp only [Option.some.injEq] at h
      subst h
      have := hy _ rfl
      simp only [VR] at this
      rw [this.1]
      exact ⟨_, str_src hU hs hT.symm, byte_cat l⟩
    · cases h
  · cases h

theorem room_ok {n b : Nat} (h : room n b = true) : n * b ≤ 140737488355328 ∧ n ≤ 140737488355328 := by simpa [room] using h

theorem own_row {id : Nat} {el : TypeId} {T : Ty} {l : List T.den} {v : Value} {b : Nat} (hv : c.nm id = some v) : Own c id (.row el T l) b ↔ blockOf v = some b := by
  simp [Own, hv]

theorem eAppend_ok [Sites] (hU : U.Ok P) {o : Oper} {t t' : TypeId} {x y : Operand} (ho : o.op = .call { callee := .builtin .append, args := #[x, y], argTypes := #[t, t'] }) {v : AV} {s1 : Obs} {n1 : Nat}
    (h : eAppend U s nx t t' (ρ x) (ρ y) = some (v, s1, n1, true)) (hR : Rel B c s w) (hρ : Ops.Ok c w ρ e) : Does P B c w (execOp e o) v s1 := by
  unfold eAppend at h
  split at h
  · rename_i el hk
    split at h
    · rename_i hr
      split at h
      · rename_i id hx
        have hx' := hρ _ _ hx
        simp only [VR] at hx'
        split at h
        · rename_i e' T l hl
          split at h
          · rename_i m hm
            split at h
            · rename_i hc
              simp only [Bool.and_eq_true] at hc
              obtain ⟨hc1, hc2, hc3⟩ := hc
              have hc2 := Nat.eq_of_beq_eq_true hc2
              have hc3 := Nat.eq_of_beq_eq_true hc3
              subst hc2
              simp only [Option.some.injEq, Prod.mk.injEq] at h
              obtain ⟨rfl, rfl, _, hroom⟩ := h
              obtain ⟨hb, hm2⟩ := room_ok hroom
              obtain ⟨news, hsrc, hcat⟩ := src_ok (P := P) (c := c) (w := w) hU hk hc3 hR.rdk (fun x hx => hρ _ _ hx) hm
              obtain ⟨v0, us, g1, g2, g3⟩ := hR.ob _ _ hl
              have hrowlen := hR.obs id _ hl
              rw [hc3] at g2
              have ex : e x = v0 := by have := hx'.1; rw [g1] at this; exact (Option.some.inj this).symm
              obtain ⟨v', w', hrun, hrow, hh, hblk, hos, htp, hout, hsz, hsl⟩ := run_append_row (P := P) (ty := o.type) hU hk hr g2 (by rw [← ex]; exact hx'.2) hsrc hb hm2
              -- the old name falls
              obtain ⟨hR1, hE1⟩ := hR.upd (c' := c) (w' := w) id .dead (fun _ => False) (fun _ _ h => h) (fun _ _ => rfl) (fun _ h => h) (fun _ h => .inl h) (fun _ _ _ => rfl) (fun _ h => h.elim) (fun _ => trivial) (fun _ h => h.elim) rfl rfl rfl (Nat.le_refl _)
              have hne : id ≠ nx := fun e => by subst e; rw [isFresh_none hc1] at hl; cases hl
              have hfr : look (put s id .dead) nx = none := by rw [look_put, if_neg hne]; exact isFresh_none hc1
              have hnone := hR1.dom nx hfr
              have hWfree : ∀ b, blockOf v0 = some b → Free B c (put s id .dead) nx b := fun b hb' => by
                have hf := hR.free hl ((own_row g1).2 hb')
                refine ⟨fun j oj hj hlj ho => ?_, hf.2⟩
                rw [look_put] at hlj
                split at hlj
                · simp only [Option.some.injEq] at hlj; subst hlj; exact ho
                · rename_i hji; exact hf.1 j oj (fun e => hji e.symm) hlj ho
              obtain ⟨hR2, hE2⟩ := hR1.upd (c' := ⟨fun i => if i = nx then some v' else c.nm i, c.I⟩) (w' := w') nx (.row e' T (l ++ m)) (fun b => blockOf v0 = some b)
                (fun i u hv => by
                  by_cases e : i = nx
                  · subst e; rw [hnone] at hv; cases hv
                  · simp [e, hv])
                (fun i hi => by simp [hi]) (fun _ h => h) (fun b hb => .inl hb) (fun b hb' hw => hh b hb' hw) hWfree
                (fun hE => ⟨v', us ++ news, by simp, by rw [List.length_append, hc3]; exact hrow, (Cat.lasts hE.lasts g3).append (Cat.lasts hE.lasts hcat)⟩)
                (fun b hb' => by
                  obtain ⟨v2, q1, q2⟩ := hb'
                  simp at q1
                  subst q1
                  exact hblk b q2)
                hos htp hout hsz
              refine ⟨_, w', v', .inl ?_, hR2, by simp only [VR]; exact ⟨by simp, hsl⟩, hE1.trans hE2⟩
              simp [execOp, ho, resolve, invoke, builtin, ex, hrun]
            · cases h
          · cases h
        · cases h
      · rename_i hx
        have hx' := hρ _ _ hx
        simp only [VR] at hx'
        obtain ⟨A, ex⟩ := hx'
        split at h
        · rename_i T hT
          split at h
          · rename_i m hm
            split at h
            · rename_i hc
              simp only [Bool.and_eq_true] at hc
              obtain ⟨hc1, hc3⟩ := hc
              have hc3 := Nat.eq_of_beq_eq_true hc3
              simp only [Option.some.injEq, Prod.mk.injEq] at h
              obtain ⟨rfl, rfl, _, hroom⟩ := h
              obtain ⟨hb, hm2⟩ := room_ok hroom
              obtain ⟨news, hsrc, hcat⟩ := src_ok (P := P) (c := c) (w := w) hU hk hc3 hR.rdk (fun x hx => hρ _ _ hx) hm
              obtain ⟨v', w', hrun, hrow, hh, hblk, hos, htp, hout, hsz, hsl⟩ := run_append_row (P := P) (ty := o.type) (v := .slice A 0 0) (n := 0) (us := []) hU hk hr ⟨by simp, .inl ⟨rfl, A, rfl⟩⟩ rfl hsrc (by simpa using hb) (by simpa using hm2)
              have hno : ∀ b, blockOf (.slice A 0 0) ≠ some b := fun b hb' => by cases A <;> simp [blockOf] at hb'
              obtain ⟨c', q1, q2, q3⟩ := newRow_does (nx := nx) (el := el) (t := T) (l := m) (v := v') (us := news) (w' := w') hR (isFresh_none hc1)
                (fun b hb' => hh b hb' (hno b)) hos htp hout hsz (by rw [hc3]; simpa using hrow) (fun b hb' => (hblk b hb').elim (fun h => (hno b h).elim) id) hcat
              refine ⟨c', w', v', .inl ?_, q1, by simp only [VR]; exact ⟨q2, hsl⟩, q3⟩
              simp [execOp, ho, resolve, invoke, builtin, ex, hrun]
            · cases h
          · cases h
        · cases h
      · cases h
    · cases h
  · cases h
end
end Go.Hay
/- Bytes of a string; all operations that make or write memory of ours; what operations look at. -/
set_option linter.unusedVariables false
set_option linter.unusedSimpArgs false
namespace Go.Hay
open Go.RowKit
section
variable {P : Program} {U : TEnv} {B : Bs} {c : Cf} {w : World} {s : Obs} {nx : Nat} {ρ : Operand → Option AV} {e : Operand → Value}

theorem freeze_heap (w : World) (a : Addr) (n k : Nat) : (w.freeze a n).heap[k]? = (w.heap[k]?).map fun o => if n = 0 then o else if k = a.block then (match o with
      | .cells c elem (lo, hi) => .cells c elem (if lo == hi then (a.off, a.off + n) else (min lo a.off, max hi (a.off + n)))
      | o => o) else o := by
  unfold World.freeze
  split
  · simp
  · simp only [Array.getElem?_modify]
    by_cases h : a.block = k
    · subst h
      simp only [if_true]
      cases w.heap[a.block]? with
      | none => rfl
      | some o => cases o <;> rfl
    · have : ¬ k = a.block := fun e => h e.symm
      simp only [h, if_false, this]
      cases w.heap[k]? <;> rfl

theorem eBytes_ok [Sites] (hU : U.Ok P) {o : Oper} {src dst : TypeId} {x : Operand} (ho : o.op = .convert src dst x) {v : AV} {s1 : Obs} {n1 : Nat} (h : eBytes U s nx (U src) (U dst) (ρ x) = some (v, s1, n1, true)) (hR : Rel B c s w) (hρ : Ops.Ok c w ρ e) : Does P B c w (execOp e o) v s1 := by
  unfold eBytes at h
  split at h
  · rename_i el l hs hd hx
    split at h
    · rename_i he
      split at h
      · rename_i hf
        have u1 := (hU src (by simp [hs])).1
        have u2 := (hU dst (by simp [hd])).1
        have u3 := (hU el (by simp [he])).1
        simp only [TD.kindOk, hs] at u1
        simp only [TD.kindOk, hd] at u2
        simp only [TD.kindOk, he] at u3
        have h1 := hρ _ _ hx
        simp only [VR] at h1
        simp only [Option.some.injEq, Prod.mk.injEq] at h
        obtain ⟨rfl, rfl, _⟩ := h
        have hfr := isFresh_none hf
        have hnone := hR.dom nx hfr
        have hsz : (⟨l.toArray⟩ : ByteArray).size = l.length := by simp [ByteArray.size]
        have hge := grownCap_ge w l.length 0 el
        have hcm := grownCap_le_maxLen w l.length 0 el h1.2
        let arr : Array Value := (l.toArray.map fun b => Value.int .u8 b.toNat) ++ Array.replicate (grownCap w l.length 0 el - l.length) (.int .u8 0)
        let w1 := w.drew.alloc (.cells arr el)
        let w2 := w1.freeze ⟨w.heap.size, arr.size, none⟩ 1
        have hold : ∀ b, b < w.heap.size → w2.heap[b]? = w.heap[b]? := fun b hb => by
          have hne : ¬ b = w.heap.size := by omega
          simp only [w2, freeze_heap, hne, if_false]
          have : w1.heap[b]? = w.heap[b]? := heap_alloc_old w.drew _ b hb
          rw [this]
          cases w.heap[b]? <;> simp
        have hnew : ∃ f, w2.heap[w.heap.size]? = some (.cells arr el f) := by
          have : w1.heap[w.heap.size]? = some (.cells arr el) := heap_alloc_new w.drew _
          simp only [w2, freeze_heap, this, Option.map_some]
          exact ⟨_, rfl⟩
        obtain ⟨f, hnew⟩ := hnew
        have hsize2 : w2.heap.size = w.heap.size + 1 := by simp [w2, World.freeze, w1]
        obtain ⟨g1, g2⟩ := hR.upd (c' := ⟨fun i => if i = nx then some (.slice (some ⟨w.heap.size, 0, none⟩) l.length (grownCap w l.length 0 el)) else c.nm i, fun b => c.I b ∨ b = w.heap.size⟩) (w' := w2) nx (.frow .byte l) (fun _ => False)
          (fun i u hv => by
            by_cases e : i = nx
            · subst e; rw [hnone] at hv; cases hv
            · simp [e, hv])
          (fun i hi => by simp [hi]) (fun _ h => .inl h) (fun b hb => by
            rcases hb with hb | rfl
            · exact .inl hb
            · exact .inr ⟨.inr (Nat.le_refl _), fun hh => hh, by omega⟩)
          (fun b hb _ => hold b hb) (fun _ h => h.elim)
          (fun hE => ⟨_, by simp, some ⟨w.heap.size, 0, none⟩, _, rfl, hge, hcm, (fun e => by cases e), fun ad ha _ => by
            cases ha
            refine ⟨rfl, .inr rfl, _, byte_cat l, fun j u hj => ?_⟩
            rw [cell_of_row w2 w.heap.size (0 + j) arr el f hnew, Nat.zero_add]
            have hj' : j < l.length := by have := (List.getElem?_eq_some_iff.1 hj).1; simpa using this
            have : arr[j]? = (l.toArray.map fun b => Value.int .u8 b.toNat)[j]? := by
              simp only [arr]
              rw [Array.getElem?_append_left (by simpa using hj')]
            rw [this]
            simpa using hj⟩)
          (fun b hb => hb.elim) rfl rfl rfl (by omega)
        refine ⟨_, w2, .slice (some ⟨w.heap.size, 0, none⟩) l.length (grownCap w l.length 0 el), .inl ?_, g1, by simp only [VR]; exact ⟨by simp, rfl⟩, g2⟩
        have hshape : w1.shape? w.heap.size = some (el, arr.size) := by
          have : w1.heap[w.heap.size]? = some (.cells arr el) := heap_alloc_new w.drew _
          simp [World.shape?, this]
        have hrun : (Conv.stringToBytes el ⟨l.toArray⟩).run P w = .ok (.slice (some ⟨w.heap.size, 0, none⟩) l.length (grownCap w l.length 0 el)) w2 := by
          have k1 : (choose (.appendCap l.length 0 el)).run P w = .ok (grownCap w l.length 0 el) w.drew := by
            simp [choose, Sem.run, Question.forced, grownCap]
          have k2 : (newRow el arr).run P w.drew = .ok ⟨w.heap.size, 0, none⟩ w1 := by
            simp [newRow, newObj, Sem.run, w1]; rfl
          have k3 : (markStringish ⟨w.heap.size, 0, none⟩).run P w1 = .ok () w2 := by
            simp only [markStringish, shape, Sem.run_bind, Sem.run, hshape, Result.andThen_ok, freeze]
            rfl
          have k4 : (⟨l.toArray⟩ : ByteArray).data = l.toArray := rfl
          simp only [Conv.stringToBytes, hsz, Sem.run_bind, k1, Result.andThen_ok, k4]
          rw [show (l.toArray.map fun b => Value.int .u8 b.toNat) ++ Array.replicate (grownCap w l.length 0 el - l.length) (.int .u8 0) = arr from rfl, k2]
          simp only [Result.andThen_ok, k3, Sem.run_pure]
        simp [execOp, ho, h1.1, convert, run_underlying u1, run_underlying u2, run_underlying u3, hrun]
      · cases h
    · cases h
  · cases h

theorem eMark_ok [Sites] (hU : U.Ok P) {o : Oper} {src dst : TypeId} {x : Operand} (ho : o.op = .convert src dst x) {v : AV} {s1 : Obs} {n1 : Nat} (h : eMark U s nx src dst (ρ x) = some (v, s1, n1, true)) (hR : Rel B c s w) (hρ : Ops.Ok c w ρ e) : Does P B c w (execOp e o) v s1 := by
  unfold eMark at h
  split at h
  · rename_i el hb hk
    have := Nat.eq_of_beq_eq_true hb
    subst this
    split at h
    · rename_i id he hx
      split at h
      · rename_i e' l hl
        split at h
        · rename_i hb2
          have := Nat.eq_of_beq_eq_true hb2
          subst this
          simp only [Option.some.injEq, Prod.mk.injEq, decide_eq_true_eq] at h
          obtain ⟨rfl, rfl, _, hpos⟩ := h
          have u1 := (hU src (by simp [hk])).1
          have u3 := (hU e' (by simp [he])).1
          simp only [TD.kindOk, hk] at u1
          simp only [TD.kindOk, he] at u3
          have h1 := hρ _ _ hx
          simp only [VR] at h1
          obtain ⟨v0, us, g1, g2, g3⟩ := hR.ob _ _ hl
          have ex : e x = v0 := by have := h1.1; rw [g1] at this; exact (Option.some.inj this).symm
          rcases g2.2 with ⟨h0, _⟩ | ⟨b, cap, cur, rfl, hcap, hnc, hcm, hg, hs, ht⟩ | ⟨b, es, q, rfl, _⟩
          rotate_left 2
          · rw [ex] at h1; cases h1.2
          · omega
          · have hown : Own c id (.row e' .byte l) b := (own_row g1).2 (by simp [blockOf]; omega)
            have hfree := hR.free hl hown
            let w2 := w.freeze ⟨b, cur.size, none⟩ 1
            have hold : ∀ k, k ≠ b → w2.heap[k]? = w.heap[k]? := fun k hk => by
              simp only [w2, freeze_heap, hk, if_false]
              cases w.heap[k]? <;> simp
            have hnew : ∃ f, w2.heap[b]? = some (.cells cur e' f) := by
              simp only [w2, freeze_heap, hg, Option.map_some]
              exact ⟨_, rfl⟩
            obtain ⟨f, hnew⟩ := hnew
            have hsize2 : w2.heap.size = w.heap.size := by simp [w2, World.freeze]
            have hlt : b < w.heap.size := (hR.ob _ _ hl).lt hown
            obtain ⟨q1, q2⟩ := hR.upd (c' := ⟨c.nm, fun k => c.I k ∨ k = b⟩) (w' := w2) id (.frow .byte l) (fun k => k = b) (fun _ _ h => h) (fun _ _ => rfl) (fun _ h => .inl h)
              (fun k hk => by
                rcases hk with hk | rfl
                · exact .inl hk
                · exact .inr ⟨.inl rfl, fun hh => hh, by omega⟩)
              (fun k _ hk => hold k hk) (fun k hk => by subst hk; exact hfree)
              (fun hE => ⟨_, g1, some ⟨b, 0, none⟩, cap, rfl, hnc, hcm, (fun e => by cases e), fun ad ha _ => by
                cases ha
                refine ⟨rfl, .inr rfl, us, Cat.lasts hE.lasts g3, fun j u hj => ?_⟩
                rw [cell_of_row w2 b (0 + j) cur e' f hnew, Nat.zero_add]
                rw [← ht, List.getElem?_take] at hj
                split at hj
                · simpa using hj
                · cases hj⟩)
              (fun k hk => hk.elim) rfl rfl rfl (by omega)
            have hshape : w.shape? b = some (e', cur.size) := by simp [World.shape?, hg]
            have k3 : (markStringish ⟨b, 0, none⟩).run P w = .ok () w2 := by
              simp only [markStringish, shape, Sem.run_bind, Sem.run, hshape, Result.andThen_ok, freeze]
              rfl
            refine ⟨_, w2, .slice (some ⟨b, 0, none⟩) l.length cap, .inl ?_, q1, by simp only [VR]; exact ⟨g1, rfl⟩, q2⟩
            simp [execOp, ho, ex, convert, run_underlying u1, run_underlying u3, k3]
        · cases h
      · cases h
    · cases h
  · cases h

theorem eConv_ok [Sites] (hU : U.Ok P) {o : Oper} {src dst : TypeId} {x : Operand} (ho : o.op = .convert src dst x) {v : AV} {s1 : Obs} {n1 : Nat} (h : eConv U s nx src dst (ρ x) = some (v, s1, n1, true)) (hR : Rel B c s w) (hρ : Ops.Ok c w ρ e) : Does P B c w (execOp e o) v s1 := by
  unfold eConv at h
  split at h
  · exact eBytes_ok hU ho h hR hρ
  · exact eMark_ok hU ho h hR hρ

theorem made_list (z : Array Value) (m n : Nat) (h : n ≤ m) : (madeCells z (m * z.size)).toList.take (n * z.size) = (List.replicate n z.toList).flatten := by
  have hf : ∀ n, (List.range (n * z.size)).map (fun i => z[i % z.size]!) = (List.replicate n z.toList).flatten := by
    intro n
    induction n with
    | zero => simp
    | succ n ih =>
      rw [Nat.succ_mul, Nat.add_comm, List.range_add, List.map_append, List.map_map, List.replicate_succ, List.flatten_cons]
      congr 1
      · apply List.ext_getElem
        · simp
        · intro i h1 h2
          simp only [List.length_map, List.length_range] at h1
          simp [Nat.mod_eq_of_lt h1, h1]
      · rw [← ih]
        apply List.map_congr_left
        intro i _
        simp
  rw [← hf n]
  unfold madeCells
  simp only [Array.toList_map, Array.toList_range, ← List.map_take, List.take_range]
  rw [Nat.min_eq_left (Nat.mul_le_mul_right _ h)]

theorem cat_rep {α : Type} {R : α → List Value → Prop} {x : α} {us : List Value} (h : R x us) : ∀ n : Nat, Cat R (List.replicate n x) (List.replicate n us).flatten
  | 0 => rfl
  | n + 1 => ⟨us, _, by rw [List.replicate_succ, List.flatten_cons], h, cat_rep h n⟩

theorem eMake_ok [Sites] (hU : U.Ok P) {o : Oper} {t : TypeId} {l cp : Operand} (ho : o.op = .makeSlice t l cp) {v : AV} {s1 : Obs} {n1 : Nat} (h : eMake U s nx t (ρ l) (ρ cp) = some (v, s1, n1, true)) (hR : Rel B c s w) (hρ : Ops.Ok c w ρ e) : Does P B c w (execOp e o) v s1 := by
  unfold eMake at h
  split at h
  · rename_i el hk
    have hu := (hU t (by simp [hk])).1
    simp only [TD.kindOk, hk] at hu
    split at h
    · rename_i T ka a kb b hr hT hl hc
      split at h
      · rename_i hf
        simp only [Bool.and_eq_true] at hf
        obtain ⟨f1, f2, f3⟩ := hf
        have f2 := Nat.eq_of_beq_eq_true f2
        simp only [Option.some.injEq, Prod.mk.injEq, Bool.and_eq_true, decide_eq_true_eq, room] at h
        obtain ⟨rfl, rfl, _, ⟨g1, g2⟩, g3, g4⟩ := h
        have h1 := hρ _ _ hl
        have h2 := hρ _ _ hc
        simp only [VR] at h1 h2
        obtain ⟨_, hinfo, hpos⟩ := real_ok hU hr
        unfold TD.infoOk at hinfo
        cases hi : P.info? el with
        | none => simp [hi] at hinfo
        | some i =>
          simp only [hi, Option.map_some, Option.some.injEq, Prod.mk.injEq] at hinfo
          obtain ⟨i1, i2, i3⟩ := hinfo
          cases hz : i.zero with
          | none => simp [hz] at i3
          | some z =>
            simp only [hz, Option.map_some, Option.some.injEq] at i3
            have hzs : z.cells.size = T.size := by rw [← Array.length_toList, i3, (real_zero hr).2, f2]
            have hbytes : (i.bytes : Int) * b ≤ 281474976710656 := by
              have : ((b.toNat * i.bytes : Nat) : Int) ≤ 140737488355328 := by rw [i2]; exact Int.ofNat_le.2 g3
              rw [Int.natCast_mul, Int.toNat_of_nonneg (by omega)] at this
              rw [Int.mul_comm]
              omega
            have hrun := run_make (P := P) w t el i z hu hi hz ka kb a b g1 g2 hbytes (by omega)
            have hsz : (madeCells z.cells (b.toNat * i.size)).size = b.toNat * T.size := by rw [size_madeCells, i1, f2]
            have hle : a.toNat ≤ b.toNat := by omega
            have hml : (madeCells z.cells (b.toNat * i.size)).toList.take (a.toNat * T.size) = (List.replicate a.toNat z.cells.toList).flatten := by
              rw [← hzs, i1, ← f2, ← hzs]
              exact made_list _ _ _ hle
            have hdz : TR c.I w T T.dflt z.cells.toList := by
              have := areZero_ok (I := c.I) (w := w) f3
              rw [i3]
              simp only [List.replicate_succ, List.replicate_zero, Cat] at this
              obtain ⟨x, y, e1, e2, e3⟩ := this
              subst e3
              rw [e1, List.append_nil]
              exact e2
            obtain ⟨c', k1, k2, k3⟩ := newRow_does (nx := nx) (el := el) (t := T) (l := List.replicate a.toNat T.dflt) (v := .slice (some ⟨w.heap.size, 0, none⟩) a.toNat b.toNat)
              (us := (madeCells z.cells (b.toNat * i.size)).toList.take (a.toNat * T.size)) (w' := w.alloc (.cells (madeCells z.cells (b.toNat * i.size)) el)) hR (isFresh_none f1)
              (fun b hb => Below.heap_alloc w _ b hb) rfl rfl rfl (by simp)
              ⟨by rw [List.length_take, Array.length_toList, hsz, List.length_replicate]; exact Nat.min_eq_left (Nat.mul_le_mul_right _ hle), by
                rw [List.length_replicate]
                by_cases hb0 : b.toNat = 0
                · left
                  have ha0 : a.toNat = 0 := by omega
                  exact ⟨ha0, _, by rw [ha0, hb0]⟩
                · right
                  left
                  exact ⟨w.heap.size, b.toNat, _, rfl, by omega, hle, by unfold maxLen; omega, heap_alloc_new w _, hsz, rfl⟩⟩
              (fun b hb => by simp [blockOf] at hb; omega) (by rw [hml]; exact cat_rep hdz _)
            refine ⟨c', _, _, .inl ?_, k1, by simp only [VR]; exact ⟨k2, rfl⟩, k3⟩
            simp [execOp, ho, h1.1, h2.1, hrun]
      · cases h
    · cases h
  · cases h

theorem eZeros_ok [Sites] (hU : U.Ok P) {o : Oper} {t t' : TypeId} {x y : Operand} (ho : o.op = .call { callee := .builtin .append, args := #[x, y], argTypes := #[t, t'] }) {v : AV} {s1 : Obs} {n1 : Nat}
    (h : eZeros U s nx t t' (ρ x) (ρ y) = some (v, s1, n1, true)) (hR : Rel B c s w) (hρ : Ops.Ok c w ρ e) : Does P B c w (execOp e o) v s1 := by
  unfold eZeros at h
  split at h
  · rename_i el k' ka a hk hk' hx hy
    have hu := (hU t (by simp [hk])).1
    simp only [TD.kindOk, hk] at hu
    have hu' := (hU t' (by simp [hk'])).1
    simp only [TD.kindOk, hk'] at hu'
    split at h
    · rename_i T hr hT
      split at h
      · rename_i hf
        simp only [Bool.and_eq_true] at hf
        obtain ⟨f1, f2, f3⟩ := hf
        have f2 := Nat.eq_of_beq_eq_true f2
        simp only [Option.some.injEq, Prod.mk.injEq, Bool.and_eq_true, decide_eq_true_eq] at h
        obtain ⟨rfl, rfl, _, g1, hroom⟩ := h
        obtain ⟨hb, hm⟩ := room_ok hroom
        have h1 := hρ _ _ hx
        have h2 := hρ _ _ hy
        simp only [VR] at h1 h2
        obtain ⟨A, ex⟩ := h1
        obtain ⟨m, rfl⟩ := Int.eq_ofNat_of_zero_le g1
        simp only [Int.toNat_natCast] at hb hm ⊢
        obtain ⟨_, hinfo, hpos⟩ := real_ok hU hr
        unfold TD.infoOk at hinfo
        cases hi : P.info? el with
        | none => simp [hi] at hinfo
        | some i =>
          simp only [hi, Option.map_some, Option.some.injEq, Prod.mk.injEq] at hinfo
          obtain ⟨i1, i2, i3⟩ := hinfo
          cases hz : i.zero with
          | none => simp [hz] at i3
          | some z =>
            simp only [hz, Option.map_some, Option.some.injEq] at i3
            have hzs : z.cells.size = T.size := by rw [← Array.length_toList, i3, (real_zero hr).2, f2]
            have hdz : TR c.I w T T.dflt z.cells.toList := by
              have := areZero_ok (I := c.I) (w := w) f3
              rw [i3]
              simp only [List.replicate_succ, List.replicate_zero, Cat] at this
              obtain ⟨x, y, e1, e2, e3⟩ := this
              subst e3
              rw [e1, List.append_nil]
              exact e2
            have hzc : (Builtin.zeroCells z.cells m).toList = (List.replicate m z.cells.toList).flatten := by
              have := made_list z.cells m m (Nat.le_refl _)
              rw [List.take_of_length_le (by rw [Array.length_toList, size_madeCells]; exact Nat.le_refl _)] at this
              exact this
            have hzsz : (Builtin.zeroCells z.cells m).size = m * T.size := by rw [size_zeroCells, hzs]
            have wl : IntKind.i64.wrap (m : Int) = m := by rw [IntKind.wrap_i64]; omega
            have hsz : (sizeOf el).run P w = .ok (U el).size w := by simp [sizeOf, typeInfo, hi, i1]
            have hsz' : (sizeOf el).run P w.drew = .ok (U el).size w.drew := by simp [sizeOf, typeInfo, hi, i1]
            have n1 : ¬ ((m : Int) < 0) := by omega
            have n2 : ¬ (281474976710656 < (m : Int) * (i.bytes : Int)) := by
              have : ((m * i.bytes : Nat) : Int) ≤ 140737488355328 := by rw [i2]; exact Int.ofNat_le.2 hb
              rw [Int.natCast_mul] at this
              omega
            rcases Nat.eq_zero_or_pos m with rfl | hmp
            · obtain ⟨c', k1, k2, k3⟩ := newRow_does (nx := nx) (el := el) (t := T) (l := ([] : List T.den)) (v := .slice A 0 0) (us := []) (w' := w) hR (isFresh_none f1)
                (fun _ _ => rfl) rfl rfl rfl (Nat.le_refl _) ⟨by simp, .inl ⟨rfl, A, rfl⟩⟩ (fun b hb => by cases A <;> simp [blockOf] at hb) rfl
              refine ⟨c', w, .slice A 0 0, .inl ?_, k1, by simp only [VR]; exact ⟨k2, rfl⟩, k3⟩
              have h2' : e y = .int ka 0 := h2.1
              cases A <;> simp [execOp, ho, resolve, invoke, builtin, ex, h2', Builtin.append_, run_underlying hu, run_underlying hu', hsz, asInt, asIntOf, IntKind.wrap_i64, typeInfo, hi, storeCells]
            · have hge := grownCap_ge w m 0 el
              have hcm := grownCap_le_maxLen w m 0 el (by unfold maxLen; omega)
              have hb0 : (0 + m) * (U el).bytes ≤ 140737488355328 := by rw [Nat.zero_add]; exact hb
              have hfit := growslice_fits (old := 0) (show 0 < 0 + m by omega) hb0
              rw [Nat.zero_add] at hfit
              have h48 : ¬ (281474976710656 < Builtin.nextslicecap m 0 * i.bytes) := by rw [i2]; omega
              have hne : ¬ (m * (U el).size = 0) := by
                rw [← f2] at hpos ⊢
                exact Nat.ne_of_gt (Nat.mul_pos hmp hpos)
              have hall : (Builtin.zeroCells z.cells m ++ Builtin.zeroCells z.cells (grownCap w m 0 el - m)).size = grownCap w m 0 el * T.size := by
                rw [Array.size_append, size_zeroCells, size_zeroCells, hzs, ← Nat.add_mul]
                congr 1
                omega
              obtain ⟨c', k1, k2, k3⟩ := newRow_does (nx := nx) (el := el) (t := T) (l := List.replicate m T.dflt) (v := .slice (some ⟨w.heap.size, 0, none⟩) m (grownCap w m 0 el))
                (us := (Builtin.zeroCells z.cells m).toList) (w' := w.drew.alloc (.cells (Builtin.zeroCells z.cells m ++ Builtin.zeroCells z.cells (grownCap w m 0 el - m)) el)) hR (isFresh_none f1)
                (fun b hb => heap_alloc_old w.drew _ b hb) rfl rfl rfl (by simp)
                ⟨by rw [Array.length_toList, hzsz, List.length_replicate], .inr <| .inl ⟨w.heap.size, grownCap w m 0 el, _, by rw [List.length_replicate], by omega, by rw [List.length_replicate]; exact hge, hcm, heap_alloc_new w.drew _, hall, by
                  rw [List.length_replicate, Array.toList_append, ← hzsz, ← Array.length_toList]
                  exact List.take_left⟩⟩
                (fun b hb => by simp [blockOf] at hb; omega) (by rw [hzc]; exact cat_rep hdz _)
              refine ⟨c', _, _, .inl ?_, k1, by simp only [VR]; exact ⟨k2, rfl⟩, k3⟩
              have hn : ¬ (m ≤ 0) := by omega
              have hm0 : ¬ (m = 0) := by omega
              have h63 : ¬ (9223372036854775807 < (m : Int)) := by omega
              cases A <;> simp [execOp, ho, resolve, invoke, builtin, ex, h2.1, Builtin.append_, run_underlying hu, run_underlying hu', hsz, hsz', asInt, asIntOf, wl, n1, n2, hm0, typeInfo, hi, hn, h63, h48, hne, Question.forced, Builtin.firstCells, loadCells, loadCellsFrom, zeroValue, hz, newRow, newObj, Sem.run, grownCap]
      · cases h
    · cases h
  · cases h

theorem eMakeMap_ok [Sites] (hU : U.Ok P) {o : Oper} {t : TypeId} (ho : o.op = .makeMap t none) {v : AV} {s1 : Obs} {n1 : Nat} (h : eMakeMap U s nx t = some (v, s1, n1, true)) (hR : Rel B c s w) : Does P B c w (execOp e o) v s1 := by
  unfold eMakeMap at h
  split at h
  · rename_i kt et agg hkk
    split at h
    · rename_i E hkt hE
      split at h
      · rename_i hc
        simp only [Bool.and_eq_true] at hc
        obtain ⟨⟨c1, c2⟩, c3, c4⟩ := hc
        simp only [Option.some.injEq, Prod.mk.injEq] at h
        obtain ⟨rfl, rfl, _⟩ := h
        have hmt : isMapTy (bif agg then 3000000 else 2000000) = true := by cases agg <;> rfl
        obtain ⟨c', g1, g2, g3⟩ := newRow_does (nx := nx) (el := (bif agg then 3000000 else 2000000)) (t := .pair .str E) (l := []) (v := .map (some w.heap.size)) (us := []) (w' := w.alloc (.map #[] 0)) hR (isFresh_none c1)
          (fun b hb => Below.heap_alloc w _ b hb) rfl rfl rfl (by simp)
          ⟨by simp, .inr (.inr ⟨w.heap.size, #[], 0, rfl, heap_alloc_new w _, rfl, ⟨by simp, by simp, by simp, MapKept.stamped_empty 0⟩, hmt⟩)⟩
          (fun b hb => by simp [blockOf] at hb; omega) rfl
        exact ⟨c', _, .map (some w.heap.size), .inl (by simp [execOp, ho, run_makeMap]), g1, by simp only [VR]; exact ⟨_, g2, rfl⟩, g3⟩
      · cases h
    · cases h
  · cases h

theorem mapSet_rel [Sites] (h : Rel B c s w) {id b : Nat} {el : TypeId} {E : Ty} {l l' : List (Ty.pair .str E).den} (hl : look s id = some (.row el (.pair .str E) l)) (hn : c.nm id = some (.map (some b))) {es es' : Array MapEntry} {clock clock' : Nat}
    (hb : w.heap[b]? = some (.map es clock)) (h2 : MapKept.Stamped es' clock') (h3 : EntR c.I w (mapAgg el) E l' es'.toList) (h4 : isMapTy el = true) :
    Rel B c (put s id (.row el (.pair .str E) l')) { w with heap := w.heap.setIfInBounds b (.map es' clock') } ∧ Ext c w c { w with heap := w.heap.setIfInBounds b (.map es' clock') } := by
  have hown : Own c id (.row el (.pair .str E) l) b := ⟨_, hn, rfl⟩
  have hheap := MapKept.heap_set (o' := .map es' clock') hb
  refine h.upd id (.row el (.pair .str E) l') (fun k => k = b) (fun _ _ h => h) (fun _ _ => rfl) (fun _ h => h) (fun _ h => .inl h) (fun k _ hk => hheap.2 k hk) (fun k hk => by subst hk; exact h.free hl hown) (fun hE => ?_) (fun k hk => ?_) rfl rfl rfl (by simp)
  · exact ents_map hn hheap.1 h2 (h3.lasts hE.lasts) h4
  · obtain ⟨v, h5, h6⟩ := hk
    rw [hn] at h5
    simp only [Option.some.injEq] at h5
    subst h5
    simp only [blockOf, Option.some.injEq] at h6
    exact .inl h6.symm

theorem agg_val {E : Ty} {x : AV} {u : Value} (ha : aggOk E x = true) (h1 : allOne x.cells = true) (hv : VR c w x u) : isAggV u = E.isAgg := by
  have other : x.cells = [x] → (!E.isAgg) = true → isAggV u = E.isAgg := fun hx hE => by
    rw [hx] at h1
    have h2 : u.oneCell' = true := one_ok (by simpa [allOne] using h1) hv
    have h3 : E.isAgg = false := by simpa using hE
    rw [h3]
    cases u <;> first | rfl | (simp [Value.oneCell'] at h2)
  cases x with
  | agg cs =>
    simp only [VR] at hv
    obtain ⟨us, rfl, _⟩ := hv
    simp only [aggOk] at ha
    rw [ha]
    rfl
  | _ => exact other rfl ha

theorem eMapUpdate_ok [Sites] (hU : U.Ok P) {o : Oper} {t : TypeId} {m k y : Operand} (ho : o.op = .mapUpdate t m k y) {v : AV} {s1 : Obs} {n1 : Nat} (h : eMapUpdate U s nx t (ρ m) (ρ k) (ρ y) = some (v, s1, n1, true)) (hR : Rel B c s w) (hρ : Ops.Ok c w ρ e) : Does P B c w (execOp e o) v s1 := by
  unfold eMapUpdate at h
  split at h
  · rename_i kt et agg hkk
    have hu := (hU t (by simp [hkk])).1
    simp only [TD.kindOk, hkk] at hu
    split at h
    · rename_i id key x hkt hm hk hy
      have hkd := (hU kt (by simp [hkt])).1
      simp only [TD.kindOk, hkt] at hkd
      have hm' := hρ _ _ hm
      have hk' := hρ _ _ hk
      simp only [VR] at hm' hk'
      obtain ⟨b, hn, hm'⟩ := hm'
      split at h
      · rename_i e' E l hl
        split at h
        · rename_i y' hmk
          split at h
          · rename_i hc
            simp only [Bool.and_eq_true] at hc
            obtain ⟨c1, c2, c3⟩ := hc
            have c1 := beqB_eq c1
            simp only [Option.some.injEq, Prod.mk.injEq] at h
            obtain ⟨rfl, rfl, _⟩ := h
            obtain ⟨I1, hR1, hE1⟩ := frz_ok x.cells hR
            have hv1 := VR.ext hE1 _ _ (hρ _ _ hy)
            have hcv := cells_ok c3 hv1
            have htr := mk1_ok hR1.obs hmk hcv
            have hag := agg_val c2 c3 hv1
            obtain ⟨es, clock, hb, hst, hE, hmt⟩ := map_ents (hR1.obs _ _ hl) hn
            have hik : MapKept.IsKey .string (.string ⟨key.toArray⟩) := trivial
            rcases MapKept.findNow_spec hik es.toList 0 (EntR.key hE) with ⟨h1, h2⟩ | ⟨j, x0, h1, h2, h3⟩
            · obtain ⟨_, _, g3, _⟩ := hE.miss h2
              have hE' := hE.push (b := clock) hk'.2 htr (by rw [hag, c1])
              rw [← g3] at hE'
              obtain ⟨q1, q2⟩ := mapSet_rel (es' := es.push ⟨.string ⟨key.toArray⟩, e y, clock⟩) (clock' := clock + 1) hR1 hl hn hb (MapKept.stamped_push hst h2) (by simpa using hE') hmt
              refine ⟨_, _, undef, .inr ⟨?_, rfl⟩, q1, by simp only [VR], hE1.trans q2⟩
              simp [execOp, ho, hm', hk'.1, Instr.mapUpdate, run_underlying hu.1, MapKept.run_getObj_map hb, MapKept.run_checkKey hkd hik, MapKept.run_findKey hkd h1, MapKept.run_setObj_map _ hb, Result.andThen]
            · obtain ⟨_, _, _, _, g5, _⟩ := hE.hit ((MapKept.stamped_iff es clock).1 hst).2.2 h2 h3
              have hE' := g5 y' (e y) htr (by rw [hag, c1])
              have hj : es[j]? = some x0 := by simpa using h2
              obtain ⟨q1, q2⟩ := mapSet_rel (es' := es.modify j fun e1 => { e1 with key := .string ⟨key.toArray⟩, val := e y }) (clock' := clock) hR1 hl hn hb (MapKept.stamped_modify hst _ _ (fun _ _ => rfl) (fun x hx hxj => by rw [hj] at hxj; cases hxj; exact h3.symm)) (by simpa using hE') hmt
              refine ⟨_, _, undef, .inr ⟨?_, rfl⟩, q1, by simp only [VR], hE1.trans q2⟩
              simp [execOp, ho, hm', hk'.1, Instr.mapUpdate, run_underlying hu.1, MapKept.run_getObj_map hb, MapKept.run_checkKey hkd hik, MapKept.run_findKey hkd h1, hj, h3, MapKept.run_keyThatStays hik, MapKept.run_setObj_map _ hb, Result.andThen]
          · cases h
        · cases h
      · cases h
    · cases h
  · cases h

theorem eDelete_ok [Sites] (hU : U.Ok P) {o : Oper} {args : Array Operand} {t : TypeId} {tr : List TypeId} {ts : Array TypeId} {m k : Operand} (ho : o.op = .call { callee := .builtin .delete, args := args, argTypes := ts }) (hargs : args = #[m, k]) (hts : ts.toList = t :: tr) {v : AV} {s1 : Obs} {n1 : Nat} (h : eDelete U s nx t (ρ m) (ρ k) = some (v, s1, n1, true)) (hR : Rel B c s w) (hρ : Ops.Ok c w ρ e) : Does P B c w (execOp e o) v s1 := by
  unfold eDelete at h
  split at h
  · rename_i kt et agg hkk
    have hu := (hU t (by simp [hkk])).1
    simp only [TD.kindOk, hkk] at hu
    split at h
    · rename_i id key hkt hm hk
      have hkd := (hU kt (by simp [hkt])).1
      simp only [TD.kindOk, hkt] at hkd
      have hm' := hρ _ _ hm
      have hk' := hρ _ _ hk
      simp only [VR] at hm' hk'
      obtain ⟨b, hn, hm'⟩ := hm'
      split at h
      · rename_i e' E l hl
        simp only [Option.some.injEq, Prod.mk.injEq] at h
        obtain ⟨rfl, rfl, _⟩ := h
        obtain ⟨es, clock, hb, hst, hE, hmt⟩ := map_ents (hR.obs _ _ hl) hn
        have hik : MapKept.IsKey .string (.string ⟨key.toArray⟩) := trivial
        have ht0 : ts[0]? = some t := by rw [← Array.getElem?_toList, hts]; rfl
        rcases MapKept.findNow_spec hik es.toList 0 (EntR.key hE) with ⟨h1, h2⟩ | ⟨j, x0, h1, h2, h3⟩
        · obtain ⟨_, _, _, g4⟩ := hE.miss h2
          obtain ⟨q1, q2⟩ := mapSet_rel (l' := mapDel l key) (es' := es) (clock' := clock) hR hl hn hb hst (by rw [g4]; exact hE) hmt
          refine ⟨_, _, .tuple #[], .inl ?_, q1, by simp only [VR, VRs]; exact ⟨[], rfl, rfl⟩, q2⟩
          simp [execOp, ho, hargs, hm', hk'.1, resolve, invoke, builtin, ht0, Builtin.delete_, run_underlying hu.1, MapKept.run_getObj_map hb, MapKept.run_checkKey hkd hik, MapKept.run_findKey hkd h1, MapKept.run_setObj_map _ hb, Result.andThen]
        · obtain ⟨_, _, _, _, _, g6⟩ := hE.hit ((MapKept.stamped_iff es clock).1 hst).2.2 h2 h3
          have hj : j < es.size := by
            have := (List.getElem?_eq_some_iff.1 h2).1
            simpa using this
          obtain ⟨q1, q2⟩ := mapSet_rel (es' := es.eraseIdxIfInBounds j) (clock' := clock) hR hl hn hb (MapKept.stamped_erase hst j) (by simpa [Array.eraseIdxIfInBounds, hj] using g6) hmt
          refine ⟨_, _, .tuple #[], .inl ?_, q1, by simp only [VR, VRs]; exact ⟨[], rfl, rfl⟩, q2⟩
          simp [execOp, ho, hargs, hm', hk'.1, resolve, invoke, builtin, ht0, Builtin.delete_, run_underlying hu.1, MapKept.run_getObj_map hb, MapKept.run_checkKey hkd hik, MapKept.run_findKey hkd h1, MapKept.run_setObj_map _ hb, Result.andThen]
      · cases h
    · cases h
  · cases h

theorem evalE_ok [Sites] (hU : U.Ok P) {o : Oper} {v : AV} {s1 : Obs} {n1 : Nat} (h : evalE U ρ s nx o.op = some (v, s1, n1, true)) (hR : Rel B c s w) (hρ : Ops.Ok c w ρ e) : Does P B c w (execOp e o) v s1 := by
  unfold evalE at h
  split at h
  · rename_i ho; exact eAlloc_ok hU ho h hR
  · rename_i ho; exact eBox_ok ho h hR hρ
  · rename_i ho; exact eBuildSlice_ok hU ho h hR hρ
  · rename_i ho; exact eStore_ok hU ho h hR hρ
  · rename_i ho; exact eConv_ok hU ho h hR hρ
  · rename_i ho; exact eMake_ok hU ho h hR hρ
  · rename_i ho; exact eMakeMap_ok hU ho h hR
  · rename_i ho; exact eMapUpdate_ok hU ho h hR hρ
  · rename_i args ts ho
    split at h
    · rename_i m k t tr h1 h2
      exact eDelete_ok hU ho (args_two h1) h2 h hR hρ
    · cases h
  · rename_i args ts ho
    split at h
    · rename_i x y t t' h1 h2
      have := args_two h1
      subst this
      have ht : ts = #[t, t'] := by apply Array.toList_inj.1; simpa using h2
      subst ht
      split at h
      · rename_i r hr
        simp only [Option.some.injEq] at h
        subst h
        exact eAppend_ok hU ho hr hR hρ
      · exact eZeros_ok hU ho h hR hρ
    · cases h
  · cases h

theorem map_rho {ρ ρ' : Operand → Option AV} {l : List Operand} (h : ∀ x ∈ l, ρ x = ρ' x) : l.map ρ = l.map ρ' := List.map_congr_left h
theorem opt_rho {ρ ρ' : Operand → Option AV} {l : Option Operand} (h : ∀ x ∈ l.toArray, ρ x = ρ' x) : l.map ρ = l.map ρ' := by
  cases l with
  | none => rfl
  | some x => simp [h x (by simp)]
theorem parts_rho {ρ ρ' : Operand → Option AV} {l : List (Nat × Operand)} (h : ∀ x ∈ (l.map (·.2)).toArray, ρ x = ρ' x) : evParts ρ l = evParts ρ' l := by
  unfold evParts
  refine List.map_congr_left fun p hp => ?_
  rw [h p.2 (by simp only [List.mem_toArray, List.mem_map]; exact ⟨p, hp, rfl⟩)]

theorem vBuiltin_rho {ρ ρ' : Operand → Option AV} {lk : Lk} {b : Builtin} {args : List Operand} {ts : List TypeId} (h : ∀ x ∈ args, ρ x = ρ' x) : vBuiltin U ρ lk b args ts = vBuiltin U ρ' lk b args ts := by
  unfold vBuiltin
  split
  · rw [h _ (by simp)]
  · rw [h _ (by simp)]
  · rw [h _ (by simp), h _ (by simp)]
  · rw [h _ (by simp), h _ (by simp)]
  · rfl

theorem evalV_rho [Sites] {ρ ρ' : Operand → Option AV} {lk : Lk} (o : Op) (h : ∀ x ∈ o.operands, ρ x = ρ' x) : evalV U ρ lk o = evalV U ρ' lk o := by
  unfold evalV
  split
  case h_1 => rw [h _ (by simp [Op.operands])]
  case h_2 => rw [h _ (by simp [Op.operands])]
  case h_3 => rw [h _ (by simp [Op.operands]), h _ (by simp [Op.operands]), h _ (by simp [Op.operands])]
  case h_4 => rw [h _ (by simp [Op.operands]), h _ (by simp [Op.operands])]
  case h_5 => rw [h _ (by simp [Op.operands])]
  case h_6 => rw [h _ (by simp [Op.operands])]
  case h_7 => rw [h _ (by simp [Op.operands])]
  case h_8 => rw [h _ (by simp [Op.operands])]
  case h_9 => rw [h _ (by simp [Op.operands])]
  case h_10 => rw [h _ (by simp [Op.operands]), h _ (by simp [Op.operands])]
  case h_11 => rw [h _ (by simp [Op.operands]), h _ (by simp [Op.operands])]
  case h_12 => rw [h _ (by simp [Op.operands])]
  case h_13 => rw [h _ (by simp [Op.operands]), h _ (by simp [Op.operands])]
  case h_14 => rw [h _ (by simp [Op.operands])]
  case h_15 lo hi mx =>
    rw [h _ (by simp [Op.operands]), opt_rho (l := lo) fun x hx => h x (by simp only [Op.operands, Array.mem_append]; exact .inl (.inl (.inr hx))),
      opt_rho (l := hi) fun x hx => h x (by simp only [Op.operands, Array.mem_append]; exact .inl (.inr hx)), opt_rho (l := mx) fun x hx => h x (by simp only [Op.operands, Array.mem_append]; exact .inr hx)]
  case h_16 => rw [parts_rho fun x hx => h x (by simpa [Op.operands] using hx)]
  case h_17 => rw [map_rho fun x hx => h x (by simp only [Op.operands, Array.mem_append]; exact .inl (by simpa using hx)), map_rho fun x hx => h x (by simp only [Op.operands, Array.mem_append]; exact .inr (by simpa using hx))]
  case h_18 => exact vBuiltin_rho fun x hx => h x (by simpa [Op.operands, Call.operands] using hx)
  case h_19 => rfl

theorem evalE_rho [Sites] {ρ ρ' : Operand → Option AV} (o : Op) (h : ∀ x ∈ o.operands, ρ x = ρ' x) : evalE U ρ s nx o = evalE U ρ' s nx o := by
  unfold evalE
  split
  case h_1 => rfl
  case h_2 => rw [h _ (by simp [Op.operands])]
  case h_3 => rw [parts_rho fun x hx => h x (by simpa [Op.operands] using hx)]
  case h_4 => rw [h _ (by simp [Op.operands]), h _ (by simp [Op.operands])]
  case h_5 => rw [h _ (by simp [Op.operands])]
  case h_6 => rw [h _ (by simp [Op.operands]), h _ (by simp [Op.operands])]
  case h_7 => rfl
  case h_8 => rw [h _ (by simp [Op.operands]), h _ (by simp [Op.operands]), h _ (by simp [Op.operands])]
  case h_9 args ts =>
    split
    · rename_i x y t tr h1 h2
      have hm : ∀ z ∈ args, ρ z = ρ' z := fun z hz => h z (by simpa [Op.operands, Call.operands] using hz)
      rw [hm x (by rw [← Array.mem_toList_iff, h1]; simp), hm y (by rw [← Array.mem_toList_iff, h1]; simp)]
    · rfl
  case h_10 args ts =>
    split
    · rename_i x y t t' h1 h2
      have hm : ∀ z ∈ args, ρ z = ρ' z := fun z hz => h z (by simpa [Op.operands, Call.operands] using hz)
      rw [hm x (by rw [← Array.mem_toList_iff, h1]; simp), hm y (by rw [← Array.mem_toList_iff, h1]; simp)]
    · rfl
  case h_11 => rfl

section
variable {lk lk' : Lk}
theorem listOf_lk {t : Ty} {x : AV} (h : ∀ i ∈ x.ids, lk i = lk' i) : listOf lk t x = listOf lk' t x := by
  cases x <;> simp only [listOf] <;> rw [h _ (by simp [AV.ids])]
theorem lenOf_lk {x : AV} (h : ∀ i ∈ x.ids, lk i = lk' i) : lenOf lk x = lenOf lk' x := by
  cases x <;> simp only [lenOf] <;> rw [h _ (by simp [AV.ids])]
theorem vConv_lk [Sites] {a b : TD} {x : Option AV} (h : ∀ i ∈ idsO x, lk i = lk' i) : vConv U lk a b x = vConv U lk' a b x := by
  unfold vConv
  split
  · rfl
  · rfl
  · rw [listOf_lk (by simpa [idsO] using h)]
  · rfl
theorem vIndexAddr_lk {d : TD} {x i : Option AV} (h : ∀ i ∈ idsO x, lk i = lk' i) : vIndexAddr U lk d x i = vIndexAddr U lk' d x i := by
  cases x with
  | none => rfl
  | some x => cases x <;> simp only [vIndexAddr] <;> rw [h _ (by simp [idsO, AV.ids])]
theorem vLoad_lk {d : TD} {x : Option AV} (h : ∀ i ∈ idsO x, lk i = lk' i) : vLoad lk d x = vLoad lk' d x := by
  cases x with
  | none => rfl
  | some x => cases x <;> simp only [vLoad] <;> rw [h _ (by simp [idsO, AV.ids])]
theorem vLookup_lk [Sites] {d : TD} {x k : Option AV} {cm : Bool} (h : ∀ i ∈ idsO x, lk i = lk' i) : vLookup U lk d x k cm = vLookup U lk' d x k cm := by
  unfold vLookup
  cases d.k with
  | map kt et agg =>
    simp only
    cases (U kt).k with
    | string =>
      cases x with
      | none => rfl
      | some x =>
        cases x with
        | mp id => cases k with
          | none => rfl
          | some k => cases k with
            | str s => simp only [h id (by simp [idsO, AV.ids])]
            | _ => rfl
        | _ => rfl
    | _ => rfl
  | _ => rfl
theorem vLen_lk [Sites] {d : TD} {x : Option AV} (h : ∀ i ∈ idsO x, lk i = lk' i) : vLen lk d x = vLen lk' d x := by
  cases x with
  | none => rfl
  | some x => simp only [vLen]; rw [lenOf_lk h]
theorem obOf_lk {x : Option AV} (h : ∀ i ∈ idsO x, lk i = lk' i) : obOf lk x = obOf lk' x := by
  cases x with
  | none => rfl
  | some x => cases x <;> simp only [obOf] <;> rw [h _ (by simp [idsO, AV.ids])]
end

theorem evalV_lk [Sites] {lk lk' : Lk} (o : Op) (h : ∀ i ∈ foot ρ o, lk i = lk' i) : evalV U ρ lk o = evalV U ρ lk' o := by
  have hx : looks o = true → ∀ x ∈ o.operands, ∀ i ∈ idsO (ρ x), lk i = lk' i := fun hl x hx i hi => h i (by
    unfold foot
    rw [hl]
    exact List.mem_flatMap.2 ⟨x, Array.mem_toList_iff.2 hx, hi⟩)
  unfold evalV
  split
  case h_6 => rw [vConv_lk (hx rfl _ (by simp [Op.operands]))]
  case h_10 => rw [vIndexAddr_lk (hx rfl _ (by simp [Op.operands]))]
  case h_12 => rw [vLoad_lk (hx rfl _ (by simp [Op.operands]))]
  case h_13 => rw [vLookup_lk (hx rfl _ (by simp [Op.operands]))]
  case h_15 => rw [obOf_lk (hx rfl _ (by simp [Op.operands]))]
  case h_18 b args ts =>
    unfold vBuiltin
    split
    · rename_i x t r hal hts
      rw [vLen_lk (hx rfl x (by simp only [Op.operands, Call.operands, Array.mem_append]; right; rw [← Array.mem_toList_iff, hal]; simp))]
    all_goals rfl
  all_goals rfl
end
end Go.Hay
