/- A law: a function of plain data that gives true. -/
import Derived.Test.YthlojpcjafefjaaHayZb
set_option linter.unusedVariables false
set_option linter.unusedSimpArgs false
namespace Go.Hay
open Go.RowKit Go.ChangeShapes

theorem ikEq_refl (k : IntKind) : ikEq k k = true := by cases k <;> rfl
theorem castL_refl (t : Ty) (l : List t.den) : castL t t l = some l := by simp [castL]

theorem mk_cells [Sites] (lk : Lk) : ∀ (T : Ty) (x : T.den) (r : List AV), mk lk T (cellsOf T x ++ r) = some (x, r)
  | .byte, x, r => by simp only [cellsOf, List.cons_append, List.nil_append, mk, mkByte, u8_byte]
  | .int k, x, r => by simp only [cellsOf, List.cons_append, List.nil_append, mk, mkInt, ikEq_refl, cond_true]
  | .bool, x, r => rfl
  | .str, x, r => rfl
  | .slice t, l, r => by simp only [cellsOf, List.cons_append, List.nil_append, mk, frozenList, castL_refl]
  | .pair a b, x, r => by simp only [cellsOf, List.append_assoc, mk, mk_cells lk a x.1, mk_cells lk b x.2]
  | .unit, x, r => rfl

theorem allOne_app {l m : List AV} (h1 : allOne l = true) (h2 : allOne m = true) : allOne (l ++ m) = true := by
  induction l with
  | nil => exact h2
  | cons a l ih =>
    simp only [allOne, List.cons_append, Bool.and_eq_true] at *
    exact ⟨h1.1, ih h1.2⟩
theorem allOne_cells [Sites] : ∀ (T : Ty) (x : T.den), allOne (cellsOf T x) = true
  | .byte, x => rfl
  | .int k, x => rfl
  | .bool, x => rfl
  | .str, x => rfl
  | .slice t, l => rfl
  | .pair a b, x => allOne_app (allOne_cells a x.1) (allOne_cells b x.2)
  | .unit, x => rfl
theorem val_facts (T : Ty) (x : T.den) : (valOf T x).cells = cellsOf T x ∧ aggOk T (valOf T x) = true := by
  cases T <;> simp [valOf, Ty.isAgg, cellsOf, AV.cells, aggOk]
theorem frz_nil : ∀ l : List AV, frz [] l = []
  | [] => rfl
  | x :: r => by
    have : frz1 [] x = [] := by cases x <;> rfl
    simp only [frz, this, frz_nil r]

def insOf : List Ty → Sh
  | [] => .nil
  | T :: r => .cons (.val T) (insOf r)
def blkAll : (Ts : List Ty) → (insOf Ts).den → Nat
  | [], _ => 0
  | T :: r, x => blk T x.1 + blkAll r x.2

section
variable {α : Type}
/-- Are the numbers of a value of their kinds? -/
def wfT : (T : Ty) → T.den → Prop
  | .int k, x => fits k x = true
  | .slice T, l => ∀ x ∈ l, wfT T x
  | .pair a b, x => wfT a x.1 ∧ wfT b x.2
  | _, _ => True
def wfAll : (Ts : List Ty) → (insOf Ts).den → Prop
  | [], _ => True
  | T :: r, x => wfT T x.1 ∧ wfAll r x.2

theorem cat_wf {R : α → List Value → Prop} {p : α → Prop} (h : ∀ x us, R x us → p x) : ∀ {l : List α} {us : List Value}, Cat R l us → ∀ x ∈ l, p x
  | [], _, _, x, hx => by cases hx
  | y :: l, us, ⟨a, b, e, h1, h2⟩, x, hx => by
    rcases List.mem_cons.1 hx with rfl | hx
    · exact h _ _ h1
    · exact cat_wf h h2 x hx
theorem slice_wf {I : Nat → Prop} {w : World} {R : α → List Value → Prop} {p : α → Prop} (h : ∀ x us, R x us → p x) {l : List α} {u : Value} (hs : SliceAt I w R l u) : ∀ x ∈ l, p x := by
  obtain ⟨A, c, e, hn, hm, h0, hc⟩ := hs
  intro x hx
  have hpos : 0 < l.length := List.length_pos_of_mem hx
  cases A with
  | none => exact absurd (h0 rfl) (by omega)
  | some ad =>
    obtain ⟨_, _, us, h1, _⟩ := hc ad rfl hpos
    exact cat_wf h h1 x hx
theorem TR.wf {I : Nat → Prop} {w : World} : ∀ {t : Ty} {x : t.den} {us : List Value}, TR I w t x us → wfT t x
  | .byte, x, us, h => trivial
  | .int k, x, us, h => by simp only [TR] at h; exact h.2
  | .bool, x, us, h => trivial
  | .str, x, us, h => trivial
  | .slice t, x, us, h => by
    simp only [TR] at h
    obtain ⟨u, _, h1⟩ := h
    exact slice_wf (fun x us h => TR.wf h) h1
  | .pair a b, x, us, h => by
    simp only [TR] at h
    obtain ⟨u, v, _, h1, h2⟩ := h
    exact ⟨TR.wf h1, TR.wf h2⟩
  | .unit, x, us, h => trivial
theorem VRs.split {c : Cf} {w : World} : ∀ {xs ys : List AV} {us : List Value}, VRs c w (xs ++ ys) us → ∃ u v, us = u ++ v ∧ VRs c w xs u ∧ VRs c w ys v
  | [], ys, us, h => ⟨[], us, rfl, by simp [VRs], h⟩
  | x :: xs, ys, us, h => by
    simp only [List.cons_append, VRs] at h
    obtain ⟨u, us', rfl, h1, h2⟩ := h
    obtain ⟨p, q, rfl, h3, h4⟩ := VRs.split h2
    exact ⟨u :: p, q, rfl, by simp only [VRs]; exact ⟨u, p, rfl, h1, h3⟩, h4⟩
theorem cells_wf {c : Cf} {w : World} : ∀ {t : Ty} {x : t.den} {us : List Value}, VRs c w (cellsOf t x) us → wfT t x
  | .byte, x, us, h => trivial
  | .int k, x, us, h => by
    simp only [cellsOf, VRs, VR] at h
    obtain ⟨u, us', _, h1, _⟩ := h
    exact h1.2
  | .bool, x, us, h => trivial
  | .str, x, us, h => trivial
  | .slice t, x, us, h => by
    simp only [cellsOf, VRs, VR] at h
    obtain ⟨u, us', _, h1, _⟩ := h
    exact slice_wf (fun x us h => TR.wf h) h1
  | .pair a b, x, us, h => by
    simp only [cellsOf] at h
    obtain ⟨u, v, _, h1, h2⟩ := VRs.split h
    exact ⟨cells_wf h1, cells_wf h2⟩
  | .unit, x, us, h => trivial
theorem val_wf {c : Cf} {w : World} {t : Ty} {x : t.den} {v : Value} (h : VR c w (valOf t x) v) : wfT t x := by
  unfold valOf at h
  split at h
  · simp only [VR] at h
    obtain ⟨us, _, h1⟩ := h
    exact cells_wf h1
  · rename_i hno
    split at h
    · rename_i a ha
      exact cells_wf (t := t) (x := x) (us := [v]) (c := c) (w := w) (by rw [ha]; simp only [VRs]; exact ⟨v, [], rfl, h, rfl⟩)
    · rename_i xs hag
      cases t with
      | pair a b => cases hno
      | unit => trivial
      | int k => exact absurd rfl (hag _)
      | slice t => exact absurd rfl (hag _)
      | _ => trivial
theorem args_wf {c : Cf} {w : World} {nm : Nat → Nat} : ∀ {Ts : List Ty} {x : (insOf Ts).den} {n : Nat} {vals : List Value}, VRs c w (bld nm (insOf Ts) x n).1 vals → wfAll Ts x
  | [], x, n, vals, h => trivial
  | T :: r, x, n, vals, h => by
    have h' : VRs c w ([valOf T x.1] ++ (bld nm (insOf r) x.2 n).1) vals := h
    obtain ⟨u, v, rfl, h1, h2⟩ := VRs.split h'
    refine ⟨?_, args_wf h2⟩
    simp only [VRs] at h1
    obtain ⟨u', us', _, h3, _⟩ := h1
    exact val_wf h3

end

theorem xt_ins [Sites] (nm : Nat → Nat) : ∀ (Ts : List Ty) (x : (insOf Ts).den) (n : Nat) (fz : List Nat), ∃ fz', xt (insOf Ts) (bld nm (insOf Ts) x n).1 ⟨[], [], fz⟩ = some (x, [], ⟨[], [], fz'⟩)
  | [], x, n, fz => ⟨fz, rfl⟩
  | T :: r, x, n, fz => by
    obtain ⟨h1, h2⟩ := val_facts T x.1
    have hmk : mk1 (look ([] : Obs)) T (cellsOf T x.1) = some x.1 := by
      have := mk_cells (look ([] : Obs)) T x.1 []
      rw [List.append_nil] at this
      simp only [mk1, this]
    obtain ⟨fz', hr⟩ := xt_ins nm r x.2 n (idsDeep (valOf T x.1) ++ fz)
    refine ⟨fz', ?_⟩
    simp only [insOf, bld, List.cons_append, List.nil_append, xt, h1, h2, frz_nil, allOne_cells, Bool.and_self, hmk, hr]
    rfl

section
variable {P : Program} {U : TEnv} {w : World} {H : Type} {enc : TypeId × Value → H} {b : DataW H → Nat}

def tysOk (U : TEnv) : List Ty → List TypeId → Bool
  | [], [] => true
  | T :: r, t :: q => tyAt U 30 T t && tysOk U r q
  | _, _ => false

abbrev c0 (w : World) : Cf := ⟨fun _ => none, old w⟩

theorem arg_open [Sites] (hU : U.Ok P) (hB : Bulk b) {T : Ty} {t : TypeId} (h : tyAt U 30 T t = true) {base : Nat} {v : Value} {d : DataW H} {p : List MemPlace} (hval : Value.okWide P w .any base t v)
    (ht : DataW.Trod enc P w 0 (fun _ => true) true t v d p) : ∃ x : T.den, VR (c0 w) w (valOf T x) v ∧ blk T x ≤ b d := by
  obtain ⟨fuel, ht⟩ := ht
  obtain ⟨x, hx, hb⟩ := open_ok (w := w) (enc := enc) (sp := fun _ => true) (held := true) hU hB 30 T t h _ _ _ ht
  refine ⟨x, ?_, hb⟩
  have hc := cellsOf_ok (c := c0 w) (w := w) hx
  have hne := tyAt_ne h
  have hk := (hU t hne).1
  unfold tyAt at h
  simp only [Bool.and_eq_true] at h
  obtain ⟨hs0, h⟩ := h
  clear hs0
  have hone : (∀ cs, v ≠ .agg cs) → v.cells.toList = [v] := fun hv => by
    cases v <;> first | rfl | exact absurd rfl (hv _)
  have leaf : ∀ (D : TypeDesc), P.underlying t = some D → (∀ cs, ¬ Value.okWide P w .any base t (.agg cs)) → ∀ a, cellsOf T x = [a] → valOf T x = a → VR (c0 w) w (valOf T x) v := by
    intro D _ hno a ha hva
    rw [hone (fun cs e => hno cs (by rw [← e]; exact hval)), ha] at hc
    simp only [VRs] at hc
    obtain ⟨u, us, e1, e2, e3⟩ := hc
    simp only [List.cons.injEq] at e1
    rw [hva, e1.1]
    exact e2
  split at h
  · rename_i e
    simp only [TD.kindOk, e] at hk
    exact leaf _ hk (fun cs hv => by simp [Value.okWide, hk, Cell.okWide, Cell.ok] at hv) _ rfl rfl
  · rename_i e
    simp only [TD.kindOk, e] at hk
    exact leaf _ hk (fun cs hv => by simp [Value.okWide, hk, Cell.okWide, Cell.ok] at hv) _ rfl rfl
  · rename_i e
    simp only [TD.kindOk, e] at hk
    exact leaf _ hk (fun cs hv => by simp [Value.okWide, hk, Cell.okWide, Cell.ok] at hv) _ rfl rfl
  · rename_i e
    simp only [TD.kindOk, e] at hk
    exact leaf _ hk (fun cs hv => by simp [Value.okWide, hk, Cell.okWide, Cell.ok] at hv) _ rfl rfl
  · rename_i e
    simp only [TD.kindOk, e] at hk
    exact leaf _ hk (fun cs hv => by simp [Value.okWide, hk, Cell.okWide, Cell.ok] at hv) _ rfl rfl
  · rename_i e
    simp only [TD.kindOk, e] at hk
    obtain ⟨hF, _⟩ := fields_of hk
    simp only [Value.okWide, hF] at hval
    obtain ⟨cs, rfl, _⟩ := hval
    simp only [Value.cells] at hc
    show VR (c0 w) w (.agg (cellsOf _ x)) _
    simp only [VR]
    exact ⟨cs.toList, by rw [Array.toArray_toList], hc⟩
  · rename_i e
    simp only [TD.kindOk, e] at hk
    obtain ⟨hF, _⟩ := fields_of hk
    simp only [Value.okWide, hF] at hval
    obtain ⟨cs, rfl, _⟩ := hval
    simp only [Value.cells] at hc
    show VR (c0 w) w (.agg (cellsOf _ x)) _
    simp only [VR]
    exact ⟨cs.toList, by rw [Array.toArray_toList], hc⟩
  · cases h

theorem args_open [Sites] (hU : U.Ok P) (hB : Bulk b) {base : Nat} : ∀ (Ts : List Ty) (ts : List TypeId) (vs : List Value) (ds : List (DataW H)) (p : List MemPlace), tysOk U Ts ts = true → (∀ (j : Nat) t v, ts[j]? = some t → vs[j]? = some v → Value.okWide P w .any base t v) →
    DataW.TrodAll enc P w 0 (fun _ => true) true ts vs ds p → ∃ x : (insOf Ts).den, VRs (c0 w) w (bld (fun k => k) (insOf Ts) x 0).1 vs ∧ blkAll Ts x ≤ (ds.map b).sum ∧ ds.length = Ts.length
  | [], [], [], [], p, _, _, _ => ⟨(), by simp only [insOf, bld, VRs], by simp [blkAll], rfl⟩
  | T :: r, t :: q, v :: vs, d :: ds, p, h, hval, ⟨p1, p2, h1, h2, _⟩ => by
    simp only [tysOk, Bool.and_eq_true] at h
    obtain ⟨x, k1, k2⟩ := arg_open hU hB h.1 (hval 0 t v rfl rfl) h1
    obtain ⟨y, k3, k4, k5⟩ := args_open hU hB r q vs ds p2 h.2 (fun j t' v' hj hv => hval (j + 1) t' v' (by simpa using hj) (by simpa using hv)) h2
    refine ⟨(x, y), ?_, ?_, by simp [k5]⟩
    · simp only [insOf, bld, List.cons_append, List.nil_append, VRs]
      exact ⟨v, vs, rfl, k1, k3⟩
    · simp only [blkAll, List.map_cons, List.sum_cons]
      omega
  | [], [], [], _ :: _, _, _, _, h => by simp [DataW.TrodAll] at h
  | [], [], _ :: _, _, _, _, _, h => by simp [DataW.TrodAll] at h
  | [], _ :: _, _, _, _, h, _, _ => by simp [tysOk] at h
  | _ :: _, [], _, _, _, h, _, _ => by simp [tysOk] at h
  | _ :: _, _ :: _, [], _, _, _, _, h => by simp [DataW.TrodAll] at h
  | _ :: _, _ :: _, _ :: _, [], _, _, _, h => by simp [DataW.TrodAll] at h

/-- What a law's function is proved to do. -/
abbrev lawFs (Ts : List Ty) (g : (insOf Ts).den → Option (Bool × Unit)) : Fs := ⟨insOf Ts, .cons (.val .bool) .nil, g⟩

theorem law_run [Sites] {Ts : List Ty} {g : (insOf Ts).den → Option (Bool × Unit)} {f : FuncId} (hC : (lawFs Ts g).con.Ok P f) {x : (insOf Ts).den} {r : Bool} (hg : g x = some (r, ())) {vals : List Value} (hv : VRs (c0 w) w (bld (fun k => k) (insOf Ts) x 0).1 vals) :
    Calls P f vals.toArray w fun e w' => e = .returned (.bool r) ∧ Below w.heap.size w w' := by
  obtain ⟨fz, hxt⟩ := xt_ins (fun k => k) Ts x 0 []
  have hR : Rel ⟨w, old w, fun _ => False, fun _ => False, none, w.heap.size⟩ (c0 w) [] w :=
    { ob := fun id o h => by simp [look] at h
      dom := fun id h => rfl
      sep := fun i j oi oj bb h => by simp [look] at h
      imm := fun id o bb h => by simp [look] at h
      lo := fun bb h => h
      keep := fun bb _ _ => rfl
      mine := fun id o bb h => by simp [look] at h
      ro := fun id o bb h => by simp [look] at h
      sub := fun bb h => h
      new := fun bb h => .inl h
      os := rfl
      tape := rfl
      output := rfl
      size := Nat.le_refl _ }
  have hpre : (lawFs Ts g).con.pre (bld (fun k => k) (insOf Ts) x 0).1 [] 0 = some x := by
    simp only [Fs.con, hxt]
    rfl
  have hpost : ∃ s1 n1 W, (lawFs Ts g).con.post (bld (fun k => k) (insOf Ts) x 0).1 [] 0 x (r, ()) = some (.bool r, s1, n1, W) := by
    simp only [Fs.con, hxt]
    exact ⟨_, _, _, rfl⟩
  obtain ⟨s1, n1, W, hpost⟩ := hpost
  refine (hC.runs _ [] 0 x (r, ()) _ s1 n1 W hpre hg hpost _ _ w vals hR hv).mono ?_
  rintro e w' ⟨c', u, rfl, h1, h2, h3⟩
  simp only [VR] at h2
  subst h2
  exact ⟨rfl, h1.os, h1.tape, h1.output, h1.size, fun k hk => h1.keep k hk (fun h => h)⟩

theorem args_stay (hl : laidOutB P = true) {w' : World} (hb : Below w.heap.size w w') : ∀ {ts : List TypeId} {vs : List Value} {ds : List (DataW H)} {p : List MemPlace}, ts.all (fun t => P.readableRec t && decide (t < P.types.size)) = true → (∀ x ∈ p, x.block < w.heap.size) →
    DataW.TrodAll enc P w 0 (fun _ => true) true ts vs ds p → DataW.TrodAll enc P w' 0 (fun b => decide (b < w.heap.size)) true ts vs ds p
  | [], [], [], p, _, _, h => h
  | t :: ts, v :: vs, d :: ds, p, hr, hlt, ⟨p1, p2, h1, h2, e⟩ => by
    simp only [List.all_cons, Bool.and_eq_true, decide_eq_true_eq] at hr
    exact ⟨p1, p2, Below.trod hl hr.1.1 hr.1.2 h1 hb (fun x hx => hlt x (by rw [e]; exact List.mem_append_left _ hx)), args_stay hl hb (by simpa using hr.2) (fun x hx => hlt x (by rw [e]; exact List.mem_append_right _ hx)) h2, e⟩
  | [], [], _ :: _, _, _, _, h => by simp [DataW.TrodAll] at h
  | [], _ :: _, _, _, _, _, h => by simp [DataW.TrodAll] at h
  | _ :: _, [], _, _, _, _, h => by simp [DataW.TrodAll] at h
  | _ :: _, _ :: _, [], _, _, _, h => by simp [DataW.TrodAll] at h

/-- A law: of whatever is handed over, within a bound, the function gives true; what was handed over reads as before. -/
theorem law_ok [Sites] (hU : U.Ok P) (hl : laidOutB P = true) {f : FuncId} {fn : Func} {Ts : List Ty} {tb : TypeId} (hty : tysOk U Ts fn.params.toList = true) (hread : fn.params.toList.all (fun t => P.readableRec t && decide (t < P.types.size)) = true)
    (hres : fn.resultTypes = #[tb]) (hb : P.underlying tb = some .bool) {s : ChangeSpec} (hsv : s.vars = []) (hfn : ∀ ds : List (DataW H), ds.length = Ts.length → s.fn H ds = { results := [.lit (.bool true)], args := ds })
    (hB : Bulk b) {K : Nat} {g : Nat → (insOf Ts).den → Option (Bool × Unit)} (hC : ∀ N, (lawFs Ts (g N)).con.Ok P f) (hlaw : ∀ x : (insOf Ts).den, blkAll Ts x ≤ K → wfAll Ts x → ∃ N, g N x = some (true, ()))
    {W : World} {base : Nat} {args : Array Value} {ds gs : List (DataW H)} {before : List MemPlace} (hval : ∀ (j : Nat) t v, fn.params[j]? = some t → args[j]? = some v → Value.okWide P W .any base t v)
    (hW : DataW.Whole enc P fn.params.toList s.vars false W args.toList ds gs before) (hk : (ds.map b).sum ≤ K) {fresh handsOn : Bool} :
    Calls P f args W fun e W' => ∃ v, e = .returned v ∧ s.post enc P fn false fresh handsOn false W args v W' := by
  have hlt := hW.lt
  have hW' := hW
  obtain ⟨p, q, hA, hV, rfl, hfz, hnd⟩ := hW
  rw [hsv] at hV
  obtain ⟨rfl, rfl⟩ := trodVars_none hV
  obtain ⟨x, hv, hbk, hlen⟩ := args_open (w := W) (enc := enc) hU hB Ts fn.params.toList args.toList ds p hty (fun j t v hj hv => hval j t v (by simpa using hj) (by simpa using hv)) hA
  obtain ⟨N, hN⟩ := hlaw x (by omega) (args_wf hv)
  have hrun := law_run (hC N) hN hv
  rw [Array.toArray_toList] at hrun
  refine hrun.mono ?_
  rintro e W' ⟨rfl, hbel⟩
  refine ⟨_, rfl, ds, [], p ++ [], [], p, [], hW', ?_, ?_, ?_, hbel.frame _, fun h => by cases h⟩
  · rw [List.append_nil, hfn ds hlen, hres]
    exact trodAll_mk1 (shut_bool hb true)
  · rw [List.append_nil, hfn ds hlen]
    exact args_stay hl hbel hread (fun x hx => hlt x (by simpa using hx)) hA
  · rw [hsv, List.append_nil, hfn ds hlen]
    rfl
end
end Go.Hay
