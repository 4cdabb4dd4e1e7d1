/- Ranges over functions: the record of a loop as a box, its rounds, the statement. -/
import Derived.Test.YthlojpcjafefjaaHayZc
set_option linter.unusedVariables false
set_option linter.unusedSimpArgs false
namespace Go.Hay
open Go.RowKit

/-- What a range over a function says in the text. -/
structure Site where
  ps : Array Tmp
  assign : Code
  body : Code
  ts : List Tmp      -- the temporaries at which its rounds look
  nt : Nat           -- how many temporaries there are
def siteOf (ts : List Tmp) (nt : Nat) : Option Code → Site
  | some (.rangeFunc _ ps a b) => ⟨ps, a, b, ts, nt⟩
  | _ => ⟨#[], .skip, .skip, ts, nt⟩

def natOf : Value → Nat
  | .int _ n => n.toNat
  | _ => 0
/-- A record's state as a number: 0: ready; below: busy; 1: left by a return; above: left by an exit. -/
def stOf : Value → LoopState
  | .int _ n => if n = 0 then .ready else if n < 0 then .busy else .done
  | _ => .done
def pdOf : Value → Option Code
  | .int _ n => if n ≤ 0 then none else if n = 1 then some .ret else some (.exit (n - 2).toNat)
  | _ => none
/-- Arguments laid into temporaries. -/
def setAll (l : List (Tmp × Value)) (a : Array Value) : Array Value := l.foldl (fun tmps p => tmps.setIfInBounds p.1 p.2) a
/-- All temporaries, as one value. -/
def tupOf (n : Nat) : Value → Array Value
  | .tuple a => if a.size = n then a else Array.replicate n undef
  | _ => Array.replicate n undef
theorem tupOf_size (n : Nat) (v : Value) : (tupOf n v).size = n := by
  unfold tupOf
  split
  · split
    · assumption
    · simp
  · simp
/-- The record's cells: its state, its function, its block for deferred calls, all temporaries, those at which rounds look. -/
def loopRec (σ : Site) (us : List Value) : Loop :=
  { state := stOf (us.getD 0 undef), pending := pdOf (us.getD 0 undef), fn := natOf (us.getD 1 undef), tmps := setAll (σ.ts.zip (us.drop 4)) (tupOf σ.nt (us.getD 3 undef)), params := σ.ps, assign := σ.assign, body := σ.body, defers := natOf (us.getD 2 undef) }
def loopObj (σ : Site) (us : List Value) : Obj := .loop (loopRec σ us)

def ctlCode : Ctl → Int
  | .normal => 0
  | .ret => 1
  | .exit id => (id : Int) + 2
def ctlFit : Ctl → Bool | .exit id => Nat.blt id 1000000000 | _ => true
def ctlPd : Ctl → Option Code | .normal => none | .ret => some .ret | .exit id => some (.exit id)
def isNorm : Ctl → Bool | .normal => true | _ => false

/-- On with the next code, where the one ahead of it ends. -/
def thenC {Ω : Type} (k : St → Option Ω) (ctl : Ctl) (s : St) : Option Ω := match ctl with | .normal => k s | _ => none

theorem loopObj_ne (σ : Site) (us : List Value) (ds : Option (List Deferred)) : loopObj σ us ≠ .deferred ds := fun h => by unfold loopObj at h; cases h

/-- One round, proved alone: the temporaries that it looks at, the parameters, the shapes of both, the ways in which it ends, what it computes. -/
structure Ys where
  ts : List Tmp
  ps : List Tmp
  ins : Sh
  alts : List Alt
  fn : ins.den → Option (altsDen alts)

/-- The record with another state. -/
def withSt (t : TypeId) (id : Nat) (k : Int) (s : Obs) : Option Obs :=
  match look s id with
  | some (.box t' (_ :: r)) => match Nat.beq t' t with
    | true => some (put s id (.box t (.int .i64 k :: r)))
    | false => none
  | _ => none

def Ys.run (F : Ys) {Ω : Type} (args : List AV) (id : Nat) (t : TypeId) (cs : List AV) (s : Obs) (nx : Nat) (K : AV → Obs → Nat → List Nat → Option Ω) : Option Ω :=
  match cs with
  | .int .i64 st :: c1 :: c2 :: c3 :: caps => bif decide (st = 0) then
      match (Nat.beq caps.length F.ts.length && Nat.beq args.length F.ps.length) && isBig t with
      | true => match xt F.ins (caps ++ args) ⟨put s id (.box t (.int .i64 (-1) :: c1 :: c2 :: c3 :: caps)), [], []⟩ with
          | some (x, [], z) => match !(tkNames z.tk).any (Nat.beq id) && F.alts.all fun a => backOk a.sh z nx && ctlFit a.ctl with
            | true => obind (F.fn x) fun y => altCase F.alts y fun a y =>
                match withSt t id (ctlCode a.ctl) (putAll (restore (bld (fun k => k) F.ins x 0).2.1 z.tk 0 z.obs) (bld (outNm z.tk (onames (nameAt z.tk) nx a.sh 0)) a.sh y 0).2.1) with
                | some s1 => K (.bool (isNorm a.ctl)) s1 (nx + (onames (nameAt z.tk) nx a.sh 0).length) (id :: (tkNames z.tk ++ (z.fz ++ onames (nameAt z.tk) nx a.sh 0)))
                | none => none
            | false => none
          | _ => none
      | false => none
    else none
  | _ => none

theorem altCase_nat : ∀ {l : List Alt} {Ω Ω' : Type} (y : altsDen l) (k : (a : Alt) → a.sh.den → Option Ω), ∃ (a : Alt) (y' : a.sh.den), a ∈ l ∧ altCase l y k = k a y' ∧ ∀ k' : (a : Alt) → a.sh.den → Option Ω', altCase l y k' = k' a y'
  | [], _, _, y, k => by cases y
  | [a], _, _, y, k => ⟨a, y, by simp, rfl, fun _ => rfl⟩
  | a :: b :: r, Ω, Ω', y, k => by
    cases y with
    | inl y => exact ⟨a, y, by simp, rfl, fun _ => rfl⟩
    | inr y =>
      obtain ⟨a', y', h1, h2, h3⟩ := altCase_nat (l := b :: r) (Ω' := Ω') y k
      exact ⟨a', y', List.mem_cons_of_mem _ h1, h2, h3⟩

def Ys.yc (F : Ys) : Yc where
  run := F.run
  nat := by
    intro Ω args id t cs s nx K out h
    unfold Ys.run at h ⊢
    split at h
    · rename_i st c1 c2 c3 caps
      cases hd : decide (st = 0) with
      | false => simp [hd] at h
      | true =>
        rw [hd] at h
        simp only [cond_true] at h ⊢
        split at h
        · split at h
          · rename_i x z hx
            · split at h
              · rename_i hc
                unfold obind at h ⊢
                split at h
                · rename_i y hy
                  obtain ⟨a, y', h1, h2, h3⟩ := altCase_nat (Ω' := AV × Obs × Nat × List Nat) y fun a y =>
                    match withSt t id (ctlCode a.ctl) (putAll (restore (bld (fun k => k) F.ins x 0).2.1 z.tk 0 z.obs) (bld (outNm z.tk (onames (nameAt z.tk) nx a.sh 0)) a.sh y 0).2.1) with
                    | some s1 => K (.bool (isNorm a.ctl)) s1 (nx + (onames (nameAt z.tk) nx a.sh 0).length) (id :: (tkNames z.tk ++ (z.fz ++ onames (nameAt z.tk) nx a.sh 0)))
                    | none => none
                  simp only at h
                  rw [h2] at h
                  split at h
                  · rename_i s1 hs
                    refine ⟨_, _, _, _, ?_, h⟩
                    simp only [h3, hs]
                  · cases h
                · cases h
              · cases h
          · cases h
        · cases h
    · cases h

/-- Ranges over a function: how they may end. -/
def rfEnd {Ω : Type} : List Ctl → Int → St → (Ctl → St → Option Ω) → Option Ω
  | [], _, _, _ => none
  | c :: r, st, s, K => bif decide (st = ctlCode c) then K c s else rfEnd r st s K

def recCells (ts : List Tmp) (env : Env) : List AV := .int .i64 0 :: .junk :: .junk :: .junk :: ts.map fun i => match look env i with | some v => v | none => .junk

/-- The statement 'for .. := range f': its record's number, the function, the temporaries at which its rounds look, the ways in which it may be left. -/
def rfPc (C : Ctx) (t : TypeId) (f : Operand) (ts : List Tmp) (exits : List Ctl) : Pc where
  run s K := match evO s.env f with
    | some (.fn (.func g) [] cap) => match C.Γ g with
      | some con => match isFresh s.obs s.nx && isBig t with
        | true => match con.pre (.yld s.nx :: cap) (put s.obs s.nx (.box t (recCells ts s.env))) (s.nx + 1) with
          | some x => obind (con.fn x) fun y => match con.post (.yld s.nx :: cap) (put s.obs s.nx (.box t (recCells ts s.env))) (s.nx + 1) x y with
            | some (_, s1, n1, _) => match look s1 s.nx with
              | some (.box t' (.int _ st :: _)) => match Nat.beq t' t with
                | true => rfEnd exits st ⟨s.env, put s1 s.nx .dead, n1⟩ K
                | false => none
              | _ => none
            | none => none
          | none => none
        | false => none
      | none => none
    | _ => none

section
variable {P : Program} {B : Bs} {c : Cf} {w : World} {C : Ctx} {fr : Nat → Option Value}

theorem big_obj [Sites] (k : Nat) (us : List Value) : boxObj (1000000 + k) us = Sites.obj k us := by
  have h : isBig (1000000 + k) = true := by simp [isBig]
  simp [boxObj, h]

/-- A record's block is written. -/
theorem loopSet_rel [Sites] {s : Obs} (h : Rel B c s w) {i : Nat} {t : TypeId} {cs0 cs : List AV} (hb : look s i = some (.box t cs0)) {us : List Value} (hv : VRs c w cs us) {b : Nat} (hn : c.nm i = some (.pointer (some ⟨b, 0, none⟩))) {x : Obj} (hx : x = boxObj t us) :
    Rel B c (put s i (.box t cs)) (w.putObj b x) ∧ Ext c w c (w.putObj b x) := by
  have hown : Own c i (.box t cs0) b := ⟨_, hn, rfl⟩
  have hlt := (h.ob _ _ hb).lt hown
  refine h.upd i (.box t cs) (fun k => k = b) (fun _ _ h => h) (fun _ _ => rfl) (fun _ h => h) (fun _ h => .inl h) (fun k _ hk => World.putObj_heap_other hk) (fun k hk => by subst hk; exact h.free hb hown) (fun hE => ?_) (fun k hk => ?_) rfl rfl rfl (by rw [World.putObj_size]; exact Nat.le_refl _)
  · exact ⟨b, us, hn, by rw [hx]; exact World.putObj_heap_same hlt, VRs.ext hE _ _ hv⟩
  · obtain ⟨v, h4, h5⟩ := hk
    rw [hn] at h4
    simp only [Option.some.injEq] at h4
    subst h4
    simp only [blockOf, Option.some.injEq] at h5
    exact .inl h5.symm

/-- A block that is nobody's, here and at the beginning. -/
theorem Rel.both [Sites] {s : Obs} (h : Rel B c s w) {m : Nat} {x : Obj} (hm : m < B.w.heap.size) (hno : ∀ i o, look s i = some o → ¬ Own c i o m) (hI : ¬ c.I m) : Rel { B with w := B.w.putObj m x } c s (w.putObj m x) ∧ Ext c w c (w.putObj m x) := by
  have hE : Ext c w c (w.putObj m x) := ⟨fun _ _ h => h, fun _ h => h, fun b hb => World.putObj_heap_other fun e => hI (e ▸ hb)⟩
  have hsz : (B.w.putObj m x).heap.size = B.w.heap.size := World.putObj_size
  refine ⟨⟨fun i o ho => (h.ob i o ho).ext hE fun b hb => World.putObj_heap_other fun e => hno i o ho (e ▸ hb), h.dom, h.sep, h.imm, fun b hb => by rw [World.putObj_size]; exact h.lo b hb, fun b hb hM => ?_, fun i o b hl hr ho => ?_, fun i o b hl ho => ?_, h.sub, fun b hb => ?_, h.os, h.tape, h.output, Nat.le_trans (Nat.le_of_eq hsz) (Nat.le_trans h.size (Nat.le_of_eq World.putObj_size.symm))⟩, hE⟩
  · by_cases e : b = m
    · subst e
      rw [World.putObj_heap_same (Nat.lt_of_lt_of_le hm h.size), World.putObj_heap_same hm]
    · rw [World.putObj_heap_other e, World.putObj_heap_other e]
      exact h.keep b (by rw [← hsz]; exact hb) hM
  · rw [hsz]; exact h.mine i o b hl hr ho
  · rw [hsz]; exact h.ro i o b hl ho
  · rw [hsz]; exact h.new b hb

theorem putObj_back {m : Nat} {x y : Obj} (h : w.heap[m]? = some y) : (w.putObj m x).putObj m y = w := by
  have : (w.heap.setIfInBounds m x).setIfInBounds m y = w.heap := by
    apply Array.ext_getElem?
    intro i
    rw [Array.getElem?_setIfInBounds, Array.size_setIfInBounds]
    split
    · rename_i e
      subst e
      have hlt := (Array.getElem?_eq_some_iff.1 h).1
      rw [if_pos hlt, h]
    · rename_i e
      rw [Array.getElem?_setIfInBounds_ne e]
  simp only [World.putObj, this]

theorem setAll_size : ∀ (l : List (Tmp × Value)) (a : Array Value), (setAll l a).size = a.size
  | [], a => rfl
  | p :: l, a => by
    show (setAll l (a.setIfInBounds p.1 p.2)).size = _
    rw [setAll_size l, Array.size_setIfInBounds]
theorem setAll_out {t : Tmp} {d : Value} : ∀ (l : List (Tmp × Value)) (a : Array Value), (∀ p ∈ l, p.1 ≠ t) → (setAll l a).getD t d = a.getD t d
  | [], a, _ => rfl
  | p :: l, a, h => by
    show (setAll l (a.setIfInBounds p.1 p.2)).getD t d = _
    rw [setAll_out l _ fun q hq => h q (List.mem_cons_of_mem _ hq)]
    simp [Array.getD_eq_getD_getElem?, Array.getElem?_setIfInBounds_ne (h p (List.mem_cons_self ..))]
theorem setAll_in [Sites] {d : Value} : ∀ (l : List (Tmp × Value)) (a : Array Value) (i : Nat) (t : Tmp) (v : Value), (l.map (·.1)).Nodup → l[i]? = some (t, v) → t < a.size → (setAll l a).getD t d = v
  | [], a, i, t, v, _, h, _ => by simp at h
  | p :: l, a, i, t, v, hn, h, hlt => by
    show (setAll l (a.setIfInBounds p.1 p.2)).getD t d = _
    simp only [List.map_cons, List.nodup_cons] at hn
    cases i with
    | zero =>
      simp only [List.getElem?_cons_zero, Option.some.injEq] at h
      subst h
      rw [setAll_out l _ fun q hq e => hn.1 (List.mem_map.2 ⟨q, hq, e⟩)]
      simp [Array.getD_eq_getD_getElem?, hlt]
    | succ i => exact setAll_in l _ i t v hn.2 (by simpa using h) (by rw [Array.size_setIfInBounds]; exact hlt)

theorem setAll_same (a : Array Value) : ∀ (ts : List Tmp), setAll (ts.zip (ts.map fun t => a.getD t undef)) a = a
  | [] => rfl
  | t :: ts => by
    have h : a.setIfInBounds t (a.getD t undef) = a := by
      apply Array.ext_getElem?
      intro i
      rw [Array.getElem?_setIfInBounds]
      split
      · rename_i e
        subst e
        split
        · rename_i hlt; simp [Array.getD_eq_getD_getElem?, hlt]
        · rename_i hlt; simp at hlt; simp [hlt]
      · rfl
    show setAll (ts.zip (ts.map fun t => a.getD t undef)) (a.setIfInBounds t (a.getD t undef)) = a
    rw [h]
    exact setAll_same a ts

theorem round_setAll (r : Loop) (vals : List Value) : roundTmps r vals.toArray = setAll (r.params.toList.zip vals) r.tmps := by
  unfold roundTmps setAll
  rw [← Array.foldl_toList]
  congr 1
  simp

theorem allSome_get {α : Type} {f : α → Option AV} : ∀ {l : List α} {vs : List AV}, allSome (l.map f) = some vs → vs.length = l.length ∧ ∀ (i : Nat) (a : α), l[i]? = some a → f a = vs[i]? 
  | [], vs, h => by
    simp only [List.map_nil, allSome, Option.some.injEq] at h
    subst h
    exact ⟨rfl, fun i a hi => by simp at hi⟩
  | x :: l, vs, h => by
    simp only [List.map_cons] at h
    cases hx : f x with
    | none => simp [hx, allSome] at h
    | some y =>
      simp only [hx, allSome] at h
      split at h
      · rename_i ys hys
        simp only [Option.some.injEq] at h
        subst h
        obtain ⟨h1, h2⟩ := allSome_get hys
        refine ⟨by simp [h1], fun i a hi => ?_⟩
        cases i with
        | zero => simp only [List.getElem?_cons_zero, Option.some.injEq] at hi; subst hi; simpa using hx
        | succ i => simpa using h2 i a (by simpa using hi)
      · cases h

theorem withSt_some {t : TypeId} {id : Nat} {k : Int} {s s1 : Obs} (h : withSt t id k s = some s1) : ∃ v r, look s id = some (.box t (v :: r)) ∧ s1 = put s id (.box t (.int .i64 k :: r)) := by
  unfold withSt at h
  split at h
  · rename_i t' v r hl
    split at h
    · rename_i hb
      have := Nat.eq_of_beq_eq_true hb
      subst this
      simp only [Option.some.injEq] at h
      exact ⟨v, r, hl, h.symm⟩
    · cases h
  · cases h

theorem any_tk [Sites] {tk : List (Option Nat × Ob)} {id : Nat} (h : (tkNames tk).any (Nat.beq id) = false) {k : Nat} {o : Ob} : tk[k]? ≠ some (some id, o) := fun e => by
  have : id ∈ tkNames tk := List.mem_filterMap.2 ⟨(some id, o), List.mem_of_getElem? e, rfl⟩
  rw [← any_mem, h] at this
  cases this

/-- A round that is proved alone. -/
theorem ys_ok [Sites] {σ : Site} {k : Nat} (hσ : ∀ us, Sites.obj k us = loopObj σ us) (hC : C.Ok P) (hmix : P.follows .mixedOrders = true) (hmay : ∀ t, C.may t = true) {F : Ys} (hps : σ.ps.toList = F.ps) (hts : σ.ts = F.ts) (hnt : σ.nt = C.nt) (hndt : nodupB F.ts = true) (hltt : F.ts.all (fun t => Nat.blt t C.nt) = true)
    (hnd : nodupB F.ps = true) (hdj : F.ts.all (fun t => !F.ps.any (Nat.beq t)) = true) (hlt : F.ps.all (fun t => Nat.blt t C.nt) = true) {Λa Λb : Pcs} (hΛa : Λa.Ok P C σ.assign) (hΛb : Λb.Ok P C σ.body) {n0 : Nat}
    (hev : ∀ x y, F.fn x = some y → evC C σ.assign Λa ⟨addT (F.ts ++ F.ps) (bld (fun k => k) F.ins x 0).1 [], (bld (fun k => k) F.ins x 0).2.1, n0⟩ (thenC fun s => evC C σ.body Λb s (altK F.alts)) = some y) (hni : updIx F.ins = [] := by rfl) :
    F.yc.Ok P (1000000 + k) where
  runs := by
    intro args id cs s nx v s1 n1 W hrun hl B c w vals b hR hv hn
    have hbig : isBig (1000000 + k) = true := by simp [isBig]
    simp only [Ys.yc] at hrun
    unfold Ys.run at hrun
    split at hrun
    rotate_left
    · cases hrun
    rename_i st c1 c2 c3 caps
    cases hd : decide (st = 0) with
    | false => simp [hd] at hrun
    | true =>
      have hst : st = 0 := of_decide_eq_true hd
      rw [hd] at hrun
      simp only [cond_true] at hrun
      subst hst
      split at hrun
      rotate_left
      · cases hrun
      rename_i hlen
      simp only [Bool.and_eq_true] at hlen
      obtain ⟨⟨hl1, hl2⟩, _⟩ := hlen
      have hl1 := Nat.eq_of_beq_eq_true hl1
      have hl2 := Nat.eq_of_beq_eq_true hl2
      split at hrun
      rotate_left
      · cases hrun
      rename_i x z hx
      split at hrun
      rotate_left
      · cases hrun
      rename_i hc
      simp only [Bool.and_eq_true, Bool.not_eq_true'] at hc
      obtain ⟨hcid, hcal⟩ := hc
      unfold obind at hrun
      split at hrun
      rotate_left
      · cases hrun
      rename_i y hy
      simp only at hrun
      -- the record
      obtain ⟨b', us, q1, q2, q3⟩ := hR.ob id _ hl
      rw [hn] at q1
      simp only [Option.some.injEq, Value.pointer.injEq, Addr.mk.injEq, and_true] at q1
      subst q1
      rw [big_obj, hσ] at q2
      have q3' := q3
      simp only [VRs] at q3
      obtain ⟨u0, us0, rfl, g0, u1, us1, rfl, g1, u2, us2, rfl, g2, u3, utm, rfl, g3, gtm⟩ := q3
      simp only [VR] at g0
      obtain ⟨rfl, _⟩ := g0
      let r : Loop := loopRec σ (.int .i64 0 :: u1 :: u2 :: u3 :: utm)
      have hr : w.heap[b]? = some (.loop r) := q2
      have hvl := hv.length
      have hsz : vals.length = r.params.size := by
        show vals.length = σ.ps.size
        rw [hvl, hl2, ← hps]; simp
      refine ⟨r, hr, hsz, ?_⟩
      have hbw : b < w.heap.size := (Array.getElem?_eq_some_iff.1 hr).1
      -- busy
      let rb : Loop := { r with state := .busy }
      have hbusy : Obj.loop rb = boxObj (1000000 + k) (.int .i64 (-1) :: u1 :: u2 :: u3 :: utm) := by
        rw [big_obj, hσ]
        simp [rb, r, loopObj, loopRec, stOf, pdOf]
      have hvb : VRs c w (.int .i64 (-1) :: c1 :: c2 :: c3 :: caps) (.int .i64 (-1) :: u1 :: u2 :: u3 :: utm) := by
        simp only [VRs]
        exact ⟨_, _, rfl, by simp [VR, fits], _, _, rfl, g1, _, _, rfl, g2, _, _, rfl, g3, gtm⟩
      obtain ⟨hRb, hEb⟩ := loopSet_rel hR hl hvb hn hbusy
      generalize hwb : w.putObj b (Obj.loop rb) = wb at hRb hEb
      have hlb : look (put s id (.box (1000000 + k) (.int .i64 (-1) :: c1 :: c2 :: c3 :: caps))) id = some (.box (1000000 + k) (.int .i64 (-1) :: c1 :: c2 :: c3 :: caps)) := by rw [look_put, if_pos rfl]
      have hwsz : wb.heap.size = w.heap.size := by rw [← hwb]; exact World.putObj_size
      have hback : wb.putObj b (.loop r) = w := by rw [← hwb]; exact putObj_back hr
      -- what the round is handed
      have gtl := gtm.length
      have hcv : VRs c wb caps utm := VRs.ext hEb _ _ gtm
      obtain ⟨vs, I1, hH, hv0⟩ := handed hRb (hcv.append (VRs.ext hEb _ _ hv)) hx hni
      -- the record is nobody's of those
      have hnoI : ¬ I1 b := fun hI => by
        rcases hH.tk.newI b hI with g | ⟨id', e, t', l, g3, g4, g5⟩
        · exact hR.imm id _ b hl ⟨_, hn, rfl⟩ g
        · have := hRb.sep id' id _ _ b g3 hlb g5 ⟨_, hn, rfl⟩
          subst this
          rw [hlb] at g3
          cases g3
      have hno0 : ∀ i o, (i, o) ∈ (bld (fun k => k) F.ins x 0).2.1 → ¬ Own (cf0 vs I1) i o b := fun i o hm ho => by
        obtain ⟨id1, o1, g3, g4, g5, _⟩ := hH.own hm ho
        have := hRb.sep id1 id _ _ b g5 hlb g4 ⟨_, hn, rfl⟩
        subst this
        exact any_tk hcid g3
      have hR0 : Rel (bs0 (some b) w.heap.size wb vs I1 (bld (fun k => k) F.ins x 0).2.1) (cf0 vs I1) (bld (fun k => k) F.ins x 0).2.1 wb := hH.rel hRb
      have hR1 := (hR0.both (x := .loop r) (by show b < wb.heap.size; omega) (fun i o ho => hno0 i o (look_mem ho)) hnoI)
      have eB1 : ({ bs0 (some b) w.heap.size wb vs I1 (bld (fun k => k) F.ins x 0).2.1 with w := wb.putObj b (.loop r) } : Bs) = bs0 (some b) w.heap.size w vs I1 (bld (fun k => k) F.ins x 0).2.1 := by
        rw [hback]; rfl
      obtain ⟨hR1, hE1⟩ := hR1
      have hR1 : Rel (bs0 (some b) w.heap.size w vs I1 (bld (fun k => k) F.ins x 0).2.1) (cf0 vs I1) (bld (fun k => k) F.ins x 0).2.1 w := by
        have e : (bs0 (some b) w.heap.size wb vs I1 (bld (fun k => k) F.ins x 0).2.1).w.putObj b (.loop r) = w := hback
        rw [e] at hR1
        rw [show wb.putObj b (.loop r) = w from hback] at hR1
        exact hR1
      rw [hback] at hE1
      have hnoM : ¬ (bs0 (some b) w.heap.size w vs I1 (bld (fun k => k) F.ins x 0).2.1).M b := fun ⟨i, o, h1, _, h3⟩ => hno0 i o (look_mem h1) h3
      have hnoR : ¬ (bs0 (some b) w.heap.size w vs I1 (bld (fun k => k) F.ins x 0).2.1).R b := fun ⟨i, o, h1, _, h3⟩ => hno0 i o (look_mem h1) h3
      -- temporaries
      have htm : r.tmps = setAll (F.ts.zip utm) (tupOf C.nt u3) := by show setAll (σ.ts.zip utm) (tupOf σ.nt u3) = _; rw [hts, hnt]
      have hutm : utm.length = F.ts.length := by rw [gtl, hl1]
      have hzt : (F.ts.zip utm).map (·.1) = F.ts := by
        rw [List.map_fst_zip]
        rw [hutm]; exact Nat.le_refl _
      have hparl : r.params.toList = F.ps := hps
      have hzl : (F.ps.zip vals).map (·.1) = F.ps := by
        rw [List.map_fst_zip]
        rw [hvl, hl2]; exact Nat.le_refl _
      have hsim : Sim (bs0 (some b) w.heap.size w vs I1 (bld (fun k => k) F.ins x 0).2.1) C (fun _ => none) (cf0 vs I1) ⟨addT (F.ts ++ F.ps) (bld (fun k => k) F.ins x 0).1 [], (bld (fun k => k) F.ins x 0).2.1, n0⟩ w
          { tmps := roundTmps r vals.toArray, defers := [] } := by
        refine ⟨hR1, ⟨?_, fun t y' hk => ?_, fun t v' hk => (by cases hk)⟩, .nil, ⟨Nat.le_refl _, fun l hl' => ?_⟩⟩
        · simp only [round_setAll, setAll_size, htm, tupOf_size]
        · have hv1 := VRs.ext hE1 _ _ hv0
          simp only [round_setAll, hparl, htm]
          rcases look_addT hk with ⟨i, h1, h2⟩ | h1
          · obtain ⟨u, hu, hvu⟩ := hv1.get h2
            rcases get_two (List.getElem?_eq_some_iff.1 h1).1 with ⟨g3, g4⟩ | ⟨g3, g4, g5⟩
            · rw [g4] at h1
              rw [List.getElem?_append_left (by rw [hutm]; exact g3)] at hu
              rw [setAll_out]
              · have hz : (F.ts.zip utm)[i]? = some (t, u) := by
                  rw [List.getElem?_zip_eq_some]
                  exact ⟨h1, hu⟩
                rw [setAll_in (F.ts.zip utm) (tupOf C.nt u3) i t u (by rw [hzt]; exact nodupB_ok hndt) hz (by
                  have h9 : t < C.nt := by simpa using List.all_eq_true.1 hltt t (List.mem_of_getElem? h1)
                  rw [tupOf_size]
                  exact h9)]
                exact hvu
              · intro p hp e
                have h3 := List.all_eq_true.1 hdj t (List.mem_of_getElem? h1)
                have h4 : t ∈ F.ps := by rw [← hzl]; exact List.mem_map.2 ⟨p, hp, e⟩
                rw [← any_mem] at h4
                rw [h4] at h3
                cases h3
            · rw [g5] at h1
              rw [List.getElem?_append_right (by rw [hutm]; exact g3), hutm] at hu
              have hz : (F.ps.zip vals)[i - F.ts.length]? = some (t, u) := by
                rw [List.getElem?_zip_eq_some]
                exact ⟨h1, hu⟩
              rw [setAll_in (F.ps.zip vals) (setAll (F.ts.zip utm) (tupOf C.nt u3)) (i - F.ts.length) t u (by rw [hzl]; exact nodupB_ok hnd) hz (by
                have h9 : t < C.nt := by simpa using List.all_eq_true.1 hlt t (List.mem_of_getElem? h1)
                rw [setAll_size, tupOf_size]
                exact h9)]
              exact hvu
          · simp [look] at h1
        · simp only [bs0, Option.some.injEq] at hl'
          subst hl'
          exact ⟨⟨r, hr⟩, hnoM⟩
      refine roundIn_of_wpIn trivial ?_
      refine evC_ok (B := bs0 (some b) w.heap.size w vs I1 (bld (fun k => k) F.ins x 0).2.1) hC hmix (fun t ht => rfl) σ.assign Λa _ _ (hev x y hy) hΛa _ w _ _ hsim fun ctl sa c1' w1 a1 hK hs1 hE2 => ?_
      cases ctl with
      | ret => cases hK
      | exit e => cases hK
      | normal =>
      simp only [thenC] at hK
      have hno1 : ∀ i o, look sa.obs i = some o → ¬ Own c1' i o b := fun i o ho hb' => by
        rcases hs1.rel.ro i o b ho hb' with h1 | h1 | h1
        · exact hnoR h1
        · exact hnoM h1
        · exact absurd hbw (Nat.not_lt.2 h1)
      have hnoI1 : ¬ c1'.I b := fun hI => by
        rcases hs1.rel.new b hI with h1 | h1 | h1
        · exact hnoI h1
        · exact hnoM h1
        · exact absurd hbw (Nat.not_lt.2 h1)
      have hw1b : w1.heap[b]? = some (.loop r) := (hs1.rel.keep b hbw hnoM).trans hr
      obtain ⟨hR2, hE3⟩ := hs1.rel.both (x := .loop rb) hbw hno1 hnoI1
      have eB2 : ({ bs0 (some b) w.heap.size w vs I1 (bld (fun k => k) F.ins x 0).2.1 with w := w.putObj b (.loop rb) } : Bs) = bs0 (some b) w.heap.size wb vs I1 (bld (fun k => k) F.ins x 0).2.1 := by
        rw [hwb]; rfl
      have hR2 : Rel (bs0 (some b) w.heap.size wb vs I1 (bld (fun k => k) F.ins x 0).2.1) c1' sa.obs (w1.putObj b (.loop rb)) := by
        rw [← eB2]; exact hR2
      refine ⟨w1.putObj b (.loop rb), run_beginRound hw1b rfl, ?_⟩
      have hbase2 : BaseOk (bs0 (some b) w.heap.size wb vs I1 (bld (fun k => k) F.ins x 0).2.1) := by
        refine ⟨by show w.heap.size ≤ wb.heap.size; omega, fun l hl' => ?_⟩
        simp only [bs0, Option.some.injEq] at hl'
        subst hl'
        refine ⟨⟨rb, ?_⟩, hnoM⟩
        show wb.heap[b]? = _
        rw [← hwb]
        exact World.putObj_heap_same hbw
      have hs2 : Sim (bs0 (some b) w.heap.size wb vs I1 (bld (fun k => k) F.ins x 0).2.1) C (fun _ => none) c1' sa (w1.putObj b (.loop rb)) a1 := by
        refine ⟨hR2, hs1.tmps.ext hE3, ⟨fun d hd => ?_, hs1.marks.nodup⟩, hbase2⟩
        obtain ⟨m, h1, h2, h3, h4⟩ := hs1.marks.all d hd
        refine ⟨m, h1, ?_, h3, h4⟩
        rw [World.putObj_heap_other fun e => ?_]
        · exact h2
        · rw [e, hw1b] at h2; cases h2
      refine evC_ok (B := bs0 (some b) w.heap.size wb vs I1 (bld (fun k => k) F.ins x 0).2.1) hC hmix (fun t ht => rfl) σ.body Λb sa _ hK hΛb c1' _ a1 _ hs2 fun ctl s2 c2' w3 a3 hK2 hs3 hE4 => ?_
      obtain ⟨al, y', k1, k2, k3, rs, z1, k4, k5⟩ := altK_ok hK2
      rw [k1] at hrun
      split at hrun
      rotate_left
      · cases hrun
      rename_i s1' hws
      simp only [Option.some.injEq, Prod.mk.injEq] at hrun
      obtain ⟨rfl, rfl, rfl, _⟩ := hrun
      have hbo := List.all_eq_true.1 hcal al k2
      simp only [Bool.and_eq_true, backOk] at hbo
      obtain ⟨⟨⟨b1, b2⟩, b3, b4, b6⟩, b5⟩ := hbo
      have hvts := tmpsAt_ok hs3.tmps k4
      have hEE : Ext (cf0 vs I1) wb c2' w3 := hE1.trans (hE2.trans (hE3.trans hE4))
      obtain ⟨c3, f1, f2, f3, _⟩ := hH.give hRb hs3.rel hEE.lasts (fun i _ v hi => hEE.nm i v hi) hvts k5 b1 b2 rfl (Nat.le_of_ble_eq_true b6) b3 b4
      have hw3b : w3.heap[b]? = some (.loop rb) := by
        refine (hs3.rel.keep b (by show b < wb.heap.size; omega) hnoM).trans ?_
        show wb.heap[b]? = _
        rw [← hwb]
        exact World.putObj_heap_same hbw
      obtain ⟨v', r', hl', rfl⟩ := withSt_some hws
      have hn3 : c3.nm id = some (.pointer (some ⟨b, 0, none⟩)) := f3.nm id _ hn
      obtain ⟨b', us', p1, p2, p3⟩ := f1.ob id _ hl'
      rw [hn3] at p1
      simp only [Option.some.injEq, Value.pointer.injEq, Addr.mk.injEq, and_true] at p1
      subst p1
      rw [big_obj, hσ, hw3b] at p2
      simp only [VRs] at p3
      obtain ⟨w0, ws, rfl, _, p3⟩ := p3
      simp only [loopObj, Option.some.injEq, Obj.loop.injEq] at p2
      have p2' : rb.fn = natOf ((w0 :: ws).getD 1 undef) ∧ rb.tmps = setAll (σ.ts.zip ((w0 :: ws).drop 4)) (tupOf σ.nt ((w0 :: ws).getD 3 undef)) ∧ rb.defers = natOf ((w0 :: ws).getD 2 undef) := by
        rw [p2]; exact ⟨rfl, rfl, rfl⟩
      have fin : ∀ (j : Option Code), stOf (.int .i64 (ctlCode al.ctl)) = (if j.isNone then .ready else .done) → pdOf (.int .i64 (ctlCode al.ctl)) = j → fits .i64 (ctlCode al.ctl) = true → isNorm al.ctl = j.isNone →
          ∃ v w', (Instr.endRound b j).run P w3 = .ok v w' ∧ ∃ c' u, Ending.returned v = .returned u ∧ Rel B c' (put (putAll (restore (bld (fun k => k) F.ins x 0).2.1 z.tk 0 z.obs) (bld (outNm z.tk (onames (nameAt z.tk) nx al.sh 0)) al.sh y' 0).2.1) id (.box (1000000 + k) (.int .i64 (ctlCode al.ctl) :: r'))) w' ∧ VR c' w' (.bool (isNorm al.ctl)) u ∧ Ext c w c' w' := by
        intro j h1 h2 h3 h4
        have hv3 : VRs c3 w3 (.int .i64 (ctlCode al.ctl) :: r') (.int .i64 (ctlCode al.ctl) :: ws) := by
          simp only [VRs]
          exact ⟨_, _, rfl, by simp only [VR]; exact ⟨trivial, h3⟩, p3⟩
        have hobj : Obj.loop { rb with state := if j.isNone then .ready else .done, pending := j } = boxObj (1000000 + k) (.int .i64 (ctlCode al.ctl) :: ws) := by
          rw [big_obj, hσ]
          unfold loopObj loopRec
          simp only [List.getD_cons_zero, h1, h2]
          have e1 : rb.params = σ.ps := rfl
          have e2 : rb.assign = σ.assign := rfl
          have e3 : rb.body = σ.body := rfl
          rw [e1, e2, e3, p2'.1, p2'.2.1, p2'.2.2]
          rfl
        obtain ⟨m1, m2⟩ := loopSet_rel f1 hl' hv3 hn3 hobj
        refine ⟨_, _, run_endRound j hw3b, c3, _, rfl, m1, ?_, hEb.trans (f3.trans m2)⟩
        simp only [VR, h4]
      rw [← k3]
      clear hws
      generalize al.ctl = cc at fin b5 ⊢
      cases cc with
      | normal => exact fin none rfl rfl rfl rfl
      | ret => exact fin (some .ret) rfl rfl rfl rfl
      | exit e =>
        refine fin (some (.exit e)) ?_ ?_ ?_ rfl
        · have e1 : ¬ ((e : Int) + 2 = 0) := by omega
          have e2 : ¬ ((e : Int) + 2 < 0) := by omega
          simp only [stOf, ctlCode, if_neg e1, if_neg e2]; rfl
        · have e1 : ¬ ((e : Int) + 2 ≤ 0) := by omega
          have e2 : ¬ ((e : Int) + 2 = 1) := by omega
          have e3 : ((e : Int) + 2 - 2).toNat = e := by omega
          simp only [pdOf, ctlCode, if_neg e1, if_neg e2, e3]
        · simp only [ctlFit, Nat.blt_eq] at b5
          simp only [fits, ctlCode, Bool.and_eq_true]
          exact ⟨decide_eq_true (by omega), decide_eq_true (by omega)⟩
  wrote := by
    intro args id cs s nx v s1 n1 W hrun hl i hi
    simp only [Ys.yc] at hrun
    unfold Ys.run at hrun
    split at hrun
    rotate_left
    · cases hrun
    rename_i st c1 c2 c3 caps
    cases hd : decide (st = 0) with
    | false => simp [hd] at hrun
    | true =>
      simp only [hd, cond_true] at hrun
      split at hrun
      rotate_left
      · cases hrun
      split at hrun
      rotate_left
      · cases hrun
      rename_i x z hx
      split at hrun
      rotate_left
      · cases hrun
      rename_i hc
      simp only [Bool.and_eq_true] at hc
      unfold obind at hrun
      split at hrun
      rotate_left
      · cases hrun
      rename_i y hy
      simp only at hrun
      obtain ⟨a, y', h1, h2, _⟩ := altCase_nat (Ω' := Unit) y fun a y =>
        match withSt (1000000 + k) id (ctlCode a.ctl) (putAll (restore (bld (fun k => k) F.ins x 0).2.1 z.tk 0 z.obs) (bld (outNm z.tk (onames (nameAt z.tk) nx a.sh 0)) a.sh y 0).2.1) with
        | some s1 => (some (.bool (isNorm a.ctl), s1, (nx + (onames (nameAt z.tk) nx a.sh 0).length), (id :: (tkNames z.tk ++ (z.fz ++ onames (nameAt z.tk) nx a.sh 0)))) : Option (AV × Obs × Nat × List Nat))
        | none => none
      rw [h2] at hrun
      split at hrun
      rotate_left
      · cases hrun
      rename_i s1' hws
      simp only [Option.some.injEq, Prod.mk.injEq] at hrun
      obtain ⟨_, rfl, _, rfl⟩ := hrun
      obtain ⟨v', r', hl', rfl⟩ := withSt_some hws
      simp only [List.mem_cons, not_or] at hi
      rw [look_put, if_neg (fun e => hi.1 e.symm), back_look hx hi.2 (by have := List.all_eq_true.1 hc.2 a h1; simp only [backOk, Bool.and_eq_true] at this; exact Nat.le_of_ble_eq_true this.1.2.2.2), look_put, if_neg (fun e => hi.1 e.symm)]

theorem rfEnd_some {Ω : Type} {st : Int} {s : St} {K : Ctl → St → Option Ω} {out : Ω} : ∀ {l : List Ctl}, rfEnd l st s K = some out → ∃ ctl, st = ctlCode ctl ∧ K ctl s = some out
  | [], h => by cases h
  | c :: r, h => by
    simp only [rfEnd] at h
    cases hd : decide (st = ctlCode c) with
    | true => rw [hd] at h; exact ⟨c, of_decide_eq_true hd, by simpa using h⟩
    | false => rw [hd] at h; exact rfEnd_some (by simpa using h)

theorem rec_ok [Sites] {env : Env} {a : Act} (hT : Tmps C.nt fr c w env a) : ∀ (ts : List Tmp), VRs c w (ts.map fun i => match look env i with | some v => v | none => .junk) (ts.map fun t => a.tmps.getD t undef)
  | [] => by simp only [List.map_nil, VRs]
  | t :: ts => by
    simp only [List.map_cons, VRs]
    refine ⟨_, _, rfl, ?_, rec_ok hT ts⟩
    split
    · rename_i v hv
      exact hT.env t v hv
    · simp only [VR]

/-- A block more, nobody's. -/
theorem Rel.grow [Sites] {s : Obs} (h : Rel B c s w) (x : Obj) : Rel B c s (w.alloc x) ∧ Ext c w c (w.alloc x) := by
  have hk : ∀ b, b < w.heap.size → (w.alloc x).heap[b]? = w.heap[b]? := fun b hb => Below.heap_alloc w x b hb
  have hE : Ext c w c (w.alloc x) := ⟨fun _ _ h => h, fun _ h => h, fun b hb => hk b (h.lo b hb)⟩
  have hsz : (w.alloc x).heap.size = w.heap.size + 1 := by simp
  refine ⟨⟨fun i o ho => (h.ob i o ho).ext hE fun b hb => hk b ((h.ob i o ho).lt hb), h.dom, h.sep, h.imm, fun b hb => by have := h.lo b hb; omega, fun b hb hM => ?_, h.mine, h.ro, h.sub, h.new, h.os, h.tape, h.output, by have := h.size; omega⟩, hE⟩
  exact (hk b (Nat.lt_of_lt_of_le hb h.size)).trans (h.keep b hb hM)

/-- A record is laid. -/
theorem Rel.record [Sites] {s : Obs} {nx : Nat} (h : Rel B c s w) (hf : look s nx = none) {k : Nat} {σ : Site} (hσ : ∀ us, Sites.obj k us = loopObj σ us) {cs : List AV} {us : List Value} (hv : VRs c w cs us) :
    ∃ c', Rel B c' (put s nx (.box (1000000 + k) cs)) (w.alloc (loopObj σ us)) ∧ Ext c w c' (w.alloc (loopObj σ us)) ∧ c'.nm nx = some (.pointer (some ⟨w.heap.size, 0, none⟩)) ∧ c'.I = c.I := by
  have hnone := h.dom nx hf
  obtain ⟨h1, h2⟩ := h.upd (c' := ⟨fun i => if i = nx then some (.pointer (some ⟨w.heap.size, 0, none⟩)) else c.nm i, c.I⟩) (w' := w.alloc (loopObj σ us)) nx (.box (1000000 + k) cs) (fun _ => False)
    (fun i v hv => by
      by_cases e : i = nx
      · subst e; rw [hnone] at hv; cases hv
      · simp [e, hv])
    (fun i hi => by simp [hi]) (fun _ h => h) (fun b hb => .inl hb) (fun b hb _ => Below.heap_alloc w _ b hb) (fun b hb => hb.elim)
    (fun hE => ⟨w.heap.size, us, by simp, by rw [big_obj, hσ]; exact World.alloc_heap_new w _, VRs.ext hE _ _ hv⟩)
    (fun b hb => by
      obtain ⟨v, h1, h2⟩ := hb
      simp at h1
      subst h1
      simp [blockOf] at h2
      right; omega)
    rfl rfl rfl (by simp)
  exact ⟨_, h1, h2, by simp, rfl⟩

theorem Marks.ext {fl : Nat} {c c' : Cf} {w w' : World} {ds : List Deferred} (h : Marks fl c w ds) (hI : c'.I = c.I) (hk : ∀ b, b < w.heap.size → w'.heap[b]? = w.heap[b]?) : Marks fl c' w' ds :=
  ⟨fun d hd => by
    obtain ⟨m, h1, h2, h3, h4⟩ := h.all d hd
    exact ⟨m, h1, (hk m (Array.getElem?_eq_some_iff.1 h2).1).trans h2, h3, by rw [hI]; exact h4⟩, h.nodup⟩

/-- The statement. -/
theorem rf_ok [Sites] {k : Nat} {ps : Array Tmp} {x y : Code} {ts : List Tmp} (hσ : ∀ us, Sites.obj k us = loopObj ⟨ps, x, y, ts, C.nt⟩ us) (hC : C.Ok P) {f : Operand} {exits : List Ctl} : (rfPc C (1000000 + k) f ts exits).Ok P C (.rangeFunc f ps x y) := by
  intro Ω s K out hrun B fr c w a Q hfr hs hK
  simp only [rfPc] at hrun
  split at hrun
  rotate_left
  · cases hrun
  rename_i g cap hf
  split at hrun
  rotate_left
  · cases hrun
  rename_i con hcon
  split at hrun
  rotate_left
  · cases hrun
  rename_i hfresh
  simp only [Bool.and_eq_true] at hfresh
  split at hrun
  rotate_left
  · cases hrun
  rename_i xin hpre
  unfold obind at hrun
  split at hrun
  rotate_left
  · cases hrun
  rename_i yout hfn
  simp only at hrun
  split at hrun
  rotate_left
  · cases hrun
  rename_i rv s1 n1 W hpost
  split at hrun
  rotate_left
  · cases hrun
  rename_i t' ki st rest hl1
  split at hrun
  rotate_left
  · cases hrun
  rename_i ht'
  have := Nat.eq_of_beq_eq_true ht'
  subst this
  obtain ⟨ctl, hst, hKout⟩ := rfEnd_some hrun
  have hc := hC.Γ g con hcon
  -- the function
  have hfv := hs.ops _ _ hf
  simp only [VR] at hfv
  obtain ⟨fus, fvs, ef, hfus, hfvs⟩ := hfv
  simp only [VRs] at hfus
  subst hfus
  refine wpIn_rangeFunc fun fn _ => ?_
  -- the world behind the block for deferred calls; the mark
  obtain ⟨w0, mark, dn, hw0, hE0, hR0, hM0, henter⟩ : ∃ (w0 : World) (mark : List Deferred) (dn : Nat), w.heap.size ≤ w0.heap.size ∧ Ext c w c w0 ∧ Rel B c s.obs w0 ∧ Marks B.fl c w0 (mark ++ a.defers) ∧
      (Instr.enterLoop fn a.tmps ps x y B.rd).run P w = .ok (w0.heap.size, mark) (w0.alloc (.loop { state := .ready, pending := none, fn, tmps := a.tmps, params := ps, assign := x, body := y, defers := dn })) := by
    cases hrd : B.rd with
    | none =>
      obtain ⟨h1, h2⟩ := hs.rel.grow (.deferred (some []))
      refine ⟨w.alloc (.deferred (some [])), [{ target := .collected w.heap.size, args := #[] }], w.heap.size, by simp, h2, h1, ⟨fun d hd => ?_, ?_⟩, ?_⟩
      · rcases List.mem_append.1 hd with hd | hd
        · simp only [List.mem_singleton] at hd
          exact ⟨w.heap.size, hd, World.alloc_heap_new w _, Nat.le_trans hs.base.fl hs.rel.size, fun hI => by have := hs.rel.lo _ hI; omega⟩
        · exact (hs.marks.ext (c' := c) rfl fun b hb => Below.heap_alloc w _ b hb).all d hd
      · simp only [List.map_append, List.map_cons, List.map_nil, List.singleton_append, List.pairwise_cons]
        refine ⟨fun tg htg m e => ?_, hs.marks.nodup⟩
        cases e
        obtain ⟨d, hd, rfl⟩ := List.mem_map.1 htg
        obtain ⟨m', h3, h4, _⟩ := hs.marks.all d hd
        rw [h3]
        intro e
        cases e
        have := (Array.getElem?_eq_some_iff.1 h4).1
        omega
      · have := run_enterLoop_outer (P := P) (w := w) fn a.tmps ps x y
        rw [this]
        simp
    | some l0 =>
      obtain ⟨⟨r0, h1⟩, h2⟩ := hs.base.rd l0 hrd
      have h3 : w.heap[l0]? = some (.loop r0) := (hs.rel.keep l0 (Array.getElem?_eq_some_iff.1 h1).1 h2).trans h1
      refine ⟨w, [], r0.defers, Nat.le_refl _, Ext.refl c w, hs.rel, by simpa using hs.marks, ?_⟩
      unfold Instr.enterLoop
      simp only [Sem.run_bind, run_getLoop h3, run_newObj_alloc, Result.andThen, Sem.run_pure]
  -- the record
  have hrec := rec_ok (hs.tmps.ext hE0) ts
  have hv0 : VRs c w0 (recCells ts s.env) (.int .i64 0 :: .int .i64 (fn : Int) :: .int .i64 (dn : Int) :: .tuple a.tmps :: ts.map fun t => a.tmps.getD t undef) := by
    simp only [recCells, VRs]
    exact ⟨_, _, rfl, by simp [VR, fits], _, _, rfl, by simp only [VR], _, _, rfl, by simp only [VR], _, _, rfl, by simp only [VR], hrec⟩
  obtain ⟨c1, hR1, hE1, hn1, hI1⟩ := hR0.record (isFresh_none hfresh.1) hσ hv0
  have hobj : (loopObj ⟨ps, x, y, ts, C.nt⟩ (.int .i64 0 :: .int .i64 (fn : Int) :: .int .i64 (dn : Int) :: .tuple a.tmps :: ts.map fun t => a.tmps.getD t undef) : Obj) = .loop { state := .ready, pending := none, fn, tmps := a.tmps, params := ps, assign := x, body := y, defers := dn } := by
    have e1 : tupOf C.nt (.tuple a.tmps) = a.tmps := by simp [tupOf, hs.tmps.size]
    simp [loopObj, loopRec, stOf, pdOf, natOf, e1]
    simpa using setAll_same a.tmps ts
  rw [hobj] at hR1 hE1
  generalize hw1 : w0.alloc (.loop { state := .ready, pending := none, fn, tmps := a.tmps, params := ps, assign := x, body := y, defers := dn }) = w1 at hR1 hE1 henter
  have hM1 : Marks B.fl c1 w1 (mark ++ a.defers) := hM0.ext hI1 fun b hb => by rw [← hw1]; exact Below.heap_alloc w0 _ b hb
  have hcap : VRs c1 w1 (.yld s.nx :: cap) (.func (.yield w0.heap.size) #[] #[] :: fvs) := by
    simp only [VRs, VR]
    exact ⟨_, _, rfl, ⟨_, hn1, rfl⟩, VRs.ext (hE0.trans hE1) _ _ hfvs⟩
  refine ⟨w0.heap.size, mark, w1, { target := .fn (.func g) fvs.toArray, args := #[.func (.yield w0.heap.size) #[] #[]] }, w1, g, (.func (.yield w0.heap.size) #[] #[] :: fvs : List Value).toArray, w1, henter, ?_, fun _ _ => trivial, ?_, fun h => (by cases h), ?_⟩
  · have hconst : ∀ v, a.eval (.const v) = v := fun _ => rfl
    simp [resolve, ef, Deferred.ofValue, hconst]
  · have := hc.enters (.func (.yield w0.heap.size) #[] #[] :: fvs : List Value).toArray w1
    rw [← this]
    simp [invoke]
  · refine callsIn_WF ((hc.runs _ _ _ xin yout rv s1 n1 W hpre hfn hpost (here B c1 _ w1) c1 w1 _ hR1.rebase hcap).mono ?_)
    rintro e w2 ⟨c2, u, rfl, hR2, _, hE2⟩
    have hR2B := hR1.trans hR2
    have hM2 := hM1.step hR1 hR2
    -- the record again
    obtain ⟨b, us, q1, q2, q3⟩ := hR2.ob s.nx _ hl1
    rw [hE2.nm _ _ hn1] at q1
    simp only [Option.some.injEq, Value.pointer.injEq, Addr.mk.injEq, and_true] at q1
    subst q1
    rw [big_obj, hσ] at q2
    simp only [VRs] at q3
    obtain ⟨u0, us0, rfl, g0, _⟩ := q3
    simp only [VR] at g0
    obtain ⟨rfl, _⟩ := g0
    have hnb : (loopRec ⟨ps, x, y, ts, C.nt⟩ (.int ki st :: us0)).state ≠ .busy ∧ (loopRec ⟨ps, x, y, ts, C.nt⟩ (.int ki st :: us0)).pending = ctlPd ctl := by
      subst hst
      cases ctl with
      | normal => exact ⟨by simp [loopRec, stOf, ctlCode], by simp [loopRec, pdOf, ctlCode, ctlPd]⟩
      | ret => exact ⟨by simp [loopRec, stOf, ctlCode], by simp [loopRec, pdOf, ctlCode, ctlPd]⟩
      | exit id =>
        have e1 : ¬ ((id : Int) + 2 = 0) := by omega
        have e2 : ¬ ((id : Int) + 2 < 0) := by omega
        have e3 : ¬ ((id : Int) + 2 ≤ 0) := by omega
        have e4 : ¬ ((id : Int) + 2 = 1) := by omega
        have e5 : ((id : Int) + 2 - 2).toNat = id := by omega
        exact ⟨by simp [loopRec, stOf, ctlCode, e1, e2], by simp only [loopRec, pdOf, ctlCode, ctlPd, List.getD_cons_zero, if_neg e3, if_neg e4, e5]⟩
    have hend := run_endLoop (P := P) q2 hnb.1
    -- it falls
    have hown : Own c2 s.nx (.box (1000000 + k) (.int ki st :: rest)) w0.heap.size := ⟨_, hE2.nm _ _ hn1, rfl⟩
    generalize hw3 : w2.putObj w0.heap.size (.loop { loopRec ⟨ps, x, y, ts, C.nt⟩ (.int ki st :: us0) with state := .exhausted }) = w3 at hend
    obtain ⟨hR3, hE3⟩ := hR2B.rebase.upd (c' := c2) (w' := w3) s.nx .dead (fun b => b = w0.heap.size) (fun _ _ h => h) (fun _ _ => rfl) (fun _ h => h) (fun _ h => .inl h) (fun b _ hb => by rw [← hw3]; exact World.putObj_heap_other hb)
      (fun b hb => by subst hb; exact hR2B.rebase.free hl1 hown) (fun _ => trivial) (fun b hb => hb.elim) (by rw [← hw3]; rfl) (by rw [← hw3]; rfl) (by rw [← hw3]; rfl) (by rw [← hw3, World.putObj_size]; exact Nat.le_refl _)
    have hEall : Ext c w c2 w3 := hE0.trans (hE1.trans (hE2.trans hE3))
    have hsim : Sim B C fr c2 ⟨s.env, put s1 s.nx .dead, n1⟩ w3 { a with defers := mark ++ a.defers } :=
      ⟨hR2B.trans hR3, ⟨(hs.tmps.ext hEall).size, (hs.tmps.ext hEall).env, (hs.tmps.ext hEall).frame⟩, hM2.step hR2B hR3, hs.base⟩
    have hQ := hK ctl _ c2 w3 _ hKout hsim hEall
    refine ⟨_, w3, hend, ?_⟩
    rw [hnb.2]
    cases ctl with
    | normal => exact hQ
    | ret => exact wpIn_ret hQ
    | exit id => exact wpIn_exit hQ
end
end Go.Hay
