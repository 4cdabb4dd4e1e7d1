/- Ranges over functions: the record of a loop as a box, its rounds, the statement. -/
import Derived.Test.YthlojpcjafefjaaGreatHayZc
import Derived.Shelf.SlIter.Nil
import Derived.Shelf.SlIter.Sorted
import Derived.Shelf.SlMaps.Clone
import Derived.Sort.Walk0
set_option linter.unusedVariables false
set_option linter.unusedSimpArgs false
namespace Go.Hay
open Go.RowKit

structure Site where
  ps : Array Tmp
  assign : Code
  body : Code
  ts : List Tmp      -- the temporaries at which its rounds look
  nt : Nat           -- how many temporaries there are
def siteOf (ts : List Tmp) (nt : Nat) : Option Code → Site
  | some (.rangeFunc _ ps a b) => ⟨ps, a, b, ts, nt⟩
  | _ => ⟨#[], .skip, .skip, ts, nt⟩

def natOf : Value → Nat
  | .int _ n => n.toNat
  | _ => 0
def stOf : Value → LoopState
  | .int _ n => if n = 0 then .ready else if n < 0 then .busy else .done
  | _ => .done
def pdOf : Value → Option Code
  | .int _ n => if n ≤ 0 then none else if n = 1 then some .ret else some (.exit (n - 2).toNat)
  | _ => none
def setAll (l : List (Tmp × Value)) (a : Array Value) : Array Value := l.foldl (fun tmps p => tmps.setIfInBounds p.1 p.2) a
def tupOf (n : Nat) : Value → Array Value
  | .tuple a => if a.size = n then a else Array.replicate n undef
  | _ => Array.replicate n undef
theorem tupOf_size (n : Nat) (v : Value) : (tupOf n v).size = n := by
  unfold tupOf
  split
  · split
    · assumption
    · simp
  · simp
def loopRec (σ : Site) (us : List Value) : Loop :=
  { state := stOf (us.getD 0 undef), pending := pdOf (us.getD 0 undef), fn := natOf (us.getD 1 undef), tmps := setAll (σ.ts.zip (us.drop 4)) (tupOf σ.nt (us.getD 3 undef)), params := σ.ps, assign := σ.assign, body := σ.body, defers := natOf (us.getD 2 undef) }
def loopObj (σ : Site) (us : List Value) : Obj := .loop (loopRec σ us)

def ctlCode : Ctl → Int
  | .normal => 0
  | .ret => 1
  | .exit id => (id : Int) + 2
def ctlFit : Ctl → Bool | .exit id => Nat.blt id 1000000000 | _ => true
def ctlPd : Ctl → Option Code | .normal => none | .ret => some .ret | .exit id => some (.exit id)
def isNorm : Ctl → Bool | .normal => true | _ => false

def thenC {Ω : Type} (k : St → Option Ω) (ctl : Ctl) (s : St) : Option Ω := match ctl with | .normal => k s | _ => none

theorem loopObj_ne (σ : Site) (us : List Value) (ds : Option (List Deferred)) : loopObj σ us ≠ .deferred ds := fun h => by unfold loopObj at h; cases h

structure Ys where
  ts : List Tmp
  ps : List Tmp
  ins : Sh
  alts : List Alt
  fn : ins.den → Option (altsDen alts)

def withSt (t : TypeId) (id : Nat) (k : Int) (s : Obs) : Option Obs :=
  match look s id with
  | some (.box t' (_ :: r)) => match Nat.beq t' t with
    | true => some (put s id (.box t (.int .i64 k :: r)))
    | false => none
  | _ => none

def Ys.run (F : Ys) {Ω : Type} (args : List AV) (id : Nat) (t : TypeId) (cs : List AV) (s : Obs) (nx : Nat) (K : AV → Obs → Nat → List Nat → Option Ω) : Option Ω :=
  match cs with
  | .int .i64 st :: c1 :: c2 :: c3 :: caps => bif decide (st = 0) then
      match (Nat.beq caps.length F.ts.length && Nat.beq args.length F.ps.length) && isBig t with
      | true => match xt F.ins (caps ++ args) ⟨put s id (.box t (.int .i64 (-1) :: c1 :: c2 :: c3 :: caps)), [], []⟩ with
          | some (x, [], z) => match !(tkNames z.tk).any (Nat.beq id) && F.alts.all fun a => backOk a.sh z nx && ctlFit a.ctl with
            | true => obind (F.fn x) fun y => altCase F.alts y fun a y =>
                match withSt t id (ctlCode a.ctl) (putAll (restore (bld (fun k => k) F.ins x 0).2.1 z.tk 0 z.obs) (bld (outNm z.tk (onames (nameAt z.tk) nx a.sh 0)) a.sh y 0).2.1) with
                | some s1 => K (.bool (isNorm a.ctl)) s1 (nx + (onames (nameAt z.tk) nx a.sh 0).length) (id :: (tkNames z.tk ++ (z.fz ++ onames (nameAt z.tk) nx a.sh 0)))
                | none => none
            | false => none
          | _ => none
      | false => none
    else none
  | _ => none

theorem altCase_nat : ∀ {l : List Alt} {Ω Ω' : Type} (y : altsDen l) (k : (a : Alt) → a.sh.den → Option Ω), ∃ (a : Alt) (y' : a.sh.den), a ∈ l ∧ altCase l y k = k a y' ∧ ∀ k' : (a : Alt) → a.sh.den → Option Ω', altCase l y k' = k' a y'
  | [], _, _, y, k => by cases y
  | [a], _, _, y, k => ⟨a, y, by simp, rfl, fun _ => rfl⟩
  | a :: b :: r, Ω, Ω', y, k => by
    cases y with
    | inl y => exact ⟨a, y, by simp, rfl, fun _ => rfl⟩
    | inr y =>
      obtain ⟨a', y', h1, h2, h3⟩ := altCase_nat (l := b :: r) (Ω' := Ω') y k
      exact ⟨a', y', List.mem_cons_of_mem _ h1, h2, h3⟩

def Ys.yc (F : Ys) : Yc where
  run := F.run
  nat := by
    intro Ω args id t cs s nx K out h
    unfold Ys.run at h ⊢
    split at h
    · rename_i st c1 c2 c3 caps
      cases hd : decide (st = 0) with
      | false => simp [hd] at h
      | true =>
        rw [hd] at h
        simp only [cond_true] at h ⊢
        split at h
        · split at h
          · rename_i x z hx
            · split at h
              · rename_i hc
                unfold obind at h ⊢
                split at h
                · rename_i y hy
                  obtain ⟨a, y', h1, h2, h3⟩ := altCase_nat (Ω' := AV × Obs × Nat × List Nat) y fun a y =>
                    match withSt t id (ctlCode a.ctl) (putAll (restore (bld (fun k => k) F.ins x 0).2.1 z.tk 0 z.obs) (bld (outNm z.tk (onames (nameAt z.tk) nx a.sh 0)) a.sh y 0).2.1) with
                    | some s1 => K (.bool (isNorm a.ctl)) s1 (nx + (onames (nameAt z.tk) nx a.sh 0).length) (id :: (tkNames z.tk ++ (z.fz ++ onames (nameAt z.tk) nx a.sh 0)))
                    | none => none
                  simp only at h
                  rw [h2] at h
                  split at h
                  · rename_i s1 hs
                    refine ⟨_, _, _, _, ?_, h⟩
                    simp only [h3, hs]
                  · cases h
                · cases h
              · cases h
          · cases h
        · cases h
    · cases h

def rfEnd {Ω : Type} : List Ctl → Int → St → (Ctl → St → Option Ω) → Option Ω
  | [], _, _, _ => none
  | c :: r, st, s, K => bif decide (st = ctlCode c) then K c s else rfEnd r st s K

def recCells (ts : List Tmp) (env : Env) : List AV := .int .i64 0 :: .junk :: .junk :: .junk :: ts.map fun i => match look env i with | some v => v | none => .junk

def rfPc (C : Ctx) (t : TypeId) (f : Operand) (ts : List Tmp) (exits : List Ctl) : Pc where
  run s K := match evO s.env f with
    | some (.fn (.func g) [] cap) => match C.Γ g with
      | some con => match isFresh s.obs s.nx && isBig t with
        | true => match con.pre (.yld s.nx :: cap) (put s.obs s.nx (.box t (recCells ts s.env))) (s.nx + 1) with
          | some x => obind (con.fn x) fun y => match con.post (.yld s.nx :: cap) (put s.obs s.nx (.box t (recCells ts s.env))) (s.nx + 1) x y with
            | some (_, s1, n1, _) => match look s1 s.nx with
              | some (.box t' (.int _ st :: _)) => match Nat.beq t' t with
                | true => rfEnd exits st ⟨s.env, put s1 s.nx .dead, n1⟩ K
                | false => none
              | _ => none
            | none => none
          | none => none
        | false => none
      | none => none
    | _ => none

section
variable {P : Program} {B : Bs} {c : Cf} {w : World} {C : Ctx} {fr : Nat → Option Value}

theorem big_obj [Sites] (k : Nat) (us : List Value) : boxObj (1000000 + k) us = Sites.obj k us := by
  have h : isBig (1000000 + k) = true := by simp [isBig]
  simp [boxObj, h]

theorem loopSet_rel [Sites] {s : Obs} (h : Rel B c s w) {i : Nat} {t : TypeId} {cs0 cs : List AV} (hb : look s i = some (.box t cs0)) {us : List Value} (hv : VRs c w cs us) {b : Nat} (hn : c.nm i = some (.pointer (some ⟨b, 0, none⟩))) {x : Obj} (hx : x = boxObj t us) :
    Rel B c (put s i (.box t cs)) (w.putObj b x) ∧ Ext c w c (w.putObj b x) := by
  have hown : Own c i (.box t cs0) b := ⟨_, hn, rfl⟩
  have hlt := (h.ob _ _ hb).lt hown
  refine h.upd i (.box t cs) (fun k => k = b) (fun _ _ h => h) (fun _ _ => rfl) (fun _ h => h) (fun _ h => .inl h) (fun k _ hk => World.putObj_heap_other hk) (fun k hk => by subst hk; exact h.free hb hown) (fun hE => ?_) (fun k hk => ?_) rfl rfl rfl (by rw [World.putObj_size]; exact Nat.le_refl _)
  · exact ⟨b, us, hn, by rw [hx]; exact World.putObj_heap_same hlt, VRs.ext hE _ _ hv⟩
  · obtain ⟨v, h4, h5⟩ := hk
    rw [hn] at h4
    simp only [Option.some.injEq] at h4
    subst h4
    simp only [blockOf, Option.some.injEq] at h5
    exact .inl h5.symm

theorem Rel.both [Sites] {s : Obs} (h : Rel B c s w) {m : Nat} {x : Obj} (hm : m < B.w.heap.size) (hno : ∀ i o, look s i = some o → ¬ Own c i o m) (hI : ¬ c.I m) : Rel { B with w := B.w.putObj m x } c s (w.putObj m x) ∧ Ext c w c (w.putObj m x) := by
  have hE : Ext c w c (w.putObj m x) := ⟨fun _ _ h => h, fun _ h => h, fun b hb => World.putObj_heap_other fun e => hI (e ▸ hb)⟩
  have hsz : (B.w.putObj m x).heap.size = B.w.heap.size := World.putObj_size
  refine ⟨⟨fun i o ho => (h.ob i o ho).ext hE fun b hb => World.putObj_heap_other fun e => hno i o ho (e ▸ hb), h.dom, h.sep, h.imm, fun b hb => by rw [World.putObj_size]; exact h.lo b hb, fun b hb hM => ?_, fun i o b hl hr ho => ?_, fun i o b hl ho => ?_, h.sub, fun b hb => ?_, h.os, h.tape, h.output, Nat.le_trans (Nat.le_of_eq hsz) (Nat.le_trans h.size (Nat.le_of_eq World.putObj_size.symm))⟩, hE⟩
  · by_cases e : b = m
    · subst e
      rw [World.putObj_heap_same (Nat.lt_of_lt_of_le hm h.size), World.putObj_heap_same hm]
    · rw [World.putObj_heap_other e, World.putObj_heap_other e]
      exact h.keep b (by rw [← hsz]; exact hb) hM
  · rw [hsz]; exact h.mine i o b hl hr ho
  · rw [hsz]; exact h.ro i o b hl ho
  · rw [hsz]; exact h.new b hb

theorem putObj_back {m : Nat} {x y : Obj} (h : w.heap[m]? = some y) : (w.putObj m x).putObj m y = w := by
  have : (w.heap.setIfInBounds m x).setIfInBounds m y = w.heap := by
    apply Array.ext_getElem?
    intro i
    rw [Array.getElem?_setIfInBounds, Array.size_setIfInBounds]
    split
    · rename_i e
      subst e
      have hlt := (Array.getElem?_eq_some_iff.1 h).1
      rw [if_pos hlt, h]
    · rename_i e
      rw [Array.getElem?_setIfInBounds_ne e]
  simp only [World.putObj, this]

theorem setAll_size : ∀ (l : List (Tmp × Value)) (a : Array Value), (setAll l a).size = a.size
  | [], a => rfl
  | p :: l, a => by
    show (setAll l (a.setIfInBounds p.1 p.2)).size = _
    rw [setAll_size l, Array.size_setIfInBounds]
theorem setAll_out {t : Tmp} {d : Value} : ∀ (l : List (Tmp × Value)) (a : Array Value), (∀ p ∈ l, p.1 ≠ t) → (setAll l a).getD t d = a.getD t d
  | [], a, _ => rfl
  | p :: l, a, h => by
    show (setAll l (a.setIfInBounds p.1 p.2)).getD t d = _
    rw [setAll_out l _ fun q hq => h q (List.mem_cons_of_mem _ hq)]
    simp [Array.getD_eq_getD_getElem?, Array.getElem?_setIfInBounds_ne (h p (List.mem_cons_self ..))]
theorem setAll_in [Sites] {d : Value} : ∀ (l : List (Tmp × Value)) (a : Array Value) (i : Nat) (t : Tmp) (v : Value), (l.map (·.1)).Nodup → l[i]? = some (t, v) → t < a.size → (setAll l a).getD t d = v
  | [], a, i, t, v, _, h, _ => by simp at h
  | p :: l, a, i, t, v, hn, h, hlt => by
    show (setAll l (a.setIfInBounds p.1 p.2)).getD t d = _
    simp only [List.map_cons, List.nodup_cons] at hn
    cases i with
    | zero =>
      simp only [List.getElem?_cons_zero, Option.some.injEq] at h
      subst h
      rw [setAll_out l _ fun q hq e => hn.1 (List.mem_map.2 ⟨q, hq, e⟩)]
      simp [Array.getD_eq_getD_getElem?, hlt]
    | succ i => exact setAll_in l _ i t v hn.2 (by simpa using h) (by rw [Array.size_setIfInBounds]; exact hlt)

theorem setAll_same (a : Array Value) : ∀ (ts : List Tmp), setAll (ts.zip (ts.map fun t => a.getD t undef)) a = a
  | [] => rfl
  | t :: ts => by
    have h : a.setIfInBounds t (a.getD t undef) = a := by
      apply Array.ext_getElem?
      intro i
      rw [Array.getElem?_setIfInBounds]
      split
      · rename_i e
        subst e
        split
        · rename_i hlt; simp [Array.getD_eq_getD_getElem?, hlt]
        · rename_i hlt; simp at hlt; simp [hlt]
      · rfl
    show setAll (ts.zip (ts.map fun t => a.getD t undef)) (a.setIfInBounds t (a.getD t undef)) = a
    rw [h]
    exact setAll_same a ts

theorem round_setAll (r : Loop) (vals : List Value) : roundTmps r vals.toArray = setAll (r.params.toList.zip vals) r.tmps := by
  unfold roundTmps setAll
  rw [← Array.foldl_toList]
  congr 1
  simp

theorem withSt_some {t : TypeId} {id : Nat} {k : Int} {s s1 : Obs} (h : withSt t id k s = some s1) : ∃ v r, look s id = some (.box t (v :: r)) ∧ s1 = put s id (.box t (.int .i64 k :: r)) := by
  unfold withSt at h
  split at h
  · rename_i t' v r hl
    split at h
    · rename_i hb
      have := Nat.eq_of_beq_eq_true hb
      subst this
      simp only [Option.some.injEq] at h
      exact ⟨v, r, hl, h.symm⟩
    · cases h
  · cases h

theorem any_tk [Sites] {tk : List (Option Nat × Ob)} {id : Nat} (h : (tkNames tk).any (Nat.beq id) = false) {k : Nat} {o : Ob} : tk[k]? ≠ some (some id, o) := fun e => by
  have : id ∈ tkNames tk := List.mem_filterMap.2 ⟨(some id, o), List.mem_of_getElem? e, rfl⟩
  rw [← any_mem, h] at this
  cases this

theorem ys_ok [Sites] {σ : Site} {k : Nat} (hσ : ∀ us, Sites.obj k us = loopObj σ us) (hC : C.Ok P) (hmix : P.follows .mixedOrders = true) (hmay : ∀ t, C.may t = true) {F : Ys} (hps : σ.ps.toList = F.ps) (hts : σ.ts = F.ts) (hnt : σ.nt = C.nt) (hndt : nodupB F.ts = true) (hltt : F.ts.all (fun t => Nat.blt t C.nt) = true)
    (hnd : nodupB F.ps = true) (hdj : F.ts.all (fun t => !F.ps.any (Nat.beq t)) = true) (hlt : F.ps.all (fun t => Nat.blt t C.nt) = true) {Λa Λb : Pcs} (hΛa : Λa.Ok P C σ.assign) (hΛb : Λb.Ok P C σ.body) {n0 : Nat}
    (hev : ∀ x y, F.fn x = some y → evC C σ.assign Λa ⟨addT (F.ts ++ F.ps) (bld (fun k => k) F.ins x 0).1 [], (bld (fun k => k) F.ins x 0).2.1, n0⟩ (thenC fun s => evC C σ.body Λb s (altK F.alts)) = some y) (hni : updIx F.ins = [] := by rfl) :
    F.yc.Ok P (1000000 + k) where
  runs := by
    intro args id cs s nx v s1 n1 W hrun hl B c w vals b hR hv hn
    have hbig : isBig (1000000 + k) = true := by simp [isBig]
    simp only [Ys.yc] at hrun
    unfold Ys.run at hrun
    split at hrun
    rotate_left
    · cases hrun
    rename_i st c1 c2 c3 caps
    cases hd : decide (st = 0) with
    | false => simp [hd] at hrun
    | true =>
      have hst : st = 0 := of_decide_eq_true hd
      rw [hd] at hrun
      simp only [cond_true] at hrun
      subst hst
      split at hrun
      rotate_left
      · cases hrun
      rename_i hlen
      simp only [Bool.and_eq_true] at hlen
      obtain ⟨⟨hl1, hl2⟩, _⟩ := hlen
      have hl1 := Nat.eq_of_beq_eq_true hl1
      have hl2 := Nat.eq_of_beq_eq_true hl2
      split at hrun
      rotate_left
      · cases hrun
      rename_i x z hx
      split at hrun
      rotate_left
      · cases hrun
      rename_i hc
      simp only [Bool.and_eq_true, Bool.not_eq_true'] at hc
      obtain ⟨hcid, hcal⟩ := hc
      unfold obind at hrun
      split at hrun
      rotate_left
      · cases hrun
      rename_i y hy
      simp only at hrun
      -- the record
      obtain ⟨b', us, q1, q2, q3⟩ := hR.ob id _ hl
      rw [hn] at q1
      simp only [Option.some.injEq, Value.pointer.injEq, Addr.mk.injEq, and_true] at q1
      subst q1
      rw [big_obj, hσ] at q2
      have q3' := q3
      simp only [VRs] at q3
      obtain ⟨u0, us0, rfl, g0, u1, us1, rfl, g1, u2, us2, rfl, g2, u3, utm, rfl, g3, gtm⟩ := q3
      simp only [VR] at g0
      obtain ⟨rfl, _⟩ := g0
      let r : Loop := loopRec σ (.int .i64 0 :: u1 :: u2 :: u3 :: utm)
      have hr : w.heap[b]? = some (.loop r) := q2
      have hvl := hv.length
      have hsz : vals.length = r.params.size := by
        show vals.length = σ.ps.size
        rw [hvl, hl2, ← hps]; simp
      refine ⟨r, hr, hsz, ?_⟩
      have hbw : b < w.heap.size := (Array.getElem?_eq_some_iff.1 hr).1
      -- busy
      let rb : Loop := { r with state := .busy }
      have hbusy : Obj.loop rb = boxObj (1000000 + k) (.int .i64 (-1) :: u1 :: u2 :: u3 :: utm) := by
        rw [big_obj, hσ]
        simp [rb, r, loopObj, loopRec, stOf, pdOf]
      have hvb : VRs c w (.int .i64 (-1) :: c1 :: c2 :: c3 :: caps) (.int .i64 (-1) :: u1 :: u2 :: u3 :: utm) := by
        simp only [VRs]
        exact ⟨_, _, rfl, by simp [VR, fits], _, _, rfl, g1, _, _, rfl, g2, _, _, rfl, g3, gtm⟩
      obtain ⟨hRb, hEb⟩ := loopSet_rel hR hl hvb hn hbusy
      generalize hwb : w.putObj b (Obj.loop rb) = wb at hRb hEb
      have hlb : look (put s id (.box (1000000 + k) (.int .i64 (-1) :: c1 :: c2 :: c3 :: caps))) id = some (.box (1000000 + k) (.int .i64 (-1) :: c1 :: c2 :: c3 :: caps)) := by rw [look_put, if_pos rfl]
      have hwsz : wb.heap.size = w.heap.size := by rw [← hwb]; exact World.putObj_size
      have hback : wb.putObj b (.loop r) = w := by rw [← hwb]; exact putObj_back hr
      -- what the round is handed
      have gtl := gtm.length
      have hcv : VRs c wb caps utm := VRs.ext hEb _ _ gtm
      obtain ⟨vs, I1, hH, hv0⟩ := handed hRb (hcv.append (VRs.ext hEb _ _ hv)) hx hni
      -- the record is nobody's of those
      have hnoI : ¬ I1 b := fun hI => by
        rcases hH.tk.newI b hI with g | ⟨id', e, t', l, g3, g4, g5⟩
        · exact hR.imm id _ b hl ⟨_, hn, rfl⟩ g
        · have := hRb.sep id' id _ _ b g3 hlb g5 ⟨_, hn, rfl⟩
          subst this
          rw [hlb] at g3
          cases g3
      have hno0 : ∀ i o, (i, o) ∈ (bld (fun k => k) F.ins x 0).2.1 → ¬ Own (cf0 vs I1) i o b := fun i o hm ho => by
        obtain ⟨id1, o1, g3, g4, g5, _⟩ := hH.own hm ho
        have := hRb.sep id1 id _ _ b g5 hlb g4 ⟨_, hn, rfl⟩
        subst this
        exact any_tk hcid g3
      have hR0 : Rel (bs0 (some b) w.heap.size wb vs I1 (bld (fun k => k) F.ins x 0).2.1) (cf0 vs I1) (bld (fun k => k) F.ins x 0).2.1 wb := hH.rel hRb
      have hR1 := (hR0.both (x := .loop r) (by show b < wb.heap.size; omega) (fun i o ho => hno0 i o (look_mem ho)) hnoI)
      have eB1 : ({ bs0 (some b) w.heap.size wb vs I1 (bld (fun k => k) F.ins x 0).2.1 with w := wb.putObj b (.loop r) } : Bs) = bs0 (some b) w.heap.size w vs I1 (bld (fun k => k) F.ins x 0).2.1 := by
        rw [hback]; rfl
      obtain ⟨hR1, hE1⟩ := hR1
      have hR1 : Rel (bs0 (some b) w.heap.size w vs I1 (bld (fun k => k) F.ins x 0).2.1) (cf0 vs I1) (bld (fun k => k) F.ins x 0).2.1 w := by
        have e : (bs0 (some b) w.heap.size wb vs I1 (bld (fun k => k) F.ins x 0).2.1).w.putObj b (.loop r) = w := hback
        rw [e] at hR1
        rw [show wb.putObj b (.loop r) = w from hback] at hR1
        exact hR1
      rw [hback] at hE1
      have hnoM : ¬ (bs0 (some b) w.heap.size w vs I1 (bld (fun k => k) F.ins x 0).2.1).M b := fun ⟨i, o, h1, _, h3⟩ => hno0 i o (look_mem h1) h3
      have hnoR : ¬ (bs0 (some b) w.heap.size w vs I1 (bld (fun k => k) F.ins x 0).2.1).R b := fun ⟨i, o, h1, _, h3⟩ => hno0 i o (look_mem h1) h3
      -- temporaries
      have htm : r.tmps = setAll (F.ts.zip utm) (tupOf C.nt u3) := by show setAll (σ.ts.zip utm) (tupOf σ.nt u3) = _; rw [hts, hnt]
      have hutm : utm.length = F.ts.length := by rw [gtl, hl1]
      have hzt : (F.ts.zip utm).map (·.1) = F.ts := by
        rw [List.map_fst_zip]
        rw [hutm]; exact Nat.le_refl _
      have hparl : r.params.toList = F.ps := hps
      have hzl : (F.ps.zip vals).map (·.1) = F.ps := by
        rw [List.map_fst_zip]
        rw [hvl, hl2]; exact Nat.le_refl _
      have hsim : Sim (bs0 (some b) w.heap.size w vs I1 (bld (fun k => k) F.ins x 0).2.1) C (fun _ => none) (cf0 vs I1) ⟨addT (F.ts ++ F.ps) (bld (fun k => k) F.ins x 0).1 [], (bld (fun k => k) F.ins x 0).2.1, n0⟩ w
          { tmps := roundTmps r vals.toArray, defers := [] } := by
        refine ⟨hR1, ⟨?_, fun t y' hk => ?_, fun t v' hk => (by cases hk)⟩, .nil, ⟨Nat.le_refl _, fun l hl' => ?_⟩⟩
        · simp only [round_setAll, setAll_size, htm, tupOf_size]
        · have hv1 := VRs.ext hE1 _ _ hv0
          simp only [round_setAll, hparl, htm]
          rcases look_addT hk with ⟨i, h1, h2⟩ | h1
          · obtain ⟨u, hu, hvu⟩ := hv1.get h2
            rcases get_two (List.getElem?_eq_some_iff.1 h1).1 with ⟨g3, g4⟩ | ⟨g3, g4, g5⟩
            · rw [g4] at h1
              rw [List.getElem?_append_left (by rw [hutm]; exact g3)] at hu
              rw [setAll_out]
              · have hz : (F.ts.zip utm)[i]? = some (t, u) := by
                  rw [List.getElem?_zip_eq_some]
                  exact ⟨h1, hu⟩
                rw [setAll_in (F.ts.zip utm) (tupOf C.nt u3) i t u (by rw [hzt]; exact nodupB_ok hndt) hz (by
                  have h9 : t < C.nt := by simpa using List.all_eq_true.1 hltt t (List.mem_of_getElem? h1)
                  rw [tupOf_size]
                  exact h9)]
                exact hvu
              · intro p hp e
                have h3 := List.all_eq_true.1 hdj t (List.mem_of_getElem? h1)
                have h4 : t ∈ F.ps := by rw [← hzl]; exact List.mem_map.2 ⟨p, hp, e⟩
                rw [← any_mem] at h4
                rw [h4] at h3
                cases h3
            · rw [g5] at h1
              rw [List.getElem?_append_right (by rw [hutm]; exact g3), hutm] at hu
              have hz : (F.ps.zip vals)[i - F.ts.length]? = some (t, u) := by
                rw [List.getElem?_zip_eq_some]
                exact ⟨h1, hu⟩
              rw [setAll_in (F.ps.zip vals) (setAll (F.ts.zip utm) (tupOf C.nt u3)) (i - F.ts.length) t u (by rw [hzl]; exact nodupB_ok hnd) hz (by
                have h9 : t < C.nt := by simpa using List.all_eq_true.1 hlt t (List.mem_of_getElem? h1)
                rw [setAll_size, tupOf_size]
                exact h9)]
              exact hvu
          · simp [look] at h1
        · simp only [bs0, Option.some.injEq] at hl'
          subst hl'
          exact ⟨⟨r, hr⟩, hnoM⟩
      refine roundIn_of_wpIn trivial ?_
      refine evC_ok (B := bs0 (some b) w.heap.size w vs I1 (bld (fun k => k) F.ins x 0).2.1) hC hmix (fun t ht => rfl) σ.assign Λa _ _ (hev x y hy) hΛa _ w _ _ hsim fun ctl sa c1' w1 a1 hK hs1 hE2 => ?_
      cases ctl with
      | ret => cases hK
      | exit e => cases hK
      | normal =>
      simp only [thenC] at hK
      have hno1 : ∀ i o, look sa.obs i = some o → ¬ Own c1' i o b := fun i o ho hb' => by
        rcases hs1.rel.ro i o b ho hb' with h1 | h1 | h1
        · exact hnoR h1
        · exact hnoM h1
        · exact absurd hbw (Nat.not_lt.2 h1)
      have hnoI1 : ¬ c1'.I b := fun hI => by
        rcases hs1.rel.new b hI with h1 | h1 | h1
        · exact hnoI h1
        · exact hnoM h1
        · exact absurd hbw (Nat.not_lt.2 h1)
      have hw1b : w1.heap[b]? = some (.loop r) := (hs1.rel.keep b hbw hnoM).trans hr
      obtain ⟨hR2, hE3⟩ := hs1.rel.both (x := .loop rb) hbw hno1 hnoI1
      have eB2 : ({ bs0 (some b) w.heap.size w vs I1 (bld (fun k => k) F.ins x 0).2.1 with w := w.putObj b (.loop rb) } : Bs) = bs0 (some b) w.heap.size wb vs I1 (bld (fun k => k) F.ins x 0).2.1 := by
        rw [hwb]; rfl
      have hR2 : Rel (bs0 (some b) w.heap.size wb vs I1 (bld (fun k => k) F.ins x 0).2.1) c1' sa.obs (w1.putObj b (.loop rb)) := by
        rw [← eB2]; exact hR2
      refine ⟨w1.putObj b (.loop rb), run_beginRound hw1b rfl, ?_⟩
      have hbase2 : BaseOk (bs0 (some b) w.heap.size wb vs I1 (bld (fun k => k) F.ins x 0).2.1) := by
        refine ⟨by show w.heap.size ≤ wb.heap.size; omega, fun l hl' => ?_⟩
        simp only [bs0, Option.some.injEq] at hl'
        subst hl'
        refine ⟨⟨rb, ?_⟩, hnoM⟩
        show wb.heap[b]? = _
        rw [← hwb]
        exact World.putObj_heap_same hbw
      have hs2 : Sim (bs0 (some b) w.heap.size wb vs I1 (bld (fun k => k) F.ins x 0).2.1) C (fun _ => none) c1' sa (w1.putObj b (.loop rb)) a1 := by
        refine ⟨hR2, hs1.tmps.ext hE3, ⟨fun d hd => ?_, hs1.marks.nodup⟩, hbase2⟩
        obtain ⟨m, h1, h2, h3, h4⟩ := hs1.marks.all d hd
        refine ⟨m, h1, ?_, h3, h4⟩
        rw [World.putObj_heap_other fun e => ?_]
        · exact h2
        · rw [e, hw1b] at h2; cases h2
      refine evC_ok (B := bs0 (some b) w.heap.size wb vs I1 (bld (fun k => k) F.ins x 0).2.1) hC hmix (fun t ht => rfl) σ.body Λb sa _ hK hΛb c1' _ a1 _ hs2 fun ctl s2 c2' w3 a3 hK2 hs3 hE4 => ?_
      obtain ⟨al, y', k1, k2, k3, rs, z1, k4, k5⟩ := altK_ok hK2
      rw [k1] at hrun
      split at hrun
      rotate_left
      · cases hrun
      rename_i s1' hws
      simp only [Option.some.injEq, Prod.mk.injEq] at hrun
      obtain ⟨rfl, rfl, rfl, _⟩ := hrun
      have hbo := List.all_eq_true.1 hcal al k2
      simp only [Bool.and_eq_true, backOk] at hbo
      obtain ⟨⟨⟨b1, b2⟩, b3, b4, b6⟩, b5⟩ := hbo
      have hvts := tmpsAt_ok hs3.tmps k4
      have hEE : Ext (cf0 vs I1) wb c2' w3 := hE1.trans (hE2.trans (hE3.trans hE4))
      obtain ⟨c3, f1, f2, f3, _⟩ := hH.give hRb hs3.rel hEE.lasts (fun i _ v hi => hEE.nm i v hi) hvts k5 b1 b2 rfl (Nat.le_of_ble_eq_true b6) b3 b4
      have hw3b : w3.heap[b]? = some (.loop rb) := by
        refine (hs3.rel.keep b (by show b < wb.heap.size; omega) hnoM).trans ?_
        show wb.heap[b]? = _
        rw [← hwb]
        exact World.putObj_heap_same hbw
      obtain ⟨v', r', hl', rfl⟩ := withSt_some hws
      have hn3 : c3.nm id = some (.pointer (some ⟨b, 0, none⟩)) := f3.nm id _ hn
      obtain ⟨b', us', p1, p2, p3⟩ := f1.ob id _ hl'
      rw [hn3] at p1
      simp only [Option.some.injEq, Value.pointer.injEq, Addr.mk.injEq, and_true] at p1
      subst p1
      rw [big_obj, hσ, hw3b] at p2
      simp only [VRs] at p3
      obtain ⟨w0, ws, rfl, _, p3⟩ := p3
      simp only [loopObj, Option.some.injEq, Obj.loop.injEq] at p2
      have p2' : rb.fn = natOf ((w0 :: ws).getD 1 undef) ∧ rb.tmps = setAll (σ.ts.zip ((w0 :: ws).drop 4)) (tupOf σ.nt ((w0 :: ws).getD 3 undef)) ∧ rb.defers = natOf ((w0 :: ws).getD 2 undef) := by
        rw [p2]; exact ⟨rfl, rfl, rfl⟩
      have fin : ∀ (j : Option Code), stOf (.int .i64 (ctlCode al.ctl)) = (if j.isNone then .ready else .done) → pdOf (.int .i64 (ctlCode al.ctl)) = j → fits .i64 (ctlCode al.ctl) = true → isNorm al.ctl = j.isNone →
          ∃ v w', (Instr.endRound b j).run P w3 = .ok v w' ∧ ∃ c' u, Ending.returned v = .returned u ∧ Rel B c' (put (putAll (restore (bld (fun k => k) F.ins x 0).2.1 z.tk 0 z.obs) (bld (outNm z.tk (onames (nameAt z.tk) nx al.sh 0)) al.sh y' 0).2.1) id (.box (1000000 + k) (.int .i64 (ctlCode al.ctl) :: r'))) w' ∧ VR c' w' (.bool (isNorm al.ctl)) u ∧ Ext c w c' w' := by
        intro j h1 h2 h3 h4
        have hv3 : VRs c3 w3 (.int .i64 (ctlCode al.ctl) :: r') (.int .i64 (ctlCode al.ctl) :: ws) := by
          simp only [VRs]
          exact ⟨_, _, rfl, by simp only [VR]; exact ⟨trivial, h3⟩, p3⟩
        have hobj : Obj.loop { rb with state := if j.isNone then .ready else .done, pending := j } = boxObj (1000000 + k) (.int .i64 (ctlCode al.ctl) :: ws) := by
          rw [big_obj, hσ]
          unfold loopObj loopRec
          simp only [List.getD_cons_zero, h1, h2]
          have e1 : rb.params = σ.ps := rfl
          have e2 : rb.assign = σ.assign := rfl
          have e3 : rb.body = σ.body := rfl
          rw [e1, e2, e3, p2'.1, p2'.2.1, p2'.2.2]
          rfl
        obtain ⟨m1, m2⟩ := loopSet_rel f1 hl' hv3 hn3 hobj
        refine ⟨_, _, run_endRound j hw3b, c3, _, rfl, m1, ?_, hEb.trans (f3.trans m2)⟩
        simp only [VR, h4]
      rw [← k3]
      clear hws
      generalize al.ctl = cc at fin b5 ⊢
      cases cc with
      | normal => exact fin none rfl rfl rfl rfl
      | ret => exact fin (some .ret) rfl rfl rfl rfl
      | exit e =>
        refine fin (some (.exit e)) ?_ ?_ ?_ rfl
        · have e1 : ¬ ((e : Int) + 2 = 0) := by omega
          have e2 : ¬ ((e : Int) + 2 < 0) := by omega
          simp only [stOf, ctlCode, if_neg e1, if_neg e2]; rfl
        · have e1 : ¬ ((e : Int) + 2 ≤ 0) := by omega
          have e2 : ¬ ((e : Int) + 2 = 1) := by omega
          have e3 : ((e : Int) + 2 - 2).toNat = e := by omega
          simp only [pdOf, ctlCode, if_neg e1, if_neg e2, e3]
        · simp only [ctlFit, Nat.blt_eq] at b5
          simp only [fits, ctlCode, Bool.and_eq_true]
          exact ⟨decide_eq_true (by omega), decide_eq_true (by omega)⟩
  wrote := by
    intro args id cs s nx v s1 n1 W hrun hl i hi
    simp only [Ys.yc] at hrun
    unfold Ys.run at hrun
    split at hrun
    rotate_left
    · cases hrun
    rename_i st c1 c2 c3 caps
    cases hd : decide (st = 0) with
    | false => simp [hd] at hrun
    | true =>
      simp only [hd, cond_true] at hrun
      split at hrun
      rotate_left
      · cases hrun
      split at hrun
      rotate_left
      · cases hrun
      rename_i x z hx
      split at hrun
      rotate_left
      · cases hrun
      rename_i hc
      simp only [Bool.and_eq_true] at hc
      unfold obind at hrun
      split at hrun
      rotate_left
      · cases hrun
      rename_i y hy
      simp only at hrun
      obtain ⟨a, y', h1, h2, _⟩ := altCase_nat (Ω' := Unit) y fun a y =>
        match withSt (1000000 + k) id (ctlCode a.ctl) (putAll (restore (bld (fun k => k) F.ins x 0).2.1 z.tk 0 z.obs) (bld (outNm z.tk (onames (nameAt z.tk) nx a.sh 0)) a.sh y 0).2.1) with
        | some s1 => (some (.bool (isNorm a.ctl), s1, (nx + (onames (nameAt z.tk) nx a.sh 0).length), (id :: (tkNames z.tk ++ (z.fz ++ onames (nameAt z.tk) nx a.sh 0)))) : Option (AV × Obs × Nat × List Nat))
        | none => none
      rw [h2] at hrun
      split at hrun
      rotate_left
      · cases hrun
      rename_i s1' hws
      simp only [Option.some.injEq, Prod.mk.injEq] at hrun
      obtain ⟨_, rfl, _, rfl⟩ := hrun
      obtain ⟨v', r', hl', rfl⟩ := withSt_some hws
      simp only [List.mem_cons, not_or] at hi
      rw [look_put, if_neg (fun e => hi.1 e.symm), back_look hx hi.2 (by have := List.all_eq_true.1 hc.2 a h1; simp only [backOk, Bool.and_eq_true] at this; exact Nat.le_of_ble_eq_true this.1.2.2.2), look_put, if_neg (fun e => hi.1 e.symm)]

theorem rfEnd_some {Ω : Type} {st : Int} {s : St} {K : Ctl → St → Option Ω} {out : Ω} : ∀ {l : List Ctl}, rfEnd l st s K = some out → ∃ ctl, st = ctlCode ctl ∧ K ctl s = some out
  | [], h => by cases h
  | c :: r, h => by
    simp only [rfEnd] at h
    cases hd : decide (st = ctlCode c) with
    | true => rw [hd] at h; exact ⟨c, of_decide_eq_true hd, by simpa using h⟩
    | false => rw [hd] at h; exact rfEnd_some (by simpa using h)

theorem rec_ok [Sites] {env : Env} {a : Act} (hT : Tmps C.nt fr c w env a) : ∀ (ts : List Tmp), VRs c w (ts.map fun i => match look env i with | some v => v | none => .junk) (ts.map fun t => a.tmps.getD t undef)
  | [] => by simp only [List.map_nil, VRs]
  | t :: ts => by
    simp only [List.map_cons, VRs]
    refine ⟨_, _, rfl, ?_, rec_ok hT ts⟩
    split
    · rename_i v hv
      exact hT.env t v hv
    · simp only [VR]

theorem Rel.grow [Sites] {s : Obs} (h : Rel B c s w) (x : Obj) : Rel B c s (w.alloc x) ∧ Ext c w c (w.alloc x) := by
  have hk : ∀ b, b < w.heap.size → (w.alloc x).heap[b]? = w.heap[b]? := fun b hb => Below.heap_alloc w x b hb
  have hE : Ext c w c (w.alloc x) := ⟨fun _ _ h => h, fun _ h => h, fun b hb => hk b (h.lo b hb)⟩
  have hsz : (w.alloc x).heap.size = w.heap.size + 1 := by simp
  refine ⟨⟨fun i o ho => (h.ob i o ho).ext hE fun b hb => hk b ((h.ob i o ho).lt hb), h.dom, h.sep, h.imm, fun b hb => by have := h.lo b hb; omega, fun b hb hM => ?_, h.mine, h.ro, h.sub, h.new, h.os, h.tape, h.output, by have := h.size; omega⟩, hE⟩
  exact (hk b (Nat.lt_of_lt_of_le hb h.size)).trans (h.keep b hb hM)

theorem Rel.record [Sites] {s : Obs} {nx : Nat} (h : Rel B c s w) (hf : look s nx = none) {k : Nat} {σ : Site} (hσ : ∀ us, Sites.obj k us = loopObj σ us) {cs : List AV} {us : List Value} (hv : VRs c w cs us) :
    ∃ c', Rel B c' (put s nx (.box (1000000 + k) cs)) (w.alloc (loopObj σ us)) ∧ Ext c w c' (w.alloc (loopObj σ us)) ∧ c'.nm nx = some (.pointer (some ⟨w.heap.size, 0, none⟩)) ∧ c'.I = c.I := by
  have hnone := h.dom nx hf
  obtain ⟨h1, h2⟩ := h.upd (c' := ⟨fun i => if i = nx then some (.pointer (some ⟨w.heap.size, 0, none⟩)) else c.nm i, c.I⟩) (w' := w.alloc (loopObj σ us)) nx (.box (1000000 + k) cs) (fun _ => False)
    (fun i v hv => by
      by_cases e : i = nx
      · subst e; rw [hnone] at hv; cases hv
      · simp [e, hv])
    (fun i hi => by simp [hi]) (fun _ h => h) (fun b hb => .inl hb) (fun b hb _ => Below.heap_alloc w _ b hb) (fun b hb => hb.elim)
    (fun hE => ⟨w.heap.size, us, by simp, by rw [big_obj, hσ]; exact World.alloc_heap_new w _, VRs.ext hE _ _ hv⟩)
    (fun b hb => by
      obtain ⟨v, h1, h2⟩ := hb
      simp at h1
      subst h1
      simp [blockOf] at h2
      right; omega)
    rfl rfl rfl (by simp)
  exact ⟨_, h1, h2, by simp, rfl⟩

theorem Marks.ext {fl : Nat} {c c' : Cf} {w w' : World} {ds : List Deferred} (h : Marks fl c w ds) (hI : c'.I = c.I) (hk : ∀ b, b < w.heap.size → w'.heap[b]? = w.heap[b]?) : Marks fl c' w' ds :=
  ⟨fun d hd => by
    obtain ⟨m, h1, h2, h3, h4⟩ := h.all d hd
    exact ⟨m, h1, (hk m (Array.getElem?_eq_some_iff.1 h2).1).trans h2, h3, by rw [hI]; exact h4⟩, h.nodup⟩

theorem rf_ok [Sites] {k : Nat} {ps : Array Tmp} {x y : Code} {ts : List Tmp} (hσ : ∀ us, Sites.obj k us = loopObj ⟨ps, x, y, ts, C.nt⟩ us) (hC : C.Ok P) {f : Operand} {exits : List Ctl} : (rfPc C (1000000 + k) f ts exits).Ok P C (.rangeFunc f ps x y) := by
  intro Ω s K out hrun B fr c w a Q hfr hs hK
  simp only [rfPc] at hrun
  split at hrun
  rotate_left
  · cases hrun
  rename_i g cap hf
  split at hrun
  rotate_left
  · cases hrun
  rename_i con hcon
  split at hrun
  rotate_left
  · cases hrun
  rename_i hfresh
  simp only [Bool.and_eq_true] at hfresh
  split at hrun
  rotate_left
  · cases hrun
  rename_i xin hpre
  unfold obind at hrun
  split at hrun
  rotate_left
  · cases hrun
  rename_i yout hfn
  simp only at hrun
  split at hrun
  rotate_left
  · cases hrun
  rename_i rv s1 n1 W hpost
  split at hrun
  rotate_left
  · cases hrun
  rename_i t' ki st rest hl1
  split at hrun
  rotate_left
  · cases hrun
  rename_i ht'
  have := Nat.eq_of_beq_eq_true ht'
  subst this
  obtain ⟨ctl, hst, hKout⟩ := rfEnd_some hrun
  have hc := hC.Γ g con hcon
  -- the function
  have hfv := hs.ops _ _ hf
  simp only [VR] at hfv
  obtain ⟨fus, fvs, ef, hfus, hfvs⟩ := hfv
  simp only [VRs] at hfus
  subst hfus
  refine wpIn_rangeFunc fun fn _ => ?_
  -- the world behind the block for deferred calls; the mark
  obtain ⟨w0, mark, dn, hw0, hE0, hR0, hM0, henter⟩ : ∃ (w0 : World) (mark : List Deferred) (dn : Nat), w.heap.size ≤ w0.heap.size ∧ Ext c w c w0 ∧ Rel B c s.obs w0 ∧ Marks B.fl c w0 (mark ++ a.defers) ∧
      (Instr.enterLoop fn a.tmps ps x y B.rd).run P w = .ok (w0.heap.size, mark) (w0.alloc (.loop { state := .ready, pending := none, fn, tmps := a.tmps, params := ps, assign := x, body := y, defers := dn })) := by
    cases hrd : B.rd with
    | none =>
      obtain ⟨h1, h2⟩ := hs.rel.grow (.deferred (some []))
      refine ⟨w.alloc (.deferred (some [])), [{ target := .collected w.heap.size, args := #[] }], w.heap.size, by simp, h2, h1, ⟨fun d hd => ?_, ?_⟩, ?_⟩
      · rcases List.mem_append.1 hd with hd | hd
        · simp only [List.mem_singleton] at hd
          exact ⟨w.heap.size, hd, World.alloc_heap_new w _, Nat.le_trans hs.base.fl hs.rel.size, fun hI => by have := hs.rel.lo _ hI; omega⟩
        · exact (hs.marks.ext (c' := c) rfl fun b hb => Below.heap_alloc w _ b hb).all d hd
      · simp only [List.map_append, List.map_cons, List.map_nil, List.singleton_append, List.pairwise_cons]
        refine ⟨fun tg htg m e => ?_, hs.marks.nodup⟩
        cases e
        obtain ⟨d, hd, rfl⟩ := List.mem_map.1 htg
        obtain ⟨m', h3, h4, _⟩ := hs.marks.all d hd
        rw [h3]
        intro e
        cases e
        have := (Array.getElem?_eq_some_iff.1 h4).1
        omega
      · have := run_enterLoop_outer (P := P) (w := w) fn a.tmps ps x y
        rw [this]
        simp
    | some l0 =>
      obtain ⟨⟨r0, h1⟩, h2⟩ := hs.base.rd l0 hrd
      have h3 : w.heap[l0]? = some (.loop r0) := (hs.rel.keep l0 (Array.getElem?_eq_some_iff.1 h1).1 h2).trans h1
      refine ⟨w, [], r0.defers, Nat.le_refl _, Ext.refl c w, hs.rel, by simpa using hs.marks, ?_⟩
      unfold Instr.enterLoop
      simp only [Sem.run_bind, run_getLoop h3, run_newObj_alloc, Result.andThen, Sem.run_pure]
  -- the record
  have hrec := rec_ok (hs.tmps.ext hE0) ts
  have hv0 : VRs c w0 (recCells ts s.env) (.int .i64 0 :: .int .i64 (fn : Int) :: .int .i64 (dn : Int) :: .tuple a.tmps :: ts.map fun t => a.tmps.getD t undef) := by
    simp only [recCells, VRs]
    exact ⟨_, _, rfl, by simp [VR, fits], _, _, rfl, by simp only [VR], _, _, rfl, by simp only [VR], _, _, rfl, by simp only [VR], hrec⟩
  obtain ⟨c1, hR1, hE1, hn1, hI1⟩ := hR0.record (isFresh_none hfresh.1) hσ hv0
  have hobj : (loopObj ⟨ps, x, y, ts, C.nt⟩ (.int .i64 0 :: .int .i64 (fn : Int) :: .int .i64 (dn : Int) :: .tuple a.tmps :: ts.map fun t => a.tmps.getD t undef) : Obj) = .loop { state := .ready, pending := none, fn, tmps := a.tmps, params := ps, assign := x, body := y, defers := dn } := by
    have e1 : tupOf C.nt (.tuple a.tmps) = a.tmps := by simp [tupOf, hs.tmps.size]
    simp [loopObj, loopRec, stOf, pdOf, natOf, e1]
    simpa using setAll_same a.tmps ts
  rw [hobj] at hR1 hE1
  generalize hw1 : w0.alloc (.loop { state := .ready, pending := none, fn, tmps := a.tmps, params := ps, assign := x, body := y, defers := dn }) = w1 at hR1 hE1 henter
  have hM1 : Marks B.fl c1 w1 (mark ++ a.defers) := hM0.ext hI1 fun b hb => by rw [← hw1]; exact Below.heap_alloc w0 _ b hb
  have hcap : VRs c1 w1 (.yld s.nx :: cap) (.func (.yield w0.heap.size) #[] #[] :: fvs) := by
    simp only [VRs, VR]
    exact ⟨_, _, rfl, ⟨_, hn1, rfl⟩, VRs.ext (hE0.trans hE1) _ _ hfvs⟩
  refine ⟨w0.heap.size, mark, w1, { target := .fn (.func g) fvs.toArray, args := #[.func (.yield w0.heap.size) #[] #[]] }, w1, g, (.func (.yield w0.heap.size) #[] #[] :: fvs : List Value).toArray, w1, henter, ?_, fun _ _ => trivial, ?_, fun h => (by cases h), ?_⟩
  · have hconst : ∀ v, a.eval (.const v) = v := fun _ => rfl
    simp [resolve, ef, Deferred.ofValue, hconst]
  · have := hc.enters (.func (.yield w0.heap.size) #[] #[] :: fvs : List Value).toArray w1
    rw [← this]
    simp [invoke]
  · refine callsIn_WF ((hc.runs _ _ _ xin yout rv s1 n1 W hpre hfn hpost (here B c1 _ w1) c1 w1 _ hR1.rebase hcap).mono ?_)
    rintro e w2 ⟨c2, u, rfl, hR2, _, hE2⟩
    have hR2B := hR1.trans hR2
    have hM2 := hM1.step hR1 hR2
    -- the record again
    obtain ⟨b, us, q1, q2, q3⟩ := hR2.ob s.nx _ hl1
    rw [hE2.nm _ _ hn1] at q1
    simp only [Option.some.injEq, Value.pointer.injEq, Addr.mk.injEq, and_true] at q1
    subst q1
    rw [big_obj, hσ] at q2
    simp only [VRs] at q3
    obtain ⟨u0, us0, rfl, g0, _⟩ := q3
    simp only [VR] at g0
    obtain ⟨rfl, _⟩ := g0
    have hnb : (loopRec ⟨ps, x, y, ts, C.nt⟩ (.int ki st :: us0)).state ≠ .busy ∧ (loopRec ⟨ps, x, y, ts, C.nt⟩ (.int ki st :: us0)).pending = ctlPd ctl := by
      subst hst
      cases ctl with
      | normal => exact ⟨by simp [loopRec, stOf, ctlCode], by simp [loopRec, pdOf, ctlCode, ctlPd]⟩
      | ret => exact ⟨by simp [loopRec, stOf, ctlCode], by simp [loopRec, pdOf, ctlCode, ctlPd]⟩
      | exit id =>
        have e1 : ¬ ((id : Int) + 2 = 0) := by omega
        have e2 : ¬ ((id : Int) + 2 < 0) := by omega
        have e3 : ¬ ((id : Int) + 2 ≤ 0) := by omega
        have e4 : ¬ ((id : Int) + 2 = 1) := by omega
        have e5 : ((id : Int) + 2 - 2).toNat = id := by omega
        exact ⟨by simp [loopRec, stOf, ctlCode, e1, e2], by simp only [loopRec, pdOf, ctlCode, ctlPd, List.getD_cons_zero, if_neg e3, if_neg e4, e5]⟩
    have hend := run_endLoop (P := P) q2 hnb.1
    -- it falls
    have hown : Own c2 s.nx (.box (1000000 + k) (.int ki st :: rest)) w0.heap.size := ⟨_, hE2.nm _ _ hn1, rfl⟩
    generalize hw3 : w2.putObj w0.heap.size (.loop { loopRec ⟨ps, x, y, ts, C.nt⟩ (.int ki st :: us0) with state := .exhausted }) = w3 at hend
    obtain ⟨hR3, hE3⟩ := hR2B.rebase.upd (c' := c2) (w' := w3) s.nx .dead (fun b => b = w0.heap.size) (fun _ _ h => h) (fun _ _ => rfl) (fun _ h => h) (fun _ h => .inl h) (fun b _ hb => by rw [← hw3]; exact World.putObj_heap_other hb)
      (fun b hb => by subst hb; exact hR2B.rebase.free hl1 hown) (fun _ => trivial) (fun b hb => hb.elim) (by rw [← hw3]; rfl) (by rw [← hw3]; rfl) (by rw [← hw3]; rfl) (by rw [← hw3, World.putObj_size]; exact Nat.le_refl _)
    have hEall : Ext c w c2 w3 := hE0.trans (hE1.trans (hE2.trans hE3))
    have hsim : Sim B C fr c2 ⟨s.env, put s1 s.nx .dead, n1⟩ w3 { a with defers := mark ++ a.defers } :=
      ⟨hR2B.trans hR3, ⟨(hs.tmps.ext hEall).size, (hs.tmps.ext hEall).env, (hs.tmps.ext hEall).frame⟩, hM2.step hR2B hR3, hs.base⟩
    have hQ := hK ctl _ c2 w3 _ hKout hsim hEall
    refine ⟨_, w3, hend, ?_⟩
    rw [hnb.2]
    cases ctl with
    | normal => exact hQ
    | ret => exact wpIn_ret hQ
    | exit id => exact wpIn_exit hQ
end
end Go.Hay
/- Contracts of functions of Go's library that are proved in the kit: the sorted keys of a map, a map's clone. Conditions: none. -/
set_option linter.unusedVariables false
set_option linter.unusedSimpArgs false
namespace Go.Hay
open Go.RowKit Go.Proofs Go.Shelf Go.Maps Go.Sort

theorem raw_ok [Sites] {P : Program} {F : Fs} {f : FuncId} (henter : ∀ args w, (callFunc f args).run P w = .ok (.enter f args) w) (hni : updIx F.ins = [])
    (hrun : ∀ x y, F.fn x = some y → ∀ (B : Bs) (c : Cf) (w : World) (vals : List Value), Rel B c (bld (fun k => k) F.ins x 0).2.1 w → VRs c w (bld (fun k => k) F.ins x 0).1 vals →
      Calls P f vals.toArray w fun e w' => ∃ c' us as1 s1 z1, e = .returned (tupV us) ∧ Rel B c' s1 w' ∧ Ext c w c' w' ∧ VRs c' w' as1 us ∧ xt F.outs as1 ⟨s1, [], []⟩ = some (y, [], z1)) : F.con.Ok P f where
  enters := henter
  runs := by
    intro args s nx (x : F.ins.den) (y : F.outs.den) v s1 n1 W hpre hfn hpost B c w vals hR hv
    simp only [Fs.con] at hpre hpost
    split at hpre
    · rename_i x' z hx
      cases hbk : backOk F.outs z nx with
      | false => simp [hbk] at hpre
      | true =>
        simp only [hbk, cond_true] at hpre
        obtain rfl : x' = x := Option.some.inj hpre
        rw [hx] at hpost
        simp only [Option.some.injEq, Prod.mk.injEq] at hpost
        obtain ⟨rfl, rfl, _⟩ := hpost
        simp only [backOk, Bool.and_eq_true] at hbk
        obtain ⟨⟨b1, b2⟩, b3, b4, b5⟩ := hbk
        obtain ⟨vs, I1, hH, hv0⟩ := handed hR hv hx hni
        refine (hrun x' y hfn (bs0 none w.heap.size w vs I1 _) (cf0 vs I1) w vals (hH.rel hR) hv0).mono ?_
        rintro e w' ⟨c1, us, as1, s1, z1, rfl, r1, hE, hvr, hx1⟩
        obtain ⟨c2, g1, g2, g3, _⟩ := hH.give hR r1 hE.lasts (fun i _ v hi => hE.nm i v hi) hvr hx1 b1 b2 rfl (Nat.le_of_ble_eq_true b5) b3 b4
        exact ⟨c2, _, rfl, g1, one_or_tuple g2, g3⟩
    · cases hpre
  wrote := by
    intro args s nx (x : F.ins.den) (y : F.outs.den) v s1 n1 W hpre hpost i hi
    simp only [Fs.con] at hpre hpost
    split at hpost
    · rename_i x' z hx
      simp only [Option.some.injEq, Prod.mk.injEq] at hpost
      obtain ⟨_, rfl, _, rfl⟩ := hpost
      rw [hx] at hpre
      simp only at hpre
      cases hbk : backOk F.outs z nx with
      | false => simp [hbk] at hpre
      | true =>
        simp only [backOk, Bool.and_eq_true] at hbk
        exact back_look hx hi (Nat.le_of_ble_eq_true hbk.2.2.2)
    · cases hpost

theorem xt_own {st : TypeId} {T : Ty} (s : Obs) (nx : Nat) (l : List T.den) {v : AV} (hv : rowName st v = some nx) (hnil : v ≠ .nils) : ∃ z1, xt (.cons (.own st T) .nil) [v] ⟨put s nx (.row st T l), [], []⟩ = some ((l, ()), [], z1) := by
  refine ⟨⟨put (put s nx (.row st T l)) nx .dead, [] ++ [(some nx, .row st T l)], []⟩, ?_⟩
  cases v <;> first | exact absurd rfl hnil | simp only [xt, hv, look_put, if_true, Nat.beq_refl, castL_refl]

def sortKeys {β : Type} (l : List (List UInt8 × β)) : List (List UInt8) := (l.map (·.1)).mergeSort fun x y => decide (x ≤ y)

def sortedFs (kf : FuncId) (mt st e : TypeId) (E : Ty) : Fs :=
  ⟨.cons (.fn kf (.cons (.rbox mt (.cons (.rown e (.pair .str E)) .nil)) .nil)) .nil, .cons (.own st .str) .nil, fun x => bif room x.1.1.1.length 16 then some (sortKeys x.1.1.1, ()) else none⟩

theorem ents_keys {P : Program} {k : TypeId} (hk : P.underlying k = some .string) {I : Nat → Prop} {w : World} {agg : Bool} {E : Ty} : ∀ {l : List (List UInt8 × E.den)} {es : List MapEntry}, EntR I w agg E l es →
    (∀ x ∈ es, ∃ y, WideElems.rd (H := Unit) P k (fun _ => some (.nil, [])) x = some y) ∧ (es.map (WideElems.rg (H := Unit) P k fun _ => some (.nil, []))).map (fun p => strOf p.1) = l.map (·.1)
  | [], es, h => by simp only [EntR] at h; subst h; simp
  | p :: l, es, ⟨x, r, e, ⟨h1, h2, _⟩, h5⟩ => by
    subst e
    obtain ⟨g1, g2⟩ := ents_keys hk h5
    have hkey : keyOf P k x.key = some (.string p.1) := by
      rw [h1, WideMaps.keyOf_string_mk hk (by simpa [ByteArray.size] using h2)]
    have hrd : WideElems.rd (H := Unit) P k (fun _ => some (.nil, [])) x = some (.string p.1, .nil) := by simp [WideElems.rd, hkey]
    refine ⟨fun y hy => ?_, ?_⟩
    · rcases List.mem_cons.1 hy with rfl | hy
      · exact ⟨_, hrd⟩
      · exact g1 y hy
    · simp only [List.map_cons, g2]
      simp [WideElems.rg, hrd, strOf]

theorem ent_keys_le {I : Nat → Prop} {w : World} {agg : Bool} {E : Ty} : ∀ {l : List (List UInt8 × E.den)} {es : List MapEntry}, EntR I w agg E l es → ∀ k ∈ l.map (·.1), k.length ≤ maxLen
  | [], es, h, k, hk => by cases hk
  | p :: l, es, ⟨x, r, e, ⟨_, h2, _⟩, h5⟩, k, hk => by
    rcases List.mem_cons.1 hk with rfl | hk
    · exact h2
    · exact ent_keys_le h5 k hk

theorem cat_strs {I : Nat → Prop} {w : World} : ∀ {l : List (List UInt8)}, (∀ k ∈ l, k.length ≤ maxLen) → Cat (TR I w .str) l (l.map encStr)
  | [], _ => rfl
  | k :: l, h => ⟨[encStr k], l.map encStr, rfl, ⟨rfl, h k List.mem_cons_self⟩, cat_strs fun k hk => h k (List.mem_cons_of_mem _ hk)⟩

theorem sorted_ok [Sites] {P : Program} {ρ6 ρ10 : Ren} (L6 : SlLaysZ.n6 P ρ6) (L10 : SlLaysZ.n10 P ρ10) {mt st e : TypeId} {E : Ty} (hst : ρ6.t 26 = st) (hsm : isMapTy st = false) (hmt : isBig mt = false) (hem : isMapTy e = true) (hsort : ∀ m, AnyZ.SortsIn P ρ6 Fence.wide m)
    (e6 : ∀ args w, (callFunc (ρ6.f 6) args).run P w = .ok (.enter (ρ6.f 6) args) w) (e9 : ∀ args w, (callFunc (ρ6.f 9) args).run P w = .ok (.enter (ρ6.f 9) args) w) (e10 : ∀ args w, (callFunc (ρ10.f 10) args).run P w = .ok (.enter (ρ10.f 10) args) w)
    {f kf : FuncId} (hf : ρ6.f 6 = f) (hkf : ρ10.f 10 = kf) : (sortedFs kf mt st e E).con.Ok P f := by
  subst hf hkf
  refine raw_ok e6 rfl fun x y hfn B c w vals hR hv => ?_
  obtain ⟨⟨⟨l, _⟩, _⟩, u0⟩ := x
  simp only [sortedFs] at hfn hR hv
  cases hroom : room l.length 16 with
  | false => simp [hroom] at hfn
  | true =>
    simp only [hroom, cond_true] at hfn
    obtain rfl := Option.some.inj hfn
    obtain ⟨hb16, hbl⟩ := room_ok hroom
    -- the closure, its box, the map
    simp only [bld, List.append_nil, List.nil_append, List.cons_append, VRs, VR] at hv
    obtain ⟨u, us', rfl, ⟨us, vs, rfl, h1, h2⟩, h3⟩ := hv
    subst h1 h3
    obtain ⟨u1, us1, rfl, ⟨b0, hn0, rfl⟩, rfl⟩ := h2
    have hbox := hR.ob 0 _ (by simp only [bld, List.append_nil, List.nil_append, List.cons_append]; rfl)
    obtain ⟨b0', us0, hn0', hcell, hus0⟩ := hbox
    have hbb : b0' = b0 := by
      rw [hn0] at hn0'
      simp only [Option.some.injEq, Value.pointer.injEq, Addr.mk.injEq, and_true] at hn0'
      exact hn0'.symm
    subst hbb
    rw [boxObj_small hmt] at hcell
    have hrow := hR.ob 1 _ (by simp only [bld, List.append_nil, List.nil_append, List.cons_append]; rfl)
    have hrow' : ObR c w 1 (.row e (.pair .str E) l) := hrow
    obtain ⟨v1, usr, hn1, hra, hcat⟩ := hrow
    have hmp : ∃ bm, us0 = [.map (some bm)] ∧ c.nm 1 = some (.map (some bm)) := by
      simp only [mkRow, hem, cond_true, VRs, VR] at hus0
      obtain ⟨u, us', rfl, ⟨b, h4, rfl⟩, rfl⟩ := hus0
      exact ⟨b, rfl, h4⟩
    obtain ⟨bm, rfl, hnm⟩ := hmp
    obtain ⟨es, clock, hes, hstamp, hE, _⟩ := map_ents hrow' hnm
    have hkt : P.underlying (ρ10.t 26) = some .string := L10.t26
    obtain ⟨k1, k2⟩ := ents_keys hkt hE
    have hsz : es.size = l.length := by simpa using hE.cat.2.2.2
    have hown : w.ownsMap (H := Unit) P (ρ10.t 26) (fun _ => some (.nil, [])) bm es.size (.map ((es.toList.map (WideElems.rg P (ρ10.t 26) fun _ => some (.nil, []))).foldr DataW.insert [])) :=
      ⟨es, clock, hes, ⟨by rw [hsz]; unfold maxLen; omega, hstamp, k1⟩, Nat.le_refl _, rfl⟩
    have hlen : Maps.size (H := Unit) (.map ((es.toList.map (WideElems.rg P (ρ10.t 26) fun _ => some (.nil, []))).foldr DataW.insert [])) = l.length := by
      rw [Maps.size_eq, (WideShapes.sorted_perm _).length_eq]
      simp [hsz]
    have hlt : b0' < w.heap.size := (Array.getElem?_eq_some_iff.1 hcell).1
    have hseq := AnyZ.keys_gives (ρ := ρ10) L10 Fence.wide 2 trivial rfl (by omega) b0' bm es.size _ (R := fun _ => some (.nil, [])) w hlt (by rw [cell_of_row w b0' 0 _ _ _ hcell]; rfl) hown
    have hcall := AnyZ.sorted_in (ρ := ρ6) L6 Fence.wide 5 trivial trivial trivial trivial rfl (by omega) (hsort _) e9 (ρ10.f 10) #[.pointer (some ⟨b0', 0, none⟩)] trivial e10 _ _ (by rw [hlen]; unfold maxLen; omega) (by rw [hlen]; exact hb16) w hseq
    refine (callsIn_wide.1 hcall).mono ?_
    rintro e' w' ⟨v, ss, rfl, hperm, hrow2, hnil, hbelow⟩
    have hss : ss.mergeSort (fun x y => decide (x ≤ y)) = sortKeys l := by
      have h1 : ss.Perm (l.map (·.1)) := by
        refine hperm.trans ?_
        rw [← k2]
        exact (WideShapes.sorted_perm _).map _
      exact mergeSort_of_perm h1
    have hslen : ss.length = (sortKeys l).length := by rw [← hss]; exact (List.mergeSort_perm _ _).length_eq.symm
    rw [hss, hslen, hst] at hrow2
    have hkl : ∀ k ∈ sortKeys l, k.length ≤ maxLen := fun k hk => by
      have hk' : k ∈ l.map (·.1) := (List.mergeSort_perm _ _).mem_iff.1 hk
      exact ent_keys_le hE k hk'
    have hRow : RowAt w' st Ty.str.size v (sortKeys l).length ((sortKeys l).map encStr) := by
      refine ⟨by simp [Ty.size], ?_⟩
      rcases hrow2.2 with ⟨rfl, hz⟩ | ⟨g, cap, cur, rfl, hbase, hg, r1, r2, r3, r4⟩
      · exact .inl ⟨hz, none, rfl⟩
      · rcases Nat.eq_zero_or_pos cap with h0 | h0
        · left
          have : (sortKeys l).length = 0 := by omega
          exact ⟨this, _, by rw [this, h0]⟩
        · exact .inr (.inl ⟨g, cap, cur, rfl, h0, r1, r2, hg, r3, by simpa [Ty.size] using r4⟩)
    have hfresh : ∀ b, blockOf v = some b → w.heap.size ≤ b := fun b hb => by
      rcases hrow2.2 with ⟨rfl, hz⟩ | ⟨g, cap, cur, rfl, hbase, hg, r1, r2, r3, r4⟩
      · cases hb
      · simp only [blockOf] at hb
        split at hb
        · cases hb
        · simp only [Option.some.injEq] at hb; omega
    have hslice : isSlice v = true := by
      rcases hrow2.2 with ⟨rfl, hz⟩ | ⟨g, cap, cur, rfl, _⟩ <;> rfl
    obtain ⟨c', g1, g2, g3⟩ := newRow_does (nx := 2) (el := st) (t := .str) (l := sortKeys l) (v := v) (us := (sortKeys l).map encStr) (w' := w') hR (by simp only [bld, List.append_nil, List.nil_append, List.cons_append]; rfl)
      (fun b hb => hbelow.block b hb) hbelow.os hbelow.tape hbelow.output hbelow.size hRow hfresh (cat_strs hkl)
    obtain ⟨z1, hz1⟩ := xt_own (st := st) (T := .str) ((bld (fun k => k) (Sh.cons (.fn (ρ10.f 10) (.cons (.rbox mt (.cons (.rown e (.pair .str E)) .nil)) .nil)) .nil) (((l, ()), ()), ()) 0).2.1) 2 (sortKeys l) (v := .own 2) (by simp [rowName, hsm]) (fun h => by cases h)
    refine ⟨c', [v], [.own 2], _, z1, rfl, g1, g3, ?_, hz1⟩
    simp only [VRs, VR]
    exact ⟨v, [], rfl, ⟨g2, hslice⟩, rfl⟩

def cloneFs (e : TypeId) (E : Ty) : Fs := ⟨.cons (.rown e (.pair .str E)) .nil, .cons (.own e (.pair .str E)) .nil, fun x => some (x.1, ())⟩

theorem clone_ok [Sites] {P : Program} {ρ : Ren} (L : SlLaysW.n5 P ρ) {e : TypeId} {E : Ty} (hem : isMapTy e = true) (e5 : ∀ args w, (callFunc (ρ.f 5) args).run P w = .ok (.enter (ρ.f 5) args) w) {f : FuncId} (hf : ρ.f 5 = f) : (cloneFs e E).con.Ok P f := by
  subst hf
  refine raw_ok e5 rfl fun x y hfn B c w vals hR hv => ?_
  obtain ⟨l, u0⟩ := x
  simp only [cloneFs] at hfn hR hv
  obtain rfl := Option.some.inj hfn
  simp only [bld, List.append_nil, List.nil_append, List.cons_append, mkRow, hem, cond_true, VRs, VR] at hv
  obtain ⟨u, us', rfl, ⟨b, hn, rfl⟩, rfl⟩ := hv
  have hrow : ObR c w 0 (.row e (.pair .str E) l) := (hR.ob 0 (.rrow e (.pair .str E) l) (by simp only [bld, List.append_nil, List.nil_append, List.cons_append]; rfl) :)
  obtain ⟨es, clock, hes, hst, hE, _⟩ := map_ents hrow hn
  refine (AnyW.maps_Clone (ρ := ρ) L b es clock w hes).mono ?_
  rintro e' w' ⟨rfl, rfl⟩
  obtain ⟨g1, g2, g3, g4⟩ := hE.cat
  obtain ⟨c', k1, k2, k3⟩ := newRow_does (nx := 1) (el := e) (t := .pair .str E) (l := l) (v := .map (some w.heap.size)) (us := es.toList.flatMap fun x => x.key :: x.val.cells.toList) (w' := w.alloc (.map es clock)) hR (by simp only [bld, List.append_nil, List.nil_append, List.cons_append]; rfl)
    (fun b hb => Below.heap_alloc w _ b hb) rfl rfl rfl (by simp)
    ⟨g1.length TR_len_fun, .inr (.inr ⟨w.heap.size, es, clock, rfl, heap_alloc_new w _, by simpa using g4, ⟨rfl, g2, g3, hst⟩, hem⟩)⟩
    (fun b hb => by simp only [blockOf, Option.some.injEq] at hb; omega) g1
  obtain ⟨z1, hz1⟩ := xt_own (st := e) (T := .pair .str E) ((bld (fun k => k) (Sh.cons (.rown e (.pair .str E)) .nil) (l, ()) 0).2.1) 1 l (v := .mp 1) (by simp [rowName, hem]) (fun h => by cases h)
  refine ⟨c', [.map (some w.heap.size)], [.mp 1], _, z1, rfl, k1, k3, ?_, hz1⟩
  simp only [VRs, VR]
  exact ⟨_, [], rfl, ⟨_, k2, rfl⟩, rfl⟩
end Go.Hay
/- Steps of plain laws: what the words of printed functions come to. Conditions: none. -/
set_option linter.unusedVariables false
set_option linter.unusedSimpArgs false
namespace Go.Hay
section
variable {α β : Type}

theorem go_t {c : Bool} {a b y : Option α} (hc : c = true) (h : a = y) : (bif c then a else b) = y := by rw [hc]; exact h
theorem go_f {c : Bool} {a b y : Option α} (hc : c = false) (h : b = y) : (bif c then a else b) = y := by rw [hc]; exact h
theorem go_o {x : Option α} {v : α} {f : α → Option β} {y : Option β} (hx : x = some v) (h : f v = y) : obind x f = y := by rw [hx]; exact h
theorem go_d {p : Prop} [Decidable p] {a b y : Option α} (hc : p) (h : a = y) : (bif decide p then a else b) = y := by rw [decide_eq_true hc]; exact h
theorem go_n {p : Prop} [Decidable p] {a b y : Option α} (hc : ¬ p) (h : b = y) : (bif decide p then a else b) = y := by rw [decide_eq_false hc]; exact h
theorem go_nd {p : Prop} [Decidable p] {a b y : Option α} (hc : p) (h : b = y) : (bif !decide p then a else b) = y := by rw [decide_eq_true hc]; exact h
theorem go_nn {p : Prop} [Decidable p] {a b y : Option α} (hc : ¬ p) (h : a = y) : (bif !decide p then a else b) = y := by rw [decide_eq_false hc]; exact h
theorem go_p {b : Bool} {x y z : Option α} (h1 : y = z) (h2 : b = true → x = z) : pick2 b x y = z := by
  unfold pick2
  cases b with
  | false => exact h1
  | true => simp only [cond_true]; rw [h1, h2 rfl]; simp

theorem room_t {n b : Nat} (h : n * b ≤ 140737488355328) (h2 : n ≤ 140737488355328) : room n b = true := by simp [room, h, h2]
theorem inB_t {k : Int} {n : Nat} (h1 : 0 ≤ k) (h2 : k < n) : inB k n = true := by simp [inB, h1, h2]
theorem inB_nat {k n : Nat} (h2 : k < n) : inB (k : Int) n = true := inB_t (Int.natCast_nonneg k) (by omega)
theorem okB_t {a b : Int} {n : Nat} (h1 : 0 ≤ a) (h2 : a ≤ b) (h3 : b ≤ n) : okB a b n = true := by simp [okB, h1, h2, h3]

theorem wrap_i64 {x : Int} (h1 : -9223372036854775808 ≤ x) (h2 : x < 9223372036854775808) : IntKind.i64.wrap x = x := by rw [IntKind.wrap_i64]; omega
theorem w_u64 (n : Int) : IntKind.u64.wrap n = n % 18446744073709551616 := by simp [IntKind.wrap, IntKind.bits, IntKind.signed]
theorem w_u32 (n : Int) : IntKind.u32.wrap n = n % 4294967296 := by simp [IntKind.wrap, IntKind.bits, IntKind.signed]
theorem w_u8 (n : Int) : IntKind.u8.wrap n = n % 256 := by simp [IntKind.wrap, IntKind.bits, IntKind.signed]
theorem wrap_nat (k : Nat) (h : k < 9223372036854775808) : IntKind.i64.wrap (k : Int) = k := wrap_i64 (by omega) (by omega)
theorem wrap_succ (k : Nat) (h : k < 9223372036854775807) : IntKind.i64.wrap ((k : Int) + 1) = ((k + 1 : Nat) : Int) := by rw [wrap_i64] <;> omega


theorem loop_find_from {β γ : Type} {go : Nat → Int → Option (β ⊕ γ)} {n : Nat} {p : Nat → Bool} {v : Nat → β} {e : γ} (hn : n ≤ 4611686018427387904) (hend : ∀ fuel, go (fuel + 1) (n : Int) = some (.inr e))
    (hstep : ∀ i < n, ∀ fuel, (∀ j < i, p j = false) → go (fuel + 1) (i : Int) = if p i = true then some (.inl (v i)) else go fuel (IntKind.i64.wrap ((i : Int) + 1))) :
    ∀ d i fuel, n = i + d → d < fuel → (∀ j < i, p j = false) → (∃ j < n, p j = true ∧ (∀ m < j, p m = false) ∧ go fuel (i : Int) = some (.inl (v j))) ∨ ((∀ j < n, p j = false) ∧ go fuel (i : Int) = some (.inr e))
  | _, _, 0, _, h, _ => absurd h (Nat.not_lt_zero _)
  | 0, i, fuel + 1, e1, hf, hp => by
    have : i = n := by omega
    subst this
    exact .inr ⟨hp, hend _⟩
  | d + 1, i, fuel + 1, e1, hf, hp => by
    rw [hstep i (by omega) fuel hp]
    cases h : p i with
    | true => exact .inl ⟨i, by omega, h, hp, rfl⟩
    | false =>
      rw [if_neg (by decide), wrap_succ i (by omega)]
      exact loop_find_from hn hend hstep d (i + 1) fuel (by omega) (by omega) fun j hj => by
        rcases Nat.lt_succ_iff_lt_or_eq.1 hj with h1 | rfl
        · exact hp j h1
        · exact h
theorem loop_find {β γ : Type} {go : Nat → Int → Option (β ⊕ γ)} {n : Nat} {p : Nat → Bool} {v : Nat → β} {e : γ} (hn : n ≤ 4611686018427387904) (hend : ∀ fuel, go (fuel + 1) (n : Int) = some (.inr e))
    (hstep : ∀ i < n, ∀ fuel, (∀ j < i, p j = false) → go (fuel + 1) (i : Int) = if p i = true then some (.inl (v i)) else go fuel (IntKind.i64.wrap ((i : Int) + 1))) {N : Nat} (hN : n < N) :
    (∃ j < n, p j = true ∧ (∀ m < j, p m = false) ∧ go N 0 = some (.inl (v j))) ∨ ((∀ j < n, p j = false) ∧ go N 0 = some (.inr e)) :=
  loop_find_from hn hend hstep n 0 N (by omega) hN fun j hj => absurd hj (Nat.not_lt_zero _)
theorem loop_turn_from {β γ : Type} {go : Nat → β → Int → Option γ} {n : Nat} {fin : β → γ} (Q : Nat → β → Prop) (hn : n ≤ 4611686018427387904) (hend : ∀ fuel b, Q n b → go (fuel + 1) b (n : Int) = some (fin b))
    (hstep : ∀ i < n, ∀ b, Q i b → ∃ b', Q (i + 1) b' ∧ ∀ fuel, go (fuel + 1) b (i : Int) = go fuel b' (IntKind.i64.wrap ((i : Int) + 1))) :
    ∀ d i fuel b, n = i + d → d < fuel → Q i b → ∃ b', Q n b' ∧ go fuel b (i : Int) = some (fin b')
  | _, _, 0, _, _, h, _ => absurd h (Nat.not_lt_zero _)
  | 0, i, fuel + 1, b, e1, hf, hq => by
    have : i = n := by omega
    subst this
    exact ⟨b, hq, hend _ _ hq⟩
  | d + 1, i, fuel + 1, b, e1, hf, hq => by
    obtain ⟨b', h1, h2⟩ := hstep i (by omega) b hq
    rw [h2 fuel, wrap_succ i (by omega)]
    exact loop_turn_from Q hn hend hstep d (i + 1) fuel b' (by omega) (by omega) h1
theorem loop_turn {β γ : Type} {go : Nat → β → Int → Option γ} {n : Nat} {fin : β → γ} (Q : Nat → β → Prop) (hn : n ≤ 4611686018427387904) (hend : ∀ fuel b, Q n b → go (fuel + 1) b (n : Int) = some (fin b))
    (hstep : ∀ i < n, ∀ b, Q i b → ∃ b', Q (i + 1) b' ∧ ∀ fuel, go (fuel + 1) b (i : Int) = go fuel b' (IntKind.i64.wrap ((i : Int) + 1))) {N : Nat} (hN : n < N) {b : β} (h0 : Q 0 b) : ∃ b', Q n b' ∧ go N b 0 = some (fin b') :=
  loop_turn_from Q hn hend hstep n 0 N b (by omega) hN h0

theorem getD_get {α : Type} {l : List α} {i : Nat} (h : i < l.length) (d : α) : l.getD i d = l[i] := by rw [List.getD_eq_getElem?_getD, List.getElem?_eq_getElem h]; rfl
theorem take_succ' {α : Type} {l : List α} {i : Nat} (h : i < l.length) : l.take (i + 1) = l.take i ++ [l[i]] := by rw [List.take_succ_eq_append_getElem h]

theorem blk_mem {T : Ty} {l : List T.den} {x : T.den} (h : x ∈ l) : blk T x + 1 ≤ blk (.slice T) l := by
  have : ∀ {l : List T.den}, x ∈ l → blk T x ≤ (l.map (blk T)).sum := by
    intro l
    induction l with
    | nil => intro h; cases h
    | cons a l ih =>
      intro h
      simp only [List.map_cons, List.sum_cons]
      rcases List.mem_cons.1 h with rfl | h
      · omega
      · have := ih h; omega
  have := this h
  simp only [blk]; omega
theorem blk_len {T : Ty} (hT : ∀ x : T.den, 1 ≤ blk T x) (l : List T.den) : l.length + 1 ≤ blk (.slice T) l := by
  have : l.length ≤ (l.map (blk T)).sum := by
    induction l with
    | nil => simp
    | cons a l ih =>
      have := hT a
      simp only [List.map_cons, List.sum_cons, List.length_cons]; omega
  simp only [blk]; omega
theorem blk_bytes (l : List UInt8) : l.length + 1 ≤ blk (.slice .byte) l := blk_len (T := .byte) (fun _ => Nat.le_refl 1) l
end
end Go.Hay
/- A disk as a list of files, by rising names: what its calls come to, in plain Lean. Conditions: none. -/
set_option linter.unusedVariables false
set_option linter.unusedSimpArgs false
namespace Go.Hay

abbrev DNm := List UInt8
abbrev DFl := List UInt8 × Int
abbrev DFs := List (List UInt8 × List UInt8 × Int)
abbrev f0 : DFl := (([] : List UInt8), (0 : Int))

def rm (k : DNm) (l : DFs) : DFs := l.filter fun p => !decide (p.1 = k)
def sumL : DFs → Nat
  | [] => 0
  | p :: l => p.2.1.length + sumL l
def KeysN (l : DFs) : Prop := l.Pairwise fun a b => a.1 ≠ b.1
def SortedF (l : DFs) : Prop := l.Pairwise fun a b => a.1 < b.1

theorem lt_ne {a b : DNm} (h : a < b) : a ≠ b := fun e => by subst e; exact List.lt_irrefl a h
theorem SortedF.keys {l : DFs} (h : SortedF l) : KeysN l := h.imp fun h => lt_ne h
theorem KeysN.perm {l m : DFs} (h : KeysN l) (hp : l.Perm m) : KeysN m := (hp.pairwise_iff (R := fun a b : DNm × DFl => a.1 ≠ b.1) fun {a b} h => fun e => h e.symm).1 h

theorem has_iff {l : DFs} {k : DNm} : mapHas l k = true ↔ ∃ v, (k, v) ∈ l := by
  unfold mapHas
  rw [List.any_eq_true]
  constructor
  · rintro ⟨p, h1, h2⟩
    have := of_decide_eq_true h2
    subst this
    exact ⟨p.2, h1⟩
  · rintro ⟨v, h⟩
    exact ⟨_, h, decide_eq_true rfl⟩
theorem get_mem {l : DFs} (hn : KeysN l) {k : DNm} {v : DFl} (h : (k, v) ∈ l) (d : DFl) : mapGet l k d = v := by
  induction l with
  | nil => cases h
  | cons p l ih =>
    obtain ⟨h1, h2⟩ := List.pairwise_cons.1 hn
    rcases List.mem_cons.1 h with e | h
    · subst e
      simp [mapGet]
    · have hne : ¬ p.1 = k := h1 _ h
      have := ih h2 h
      simp only [mapGet, List.find?_cons, hne, decide_false] at *
      exact this
theorem get_no {l : DFs} {k : DNm} (h : mapHas l k = false) (d : DFl) : mapGet l k d = d := by
  induction l with
  | nil => rfl
  | cons p l ih =>
    simp only [mapHas, List.any_cons, Bool.or_eq_false_iff] at h
    have := ih h.2
    simp only [mapGet, List.find?_cons, h.1] at *
    exact this
theorem has_get {l : DFs} {k : DNm} (hn : KeysN l) (h : mapHas l k = true) (d : DFl) : (k, mapGet l k d) ∈ l := by
  obtain ⟨v, hv⟩ := has_iff.1 h
  rw [get_mem hn hv]
  exact hv
theorem perm_has {l m : DFs} (h : l.Perm m) (k : DNm) : mapHas l k = mapHas m k := by
  rw [Bool.eq_iff_iff, has_iff, has_iff]
  exact ⟨fun ⟨v, hv⟩ => ⟨v, h.mem_iff.1 hv⟩, fun ⟨v, hv⟩ => ⟨v, h.mem_iff.2 hv⟩⟩
theorem perm_get {l m : DFs} (h : l.Perm m) (hn : KeysN l) (k : DNm) (d : DFl) : mapGet l k d = mapGet m k d := by
  cases hh : mapHas l k with
  | true => exact get_mem hn (h.mem_iff.2 (has_get (hn.perm h) (by rw [← perm_has h]; exact hh) d)) d
  | false => rw [get_no hh, get_no (by rw [← perm_has h]; exact hh)]

theorem rm_cons_self {p : DNm × DFl} {l : DFs} : rm p.1 (p :: l) = rm p.1 l := by simp [rm]
theorem rm_cons_ne {p : DNm × DFl} {l : DFs} {k : DNm} (h : ¬ p.1 = k) : rm k (p :: l) = p :: rm k l := by simp [rm, h]
theorem rm_no {l : DFs} {k : DNm} (h : ∀ p ∈ l, p.1 ≠ k) : rm k l = l := by
  unfold rm
  exact List.filter_eq_self.2 fun p hp => by simp [h p hp]
theorem rm_mem {l : DFs} {k : DNm} {p : DNm × DFl} : p ∈ rm k l ↔ p ∈ l ∧ p.1 ≠ k := by simp [rm, List.mem_filter]
theorem rm_perm {l m : DFs} (h : l.Perm m) (k : DNm) : (rm k l).Perm (rm k m) := h.filter _
theorem rm_sorted {l : DFs} (h : SortedF l) (k : DNm) : SortedF (rm k l) := h.sublist List.filter_sublist
theorem rm_len (l : DFs) (k : DNm) : (rm k l).length ≤ l.length := List.length_filter_le _ _
theorem del_rm {l : DFs} (h : KeysN l) (k : DNm) : mapDel l k = rm k l := by
  induction l with
  | nil => rfl
  | cons p l ih =>
    obtain ⟨h1, h2⟩ := List.pairwise_cons.1 h
    by_cases e : p.1 = k
    · subst e
      rw [rm_cons_self, rm_no fun q hq => (h1 q hq).symm]
      simp [mapDel]
    · rw [rm_cons_ne e, ← ih h2]
      simp [mapDel, e]
theorem put_perm {l : DFs} (h : KeysN l) (k : DNm) (v : DFl) : (mapPut l k v).Perm ((k, v) :: rm k l) := by
  induction l with
  | nil => exact List.Perm.refl _
  | cons p l ih =>
    obtain ⟨h1, h2⟩ := List.pairwise_cons.1 h
    by_cases e : p.1 = k
    · subst e
      rw [rm_cons_self, rm_no fun q hq => (h1 q hq).symm]
      simp [mapPut]
    · rw [rm_cons_ne e]
      simp only [mapPut, e, decide_false, cond_false]
      exact ((ih h2).cons p).trans (.swap _ _ _)
theorem put_new {l : DFs} {k : DNm} (h : mapHas l k = false) (v : DFl) : mapPut l k v = l ++ [(k, v)] := by
  induction l with
  | nil => rfl
  | cons p l ih =>
    simp only [mapHas, List.any_cons, Bool.or_eq_false_iff] at h
    simp only [mapPut, h.1, cond_false, List.cons_append]
    rw [ih h.2]

def insF (f : DNm × DFl) : DFs → DFs
  | [] => [f]
  | g :: r => if f.1 ≤ g.1 then f :: rm f.1 (g :: r) else g :: insF f r
theorem insF_perm (f : DNm × DFl) : ∀ l : DFs, (insF f l).Perm (f :: rm f.1 l)
  | [] => List.Perm.refl _
  | g :: r => by
    unfold insF
    split
    · exact List.Perm.refl _
    · rename_i h
      have hne : ¬ g.1 = f.1 := fun e => h (by rw [e]; exact List.le_refl _)
      rw [rm_cons_ne hne]
      exact ((insF_perm f r).cons g).trans (.swap _ _ _)
theorem insF_sorted {f : DNm × DFl} : ∀ {l : DFs}, SortedF l → SortedF (insF f l)
  | [], _ => List.pairwise_singleton _ _
  | g :: r, h => by
    obtain ⟨h1, h2⟩ := List.pairwise_cons.1 h
    unfold insF
    split
    · rename_i hle
      refine List.pairwise_cons.2 ⟨fun q hq => ?_, rm_sorted h _⟩
      obtain ⟨q1, q2⟩ := rm_mem.1 hq
      have hle2 : f.1 ≤ q.1 := by
        rcases List.mem_cons.1 q1 with rfl | q1
        · exact hle
        · exact List.le_trans hle (List.le_of_lt (h1 q q1))
      exact List.not_le.1 fun h => q2 (List.le_antisymm h hle2)
    · rename_i hnl
      have hlt : g.1 < f.1 := List.not_le.1 hnl
      refine List.pairwise_cons.2 ⟨fun q hq => ?_, insF_sorted h2⟩
      rcases List.mem_cons.1 ((insF_perm f r).mem_iff.1 hq) with rfl | hq
      · exact hlt
      · exact h1 q (rm_mem.1 hq).1

theorem insF_after {f : DNm × DFl} : ∀ {a b : DFs}, (∀ p ∈ a, p.1 < f.1) → insF f (a ++ b) = a ++ insF f b
  | [], _, _ => rfl
  | g :: a, b, h => by
    have h1 : ¬ f.1 ≤ g.1 := List.not_le.2 (h g List.mem_cons_self)
    rw [List.cons_append, insF, if_neg h1, insF_after fun p hp => h p (List.mem_cons_of_mem _ hp)]
    rfl

theorem sumL_perm {l m : DFs} (h : l.Perm m) : sumL l = sumL m := by
  induction h with
  | nil => rfl
  | cons p _ ih => simp only [sumL, ih]
  | swap p q l => simp only [sumL]; omega
  | trans _ _ h1 h2 => exact h1.trans h2
theorem sumL_rm {l : DFs} (h : KeysN l) (k : DNm) : sumL (rm k l) + (mapGet l k f0).1.length = sumL l := by
  induction l with
  | nil => rfl
  | cons p l ih =>
    obtain ⟨h1, h2⟩ := List.pairwise_cons.1 h
    by_cases e : p.1 = k
    · subst e
      rw [rm_cons_self, rm_no fun q hq => (h1 q hq).symm, get_mem h List.mem_cons_self]
      simp only [sumL]; omega
    · rw [rm_cons_ne e]
      have := ih h2
      have hg : mapGet (p :: l) k f0 = mapGet l k f0 := by simp only [mapGet, List.find?_cons, e, decide_false]
      rw [hg]
      simp only [sumL]; omega
theorem sumL_app (l m : DFs) : sumL (l ++ m) = sumL l + sumL m := by
  induction l with
  | nil => simp [sumL]
  | cons p l ih => simp only [List.cons_append, sumL, ih]; omega
theorem sumL_mem {l : DFs} {p : DNm × DFl} (h : p ∈ l) : p.2.1.length ≤ sumL l := by
  induction l with
  | nil => cases h
  | cons q l ih =>
    rcases List.mem_cons.1 h with rfl | h
    · simp only [sumL]; omega
    · have := ih h; simp only [sumL]; omega
theorem sumL_get {l : DFs} (k : DNm) : (mapGet l k f0).1.length ≤ sumL l := by
  unfold mapGet
  split
  · rename_i p h; exact sumL_mem (List.mem_of_find?_eq_some h)
  · exact Nat.zero_le _

theorem sortKeys_perm {l m : DFs} (h : l.Perm m) (hs : SortedF m) : sortKeys l = m.map (·.1) := by
  unfold sortKeys
  have h1 : (l.map (·.1)).mergeSort (fun x y => decide (x ≤ y)) = (m.map (·.1)).mergeSort (fun x y => decide (x ≤ y)) := mergeSort_of_perm (h.map _)
  rw [h1]
  refine List.mergeSort_of_pairwise ?_
  rw [List.pairwise_map]
  exact hs.imp fun h => decide_eq_true (List.le_of_lt h)
end Go.Hay
/- A disk's calls as the program does them, and as the document says, in plain Lean: they answer alike. Conditions: none. -/
set_option linter.unusedVariables false
set_option linter.unusedSimpArgs false
namespace Go.Hay

structure DD where
  room : Int
  used : Int
  files : DFs
  steps : Int
  left : Int
  dead : Bool
structure RS where
  room : Int
  steps : Int
  files : DFs
  armed : Bool
  dead : Bool
  left : Int
@[reducible] def DD.t (d : DD) : Int × Int × DFs × Int × Int × Bool × Unit := (d.room, d.used, d.files, d.steps, d.left, d.dead, ())
@[reducible] def RS.t (r : RS) : Int × Int × DFs × Bool × Bool × Int := (r.room, r.steps, r.files, r.armed, r.dead, r.left)
abbrev wr (n : Int) : Int := IntKind.i64.wrap n

def nameOk (s : DNm) : Bool := s.all (fun c => decide (33 ≤ c.toNat) && decide (c.toNat ≤ 126)) && (decide (1 ≤ s.length) && decide (s.length ≤ 32))

def dNew (n : Int) : DD := ⟨max n 0, 0, [], 0, -1, false⟩
def rNew (n : Int) : RS := ⟨max n 0, 0, [], false, false, 0⟩
def dStep (d : DD) : DD × Bool :=
  bif decide (d.left = -1) then ({ d with steps := wr (d.steps + 1) }, false)
  else bif decide (d.left = 0) then ({ d with steps := wr (d.steps + 1), dead := true }, true)
  else ({ d with steps := wr (d.steps + 1), left := wr (d.left - 1) }, false)
def rStep (r : RS) : RS × Bool :=
  bif r.armed then
    bif decide (r.left = 0) then ({ r with steps := wr (r.steps + 1), dead := true }, true)
    else ({ r with steps := wr (r.steps + 1), left := wr (r.left - 1) }, false)
  else ({ r with steps := wr (r.steps + 1), left := wr (r.left - 1) }, false)
def dGet (d : DD) (k : DNm) : DFl := mapGet d.files k f0
def rGet (r : RS) (k : DNm) : DFl := mapGet r.files k f0
def dLay (d : DD) (name : DNm) (f : DFl) : DD := { d with used := wr (d.used + wr ((f.1.length : Int) - ((dGet d name).1.length : Int))), files := mapPut d.files name f }
def dTake (d : DD) (name : DNm) : DD := { d with used := wr (d.used - ((dGet d name).1.length : Int)), files := mapDel d.files name }
def rFree (r : RS) : Int := r.room - (sumL r.files : Int)

def dAppend (d : DD) (name : DNm) (b : List UInt8) : DD × Int :=
  bif d.dead then (d, 44) else bif !nameOk name then (d, 40) else bif decide ((b.length : Int) > wr (d.room - d.used)) then (d, 41)
  else ((dStep (dLay d name ((dGet d name).1 ++ b, (dGet d name).2))).1, bif (dStep (dLay d name ((dGet d name).1 ++ b, (dGet d name).2))).2 then 44 else 0)
def rWith (r : RS) (name : DNm) (f : DFl) : RS := { r with files := insF (name, f) r.files }
def rAppend (r : RS) (name : DNm) (b : List UInt8) : RS × Int :=
  bif r.dead then (r, 44) else bif !nameOk name then (r, 40) else bif decide ((b.length : Int) > rFree r) then (r, 41)
  else ((rStep (rWith r name ((rGet r name).1 ++ b, (rGet r name).2))).1, bif (rStep (rWith r name ((rGet r name).1 ++ b, (rGet r name).2))).2 then 44 else 0)

def dDo (why : DFl → Int) (done : DFl → DD → DD) (d : DD) (name : DNm) : DD × Int :=
  bif d.dead then (d, 44) else bif !mapHas d.files name then (d, 42) else bif !decide (why (dGet d name) = 0) then (d, why (dGet d name))
  else bif (dStep d).2 then ((dStep d).1, 44) else (done (dGet d name) (dStep d).1, 0)
def rDo (why : DFl → Int) (done : DFl → DFs → DFs) (r : RS) (name : DNm) : RS × Int :=
  bif r.dead then (r, 44) else bif !mapHas r.files name then (r, 42) else bif !decide (why (rGet r name) = 0) then (r, why (rGet r name))
  else bif (rStep r).2 then ((rStep r).1, 44) else ({ (rStep r).1 with files := done (rGet r name) r.files }, 0)
def whyT (n : Int) (f : DFl) : Int := bif decide (n < 0) || decide (n > (f.1.length : Int)) then 43 else 0
def whyR (to : DNm) (f : DFl) : Int := bif nameOk to then 0 else 40
def dSync (d : DD) (name : DNm) : DD × Int := dDo (fun _ => 0) (fun f d => dLay d name (f.1, (f.1.length : Int))) d name
def rSync (r : RS) (name : DNm) : RS × Int := rDo (fun _ => 0) (fun f l => insF (name, f.1, (f.1.length : Int)) l) r name
def dTrunc (d : DD) (name : DNm) (n : Int) : DD × Int := dDo (whyT n) (fun f d => dLay d name (f.1.take n.toNat, min f.2 n)) d name
def rTrunc (r : RS) (name : DNm) (n : Int) : RS × Int := rDo (whyT n) (fun f l => insF (name, f.1.take n.toNat, min f.2 n) l) r name
def dRemove (d : DD) (name : DNm) : DD × Int := dDo (fun _ => 0) (fun _ d => dTake d name) d name
def rRemove (r : RS) (name : DNm) : RS × Int := rDo (fun _ => 0) (fun _ l => rm name l) r name
def dArm (d : DD) (n : Int) : DD := bif !d.dead then { d with left := max n (-1) } else d
def rArm (r : RS) (n : Int) : RS := bif !r.dead then { r with armed := decide (n ≥ 0), left := n } else r
def turned (c : UInt8) (bit : Int) : UInt8 := u8 (IntKind.u8.wrap ((BitVec.ofInt 8 (c.toNat : Int) ^^^ BitVec.ofInt 8 (IntKind.u8.wrap ((1 : Int) * (2 ^ (min bit.toNat 8))))).toNat : Int))
def found (f : DFl) (keep : List Int) : Int := f.2 + min (max (keep.getD 0 0) 0) ((f.1.length : Int) - f.2)
def crashF : DFs → List Int → DFs
  | [], _ => []
  | p :: l, keep => (p.1, p.2.1.take (found p.2 keep).toNat, found p.2 keep) :: crashF l (keep.drop 1)
def rCrash (r : RS) (keep : List Int) : RS := ⟨r.room, 0, crashF r.files keep, false, false, 0⟩
def dCrash (d : DD) (l : DFs) (keep : List Int) : DD := ⟨d.room, (sumL (crashF l keep) : Int), crashF l keep, 0, -1, false⟩

structure FI (k : Nat) (room used : Int) (files l : DFs) : Prop where
  perm : files.Perm l
  sorted : SortedF l
  used : used = (sumL l : Int)
  last : ∀ p ∈ l, 0 ≤ p.2.2 ∧ p.2.2 ≤ (p.2.1.length : Int)
  fits : (sumL l : Int) ≤ room
  room : room < 9223372036854775808
  cnt : l.length ≤ k
  sum : sumL l ≤ k
  small : k ≤ 2199023255552

structure Inv (k : Nat) (d : DD) (r : RS) : Prop where
  room : d.room = r.room
  steps : d.steps = r.steps
  dead : d.dead = r.dead
  left : d.left = bif r.armed then r.left else -1
  pos : r.armed = true → 0 ≤ r.left ∧ r.left < 9223372036854775808
  fi : FI k d.room d.used d.files r.files
  st : 0 ≤ r.steps ∧ r.steps ≤ k

section
variable {k k' : Nat} {room used : Int} {files l : DFs}

theorem FI.keysL (h : FI k room used files l) : KeysN l := h.sorted.keys
theorem FI.keys (h : FI k room used files l) : KeysN files := h.keysL.perm h.perm.symm
theorem FI.get (h : FI k room used files l) (name : DNm) : mapGet files name f0 = mapGet l name f0 := perm_get h.perm h.keys name f0
theorem FI.has (h : FI k room used files l) (name : DNm) : mapHas files name = mapHas l name := perm_has h.perm name
theorem FI.names (h : FI k room used files l) : sortKeys files = l.map (·.1) := sortKeys_perm h.perm h.sorted
theorem FI.mono (h : FI k room used files l) (hk : k ≤ k') (hs : k' ≤ 2199023255552) : FI k' room used files l :=
  ⟨h.perm, h.sorted, h.used, h.last, h.fits, h.room, Nat.le_trans h.cnt hk, Nat.le_trans h.sum hk, hs⟩
theorem FI.lastG (h : FI k room used files l) (name : DNm) : 0 ≤ (mapGet l name f0).2 ∧ (mapGet l name f0).2 ≤ ((mapGet l name f0).1.length : Int) := by
  cases hh : mapHas l name with
  | true => exact h.last _ (has_get h.keysL hh f0)
  | false => rw [get_no hh]; exact ⟨Int.le_refl _, Int.le_refl _⟩
theorem FI.lenG (h : FI k room used files l) (name : DNm) : (mapGet l name f0).1.length ≤ k := Nat.le_trans (sumL_get name) h.sum

theorem FI.lay (h : FI k room used files l) {name : DNm} {f : DFl} (h1 : ((sumL (rm name l) + f.1.length : Nat) : Int) ≤ room) (h2 : sumL (rm name l) + f.1.length ≤ k') (h3 : l.length + 1 ≤ k') (h4 : k' ≤ 2199023255552) (hf : 0 ≤ f.2 ∧ f.2 ≤ (f.1.length : Int)) :
    FI k' room (wr (used + wr ((f.1.length : Int) - ((mapGet files name f0).1.length : Int)))) (mapPut files name f) (insF (name, f) l) := by
  have hp : (mapPut files name f).Perm ((name, f) :: rm name l) := (put_perm h.keys name f).trans ((rm_perm h.perm name).cons _)
  have hi := insF_perm (name, f) l
  have hsum : sumL (insF (name, f) l) = f.1.length + sumL (rm name l) := by rw [sumL_perm hi]; rfl
  have hrm := sumL_rm h.keysL name
  have hs := h.sum
  have hsm := h.small
  rw [h.get]
  refine ⟨hp.trans hi.symm, insF_sorted h.sorted, ?_, fun p hp => ?_, ?_, h.room, ?_, ?_, h4⟩
  · rw [hsum, h.used]
    unfold wr
    have e1 : IntKind.i64.wrap ((f.1.length : Int) - ((mapGet l name f0).1.length : Int)) = (f.1.length : Int) - ((mapGet l name f0).1.length : Int) := wrap_i64 (by omega) (by omega)
    rw [e1, wrap_i64 (by omega) (by omega)]
    omega
  · rcases List.mem_cons.1 (hi.mem_iff.1 hp) with rfl | hp
    · exact hf
    · exact h.last p (rm_mem.1 hp).1
  · rw [hsum]; omega
  · rw [hi.length_eq]
    have := rm_len l name
    simp only [List.length_cons]; omega
  · rw [hsum]; omega

theorem FI.take (h : FI k room used files l) (name : DNm) : FI k room (wr (used - ((mapGet files name f0).1.length : Int))) (mapDel files name) (rm name l) := by
  have hrm := sumL_rm h.keysL name
  have hs := h.sum
  have hsm := h.small
  have hfit := h.fits
  rw [h.get, del_rm h.keys]
  refine ⟨rm_perm h.perm name, rm_sorted h.sorted name, ?_, fun p hp => h.last p (rm_mem.1 hp).1, by omega, h.room, Nat.le_trans (rm_len _ _) h.cnt, by omega, h.small⟩
  rw [h.used]
  unfold wr
  rw [wrap_i64 (by omega) (by omega)]
  omega

end

section
variable {k k' : Nat} {d : DD} {r : RS}

theorem Inv.mono (h : Inv k d r) (hk : k ≤ k') (hs : k' ≤ 2199023255552) : Inv k' d r :=
  ⟨h.room, h.steps, h.dead, h.left, h.pos, h.fi.mono hk hs, h.st.1, by have := h.st.2; omega⟩
theorem Inv.has (h : Inv k d r) (name : DNm) : mapHas d.files name = mapHas r.files name := h.fi.has name
theorem Inv.get (h : Inv k d r) (name : DNm) : dGet d name = rGet r name := h.fi.get name

theorem inv_new (n : Int) (hn : n < 9223372036854775808) : Inv 0 (dNew n) (rNew n) :=
  ⟨rfl, rfl, rfl, rfl, fun h => (by cases h), ⟨List.Perm.refl _, .nil, rfl, fun p hp => (by cases hp), (show (0 : Int) ≤ max n 0 by omega), (show max n 0 < _ by omega), Nat.le_refl _, Nat.le_refl _, by omega⟩, Int.le_refl _, Int.le_refl _⟩

theorem Inv.step (h : Inv k d r) (hs : k + 1 ≤ 2199023255552) : (dStep d).2 = (rStep r).2 ∧ Inv (k + 1) (dStep d).1 (rStep r).1 := by
  have hst := h.st
  have e : wr (d.steps + 1) = wr (r.steps + 1) := by rw [h.steps]
  have e2 : wr (r.steps + 1) = r.steps + 1 := wrap_i64 (by omega) (by omega)
  have hf := h.fi.mono (Nat.le_succ k) hs
  have hl := h.left
  have hS : (0 : Int) ≤ wr (r.steps + 1) ∧ wr (r.steps + 1) ≤ ((k + 1 : Nat) : Int) := by rw [e2]; omega
  unfold dStep rStep
  cases ha : r.armed with
  | false =>
    rw [ha] at hl
    simp only [cond_false] at hl
    rw [decide_eq_true hl]
    simp only [cond_true, cond_false]
    exact ⟨trivial, h.room, e, h.dead, by simpa [ha] using hl, fun h' => (by cases h'), hf, hS⟩
  | true =>
    rw [ha] at hl
    simp only [cond_true] at hl
    obtain ⟨p1, p2⟩ := h.pos ha
    rw [decide_eq_false (show ¬ d.left = -1 by omega)]
    simp only [cond_true, cond_false, hl]
    by_cases h0 : r.left = 0
    · rw [decide_eq_true h0]
      simp only [cond_true]
      exact ⟨trivial, h.room, e, rfl, rfl, fun _ => ⟨p1, p2⟩, hf, hS⟩
    · rw [decide_eq_false h0]
      simp only [cond_false]
      have e3 : wr (r.left - 1) = r.left - 1 := wrap_i64 (by omega) (by omega)
      exact ⟨trivial, h.room, e, h.dead, rfl, fun _ => (show 0 ≤ wr (r.left - 1) ∧ wr (r.left - 1) < 9223372036854775808 by rw [e3]; exact ⟨by omega, by omega⟩), hf, hS⟩

theorem rStep_files (r : RS) : (rStep r).1.files = r.files ∧ (rStep r).1.room = r.room := by
  unfold rStep
  cases r.armed <;> cases decide (r.left = 0) <;> exact ⟨rfl, rfl⟩

theorem Inv.files (h : Inv k d r) {u : Int} {fs l : DFs} (hf : FI k' d.room u fs l) (hk : k ≤ k') : Inv k' { d with used := u, files := fs } { r with files := l } :=
  ⟨h.room, h.steps, h.dead, h.left, h.pos, hf, h.st.1, by have := h.st.2; show r.steps ≤ _; omega⟩

theorem Inv.lay (h : Inv k d r) {name : DNm} {f : DFl} (h1 : ((sumL (rm name r.files) + f.1.length : Nat) : Int) ≤ d.room) (h2 : sumL (rm name r.files) + f.1.length ≤ k') (hk : k + 1 ≤ k') (h4 : k' ≤ 2199023255552) (hf : 0 ≤ f.2 ∧ f.2 ≤ (f.1.length : Int)) :
    Inv k' (dLay d name f) (rWith r name f) :=
  h.files (h.fi.lay h1 h2 (by have := h.fi.cnt; omega) h4 hf) (by omega)
theorem Inv.take (h : Inv k d r) (name : DNm) : Inv k (dTake d name) { r with files := rm name r.files } := h.files (h.fi.take name) (Nat.le_refl _)

theorem Inv.free (h : Inv k d r) : wr (d.room - d.used) = rFree r := by
  have h1 := h.fi.used
  have h2 := h.fi.fits
  have h3 := h.fi.room
  unfold wr rFree
  rw [h1, ← h.room, wrap_i64 (by omega) (by omega)]

theorem Inv.append (h : Inv k d r) {name : DNm} {b : List UInt8} (hs : k + 2 + b.length ≤ 2199023255552) : (dAppend d name b).2 = (rAppend r name b).2 ∧ Inv (k + 2 + b.length) (dAppend d name b).1 (rAppend r name b).1 := by
  have hm := h.mono (k' := k + 2 + b.length) (by omega) hs
  have hb : Inv (k + 1 + b.length) d r := h.mono (by omega) (by omega)
  unfold dAppend rAppend
  rw [h.dead]
  cases hd : r.dead with
  | true => exact ⟨rfl, hm⟩
  | false =>
    cases hn : nameOk name with
    | false => exact ⟨rfl, hm⟩
    | true =>
      simp only [Bool.not_true, cond_false]
      rw [h.free]
      by_cases hfull : (b.length : Int) > rFree r
      · rw [decide_eq_true hfull]; exact ⟨rfl, hm⟩
      · rw [decide_eq_false hfull]
        simp only [cond_false]
        rw [h.get]
        have hg := h.fi.lastG name
        have hrm := sumL_rm h.fi.keysL name
        have hsum := h.fi.sum
        have hroom := h.room
        have hget : rGet r name = mapGet r.files name f0 := rfl
        have hlay := h.lay (name := name) (f := ((rGet r name).1 ++ b, (rGet r name).2)) (k' := k + 1 + b.length)
          (by simp only [List.length_append]; rw [hget]; unfold rFree at hfull; omega) (by simp only [List.length_append]; rw [hget]; omega) (by omega) (by omega) (by simp only [List.length_append]; rw [hget]; omega)
        obtain ⟨s1, s2⟩ := hlay.step (by omega)
        rw [s1]
        exact ⟨rfl, s2.mono (by omega) hs⟩

theorem Inv.do_ (h : Inv k d r) (hs : k + 2 ≤ 2199023255552) {why : DFl → Int} {done : DFl → DD → DD} {done' : DFl → DFs → DFs} (name : DNm)
    (hd : ∀ (d1 : DD) (r1 : RS), Inv (k + 1) d1 r1 → r1.files = r.files → mapHas r.files name = true → why (rGet r name) = 0 → Inv (k + 2) (done (rGet r name) d1) { r1 with files := done' (rGet r name) r.files }) :
    (dDo why done d name).2 = (rDo why done' r name).2 ∧ Inv (k + 2) (dDo why done d name).1 (rDo why done' r name).1 := by
  have hm := h.mono (k' := k + 2) (by omega) hs
  unfold dDo rDo
  rw [h.dead, h.has, h.get]
  cases hdead : r.dead with
  | true => exact ⟨rfl, hm⟩
  | false =>
    cases hh : mapHas r.files name with
    | false => exact ⟨rfl, hm⟩
    | true =>
      simp only [Bool.not_true, cond_false]
      by_cases hw : why (rGet r name) = 0
      · rw [decide_eq_true hw]
        simp only [Bool.not_true, cond_false]
        obtain ⟨s1, s2⟩ := h.step (by omega)
        rw [s1]
        cases hst : (rStep r).2 with
        | true => exact ⟨rfl, s2.mono (by omega) hs⟩
        | false => exact ⟨rfl, hd _ _ s2 (rStep_files r).1 hh hw⟩
      · rw [decide_eq_false hw]
        exact ⟨rfl, hm⟩

theorem Inv.sync (h : Inv k d r) (hs : k + 2 ≤ 2199023255552) (name : DNm) : (dSync d name).2 = (rSync r name).2 ∧ Inv (k + 2) (dSync d name).1 (rSync r name).1 := by
  refine h.do_ hs name fun d1 r1 h1 hfl hh hw => ?_
  have hrm := sumL_rm h1.fi.keysL name
  have hsum := h1.fi.sum
  have hfit := h1.fi.fits
  have hget : rGet r name = mapGet r1.files name f0 := by rw [hfl]; rfl
  rw [← hfl]
  exact h1.lay (by rw [hget]; simp only; omega) (by rw [hget]; simp only; omega) (by omega) hs ⟨by simp only; omega, by simp only; omega⟩
theorem Inv.trunc (h : Inv k d r) (hs : k + 2 ≤ 2199023255552) (name : DNm) (n : Int) : (dTrunc d name n).2 = (rTrunc r name n).2 ∧ Inv (k + 2) (dTrunc d name n).1 (rTrunc r name n).1 := by
  refine h.do_ hs name fun d1 r1 h1 hfl hh hw => ?_
  have hrm := sumL_rm h1.fi.keysL name
  have hsum := h1.fi.sum
  have hfit := h1.fi.fits
  have hg := h1.fi.lastG name
  have hget : rGet r name = mapGet r1.files name f0 := by rw [hfl]; rfl
  rw [← hfl]
  rw [hget] at hw ⊢
  have hn : 0 ≤ n ∧ n ≤ ((mapGet r1.files name f0).1.length : Int) := by
    unfold whyT at hw
    cases hc : decide (n < 0) || decide (n > ((mapGet r1.files name f0).1.length : Int)) with
    | true => rw [hc] at hw; cases hw
    | false =>
      simp only [Bool.or_eq_false_iff, decide_eq_false_iff_not] at hc
      exact ⟨by omega, by omega⟩
  have hl : ((mapGet r1.files name f0).1.take n.toNat).length = n.toNat := by rw [List.length_take]; omega
  exact h1.lay (by simp only [hl]; omega) (by simp only [hl]; omega) (by omega) hs ⟨by simp only; omega, by simp only [hl]; omega⟩
theorem Inv.remove (h : Inv k d r) (hs : k + 2 ≤ 2199023255552) (name : DNm) : (dRemove d name).2 = (rRemove r name).2 ∧ Inv (k + 2) (dRemove d name).1 (rRemove r name).1 := by
  refine h.do_ hs name fun d1 r1 h1 hfl hh hw => ?_
  rw [← hfl]
  exact (h1.take name).mono (by omega) hs
theorem Inv.arm (h : Inv k d r) (n : Int) (hn : n < 9223372036854775808) : Inv k (dArm d n) (rArm r n) := by
  unfold dArm rArm
  rw [h.dead]
  cases hd : r.dead with
  | true => exact h
  | false =>
    simp only [Bool.not_false, cond_true]
    refine ⟨h.room, h.steps, rfl, ?_, fun hp => ?_, h.fi, h.st⟩
    · show max n (-1) = bif decide (n ≥ 0) then n else -1
      by_cases h0 : n ≥ 0
      · rw [decide_eq_true h0]; simp only [cond_true]; omega
      · rw [decide_eq_false h0]; simp only [cond_false]; omega
    · exact ⟨of_decide_eq_true hp, hn⟩
theorem found_ok {f : DFl} (h : 0 ≤ f.2 ∧ f.2 ≤ (f.1.length : Int)) (keep : List Int) : f.2 ≤ found f keep ∧ found f keep ≤ (f.1.length : Int) := by
  unfold found; omega
theorem crash_names : ∀ (l : DFs) (keep : List Int), (crashF l keep).map (·.1) = l.map (·.1)
  | [], _ => rfl
  | p :: l, keep => by simp only [crashF, List.map_cons, crash_names l]
theorem crash_len (l : DFs) (keep : List Int) : (crashF l keep).length = l.length := by
  have := congrArg List.length (crash_names l keep)
  simpa using this
theorem crash_sum : ∀ (l : DFs) (keep : List Int), sumL (crashF l keep) ≤ sumL l
  | [], _ => Nat.le_refl _
  | p :: l, keep => by
    have := crash_sum l (keep.drop 1)
    simp only [crashF, sumL, List.length_take]
    omega
theorem crash_sorted {l : DFs} (h : SortedF l) (keep : List Int) : SortedF (crashF l keep) := by
  have h1 : (l.map (·.1)).Pairwise (· < ·) := List.pairwise_map.2 h
  rw [← crash_names l keep] at h1
  exact List.pairwise_map.1 h1
theorem crash_last : ∀ {l : DFs} {keep : List Int}, (∀ p ∈ l, 0 ≤ p.2.2 ∧ p.2.2 ≤ (p.2.1.length : Int)) → ∀ p ∈ crashF l keep, 0 ≤ p.2.2 ∧ p.2.2 = (p.2.1.length : Int)
  | [], _, _, p, hp => by cases hp
  | q :: l, keep, h, p, hp => by
    rcases List.mem_cons.1 hp with rfl | hp
    · have h1 := h q List.mem_cons_self
      have := found_ok h1 keep
      simp only [List.length_take]
      omega
    · exact crash_last (fun p hp => h p (List.mem_cons_of_mem _ hp)) p hp
theorem Inv.crash (h : Inv k d r) (keep : List Int) : Inv k (dCrash d r.files keep) (rCrash r keep) := by
  have h1 := crash_sum r.files keep
  have h2 := h.fi.sum
  have h3 := h.fi.fits
  refine ⟨h.room, rfl, rfl, rfl, fun h => (by cases h), ⟨List.Perm.refl _, crash_sorted h.fi.sorted keep, rfl, fun p hp => ?_, (show (sumL (crashF r.files keep) : Int) ≤ d.room by omega), h.fi.room, (show (crashF r.files keep).length ≤ k by rw [crash_len]; exact h.fi.cnt), (show sumL (crashF r.files keep) ≤ k by omega), h.fi.small⟩, Int.le_refl _, (show (0 : Int) ≤ (k : Int) by omega)⟩
  have := crash_last h.fi.last p hp
  omega
end
end Go.Hay
