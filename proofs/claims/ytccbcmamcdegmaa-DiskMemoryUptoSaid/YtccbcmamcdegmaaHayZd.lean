/- Pieces of code, and loops, that are proved alone. -/
import Derived.Test.YtccbcmamcdegmaaHayY
import Derived.KernelRfl
import Derived.ProofKit
set_option linter.unusedVariables false
set_option linter.unusedSimpArgs false
namespace Go.Hay
open Go.RowKit

/-- One way in which a piece of code may end: how, and what then stands in which temporaries. -/
structure Alt where
  ctl : Ctl
  ts : List Tmp
  sh : Sh

@[reducible] def altsDen : List Alt → Type
  | [] => Empty
  | [a] => a.sh.den
  | a :: b :: r => a.sh.den ⊕ altsDen (b :: r)

def ctlEq : Ctl → Ctl → Bool
  | .normal, .normal => true
  | .ret, .ret => true
  | .exit i, .exit j => Nat.beq i j
  | _, _ => false

def tmpsAt (env : Env) (ts : List Tmp) : Option (List AV) := allSome (ts.map (look env))

def altOne (a : Alt) (s : St) : Option a.sh.den :=
  match tmpsAt s.env a.ts with
  | some vs => match xt a.sh vs ⟨s.obs, [], []⟩ with
    | some (y, [], _) => some y
    | _ => none
  | none => none

def altK : (l : List Alt) → Ctl → St → Option (altsDen l)
  | [], _, _ => none
  | [a], ctl, s => match ctlEq a.ctl ctl with
    | true => altOne a s
    | false => none
  | a :: b :: r, ctl, s => match ctlEq a.ctl ctl with
    | true => match altOne a s with
      | some y => some (.inl y)
      | none => match altK (b :: r) ctl s with
        | some y => some (.inr y)
        | none => none
    | false => match altK (b :: r) ctl s with
      | some y => some (.inr y)
      | none => none

def altCase {Ω : Type} : (l : List Alt) → altsDen l → ((a : Alt) → a.sh.den → Option Ω) → Option Ω
  | [], y, _ => nomatch y
  | [a], y, k => k a y
  | a :: b :: r, y, k => match y with
    | .inl y => k a y
    | .inr y => altCase (b :: r) y k

/-- A piece of code: the temporaries that it looks at and their shapes, those that it may write, how it may end, what it computes. -/
structure Ps where
  ts : List Tmp
  ins : Sh
  asg : List Tmp
  alts : List Alt
  fn : ins.den → Option (altsDen alts)

def dropT (asg : List Tmp) : Env → Env
  | [] => []
  | (k, v) :: r => bif asg.any (Nat.beq k) then dropT asg r else (k, v) :: dropT asg r
def addT : List Tmp → List AV → Env → Env
  | t :: ts, v :: vs, env => (t, v) :: addT ts vs env
  | _, _, env => env

def Ps.pc (F : Ps) (C : Ctx) : Pc where
  run s K := match tmpsAt s.env F.ts with
    | some args => match xt F.ins args ⟨s.obs, [], []⟩ with
      | some (x, [], z) => bif F.asg.all (fun t => mayDst C (some t)) && F.alts.all (fun a => backOk a.sh z s.nx && a.ts.all fun t => F.asg.any (Nat.beq t)) then
          obind (F.fn x) fun y => altCase F.alts y fun a y =>
            K a.ctl ⟨addT a.ts (bld (outNm z.tk (onames (nameAt z.tk) s.nx a.sh 0)) a.sh y 0).1 (dropT F.asg s.env),
              putAll (restore (bld (fun k => k) F.ins x 0).2.1 z.tk 0 z.obs) (bld (outNm z.tk (onames (nameAt z.tk) s.nx a.sh 0)) a.sh y 0).2.1, s.nx + (onames (nameAt z.tk) s.nx a.sh 0).length⟩
        else none
      | _ => none
    | none => none

def Ps.ctx (F : Ps) (C : Ctx) : Ctx := { C with may := fun t => F.asg.any (Nat.beq t) }
def Ps.canon (F : Ps) (n0 : Nat) (x : F.ins.den) : St := ⟨addT F.ts (bld (fun k => k) F.ins x 0).1 [], (bld (fun k => k) F.ins x 0).2.1, n0⟩

section
variable {P : Program} {B : Bs} {c : Cf} {w : World} {C : Ctx}

theorem ctlEq_ok {a b : Ctl} (h : ctlEq a b = true) : a = b := by
  cases a <;> cases b <;> simp [ctlEq] at h <;> first | rfl | (rw [h])

theorem altOne_ok {a : Alt} {s : St} {y : a.sh.den} (h : altOne a s = some y) : ∃ vs z, tmpsAt s.env a.ts = some vs ∧ xt a.sh vs ⟨s.obs, [], []⟩ = some (y, [], z) := by
  unfold altOne at h
  split at h
  · rename_i vs hv
    split at h
    · rename_i y' z hx
      simp only [Option.some.injEq] at h
      subst h
      exact ⟨vs, z, hv, hx⟩
    · cases h
  · cases h

theorem altK_ok [Sites] : ∀ {l : List Alt} {ctl : Ctl} {s : St} {y : altsDen l}, altK l ctl s = some y →
    ∃ (a : Alt) (y' : a.sh.den), (∀ {Ω : Type} (k : (a : Alt) → a.sh.den → Option Ω), altCase l y k = k a y') ∧ a ∈ l ∧ a.ctl = ctl ∧ ∃ vs z, tmpsAt s.env a.ts = some vs ∧ xt a.sh vs ⟨s.obs, [], []⟩ = some (y', [], z)
  | [], ctl, s, y, h => by cases y
  | [a], ctl, s, y, h => by
    simp only [altK] at h
    split at h
    · rename_i hc
      exact ⟨a, y, fun k => rfl, by simp, ctlEq_ok hc, altOne_ok h⟩
    · cases h
  | a :: b :: r, ctl, s, y, h => by
    simp only [altK] at h
    split at h
    · rename_i hc
      split at h
      · rename_i y' hy
        simp only [Option.some.injEq] at h
        subst h
        exact ⟨a, y', fun k => rfl, by simp, ctlEq_ok hc, altOne_ok hy⟩
      · split at h
        · rename_i y' hy
          simp only [Option.some.injEq] at h
          subst h
          obtain ⟨a', y2, h1, h2, h3⟩ := altK_ok hy
          exact ⟨a', y2, fun k => by simp only [altCase]; exact h1 k, List.mem_cons_of_mem _ h2, h3⟩
        · cases h
    · split at h
      · rename_i y' hy
        simp only [Option.some.injEq] at h
        subst h
        obtain ⟨a', y2, h1, h2, h3⟩ := altK_ok hy
        exact ⟨a', y2, fun k => by simp only [altCase]; exact h1 k, List.mem_cons_of_mem _ h2, h3⟩
      · cases h

theorem tmpsAt_ok {nt : Nat} {fr : Nat → Option Value} {env : Env} {a : Act} (h : Tmps nt fr c w env a) : ∀ {ts : List Tmp} {vs : List AV}, tmpsAt env ts = some vs → VRs c w vs (ts.map fun t => a.tmps.getD t undef)
  | [], vs, hv => by simp only [tmpsAt, List.map_nil, allSome, Option.some.injEq] at hv; subst hv; simp only [List.map_nil, VRs]
  | t :: ts, vs, hv => by
    simp only [tmpsAt, List.map_cons] at hv
    cases ht : look env t with
    | none => simp [ht, allSome] at hv
    | some x =>
      simp only [ht, allSome] at hv
      split at hv
      · rename_i l hl
        simp only [Option.some.injEq] at hv
        subst hv
        simp only [List.map_cons, VRs]
        exact ⟨_, _, rfl, h.env t x ht, tmpsAt_ok h hl⟩
      · cases hv

theorem any_mem {l : List Nat} {t : Nat} : l.any (Nat.beq t) = true ↔ t ∈ l := by
  simp only [List.any_eq_true]
  constructor
  · rintro ⟨x, hx, hb⟩; rw [Nat.eq_of_beq_eq_true hb]; exact hx
  · intro h; exact ⟨t, h, Nat.beq_refl t⟩

theorem look_dropT [Sites] {asg : List Tmp} : ∀ {env : Env} {k : Nat} {x : AV}, look (dropT asg env) k = some x → look env k = some x ∧ k ∉ asg
  | [], k, x, h => by simp [dropT, look] at h
  | (j, v) :: r, k, x, h => by
    simp only [dropT] at h
    cases hb : asg.any (Nat.beq j) with
    | true =>
      rw [hb] at h
      obtain ⟨h1, h2⟩ := look_dropT (env := r) (by simpa using h)
      rw [look_cons, if_neg (fun e => h2 (by rw [← e]; exact any_mem.1 hb))]
      exact ⟨h1, h2⟩
    | false =>
      rw [hb] at h
      simp only [cond_false, look_cons] at h ⊢
      split at h
      · rename_i e
        rw [if_pos e]
        exact ⟨h, fun hm => by rw [← e, ← any_mem, hb] at hm; cases hm⟩
      · rename_i e
        rw [if_neg e]
        exact look_dropT h

theorem look_addT {env : Env} : ∀ {ts : List Tmp} {vs : List AV} {k : Nat} {x : AV}, look (addT ts vs env) k = some x → (∃ i : Nat, ts[i]? = some k ∧ vs[i]? = some x) ∨ look env k = some x
  | [], vs, k, x, h => by cases vs <;> exact .inr h
  | t :: ts, [], k, x, h => .inr h
  | t :: ts, v :: vs, k, x, h => by
    simp only [addT, look_cons] at h
    split at h
    · rename_i e
      simp only [Option.some.injEq] at h
      exact .inl ⟨0, by simp [e], by simp [h]⟩
    · rcases look_addT h with ⟨i, h1, h2⟩ | h1
      · exact .inl ⟨i + 1, by simpa using h1, by simpa using h2⟩
      · exact .inr h1

/-- The temporaries for code that is proved alone. -/
theorem canon_tmps [Sites] {F : Ps} {nt n0 : Nat} {fr : Nat → Option Value} {env : Env} {a : Act} {c0 : Cf} {x : F.ins.den} (h : Tmps nt fr c w env a) (hv : VRs c0 w (bld (fun k => k) F.ins x 0).1 (F.ts.map fun t => a.tmps.getD t undef)) (fr1 : Nat → Option Value)
    (hfr : ∀ k v, fr1 k = some v → a.tmps.getD k undef = v) : Tmps nt fr1 c0 w (F.canon n0 x).env a := by
  refine ⟨h.size, fun k y hk => ?_, hfr⟩
  rcases look_addT hk with ⟨i, h1, h2⟩ | h1
  · obtain ⟨u, hu, hvu⟩ := hv.get h2
    simp only [List.getElem?_map, h1, Option.map_some, Option.some.injEq] at hu
    rw [hu]
    exact hvu
  · simp [look] at h1

def frOf (asg : List Tmp) (a : Act) : Nat → Option Value := fun k => if asg.any (Nat.beq k) then none else some (a.tmps.getD k undef)

theorem frOf_in {asg : List Tmp} {a : Act} {t : Nat} (h : asg.any (Nat.beq t) = true) : frOf asg a t = none := by
  unfold frOf; rw [if_pos h]
theorem frOf_out [Sites] {asg : List Tmp} {a : Act} {t : Nat} (h : t ∉ asg) : frOf asg a t = some (a.tmps.getD t undef) := by
  unfold frOf; rw [if_neg (fun h' => h (any_mem.1 h'))]
theorem frOf_some {asg : List Tmp} {a : Act} {t : Nat} {v : Value} (h : frOf asg a t = some v) : a.tmps.getD t undef = v := by
  unfold frOf at h
  split at h
  · cases h
  · exact Option.some.inj h

theorem Handed.marks [Sites] {s : Obs} {z : Tk} {vs : List Value} {I1 : Nat → Prop} {s0 : Obs} (hR : Rel B c s w) (h : Handed B c s w z vs I1 s0) {ds : List Deferred} {fl : Nat} (hm : Marks fl c w ds) : Marks fl (cf0 vs I1) w ds :=
  ⟨fun d hd => by
    obtain ⟨m, q1, q2, q3, q4⟩ := hm.all d hd
    refine ⟨m, q1, q2, q3, fun hI => ?_⟩
    rcases h.tk.newI m hI with g | ⟨id, e, t, l, g1, g2, g3⟩
    · exact q4 g
    · exact (hR.ob id _ g1).not_deferred g3 _ q2, hm.nodup⟩

theorem Handed.base [Sites] {s : Obs} {z : Tk} {vs : List Value} {I1 : Nat → Prop} {s0 : Obs} (hR : Rel B c s w) (h : Handed B c s w z vs I1 s0) (hb : BaseOk B) : BaseOk (bs0 B.rd B.fl w vs I1 s0) := by
  refine ⟨Nat.le_trans hb.fl hR.size, fun l hl => ?_⟩
  obtain ⟨⟨r, h1⟩, h2⟩ := hb.rd l hl
  have hlt : l < B.w.heap.size := (Array.getElem?_eq_some_iff.1 h1).1
  refine ⟨⟨r, (hR.keep l hlt h2).trans h1⟩, fun hM => ?_⟩
  obtain ⟨_, _, _, _, _, _, _, _, _, h3⟩ := h.mine hR hM
  rcases h3 with h3 | h3
  · exact h2 h3
  · omega

/-- What stands behind a piece of code, for the code around it. -/
theorem ps_back [Sites] {F : Ps} {fr : Nat → Option Value} {s : St} {a : Act} (hs : Sim B C fr c s w a) (hfr : ∀ t, C.may t = true → fr t = none) {x : F.ins.den} {z : Tk} {vs : List Value} {I1 : Nat → Prop} (hH : Handed B c s.obs w z vs I1 (bld (fun k => k) F.ins x 0).2.1)
    (hasg : F.asg.all (fun t => mayDst C (some t)) = true) (hal : F.alts.all (fun a => backOk a.sh z s.nx && a.ts.all fun t => F.asg.any (Nat.beq t)) = true)
    {c1 : Cf} {w1 : World} {a1 : Act} {s1 : St} {fr1 : Nat → Option Value} (hfr1 : ∀ k, k ∉ F.asg → fr1 k = some (a.tmps.getD k undef)) (hs1 : Sim (bs0 B.rd B.fl w vs I1 (bld (fun k => k) F.ins x 0).2.1) (F.ctx C) fr1 c1 s1 w1 a1) (hL : Lasts I1 c1.I w w1)
    (hN : ∀ al ∈ F.alts, ∀ i ∈ updIx al.sh, ∀ v, vs[i]? = some v → c1.nm i = some v) {ctl : Ctl} {y : altsDen F.alts} (hK : altK F.alts ctl s1 = some y) :
    ∃ (al : Alt) (y' : al.sh.den), (∀ {Ω : Type} (k : (a : Alt) → a.sh.den → Option Ω), altCase F.alts y k = k al y') ∧ al.ctl = ctl ∧ ∃ c2, Ext c w c2 w1 ∧
      Sim B C fr c2 ⟨addT al.ts (bld (outNm z.tk (onames (nameAt z.tk) s.nx al.sh 0)) al.sh y' 0).1 (dropT F.asg s.env),
              putAll (restore (bld (fun k => k) F.ins x 0).2.1 z.tk 0 z.obs) (bld (outNm z.tk (onames (nameAt z.tk) s.nx al.sh 0)) al.sh y' 0).2.1, s.nx + (onames (nameAt z.tk) s.nx al.sh 0).length⟩ w1 a1 := by
  obtain ⟨al, y', h1, h2, h3, rs, z1, h4, h5⟩ := altK_ok hK
  refine ⟨al, y', h1, h3, ?_⟩
  have hb := List.all_eq_true.1 hal al h2
  simp only [Bool.and_eq_true, backOk] at hb
  obtain ⟨⟨⟨b1, b2⟩, b3, b4, b6⟩, b5⟩ := hb
  have hv := tmpsAt_ok hs1.tmps h4
  obtain ⟨c2, g1, g2, g3, g4⟩ := hH.give hs.rel hs1.rel hL (hN al h2) hv h5 b1 b2 rfl (Nat.le_of_ble_eq_true b6) b3 b4
  have hmk : Marks B.fl c2 w1 a1.defers := ⟨fun d hd => by
    obtain ⟨m, q1, q2, q3, q4⟩ := hs1.marks.all d hd
    refine ⟨m, q1, q2, q3, fun hI => ?_⟩
    rcases g4 m hI with g | ⟨i, o, g5, g6⟩
    · exact q4 g
    · exact (hs1.rel.ob i o g5).not_deferred g6 _ q2, hs1.marks.nodup⟩
  have hsame : ∀ k, k ∉ F.asg → a1.tmps.getD k undef = a.tmps.getD k undef := fun k hk => hs1.tmps.frame k _ (hfr1 k hk)
  refine ⟨c2, g3, g1, ⟨hs1.tmps.size, fun k v hk => ?_, fun k v hk => ?_⟩, hmk, hs.base⟩
  · rcases look_addT hk with ⟨i, q1, q2⟩ | q1
    · obtain ⟨u, hu, hvu⟩ := g2.get q2
      simp only [List.getElem?_map, q1, Option.map_some, Option.some.injEq] at hu
      rw [hu]
      exact hvu
    · obtain ⟨q2, q3⟩ := look_dropT q1
      rw [hsame k q3]
      exact VR.ext g3 _ _ (hs.tmps.env k v q2)
  · have hna : k ∉ F.asg := fun hm => by
      have := List.all_eq_true.1 hasg k hm
      simp only [mayDst, Bool.and_eq_true] at this
      rw [hfr k this.2] at hk
      cases hk
    rw [hsame k hna]
    exact hs.tmps.frame k v hk

/-- A piece of code that is proved alone. -/
theorem ps_ok [Sites] {code : Code} (hC : C.Ok P) (hmix : P.follows .mixedOrders = true) {F : Ps} {Λ : Pcs} (hΛ : Λ.Ok P (F.ctx C) code) {n0 : Nat}
    (hev : ∀ x y, F.fn x = some y → evC (F.ctx C) code Λ (F.canon n0 x) (altK F.alts) = some y) (hni : updIx F.ins = [] := by rfl) : (F.pc C).Ok P C code := by
  intro Ω s K out hrun B fr c w a Q hfr hs hK
  simp only [Ps.pc] at hrun
  split at hrun
  · rename_i args hargs
    split at hrun
    · rename_i x z hx
      cases hc : F.asg.all (fun t => mayDst C (some t)) && F.alts.all (fun a => backOk a.sh z s.nx && a.ts.all fun t => F.asg.any (Nat.beq t)) with
      | false => simp [hc] at hrun
      | true =>
        rw [hc] at hrun
        simp only [cond_true, obind] at hrun
        simp only [Bool.and_eq_true] at hc
        split at hrun
        · rename_i y hy
          obtain ⟨vs, I1, hH, hv0⟩ := handed hs.rel (tmpsAt_ok hs.tmps hargs) hx hni
          have hsim : Sim (bs0 B.rd B.fl w vs I1 (bld (fun k => k) F.ins x 0).2.1) (F.ctx C) (frOf F.asg a) (cf0 vs I1) (F.canon n0 x) w a :=
            ⟨hH.rel hs.rel, canon_tmps (c := c) hs.tmps hv0 _ fun k v hk => frOf_some hk, hH.marks hs.rel hs.marks, hH.base hs.rel hs.base⟩
          refine evC_ok (B := bs0 B.rd B.fl w vs I1 (bld (fun k => k) F.ins x 0).2.1) (C := F.ctx C) ⟨hC.U, hC.Γ, hC.Y⟩ hmix (fun t ht => frOf_in ht) code Λ _ _ (hev x y hy) hΛ _ w a Q hsim fun ctl s1 c1 w1 a1 hk hs1 hE1 => ?_
          obtain ⟨al, y', h1, h2, c2, h3, h4⟩ := ps_back hs hfr hH hc.1 hc.2 (fun k hk => frOf_out hk) hs1 hE1.lasts (fun _ _ i _ v hi => hE1.nm i v hi) hk
          rw [h1] at hrun
          rw [← h2]
          exact hK al.ctl _ c2 w1 a1 hrun h4 h3
        · cases hrun
    · cases hrun
  · cases hrun

/-- At a loop's head again. -/
def loopK (F : Ps) (g : F.ins.den → Option (altsDen F.alts)) (ctl : Ctl) (s : St) : Option (altsDen F.alts) :=
  match ctl with
  | .normal => match tmpsAt s.env F.ts with
    | some args => match xt F.ins args ⟨s.obs, [], []⟩ with
      | some (x, [], z) => match F.alts.all fun a => (updIx a.sh).all fun i => match z.tk[i]? with | some (some id, _) => Nat.beq id i | _ => false with
        | true => g x
        | false => none
      | _ => none
    | none => none
  | .ret => altK F.alts .ret s
  | .exit id => altK F.alts (.exit id) s

/-- The small world anew, over the same beginning. -/
theorem Handed.again [Sites] {s : Obs} {z : Tk} {vs : List Value} {I1 : Nat → Prop} {s0 : Obs} (hR : Rel B c s w) (h : Handed B c s w z vs I1 s0) : Rel B (cf0 vs I1) s0 w where
  ob id o ho := (h.live id o (look_mem ho)).2.1
  dom id ho := by
    cases hv : vs[id]? with
    | none => exact hv
    | some v =>
      obtain ⟨o0, hm⟩ := h.all id (List.getElem?_eq_some_iff.1 hv).1
      exact absurd ho (mem_look hm)
  sep i j oi oj b hi hj hbi hbj := by
    obtain ⟨id1, o1, h1, h2, h3, _⟩ := h.own (look_mem hi) hbi
    obtain ⟨id2, o2, h4, h5, h6, _⟩ := h.own (look_mem hj) hbj
    have := hR.sep id1 id2 o1 o2 b h3 h6 h2 h5
    subst this
    exact h.tk.nodup i j id1 o1 o2 h1 h4
  imm id o b ho hb := by
    obtain ⟨id1, o1, h1, h2, h3, _⟩ := h.own (look_mem ho) hb
    exact h.tk.imm hR h1 h2
  lo b hb := h.tk.rel.lo b hb
  keep b h1 h2 := hR.keep b h1 h2
  mine id o b ho hr hb := by
    obtain ⟨id1, o1, h1, h2, h3, h4⟩ := h.own (look_mem ho) hb
    exact hR.mine id1 o1 b h3 (h4 hr) h2
  ro id o b ho hb := by
    obtain ⟨id1, o1, h1, h2, h3, _⟩ := h.own (look_mem ho) hb
    exact hR.ro id1 o1 b h3 h2
  sub b hb := h.tk.ext.lasts.sub b (hR.sub b hb)
  new b hb := h.tk.rel.new b hb
  os := hR.os
  tape := hR.tape
  output := hR.output
  size := hR.size

/-- A loop that is proved alone: g n is what it computes in at most n rounds. -/
theorem loop_ok [Sites] {code : Code} (hC : C.Ok P) (hmix : P.follows .mixedOrders = true) {F : Ps} {Λ : Pcs} (hΛ : Λ.Ok P (F.ctx C) code) {n0 N : Nat} (g : Nat → F.ins.den → Option (altsDen F.alts)) (h0 : ∀ x, g 0 x = none) (hN : F.fn = g N)
    (hev : ∀ n x y, g (n + 1) x = some y → evC (F.ctx C) code Λ (F.canon n0 x) (loopK F (g n)) = some y) (hni : updIx F.ins = [] := by rfl) : (F.pc C).Ok P C (.loop code) := by
  intro Ω s K out hrun B fr c w a Q hfr hs hK
  simp only [Ps.pc] at hrun
  split at hrun
  · rename_i args hargs
    split at hrun
    · rename_i x z hx
      cases hc : F.asg.all (fun t => mayDst C (some t)) && F.alts.all (fun a => backOk a.sh z s.nx && a.ts.all fun t => F.asg.any (Nat.beq t)) with
      | false => simp [hc] at hrun
      | true =>
        rw [hc] at hrun
        simp only [cond_true, obind] at hrun
        simp only [Bool.and_eq_true] at hc
        split at hrun
        · rename_i y hy
          rw [hN] at hy
          obtain ⟨vs, I1, hH, hv0⟩ := handed hs.rel (tmpsAt_ok hs.tmps hargs) hx hni
          -- every round from what the head is handed
          have key : ∀ (n : Nat) (x' : F.ins.den), g n x' = some y → ∀ (vs' : List Value) (I' : Nat → Prop) (w' : World) (a' : Act),
              Sim (bs0 B.rd B.fl w vs I1 (bld (fun k => k) F.ins x 0).2.1) (F.ctx C) (frOf F.asg a) (cf0 vs' I') (F.canon n0 x') w' a' → Lasts I1 I' w w' → (∀ al ∈ F.alts, ∀ i ∈ updIx al.sh, ∀ v, vs[i]? = some v → vs'[i]? = some v) → Code.roundsIn (WF B.rd) 0 P code Q n a' w' := by
            intro n
            induction n with
            | zero => intro x' hg; rw [h0] at hg; cases hg
            | succ n ih =>
              intro x' hg vs' I' w' a' hsim hL hup
              rw [roundsIn_succ]
              refine evC_ok (B := bs0 B.rd B.fl w vs I1 (bld (fun k => k) F.ins x 0).2.1) (C := F.ctx C) ⟨hC.U, hC.Γ, hC.Y⟩ hmix (fun t ht => frOf_in ht) code Λ _ _ (hev n x' y hg) hΛ _ w' a' _ hsim fun ctl s1 c1 w1 a1 hk hs1 hE1 => ?_
              have hN1 : ∀ al ∈ F.alts, ∀ i ∈ updIx al.sh, ∀ v, vs[i]? = some v → c1.nm i = some v := fun al hal i hi v hv => hE1.nm i v (hup al hal i hi v hv)
              have hend : ∀ ctl', altK F.alts ctl' s1 = some y → Q ctl'.out a1 w1 := fun ctl' hk => by
                obtain ⟨al, y', h1, h2, c2, h3, h4⟩ := ps_back hs hfr hH hc.1 hc.2 (fun k hk => frOf_out hk) hs1 (hL.trans hE1.lasts) hN1 hk
                rw [h1] at hrun
                rw [← h2]
                exact hK al.ctl _ c2 w1 a1 hrun h4 h3
              cases ctl with
              | ret => exact hend .ret hk
              | exit id => exact hend (.exit id) hk
              | normal =>
                simp only [loopK] at hk
                split at hk
                · rename_i args1 hargs1
                  split at hk
                  · rename_i x2 z2 hx2
                    split at hk
                    · rename_i hsame
                      obtain ⟨vs2, I2, hH2, hv2⟩ := handed hs1.rel (tmpsAt_ok hs1.tmps hargs1) hx2 hni
                      refine ih x2 hk vs2 I2 w1 a1 ⟨hH2.again hs1.rel, canon_tmps (c := c1) hs1.tmps hv2 _ fun k v hkv => hs1.tmps.frame k v hkv, hH2.marks hs1.rel hs1.marks, hs1.base⟩ (hL.trans (hE1.lasts.trans hH2.tk.ext.lasts)) fun al hal i hi v hv => ?_
                      have h1 := List.all_eq_true.1 (List.all_eq_true.1 hsame al hal) i hi
                      split at h1
                      · rename_i id o hid
                        have := Nat.eq_of_beq_eq_true h1
                        subst this
                        have h2 := (hH2.tk.at_ _ _ _ hid).2.2.2
                        rw [← h2]
                        exact hN1 al hal _ hi v hv
                      · cases h1
                    · cases hk
                  · cases hk
                · cases hk
          refine wpIn_loop_rounds N (key N x hy vs I1 w a ⟨hH.rel hs.rel, canon_tmps (c := c) hs.tmps hv0 _ fun k v hk => frOf_some hk, hH.marks hs.rel hs.marks, hH.base hs.rel hs.base⟩ (Lasts.refl _ _) fun _ _ _ _ _ h => h)
        · cases hrun
    · cases hrun
  · cases hrun
end
end Go.Hay
/- Lists of contracts and of pieces. -/
set_option linter.unusedVariables false
set_option linter.unusedSimpArgs false
namespace Go.Hay
open Go.RowKit

/-- Contracts, by their functions' numbers. -/
def gam : List (FuncId × Con) → FuncId → Option Con
  | [], _ => none
  | (g, c) :: r, f => bif Nat.beq g f then some c else gam r f

/-- Rounds, by their records' numbers. -/
def gamY : List (TypeId × Yc) → TypeId → Option Yc
  | [], _ => none
  | (g, c) :: r, f => bif Nat.beq g f then some c else gamY r f

def pcs : List (List Bool × Pc) → Pcs
  | [], _ => none
  | (p, q) :: r, p' => bif pathEq p p' then some q else pcs r p'
  where pathEq : List Bool → List Bool → Bool
  | [], [] => true
  | a :: as, b :: bs => (a == b) && pathEq as bs
  | _, _ => false

def loopBody : Option Code → Code
  | some (.loop b) => b
  | _ => .skip

/-- Two contracts of one function: the first that fits. -/
def Con.or (c d : Con) : Con where
  X := c.X ⊕ d.X
  Y := fun x => match x with | .inl x => c.Y x | .inr x => d.Y x
  pre a s n := match c.pre a s n with
    | some x => some (.inl x)
    | none => match d.pre a s n with
      | some x => some (.inr x)
      | none => none
  fn := fun x => match x with | .inl x => c.fn x | .inr x => d.fn x
  post a s n := fun x => match x with | .inl x => fun y => c.post a s n x y | .inr x => fun y => d.post a s n x y
  spl := fun x => match x with | .inl x => c.spl x | .inr x => d.spl x
  spl_ok := fun x => match x with | .inl x => c.spl_ok x | .inr x => d.spl_ok x

section
variable {P : Program}

def GamOk [Sites] (P : Program) (l : List (FuncId × Con)) : Prop := ∀ f c, gam l f = some c → c.Ok P f
theorem GamOk.nil [Sites] : GamOk P [] := fun f c h => by cases h
theorem GamOk.cons [Sites] {f : FuncId} {c : Con} {r : List (FuncId × Con)} (h : c.Ok P f) (hr : GamOk P r) : GamOk P ((f, c) :: r) := by
  intro g d hg
  simp only [gam] at hg
  cases hb : Nat.beq f g with
  | true =>
    rw [hb] at hg
    simp only [cond_true, Option.some.injEq] at hg
    have := Nat.eq_of_beq_eq_true hb
    subst this
    subst hg
    exact h
  | false =>
    rw [hb] at hg
    exact hr g d hg

def GamYOk [Sites] (P : Program) (l : List (TypeId × Yc)) : Prop := ∀ f c, gamY l f = some c → c.Ok P f
theorem GamYOk.nil [Sites] : GamYOk P [] := fun f c h => by cases h
theorem GamYOk.cons [Sites] {f : TypeId} {c : Yc} {r : List (TypeId × Yc)} (h : c.Ok P f) (hr : GamYOk P r) : GamYOk P ((f, c) :: r) := by
  intro g d hg
  simp only [gamY] at hg
  cases hb : Nat.beq f g with
  | true =>
    rw [hb] at hg
    simp only [cond_true, Option.some.injEq] at hg
    have := Nat.eq_of_beq_eq_true hb
    subst this
    subst hg
    exact h
  | false =>
    rw [hb] at hg
    exact hr g d hg

theorem pathEq_ok : ∀ {a b : List Bool}, pcs.pathEq a b = true → a = b
  | [], [], _ => rfl
  | a :: as, b :: bs, h => by
    simp only [pcs.pathEq, Bool.and_eq_true, beq_iff_eq] at h
    rw [h.1, pathEq_ok h.2]
  | [], _ :: _, h => by cases h
  | _ :: _, [], h => by cases h

theorem pcsOk_nil [Sites] {C : Ctx} {code : Code} : (pcs []).Ok P C code := fun p q code' h => by cases h
theorem pcsOk_cons [Sites] {C : Ctx} {code : Code} {p : List Bool} {q : Pc} {r : List (List Bool × Pc)} {c1 : Code} (hs : sub code p = some c1) (hq : q.Ok P C c1) (hr : (pcs r).Ok P C code) : (pcs ((p, q) :: r)).Ok P C code := by
  intro p' q' code' h1 h2
  simp only [pcs] at h1
  cases hb : pcs.pathEq p p' with
  | true =>
    rw [hb] at h1
    simp only [cond_true, Option.some.injEq] at h1
    have := pathEq_ok hb
    subst this
    subst h1
    rw [hs] at h2
    cases h2
    exact @hq
  | false =>
    rw [hb] at h1
    exact hr p' q' code' h1 h2

def TD.no : TD := ⟨.none, 0, 0, [], none, false⟩
def TD.Holds (P : Program) (t : TypeId) (d : TD) : Prop := TD.kindOk P t d ∧ TD.infoOk P t d ∧ TD.eqOk P t d
def Tab (P : Program) (l : List TD) (i : Nat) : Prop := ∀ j d, l[j]? = some d → d.k ≠ .none → TD.Holds P (i + j) d
theorem Tab.nil {i : Nat} : Tab P [] i := fun j d h => by simp at h
theorem Tab.cons {d : TD} {r : List TD} {i : Nat} (h : TD.Holds P i d) (hr : Tab P r (i + 1)) : Tab P (d :: r) i := by
  intro j d' hj hk
  cases j with
  | zero => simp only [List.getElem?_cons_zero, Option.some.injEq] at hj; subst hj; exact h
  | succ j =>
    simp only [List.getElem?_cons_succ] at hj
    have := hr j d' hj hk
    rwa [show i + 1 + j = i + (j + 1) by omega] at this
theorem Tab.skip {r : List TD} {i : Nat} (hr : Tab P r (i + 1)) : Tab P (TD.no :: r) i := by
  intro j d' hj hk
  cases j with
  | zero => simp only [List.getElem?_cons_zero, Option.some.injEq] at hj; subst hj; exact absurd rfl hk
  | succ j =>
    simp only [List.getElem?_cons_succ] at hj
    have := hr j d' hj hk
    rwa [show i + 1 + j = i + (j + 1) by omega] at this
theorem Tab.ok {l : List TD} (h : Tab P l 0) : TEnv.Ok P (fun t => l.getD t TD.no) := by
  intro t ht
  cases hl : l[t]? with
  | none => simp [List.getD, hl, TD.no] at ht
  | some d =>
    have hd : l.getD t TD.no = d := by simp [List.getD, hl]
    simp only [hd] at ht ⊢
    have := h t d hl ht
    rw [Nat.zero_add] at this
    exact this
theorem Con.or_ok [Sites] {f : FuncId} {c d : Con} (hc : c.Ok P f) (hd : d.Ok P f) : (c.or d).Ok P f where
  enters := hc.enters
  runs := by
    intro args s nx x y v s1 n1 W hpre hfn hpost
    cases x with
    | inl x =>
      refine hc.runs args s nx x y v s1 n1 W ?_ hfn hpost
      simp only [Con.or] at hpre
      split at hpre
      · rename_i x' hx
        simp only [Option.some.injEq] at hpre
        cases hpre
        exact hx
      · split at hpre <;> cases hpre
    | inr x =>
      refine hd.runs args s nx x y v s1 n1 W ?_ hfn hpost
      simp only [Con.or] at hpre
      split at hpre
      · cases hpre
      · split at hpre
        · rename_i x' hx
          simp only [Option.some.injEq] at hpre
          cases hpre
          exact hx
        · cases hpre
  wrote := by
    intro args s nx x y v s1 n1 W hpre hpost
    cases x with
    | inl x =>
      refine hc.wrote args s nx x y v s1 n1 W ?_ hpost
      simp only [Con.or] at hpre
      split at hpre
      · rename_i x' hx
        simp only [Option.some.injEq] at hpre
        cases hpre
        exact hx
      · split at hpre <;> cases hpre
    | inr x =>
      refine hd.wrote args s nx x y v s1 n1 W ?_ hpost
      simp only [Con.or] at hpre
      split at hpre
      · cases hpre
      · split at hpre
        · rename_i x' hx
          simp only [Option.some.injEq] at hpre
          cases hpre
          exact hx
        · cases hpre
end
end Go.Hay
/- Loops that are gone through round by round: no more than a number of rounds that is known. Conditions: none. -/
set_option linter.unusedVariables false
set_option linter.unusedSimpArgs false
namespace Go.Hay
open Go.RowKit

noncomputable def unrollRun {Ω : Type} (C : Ctx) (body : Code) (Λ : Pcs) : Nat → St → (Ctl → St → Option Ω) → Option Ω
  | 0, _, _ => none
  | n + 1, s, K => evC C body Λ s fun ctl s1 => match ctl with
    | .normal => unrollRun C body Λ n s1 K
    | .ret => K .ret s1
    | .exit id => K (.exit id) s1
noncomputable def Pc.unroll (C : Ctx) (body : Code) (Λ : Pcs) (n : Nat) : Pc := ⟨fun s K => unrollRun C body Λ n s K⟩

theorem unroll_ok [Sites] {P : Program} {C : Ctx} (hC : C.Ok P) (hmix : P.follows .mixedOrders = true) {body : Code} {Λ : Pcs} (hΛ : Λ.Ok P C body) (n : Nat) : (Pc.unroll C body Λ n).Ok P C (.loop body) := by
  intro Ω s K out h B fr c w a Q hfr hs hK
  refine wpIn_loop_rounds n ?_
  have key : ∀ (n : Nat) (s : St) (c1 : Cf) (w1 : World) (a1 : Act), unrollRun C body Λ n s K = some out → Sim B C fr c1 s w1 a1 → Ext c w c1 w1 → Code.roundsIn (WF B.rd) 0 P body Q n a1 w1 := by
    intro n
    induction n with
    | zero => intro s c1 w1 a1 h; cases h
    | succ n ih =>
      intro s c1 w1 a1 h hs1 hE
      rw [roundsIn_succ]
      refine evC_ok hC hmix hfr body Λ s _ h hΛ c1 w1 a1 _ hs1 fun ctl s2 c2 w2 a2 h1 h2 h3 => ?_
      cases ctl with
      | normal => exact ih s2 c2 w2 a2 h1 h2 (hE.trans h3)
      | ret => exact hK .ret s2 c2 w2 a2 h1 h2 (hE.trans h3)
      | exit id => exact hK (.exit id) s2 c2 w2 a2 h1 h2 (hE.trans h3)
  exact key n s c w a h hs (Ext.refl c w)
end Go.Hay
/- Rows that are lent to a function for one call: behind it they are again what they were. Conditions: none. -/
set_option linter.unusedVariables false
set_option linter.unusedSimpArgs false
namespace Go.Hay
open Go.RowKit

/-- Types whose values hold no slices. -/
def flatTy : Ty → Bool
  | .slice _ => false
  | .pair a b => flatTy a && flatTy b
  | _ => true

mutual
/-- Values that rest on no block that nobody writes. -/
def flatV : AV → Bool
  | .list _ _ => false
  | .eptr _ => false
  | .elist _ _ _ => false
  | .agg cs => flatVs cs
  | .tup cs => flatVs cs
  | .fn _ first cap => flatVs first && flatVs cap
  | _ => true
def flatVs : List AV → Bool
  | [] => true
  | x :: r => flatV x && flatVs r
end

def flatOb : Ob → Bool
  | .box _ cs | .rbox _ cs => flatVs cs
  | .row _ t _ | .rrow _ t _ => flatTy t
  | .frow _ _ => false
  | .dead => true

/-- What does not rest on such blocks; of the rest nothing is known any more. -/
def cutV : AV → AV
  | .tup cs => .tup (cs.map fun x => bif flatV x then x else .junk)
  | x => bif flatV x then x else .junk

def roOb : Ob → Ob
  | .box t cs => .rbox t cs
  | .row e t l => .rrow e t l
  | o => o
def roO (o : Ob) : Ob := bif flatOb o then o else roOb o
def roS (s : Obs) : Obs := s.map fun p => (p.1, roO p.2)

/-- Was a row lent? -/
def lent (s s2 : Obs) (k : Nat) : Bool := match look s k, look s2 k with
  | some (.row _ _ _), some (.frow _ _) => true
  | _, _ => false

def thawO (s s2 : Obs) (W : List Nat) (k : Nat) (o : Ob) : Ob :=
  bif lent s s2 k then (look s k).getD .dead else
  bif memB k W then (bif flatOb o then o else .dead) else (look s k).getD .dead
  where memB (k : Nat) : List Nat → Bool
    | [] => false
    | i :: r => Nat.beq i k || memB k r

def thawS (s s2 : Obs) (W : List Nat) (s3 : Obs) : Obs := s3.map fun p => (p.1, thawO s s2 W p.1 p.2)

/-- Is it a part of a row, or cells, or (where own says so) a row? -/
def lendable (own : Bool) : AV → Bool
  | .view _ _ _ _ => true
  | .agg _ => true
  | .own _ => own
  | _ => false

def lendS (q : Nat) (args : List AV) (s : Obs) : Obs := match args[q]? with
  | some v => roS (frz s v.cells)
  | none => s

/-- A contract whose argument number q is lent. -/
def Con.lend (q : Nat) (own : Bool) (K : Con) : Con where
  X := K.X
  Y := K.Y
  pre args s nx := match args[q]? with
    | some v => bif lendable own v then K.pre args (lendS q args s) nx else none
    | none => none
  fn := K.fn
  post args s nx x y := match K.post args (lendS q args s) nx x y with
    | some (v, s1, n1, W) => some (cutV v, thawS s (lendS q args s) W s1, n1, W)
    | none => none
  spl := K.spl
  spl_ok := K.spl_ok

theorem look_map (f : Nat → Ob → Ob) : ∀ (s : Obs) (k : Nat), look (s.map fun p => (p.1, f p.1 p.2)) k = (look s k).map (f k)
  | [], k => rfl
  | (i, o) :: s, k => by
    simp only [List.map_cons, look]
    cases hb : Nat.beq i k with
    | true =>
      have := Nat.eq_of_beq_eq_true hb
      subst this
      rfl
    | false => exact look_map f s k

theorem thaw_mem {k : Nat} : ∀ {W : List Nat}, thawO.memB k W = true ↔ k ∈ W
  | [] => by simp [thawO.memB]
  | i :: W => by
    simp only [thawO.memB, Bool.or_eq_true, List.mem_cons, thaw_mem (W := W)]
    refine or_congr ⟨fun h => (Nat.eq_of_beq_eq_true h).symm, fun h => by subst h; exact Nat.beq_refl _⟩ Iff.rfl

section
variable {B : Bs} {c c' : Cf} {w w' : World}

theorem flatTy_ok {I I' : Nat → Prop} : ∀ {t : Ty} {x : t.den} {us : List Value}, flatTy t = true → TR I w t x us → TR I' w' t x us
  | .byte, _, _, _, h => h
  | .int _, _, _, _, h => h
  | .bool, _, _, _, h => h
  | .str, _, _, _, h => h
  | .slice _, _, _, h, _ => by cases h
  | .pair a b, x, us, h, ⟨u, v, e, h1, h2⟩ => by
    simp only [flatTy, Bool.and_eq_true] at h
    exact ⟨u, v, e, flatTy_ok h.1 h1, flatTy_ok h.2 h2⟩
  | .unit, _, _, _, h => h

mutual
theorem flatV_ok (hn : ∀ i v, c.nm i = some v → c'.nm i = some v) : ∀ (x : AV) (u : Value), flatV x = true → VR c w x u → VR c' w' x u
  | .int k n, u, _, hx => by unfold VR at hx ⊢; exact hx
  | .bool b, u, _, hx => by unfold VR at hx ⊢; exact hx
  | .str s, u, _, hx => by unfold VR at hx ⊢; exact hx
  | .list t l, u, h, hx => by cases h
  | .nils, u, _, hx => by unfold VR at hx ⊢; exact hx
  | .own id, u, _, hx => by unfold VR at hx ⊢; exact ⟨hn _ _ hx.1, hx.2⟩
  | .view id sz lo n, u, _, hx => by
    unfold VR at hx ⊢
    obtain ⟨A, n0, cap, h1, h2⟩ := hx
    exact ⟨A, n0, cap, hn _ _ h1, h2⟩
  | .ptr id off, u, _, hx => by
    unfold VR at hx ⊢
    obtain ⟨b, h1, h2⟩ := hx
    exact ⟨b, hn _ _ h1, h2⟩
  | .rptr id sz i k, u, _, hx => by
    unfold VR at hx ⊢
    obtain ⟨b, n, cap, h1, h2⟩ := hx
    exact ⟨b, n, cap, hn _ _ h1, h2⟩
  | .aptr id n, u, _, hx => by
    unfold VR at hx ⊢
    obtain ⟨b, h1, h2⟩ := hx
    exact ⟨b, hn _ _ h1, h2⟩
  | .eptr cs, u, h, hx => by cases h
  | .elist sz n cs, u, h, hx => by cases h
  | .nilp, u, _, hx => by unfold VR at hx ⊢; exact hx
  | .agg cs, u, h, hx => by
    unfold VR at hx ⊢
    obtain ⟨us, e, hc⟩ := hx
    exact ⟨us, e, flatVs_ok hn cs us h hc⟩
  | .tup cs, u, h, hx => by
    unfold VR at hx ⊢
    obtain ⟨us, e, hc⟩ := hx
    exact ⟨us, e, flatVs_ok hn cs us h hc⟩
  | .fn f first cap, u, h, hx => by
    unfold VR at hx ⊢
    simp only [flatV, Bool.and_eq_true] at h
    obtain ⟨us, vs, e, h1, h2⟩ := hx
    exact ⟨us, vs, e, flatVs_ok hn first us h.1 h1, flatVs_ok hn cap vs h.2 h2⟩
  | .raw v, u, _, hx => by unfold VR at hx ⊢; exact hx
  | .junk, u, _, hx => by unfold VR; trivial
  | .yld id, u, _, hx => by
    unfold VR at hx ⊢
    obtain ⟨b, h1, h2⟩ := hx
    exact ⟨b, hn _ _ h1, h2⟩
  | .mp id, u, _, hx => by
    unfold VR at hx ⊢
    obtain ⟨b, h1, h2⟩ := hx
    exact ⟨b, hn _ _ h1, h2⟩
theorem flatVs_ok (hn : ∀ i v, c.nm i = some v → c'.nm i = some v) : ∀ (xs : List AV) (us : List Value), flatVs xs = true → VRs c w xs us → VRs c' w' xs us
  | [], us, _, hx => by unfold VRs at hx ⊢; exact hx
  | x :: xs, us, h, hx => by
    unfold VRs at hx ⊢
    simp only [flatVs, Bool.and_eq_true] at h
    obtain ⟨u, us', e, h1, h2⟩ := hx
    exact ⟨u, us', e, flatV_ok hn x u h.1 h1, flatVs_ok hn xs us' h.2 h2⟩
end

theorem cut1_ok (hn : ∀ i v, c.nm i = some v → c'.nm i = some v) {x : AV} {u : Value} (h : VR c w x u) : VR c' w' (bif flatV x then x else .junk) u := by
  cases hb : flatV x with
  | true => exact flatV_ok hn x u hb h
  | false => simp only [cond_false]; unfold VR; trivial
theorem cuts_ok (hn : ∀ i v, c.nm i = some v → c'.nm i = some v) : ∀ {xs : List AV} {us : List Value}, VRs c w xs us → VRs c' w' (xs.map fun x => bif flatV x then x else .junk) us
  | [], us, h => by simp only [VRs, List.map_nil] at h ⊢; exact h
  | x :: xs, us, h => by
    simp only [VRs, List.map_cons] at h ⊢
    obtain ⟨u, us', e, h1, h2⟩ := h
    exact ⟨u, us', e, cut1_ok hn h1, cuts_ok hn h2⟩
theorem cutV_ok (hn : ∀ i v, c.nm i = some v → c'.nm i = some v) {x : AV} {u : Value} (h : VR c w x u) : VR c' w' (cutV x) u := by
  unfold cutV
  split
  · simp only [VR] at h ⊢
    obtain ⟨us, e, hc⟩ := h
    exact ⟨us, e, cuts_ok hn hc⟩
  · exact cut1_ok hn h

theorem flatOb_ok [Sites] (hn : ∀ i v, c.nm i = some v → c'.nm i = some v) {id : Nat} {o : Ob} (hf : flatOb o = true) (h : ObR c w id o) : ObR ⟨c.nm, c'.I⟩ w id o := by
  have hn' : ∀ i v, c.nm i = some v → (⟨c.nm, c'.I⟩ : Cf).nm i = some v := fun _ _ h => h
  cases o with
  | box t cs =>
    obtain ⟨b, us, h1, h2, h3⟩ := h
    exact ⟨b, us, h1, h2, flatVs_ok hn' _ _ hf h3⟩
  | rbox t cs =>
    obtain ⟨b, us, h1, h2, h3⟩ := h
    exact ⟨b, us, h1, h2, flatVs_ok hn' _ _ hf h3⟩
  | row e t l =>
    obtain ⟨v, us, h1, h2, h3⟩ := h
    exact ⟨v, us, h1, h2, Cat.mono (fun x us hx => flatTy_ok hf hx) h3⟩
  | rrow e t l =>
    obtain ⟨v, us, h1, h2, h3⟩ := h
    exact ⟨v, us, h1, h2, Cat.mono (fun x us hx => flatTy_ok hf hx) h3⟩
  | frow t l => cases hf
  | dead => trivial

theorem roO_own {id b : Nat} {o : Ob} : Own c id (roO o) b ↔ Own c id o b := by
  unfold roO
  cases flatOb o with
  | true => exact Iff.rfl
  | false => cases o <;> exact Iff.rfl
theorem roO_obr [Sites] {id : Nat} {o : Ob} : ObR c w id (roO o) ↔ ObR c w id o := by
  unfold roO
  cases flatOb o with
  | true => exact Iff.rfl
  | false => cases o <;> exact Iff.rfl
theorem roO_ro {o : Ob} (h : isRo (roO o) = false) (ho : ∃ id b, Own c id o b) : isRo o = false ∧ flatOb o = true := by
  unfold roO at h
  cases hf : flatOb o with
  | true => rw [hf] at h; exact ⟨h, rfl⟩
  | false =>
    rw [hf] at h
    obtain ⟨id, b, ho⟩ := ho
    cases o <;> first | exact (ho : False).elim | exact (Bool.noConfusion (h : true = false))
theorem roS_look (s : Obs) (k : Nat) : look (roS s) k = (look s k).map roO := look_map (fun _ o => roO o) s k

theorem roS_ok [Sites] {s : Obs} (h : Rel B c s w) : Rel B c (roS s) w where
  ob id o hl := by
    rw [roS_look] at hl
    cases hs : look s id with
    | none => rw [hs] at hl; cases hl
    | some o0 =>
      rw [hs] at hl
      simp only [Option.map_some, Option.some.injEq] at hl
      subst hl
      exact roO_obr.2 (h.ob id o0 hs)
  dom id hl := by
    rw [roS_look] at hl
    cases hs : look s id with
    | none => exact h.dom id hs
    | some o0 => rw [hs] at hl; cases hl
  sep i j oi oj b hi hj h1 h2 := by
    rw [roS_look] at hi hj
    cases hsi : look s i with
    | none => rw [hsi] at hi; cases hi
    | some a =>
      cases hsj : look s j with
      | none => rw [hsj] at hj; cases hj
      | some d =>
        rw [hsi] at hi; rw [hsj] at hj
        simp only [Option.map_some, Option.some.injEq] at hi hj
        subst hi; subst hj
        exact h.sep i j a d b hsi hsj (roO_own.1 h1) (roO_own.1 h2)
  imm id o b hl ho := by
    rw [roS_look] at hl
    cases hs : look s id with
    | none => rw [hs] at hl; cases hl
    | some o0 =>
      rw [hs] at hl
      simp only [Option.map_some, Option.some.injEq] at hl
      subst hl
      exact h.imm id o0 b hs (roO_own.1 ho)
  lo := h.lo
  keep := h.keep
  mine id o b hl hr ho := by
    rw [roS_look] at hl
    cases hs : look s id with
    | none => rw [hs] at hl; cases hl
    | some o0 =>
      rw [hs] at hl
      simp only [Option.map_some, Option.some.injEq] at hl
      subst hl
      have ho' := roO_own.1 ho
      exact h.mine id o0 b hs (roO_ro (c := c) hr ⟨id, b, ho'⟩).1 ho'
  ro id o b hl ho := by
    rw [roS_look] at hl
    cases hs : look s id with
    | none => rw [hs] at hl; cases hl
    | some o0 =>
      rw [hs] at hl
      simp only [Option.map_some, Option.some.injEq] at hl
      subst hl
      exact h.ro id o0 b hs (roO_own.1 ho)
  sub := h.sub
  new := h.new
  os := h.os
  tape := h.tape
  output := h.output
  size := h.size

/-- What is lent is a row, and its block is not written. -/
structure Lent [Sites] (B : Bs) (c c2 : Cf) (s s2 : Obs) (w : World) : Prop where
  rel : Rel B c2 s2 w
  nm : c2.nm = c.nm
  sub : ∀ b, c.I b → c2.I b
  dom : ∀ k, look s2 k = none → look s k = none
  each : ∀ k o2, look s2 k = some o2 → ∃ o, look s k = some o ∧ (lent s s2 k = true ∧ (∃ e t l, o = .row e t l) ∧ (∀ b, Own c k o b → c2.I b) ∨ lent s s2 k = false ∧ o2 = roO o)

theorem frz1_cases (s : Obs) (x : AV) (k : Nat) : look (frz1 s x) k = look s k ∨ ∃ e t l, look s k = some (.row e t l) ∧ look (frz1 s x) k = some (.frow t l) := by
  have h : ∀ id, look (match lookR s id with | some (.row _ t l) => put s id (.frow t l) | _ => s) k = look s k ∨ ∃ e t l, look s k = some (.row e t l) ∧ look (match lookR s id with | some (.row _ t l) => put s id (.frow t l) | _ => s) k = some (.frow t l) := by
    intro id
    split
    · rename_i hl
      by_cases e : id = k
      · subst e
        exact .inr ⟨_, _, _, (lookR_row hl).1, by rw [look_put, if_pos rfl]⟩
      · exact .inl (by rw [look_put, if_neg e])
    · exact .inl rfl
  unfold frz1
  split
  · exact h _
  · exact h _
  · exact .inl rfl

theorem frz_cases [Sites] : ∀ (xs : List AV) (s : Obs) (k : Nat), look (frz s xs) k = look s k ∨ ∃ e t l, look s k = some (.row e t l) ∧ look (frz s xs) k = some (.frow t l)
  | [], s, k => .inl rfl
  | x :: xs, s, k => by
    rcases frz_cases xs (frz1 s x) k with h | ⟨e, t, l, h, h'⟩
    · rcases frz1_cases s x k with g | ⟨e, t, l, g, g'⟩
      · exact .inl (by simp only [frz]; rw [h, g])
      · exact .inr ⟨e, t, l, g, by simp only [frz]; rw [h, g']⟩
    · rcases frz1_cases s x k with g | ⟨e', t', l', g, g'⟩
      · exact .inr ⟨e, t, l, by rw [← g]; exact h, h'⟩
      · rw [g'] at h; cases h

/-- Whose rows are frozen: their blocks are not written. -/
theorem frz1_ok3 [Sites] {s : Obs} (h : Rel B c s w) (x : AV) : ∃ I', Rel B ⟨c.nm, I'⟩ (frz1 s x) w ∧ Ext c w ⟨c.nm, I'⟩ w ∧
    ∀ k e t l t' l', look s k = some (.row e t l) → look (frz1 s x) k = some (.frow t' l') → ∀ b, Own c k (.row e t l) b → I' b := by
  have hself : ∃ I', Rel B ⟨c.nm, I'⟩ s w ∧ Ext c w ⟨c.nm, I'⟩ w ∧ ∀ k e t l t' l', look s k = some (.row e t l) → look s k = some (.frow t' l') → ∀ b, Own c k (.row e t l) b → I' b :=
    ⟨c.I, h, Ext.refl c w, fun k e t l t' l' h1 h2 => by rw [h1] at h2; cases h2⟩
  have hrow : ∀ {id : Nat} {el : TypeId} {t : Ty} {l : List t.den}, lookR s id = some (.row el t l) → ∃ I', Rel B ⟨c.nm, I'⟩ (put s id (.frow t l)) w ∧ Ext c w ⟨c.nm, I'⟩ w ∧
      ∀ k e t1 l1 t' l', look s k = some (.row e t1 l1) → look (put s id (.frow t l)) k = some (.frow t' l') → ∀ b, Own c k (.row e t1 l1) b → I' b := fun {id el t l} hl =>
    ⟨_, (frz_row2 h (lookR_row hl).1 (lookR_row hl).2).1, (frz_row2 h (lookR_row hl).1 (lookR_row hl).2).2, fun k e t1 l1 t' l' h1 h2 b hb => by
      by_cases e0 : id = k
      · subst e0; exact .inr hb
      · rw [look_put, if_neg e0, h1] at h2; cases h2⟩
  unfold frz1
  split
  · split
    · rename_i hl; exact hrow hl
    · exact hself
  · split
    · rename_i hl; exact hrow hl
    · exact hself
  · exact hself

theorem frz_ok3 [Sites] : ∀ (xs : List AV) {c : Cf} {s : Obs}, Rel B c s w → ∃ I', Rel B ⟨c.nm, I'⟩ (frz s xs) w ∧ Ext c w ⟨c.nm, I'⟩ w ∧
    ∀ k e t l t' l', look s k = some (.row e t l) → look (frz s xs) k = some (.frow t' l') → ∀ b, Own c k (.row e t l) b → I' b
  | [], c, s, h => ⟨c.I, h, Ext.refl c w, fun k e t l t' l' h1 h2 => by simp only [frz] at h2; rw [h1] at h2; cases h2⟩
  | x :: xs, c, s, h => by
    obtain ⟨I1, h1, h2, h0⟩ := frz1_ok3 h x
    obtain ⟨I2, h3, h4, h5⟩ := frz_ok3 xs h1
    refine ⟨I2, h3, h2.trans h4, fun k e t l t' l' g1 g2 b hb => ?_⟩
    rcases frz1_cases s x k with g | ⟨e', t1, l1, g, g'⟩
    · exact h5 k e t l t' l' (by rw [g]; exact g1) g2 b hb
    · exact h4.lasts.sub b (h0 k e t l t1 l1 g1 g' b hb)

theorem lend_ok [Sites] {s : Obs} (h : Rel B c s w) (cs : List AV) : ∃ c2, Lent B c c2 s (roS (frz s cs)) w := by
  obtain ⟨I', h1, h2, h3⟩ := frz_ok3 cs h
  refine ⟨⟨c.nm, I'⟩, roS_ok h1, rfl, h2.lasts.sub, fun k hk => ?_, fun k o2 hk => ?_⟩
  · rw [roS_look] at hk
    cases hs : look (frz s cs) k with
    | none => exact frz_dom hs
    | some o => rw [hs] at hk; cases hk
  · have hk0 := hk
    rw [roS_look] at hk
    rcases frz_cases cs s k with g | ⟨e, t, l, g, g'⟩
    · rw [g] at hk
      cases hs : look s k with
      | none => rw [hs] at hk; cases hk
      | some o =>
        rw [hs] at hk
        simp only [Option.map_some, Option.some.injEq] at hk
        refine ⟨o, rfl, .inr ⟨?_, hk.symm⟩⟩
        unfold lent
        rw [hs, hk0, ← hk]
        unfold roO
        cases o with
        | row e t l => cases flatOb (.row e t l) <;> rfl
        | _ => rfl
    · refine ⟨_, g, .inl ⟨?_, ⟨e, t, l, rfl⟩, fun b hb => h3 k e t l t l g g' b hb⟩⟩
      unfold lent
      rw [g, roS_look, g']
      rfl

theorem not_lent {s s2 : Obs} {W : List Nat} {k : Nat} {o : Ob} (h : lent s s2 k = false) :
    k ∈ W ∧ flatOb o = true ∧ thawO s s2 W k o = o ∨ thawO s s2 W k o = .dead ∨ k ∉ W ∧ thawO s s2 W k o = (look s k).getD .dead := by
  unfold thawO
  rw [h, cond_false]
  cases hm : thawO.memB k W with
  | true =>
    cases hf : flatOb o with
    | true => exact .inl ⟨thaw_mem.1 hm, rfl, rfl⟩
    | false => exact .inr (.inl rfl)
  | false => exact .inr (.inr ⟨fun h => (by rw [thaw_mem.2 h] at hm; cases hm), rfl⟩)

theorem Own.iff {c c' : Cf} {id b : Nat} {o : Ob} (h : c'.nm = c.nm) : Own c' id o b ↔ Own c id o b := by
  cases o <;> simp only [Own, h]

/-- Whence an object comes that is there when what was lent is given back: 'o' stood there before and nobody wrote its block; or it is one of those behind the call. -/
inductive Whence [Sites] (c c2 : Cf) (s s2 s3 : Obs) (w : World) (id : Nat) (o : Ob) : Prop where
  | lent (h : look s id = some o) (hl : lent s s2 id = true) (hr : ∃ e t l, o = .row e t l) (hI : ∀ b, Own c id o b → c2.I b)
  | kept (h : look s id = some o) (h3 : look s3 id = some (roO o)) (h2 : look s2 id = some (roO o)) (hf : flatOb o = false)
  | flat (h3 : look s3 id = some o) (hf : flatOb o = true)
  | dead (h : o = .dead)

theorem whence [Sites] {s s2 s3 : Obs} {c2 : Cf} {W : List Nat} (hL : Lent B c c2 s s2 w) (hW : ∀ i, i ∉ W → look s3 i = look s2 i) {id : Nat} {o : Ob} (h : look (thawS s s2 W s3) id = some o) : Whence c c2 s s2 s3 w id o := by
  rw [show look (thawS s s2 W s3) id = (look s3 id).map (thawO s s2 W id) from look_map (thawO s s2 W) s3 id] at h
  cases h3 : look s3 id with
  | none => rw [h3] at h; cases h
  | some o3 =>
    rw [h3] at h
    simp only [Option.map_some, Option.some.injEq] at h
    cases hl : lent s s2 id with
    | true =>
      unfold thawO at h
      rw [hl, cond_true] at h
      have hl' := hl
      unfold lent at hl
      split at hl
      · rename_i g1 g2
        obtain ⟨o0, k1, k2⟩ := hL.each id _ g2
        rw [g1] at k1 h
        cases k1
        simp only [Option.getD_some] at h
        subst h
        rcases k2 with ⟨_, k3, k4⟩ | ⟨k3, _⟩
        · exact .lent g1 hl' k3 k4
        · rw [hl'] at k3; cases k3
      · cases hl
    | false =>
      rcases not_lent (W := W) (o := o3) hl with ⟨_, hf, e⟩ | e | ⟨hn, e⟩
      · rw [e] at h; subst h; exact .flat h3 hf
      · rw [e] at h; subst h; exact .dead rfl
      · rw [e] at h
        have h2 := hW id hn
        rw [h3] at h2
        obtain ⟨o0, k1, k2⟩ := hL.each id o3 h2.symm
        rcases k2 with ⟨k3, _⟩ | ⟨_, k3⟩
        · rw [hl] at k3; cases k3
        · rw [k1] at h
          simp only [Option.getD_some] at h
          subst h
          subst k3
          cases hf : flatOb o0 with
          | true => exact .flat (by rw [h3]; simp [roO, hf]) hf
          | false => exact .kept k1 h3 h2.symm hf

/-- What was lent is given back. -/
theorem thaw_ok [Sites] {s s2 s3 : Obs} {c2 c3 : Cf} {W : List Nat} (h : Rel B c s w) (hL : Lent B c c2 s s2 w) (hW : ∀ i, i ∉ W → look s3 i = look s2 i)
    (k : Rel (here B c2 s2 w) c3 s3 w') (hE : Ext c2 w c3 w') : Rel (here B c s w) ⟨c3.nm, c.I⟩ (thawS s s2 W s3) w' ∧ Ext c w ⟨c3.nm, c.I⟩ w' := by
  have hnm : ∀ i v, c.nm i = some v → c3.nm i = some v := fun i v hv => hE.nm i v (by rw [hL.nm]; exact hv)
  have hEx : Ext c w ⟨c3.nm, c.I⟩ w' := ⟨hnm, fun b hb => hb, fun b hb => hE.lasts.heap b (hL.sub b hb)⟩
  -- what may be written there may be written here
  have hM : ∀ b, (here B c2 s2 w).M b → ∃ i o, look s i = some o ∧ look s2 i = some o ∧ isRo o = false ∧ flatOb o = true ∧ Own c i o b := by
    rintro b ⟨i, o2, h1, h2, h3⟩
    have h3' := (Own.iff hL.nm).1 h3
    obtain ⟨o, g1, ⟨gl, ⟨e, t, l, g2⟩, _⟩ | ⟨_, g2⟩⟩ := hL.each i o2 h1
    · unfold lent at gl
      rw [g1, h1] at gl
      subst g2
      split at gl
      · rename_i e1 e2
        simp only [Option.some.injEq] at e2
        subst e2
        exact h3'.elim
      · cases gl
    · subst g2
      have ho := roO_own.1 h3'
      obtain ⟨q1, q2⟩ := roO_ro (c := c) h2 ⟨i, b, ho⟩
      refine ⟨i, o, g1, ?_, q1, q2, ho⟩
      rw [h1]; simp [roO, q2]
  have hR : ∀ b, (here B c2 s2 w).R b → (here B c s w).R b ∨ (here B c s w).M b := by
    rintro b ⟨i, o2, h1, h2, h3⟩
    have h3' := (Own.iff hL.nm).1 h3
    obtain ⟨o, g1, ⟨gl, ⟨e, t, l, g2⟩, _⟩ | ⟨_, g2⟩⟩ := hL.each i o2 h1
    · unfold lent at gl
      rw [g1, h1] at gl
      subst g2
      split at gl
      · rename_i e1 e2
        simp only [Option.some.injEq] at e2
        subst e2
        exact h3'.elim
      · cases gl
    · subst g2
      have ho := roO_own.1 h3'
      cases hr : isRo o with
      | true => exact .inl ⟨i, o, g1, hr, ho⟩
      | false => exact .inr ⟨i, o, g1, hr, ho⟩
  -- blocks of what was lent or kept stay
  have hstay : ∀ {id o b}, look s id = some o → Own c id o b → (c2.I b ∨ (flatOb o = false ∧ look s2 id = some (roO o))) → w'.heap[b]? = w.heap[b]? := by
    intro id o b h1 h2 h3
    refine k.keep b ((h.ob id o h1).lt h2) fun hm => ?_
    obtain ⟨i, o', g1, g1', g2, g3, g4⟩ := hM b hm
    rcases h3 with h3 | ⟨h3, h4⟩
    · exact hL.rel.imm i o' b g1' ((Own.iff hL.nm).2 g4) h3
    · have := h.sep i id o' o b g1 h1 g4 h2
      subst this
      rw [g1] at h1
      cases h1
      rw [g3] at h3; cases h3
  have hown : ∀ {id o b}, look s id = some o → (Own (⟨c3.nm, c.I⟩ : Cf) id o b ↔ Own c id o b) := by
    intro id o b h1
    have key : (∃ v, c3.nm id = some v ∧ blockOf v = some b) → (∃ v, c.nm id = some v) → ∃ v, c.nm id = some v ∧ blockOf v = some b := by
      rintro ⟨v, g1, g2⟩ ⟨v', g3⟩
      have := hnm id v' g3
      rw [g1] at this
      cases this
      exact ⟨v, g3, g2⟩
    have key2 : (∃ v, c.nm id = some v ∧ blockOf v = some b) → ∃ v, c3.nm id = some v ∧ blockOf v = some b := fun ⟨v, g1, g2⟩ => ⟨v, hnm id v g1, g2⟩
    have hob := h.ob id o h1
    cases o with
    | box t cs => obtain ⟨b', us, g, _⟩ := hob; exact ⟨fun q => key q ⟨_, g⟩, key2⟩
    | rbox t cs => obtain ⟨b', us, g, _⟩ := hob; exact ⟨fun q => key q ⟨_, g⟩, key2⟩
    | row e t l => obtain ⟨v', us, g, _⟩ := hob; exact ⟨fun q => key q ⟨_, g⟩, key2⟩
    | rrow e t l => obtain ⟨v', us, g, _⟩ := hob; exact ⟨fun q => key q ⟨_, g⟩, key2⟩
    | frow t l => exact Iff.rfl
    | dead => exact Iff.rfl
  -- who owns a block then: one behind the call, or one that was lent
  have hwho : ∀ {id o b}, look (thawS s s2 W s3) id = some o → Own (⟨c3.nm, c.I⟩ : Cf) id o b → (∃ o3, look s3 id = some o3 ∧ Own c3 id o3 b) ∨ (look s id = some o ∧ Own c id o b ∧ c2.I b) := by
    intro id o b h1 h2
    rcases whence hL hW h1 with ⟨g, gl, gr, gI⟩ | ⟨g, g3, g2, gf⟩ | ⟨g3, gf⟩ | gd
    · have := (hown g).1 h2
      exact .inr ⟨g, this, gI b this⟩
    · exact .inl ⟨_, g3, roO_own.2 ((Own.iff rfl).1 h2)⟩
    · exact .inl ⟨_, g3, (Own.iff rfl).1 h2⟩
    · subst gd; exact h2.elim
  refine ⟨?_, hEx⟩
  refine { ob := ?_, dom := ?_, sep := ?_, imm := ?_, lo := ?_, keep := ?_, mine := ?_, ro := ?_, sub := fun b hb => hb, new := fun b hb => .inl hb, os := k.os, tape := k.tape, output := k.output, size := k.size }
  · intro id o hl
    rcases whence hL hW hl with ⟨g, gl, gr, gI⟩ | ⟨g, g3, g2, gf⟩ | ⟨g3, gf⟩ | gd
    · exact (h.ob id o g).ext hEx fun b hb => hstay g hb (.inl (gI b hb))
    · exact (h.ob id o g).ext hEx fun b hb => hstay g hb (.inr ⟨gf, g2⟩)
    · exact flatOb_ok (c := c3) (c' := ⟨c3.nm, c.I⟩) (fun _ _ h => h) gf (k.ob id o g3)
    · subst gd; trivial
  · intro id hl
    rw [show look (thawS s s2 W s3) id = (look s3 id).map (thawO s s2 W id) from look_map (thawO s s2 W) s3 id] at hl
    cases h3 : look s3 id with
    | none => exact k.dom id h3
    | some o3 => rw [h3] at hl; cases hl
  · intro i j oi oj b hi hj h1 h2
    rcases hwho hi h1 with ⟨o3, g1, g2⟩ | ⟨g1, g2, g3⟩ <;> rcases hwho hj h2 with ⟨o4, k1, k2⟩ | ⟨k1, k2, k3⟩
    · exact k.sep i j o3 o4 b g1 k1 g2 k2
    · exact absurd (k.sub b k3) (k.imm i o3 b g1 g2)
    · exact absurd (k.sub b g3) (k.imm j o4 b k1 k2)
    · exact h.sep i j oi oj b g1 k1 g2 k2
  · intro id o b hl ho
    rcases hwho hl ho with ⟨o3, g1, g2⟩ | ⟨g1, g2, g3⟩
    · exact fun hI => k.imm id o3 b g1 g2 (k.sub b (hL.sub b hI))
    · exact h.imm id o b g1 g2
  · intro b hb
    exact Nat.lt_of_lt_of_le (h.lo b hb) k.size
  · intro b hb hm
    refine k.keep b hb fun hm2 => hm ?_
    obtain ⟨i, o, g1, _, g2, _, g3⟩ := hM b hm2
    exact ⟨i, o, g1, g2, g3⟩
  · intro id o b hl hr ho
    rcases whence hL hW hl with ⟨g, gl, gr, gI⟩ | ⟨g, g3, g2, gf⟩ | ⟨g3, gf⟩ | gd
    · exact .inl ⟨id, o, g, hr, (hown g).1 ho⟩
    · exact .inl ⟨id, o, g, hr, (hown g).1 ho⟩
    · rcases k.mine id o b g3 hr ((Own.iff rfl).1 ho) with hm | hm
      · obtain ⟨i, o', g1, _, g2, _, g4⟩ := hM b hm
        exact .inl ⟨i, o', g1, g2, g4⟩
      · exact .inr hm
    · subst gd; exact ho.elim
  · intro id o b hl ho
    have hold : ∀ {id o}, look s id = some o → Own c id o b → (here B c s w).R b ∨ (here B c s w).M b ∨ (here B c s w).w.heap.size ≤ b := by
      intro id o g g'
      cases hr : isRo o with
      | true => exact .inl ⟨id, o, g, hr, g'⟩
      | false => exact .inr (.inl ⟨id, o, g, hr, g'⟩)
    rcases whence hL hW hl with ⟨g, gl, gr, gI⟩ | ⟨g, g3, g2, gf⟩ | ⟨g3, gf⟩ | gd
    · exact hold g ((hown g).1 ho)
    · exact hold g ((hown g).1 ho)
    · rcases k.ro id o b g3 ((Own.iff rfl).1 ho) with hm | hm | hm
      · rcases hR b hm with hm | hm
        · exact .inl hm
        · exact .inr (.inl hm)
      · obtain ⟨i, o', g1, _, g2, _, g4⟩ := hM b hm
        exact .inr (.inl ⟨i, o', g1, g2, g4⟩)
      · exact .inr (.inr hm)
    · subst gd; exact ho.elim

theorem Con.lend_ok [Sites] {P : Program} {f : FuncId} {K : Con} {q : Nat} {own : Bool} (hK : K.Ok P f) : (K.lend q own).Ok P f where
  enters := hK.enters
  runs := by
    intro args s nx x y v s1 n1 W hpre hfn hpost B c w vals hR hv
    simp only [Con.lend] at hpre hpost
    split at hpre
    · rename_i v0 hq
      cases hb : lendable own v0 with
      | false => rw [hb] at hpre; cases hpre
      | true =>
        rw [hb, cond_true] at hpre
        split at hpost
        · rename_i v' s3 n3 W3 hp
          simp only [Option.some.injEq, Prod.mk.injEq] at hpost
          obtain ⟨rfl, rfl, rfl, rfl⟩ := hpost
          obtain ⟨c2, hL⟩ := Go.Hay.lend_ok hR v0.cells
          have hs2 : lendS q args s = roS (frz s v0.cells) := by unfold lendS; rw [hq]
          rw [hs2] at hpre hp ⊢
          have hE2 : Ext c w c2 w := ⟨fun i v h => by rw [hL.nm]; exact h, hL.sub, fun _ _ => rfl⟩
          refine (hK.runs args _ nx x y v' s3 n3 W3 hpre hfn hp (here B c2 (roS (frz s v0.cells)) w) c2 w vals hL.rel.rebase (VRs.ext hE2 _ _ hv)).mono ?_
          rintro e w' ⟨c3, u, rfl, h1, h2, h3⟩
          obtain ⟨g1, g2⟩ := thaw_ok hR hL (hK.wrote args _ nx x y v' s3 n3 W3 hpre hp) h1 h3
          exact ⟨⟨c3.nm, c.I⟩, u, rfl, hR.trans g1, cutV_ok (c := c3) (c' := ⟨c3.nm, c.I⟩) (fun _ _ h => h) h2, g2⟩
        · cases hpost
    · cases hpre
  wrote := by
    intro args s nx x y v s1 n1 W hpre hpost i hi
    simp only [Con.lend] at hpre hpost
    split at hpre
    · rename_i v0 hq
      cases hb : lendable own v0 with
      | false => rw [hb] at hpre; cases hpre
      | true =>
        rw [hb, cond_true] at hpre
        split at hpost
        · rename_i v' s3 n3 W3 hp
          simp only [Option.some.injEq, Prod.mk.injEq] at hpost
          obtain ⟨rfl, rfl, rfl, rfl⟩ := hpost
          have hw := hK.wrote args _ nx x y v' s3 n3 W3 hpre hp i hi
          have hs2 : lendS q args s = roS (frz s v0.cells) := by unfold lendS; rw [hq]
          rw [show look (thawS s (lendS q args s) W3 s3) i = (look s3 i).map (thawO s (lendS q args s) W3 i) from look_map (thawO s (lendS q args s) W3) s3 i, hw]
          cases h2 : look (lendS q args s) i with
          | none =>
            rw [hs2, roS_look] at h2
            cases hz : look (frz s v0.cells) i with
            | none => rw [frz_dom hz]; rfl
            | some o => rw [hz] at h2; cases h2
          | some o2 =>
            cases hs : look s i with
            | none =>
              exfalso
              rw [hs2, roS_look] at h2
              rcases frz_cases v0.cells s i with g | ⟨e, t, l, g, _⟩
              · rw [g, hs] at h2; cases h2
              · rw [hs] at g; cases g
            | some o =>
              simp only [Option.map_some, Option.some.injEq]
              unfold thawO
              rw [hs]
              cases lent s (lendS q args s) i with
              | true => rfl
              | false =>
                cases hm : thawO.memB i W3 with
                | true => exact absurd (thaw_mem.1 hm) hi
                | false => rfl
        · cases hpost
    · cases hpre
end
end Go.Hay
/- Functions that end in several ways, of different shapes. Conditions: none. -/
set_option linter.unusedVariables false
set_option linter.unusedSimpArgs false
namespace Go.Hay
open Go.RowKit

@[reducible] def shsDen : List Sh → Type
  | [] => Empty
  | [a] => a.den
  | a :: b :: r => a.den ⊕ shsDen (b :: r)

/-- Results taken by the first shape that fits. -/
def shsTake : (l : List Sh) → List AV → Obs → Option (shsDen l)
  | [], _, _ => none
  | [a], vs, s => match xt a vs ⟨s, [], []⟩ with
    | some (y, [], _) => some y
    | _ => none
  | a :: b :: r, vs, s => match xt a vs ⟨s, [], []⟩ with
    | some (y, [], _) => some (.inl y)
    | _ => match shsTake (b :: r) vs s with
      | some y => some (.inr y)
      | none => none

def shsCase {Ω : Type} : (l : List Sh) → shsDen l → ((o : Sh) → o.den → Option Ω) → Option Ω
  | [], y, _ => nomatch y
  | [a], y, k => k a y
  | a :: b :: r, y, k => match y with
    | .inl y => k a y
    | .inr y => shsCase (b :: r) y k

def shsSpl {Ω : Type} : (l : List Sh) → (y : shsDen l) → (shsDen l → Option Ω) → Option Ω
  | [], y, K => K y
  | [a], y, K => K y
  | a :: b :: r, y, K => match y with
    | .inl y => K (.inl y)
    | .inr y => shsSpl (b :: r) y fun y => K (.inr y)

theorem shsSpl_ok {Ω : Type} : ∀ (l : List Sh) (y : shsDen l) (K : shsDen l → Option Ω) (out : Ω), shsSpl l y K = some out → K y = some out
  | [], y, K, out, h => h
  | [a], y, K, out, h => h
  | a :: b :: r, .inl y, K, out, h => h
  | a :: b :: r, .inr y, K, out, h => shsSpl_ok (b :: r) y (fun y => K (.inr y)) out h

theorem shsCase_ok : ∀ (l : List Sh) (y : shsDen l), ∃ (o : Sh) (u : o.den), o ∈ l ∧ ∀ {Ω : Type} (k : (o : Sh) → o.den → Option Ω), shsCase l y k = k o u
  | [], y => nomatch y
  | [a], y => ⟨a, y, by simp, fun k => rfl⟩
  | a :: b :: r, .inl y => ⟨a, y, by simp, fun k => rfl⟩
  | a :: b :: r, .inr y => by
    obtain ⟨o, u, h1, h2⟩ := shsCase_ok (b :: r) y
    exact ⟨o, u, List.mem_cons_of_mem _ h1, fun k => by simp only [shsCase]; exact h2 k⟩

theorem shsTake_ok : ∀ {l : List Sh} {vs : List AV} {s : Obs} {y : shsDen l}, shsTake l vs s = some y →
    ∃ (o : Sh) (u : o.den) (z : Tk), o ∈ l ∧ xt o vs ⟨s, [], []⟩ = some (u, [], z) ∧ ∀ {Ω : Type} (k : (o : Sh) → o.den → Option Ω), shsCase l y k = k o u
  | [], vs, s, y, h => by cases h
  | [a], vs, s, y, h => by
    simp only [shsTake] at h
    split at h
    · rename_i y' z hx
      simp only [Option.some.injEq] at h
      subst h
      exact ⟨a, y', z, by simp, hx, fun k => rfl⟩
    · cases h
  | a :: b :: r, vs, s, y, h => by
    simp only [shsTake] at h
    split at h
    · rename_i y' z hx
      simp only [Option.some.injEq] at h
      subst h
      exact ⟨a, y', z, by simp, hx, fun k => rfl⟩
    · split at h
      · rename_i y' hy
        simp only [Option.some.injEq] at h
        subst h
        obtain ⟨o, u, z, h1, h2, h3⟩ := shsTake_ok hy
        exact ⟨o, u, z, List.mem_cons_of_mem _ h1, h2, fun k => by simp only [shsCase]; exact h3 k⟩
      · cases h

/-- A function: its input's shape, the shapes of what it may give back, what it computes. -/
structure Fm where
  ins : Sh
  outs : List Sh
  fn : ins.den → Option (shsDen outs)

def Fm.con (F : Fm) : Con where
  X := F.ins.den
  Y := fun _ => shsDen F.outs
  pre args s nx := match xt F.ins args ⟨s, [], []⟩ with
    | some (x, [], z) => bif F.outs.all fun o => backOk o z nx then some x else none
    | _ => none
  fn := F.fn
  post args s nx x y := match xt F.ins args ⟨s, [], []⟩ with
    | some (x', [], z) => shsCase F.outs y fun o y => some (oneOrTuple (bld (outNm z.tk (onames (nameAt z.tk) nx o 0)) o y 0).1,
        putAll (restore (bld (fun k => k) F.ins x' 0).2.1 z.tk 0 z.obs) (bld (outNm z.tk (onames (nameAt z.tk) nx o 0)) o y 0).2.1,
        nx + (onames (nameAt z.tk) nx o 0).length, tkNames z.tk ++ (z.fz ++ onames (nameAt z.tk) nx o 0))
    | _ => none
  spl _ y K := shsSpl F.outs y K
  spl_ok _ y K out h := shsSpl_ok F.outs y K out h

def endN (U : TEnv) (outs : List Sh) (rs : List ResultVar) (ctl : Ctl) (s : St) : Option (shsDen outs) :=
  match ctl with
  | .exit _ => none
  | _ => match resVs U s rs with
    | some vs => shsTake outs vs s.obs
    | none => none
def endM (U : TEnv) (outs : List Sh) (rs : List ResultVar) (fix : List Tmp) (ctl : Ctl) (s : St) : Option (shsDen outs) := endN U outs rs ctl (settleAll fix s)

section
variable {P : Program} {B : Bs} {c : Cf} {w : World} {s : Obs}
theorem fm_ok [Sites] {f : FuncId} {fn : Func} {code : Code} (hf : P.funcs[f]? = some fn) (hname : (fn.name == "runtime.NumGoroutine") = false) (hb : fn.body = some code) (hmix : P.follows .mixedOrders = true)
    {C : Ctx} (hC : C.Ok P) (hmay : ∀ t, C.may t = true) {F : Fm} (hnt : ∀ x, (bld (fun k => k) F.ins x 0).1.length + (fn.ntmps - (bld (fun k => k) F.ins x 0).1.length) = C.nt) {Λ : Pcs} (hΛ : Λ.Ok P C code) {n0 : Nat} {fix : List Tmp}
    (hev : ∀ x y, F.fn x = some y → evC C code Λ ⟨envOf 0 (bld (fun k => k) F.ins x 0).1, (bld (fun k => k) F.ins x 0).2.1, n0⟩ (endM C.U F.outs fn.results.toList fix) = some y) (hni : updIx F.ins = [] := by rfl) : F.con.Ok P f where
  enters args w := MuLone.run_callFunc_enter hf hname hb args w
  runs := by
    intro args s nx (x : F.ins.den) (y : shsDen F.outs) v s1 n1 W hpre hfn hpost B c w vals hR hv
    simp only [Fm.con] at hpre hpost
    split at hpre
    · rename_i x' z hx
      cases hbk : (F.outs.all fun o => backOk o z nx) with
      | false => simp [hbk] at hpre
      | true =>
        simp only [hbk, cond_true] at hpre
        obtain rfl : x' = x := Option.some.inj hpre
        rw [hx] at hpost
        simp only at hpost
        obtain ⟨vs, I1, hH, hv0⟩ := handed hR hv hx hni
        refine callsIn_wide.1 (callsIn_of_wp_marks (n := 0) (F := Fence.wide) hf hb trivial ?_)
        have hlen := hv0.length
        have hsim : Sim (bs0 none w.heap.size w vs I1 (bld (fun k => k) F.ins x' 0).2.1) C (fun _ => none) (cf0 vs I1) ⟨envOf 0 (bld (fun k => k) F.ins x' 0).1, (bld (fun k => k) F.ins x' 0).2.1, n0⟩ w
            { tmps := vals.toArray ++ Array.replicate (fn.ntmps - vals.toArray.size) undef, defers := [] } := by
          refine ⟨hH.rel hR, ⟨?_, fun k y hk => ?_, fun k v hk => (by cases hk)⟩, .nil, ⟨Nat.le_refl _, fun l hl => by cases hl⟩⟩
          · simp only [Array.size_append, List.size_toArray, Array.size_replicate]
            rw [← hnt x', hlen]
          · obtain ⟨_, hk⟩ := look_envOf _ _ _ _ hk
            simp only [Nat.sub_zero] at hk
            obtain ⟨u, hu, hvu⟩ := hv0.get hk
            have hlt : k < vals.length := (List.getElem?_eq_some_iff.1 hu).1
            have : (vals.toArray ++ Array.replicate (fn.ntmps - vals.toArray.size) undef).getD k undef = u := by
              rw [Array.getD_eq_getD_getElem?, Array.getElem?_append_left (by simpa using hlt)]
              simp [hu]
            rw [this]
            exact hvu
        refine evC_ok hC hmix (fun t ht => rfl) code Λ _ _ (hev x' y hfn) hΛ _ w _ _ hsim fun ctl st0 c10 w1 a1 hK hs10 hE10 => ?_
        obtain ⟨c1, hs1, hE11⟩ := settleAll_ok fix hs10
        have hE1 := hE10.trans hE11
        generalize hst : settleAll fix st0 = st at hs1
        have hctl : (ctl = .normal ∨ ctl = .ret) ∧ ∃ rs o u z1, o ∈ F.outs ∧ resVs C.U st fn.results.toList = some rs ∧ xt o rs ⟨st.obs, [], []⟩ = some (u, [], z1) ∧ ∀ {Ω : Type} (k : (o : Sh) → o.den → Option Ω), shsCase F.outs y k = k o u := by
          unfold endM endN at hK
          rw [hst] at hK
          split at hK
          · cases hK
          · rename_i hne
            refine ⟨?_, ?_⟩
            · cases ctl with
              | normal => exact .inl rfl
              | ret => exact .inr rfl
              | exit id => exact absurd rfl (hne id)
            · split at hK
              · rename_i rs hrs
                obtain ⟨o, u, z1, g1, g2, g3⟩ := shsTake_ok hK
                exact ⟨rs, o, u, z1, g1, hrs, g2, @g3⟩
              · cases hK
        obtain ⟨hctl, rs, o, y1, z1, ho, hrs, hx1, hcase⟩ := hctl
        have hbk := List.all_eq_true.1 hbk o ho
        simp only [backOk, Bool.and_eq_true] at hbk
        obtain ⟨⟨b1, b2⟩, b3, b4, b5⟩ := hbk
        rw [hcase] at hpost
        simp only [Option.some.injEq, Prod.mk.injEq] at hpost
        obtain ⟨rfl, rfl, _⟩ := hpost
        obtain ⟨w2, r1, r2, r3⟩ := Marks.pay (P := P) (fn := fn) (tmps := a1.tmps) (R := fun e w' => ∃ c' u, e = .returned u ∧ Rel B c' (putAll (restore (bld (fun k => k) F.ins x' 0).2.1 z.tk 0 z.obs) (bld (outNm z.tk (onames (nameAt z.tk) nx o 0)) o y1 0).2.1) w' ∧
            VR c' w' (oneOrTuple (bld (outNm z.tk (onames (nameAt z.tk) nx o 0)) o y1 0).1) u ∧ Ext c w c' w') hs1.rel hs1.marks (Nat.le_refl _)
        have hs2 : Sim (bs0 none w.heap.size w vs I1 (bld (fun k => k) F.ins x' 0).2.1) C (fun _ => none) c1 st w2 { a1 with defers := [] } :=
          ⟨r1, ⟨(hs1.tmps.ext r2).size, (hs1.tmps.ext r2).env, (hs1.tmps.ext r2).frame⟩, .nil, hs1.base⟩
        have hE2 := hE1.trans r2
        obtain ⟨us, hrun, hvr⟩ := results_ok (P := P) hC.U hs2 hrs
        obtain ⟨c2, g1, g2, g3, _⟩ := hH.give hR hs2.rel hE2.lasts (fun i _ v hi => hE2.nm i v hi) hvr hx1 b1 b2 rfl (Nat.le_of_ble_eq_true b5) b3 b4
        have hpost := r3 ⟨_, hrun, c2, _, rfl, g1, one_or_tuple g2, g3⟩
        rcases hctl with rfl | rfl
        · exact hpost
        · exact hpost
    · cases hpre
  wrote := by
    intro args s nx (x : F.ins.den) (y : shsDen F.outs) v s1 n1 W hpre hpost i hi
    simp only [Fm.con] at hpre hpost
    split at hpost
    · rename_i x' z hx
      obtain ⟨o, u, ho, hcase⟩ := shsCase_ok F.outs y
      rw [hcase] at hpost
      simp only [Option.some.injEq, Prod.mk.injEq] at hpost
      obtain ⟨_, rfl, _, rfl⟩ := hpost
      rw [hx] at hpre
      simp only at hpre
      cases hbk : (F.outs.all fun o => backOk o z nx) with
      | false => simp [hbk] at hpre
      | true =>
        have hbk := List.all_eq_true.1 hbk o ho
        simp only [backOk, Bool.and_eq_true] at hbk
        exact back_look hx hi (Nat.le_of_ble_eq_true hbk.2.2.2)
    · cases hpost
end
end Go.Hay
/- What a caller hands over, as plain data. -/
set_option linter.unusedVariables false
set_option linter.unusedSimpArgs false
namespace Go.Hay
open Go.RowKit

/-- Is a type of the program's the type of these values? -/
def tyAt (U : TEnv) : Nat → Ty → TypeId → Bool
  | 0, _, _ => false
  | n + 1, T, t => Nat.beq (U t).size T.size && match T, (U t).k with
    | .byte, .int .u8 => true
    | .int k, .int k' => ikEq k k'
    | .bool, .bool => true
    | .str, .string => true
    | .slice T, .slice e => Nat.blt 0 T.size && (Nat.blt 0 (U e).size && ((match (U e).k with | .none => false | _ => true) && tyAt U n T e))
    | .pair a b, .struct fs => tysAt (tyAt U n) (.pair a b) fs 0
    | .unit, .struct [] => true
    | _, _ => false
  where tysAt (r : Ty → TypeId → Bool) : Ty → List (TypeId × Nat) → Nat → Bool
  | .pair a .unit, [f], o => Nat.beq f.2 o && r a f.1
  | T, [f], o => Nat.beq f.2 o && r T f.1
  | .pair a b, f :: g :: q, o => Nat.beq f.2 o && (r a f.1 && tysAt r b (g :: q) (o + a.size))
  | _, _, _ => false

/-- How much a value counts. -/
def blk : (T : Ty) → T.den → Nat
  | .byte, _ | .int _, _ | .bool, _ => 1
  | .str, l => l.length + 1
  | .slice T, l => (l.map (blk T)).sum + 1
  | .pair a b, x => blk a x.1 + blk b x.2
  | .unit, _ => 0

/-- A measure of readings that is no less. -/
structure Bulk {H : Type} (b : DataW H → Nat) : Prop where
  pos : ∀ d, 1 ≤ b d
  str : ∀ l, l.length + 1 ≤ b (.lit (.string l))
  slice : ∀ l m, (l.map b).sum + 1 ≤ b (.slice l m)
  agg : ∀ l, (l.map b).sum ≤ b (.agg l)

section
variable {P : Program} {U : TEnv} {w : World} {H : Type} {enc : TypeId × Value → H} {sp : Nat → Bool} {held : Bool} {b : DataW H → Nat}

abbrev old (w : World) : Nat → Prop := fun k => k < w.heap.size

theorem tyAt_ne {n : Nat} {T : Ty} {t : TypeId} (h : tyAt U n T t = true) : (U t).k ≠ .none := by
  intro e
  cases n with
  | zero => simp [tyAt] at h
  | succ n => cases T <;> simp [tyAt, e] at h

theorem cellsOf_U (hU : U.Ok P) {t : TypeId} (h : (U t).k ≠ .none) : P.cellsOf t = (U t).size := by
  have := (hU t h).2.1
  unfold TD.infoOk at this
  cases hi : P.info? t with
  | none => simp [hi] at this
  | some i =>
    simp only [hi, Option.map_some, Option.some.injEq, Prod.mk.injEq] at this
    simp [Program.cellsOf, hi, this.1]

def OpenOk (P : Program) (w : World) (enc : TypeId × Value → H) (sp : Nat → Bool) (held : Bool) (b : DataW H → Nat) (T : Ty) (t : TypeId) : Prop :=
  ∀ fuel cs x, DataW.trod enc P w 0 sp held fuel t cs = some x → ∃ v : T.den, TR (old w) w T v cs ∧ blk T v ≤ b x.1

theorem add_none {a : Addr} (h : a.spot = none) (m : Nat) : a.add m = ⟨a.block, a.off + m, none⟩ := by
  unfold Addr.add
  split
  · rename_i e
    subst e
    cases a
    simp only at h
    subst h
    rfl
  · rfl
theorem cell_spot {a : Addr} {v : Value} (h : w.cell? a = some v) : a.spot = none ∧ a.block < w.heap.size := by
  unfold World.cell? at h
  split at h
  · rename_i hb
    split at h
    · cases h
    · rename_i hs
      refine ⟨?_, (Array.getElem?_eq_some_iff.1 hb).1⟩
      cases hsp : a.spot with
      | none => rfl
      | some _ => simp [hsp] at hs
  · cases h

theorem row_open [Sites] {T : Ty} {e : TypeId} (hsz : P.cellsOf e = T.size) (hpos : 0 < T.size) (ih : OpenOk P w enc sp held b T e) {fuel : Nat} {a : Addr} {elems : List (DataW H × List MemPlace)} :
    ∀ n, n ≤ elems.length → (∀ i, i < n → (w.cells? 0 (a.add (i * P.cellsOf e)) (P.cellsOf e)).bind (DataW.trod enc P w 0 sp held fuel e) = elems[i]?) →
      ∃ (l : List T.den) (us : List Value), l.length = n ∧ Cat (TR (old w) w T) l us ∧ us.length = n * T.size ∧ CellsAt w a.block a.off us ∧ (l.map (blk T)).sum ≤ ((elems.take n).map fun x => b x.1).sum ∧
        (0 < n → a.spot = none ∧ a.block < w.heap.size) := by
  intro n
  induction n with
  | zero => intro _ _; exact ⟨[], [], rfl, rfl, by simp, fun j u h => by simp at h, by simp, fun h => absurd h (Nat.lt_irrefl _)⟩
  | succ n ihn =>
    intro hn hel
    obtain ⟨l, us, h1, h2, h3, h4, h5, h6⟩ := ihn (by omega) fun i hi => hel i (by omega)
    have hlt : n < elems.length := by omega
    have := hel n (Nat.lt_succ_self n)
    rw [List.getElem?_eq_getElem hlt] at this
    obtain ⟨cs, hc, ht⟩ := Option.bind_eq_some_iff.1 this
    obtain ⟨v, hv, hb⟩ := ih _ _ _ ht
    obtain ⟨_, k1, k2⟩ := World.cells?_some hc
    have hspot : a.spot = none ∧ a.block < w.heap.size := by
      by_cases hn0 : n = 0
      · subst hn0
        have h0 := k2 0 (by omega)
        rw [show cs[0]? = some cs[0] from List.getElem?_eq_getElem (by omega)] at h0
        have e0 : (a.add (0 * P.cellsOf e)).add 0 = a := by simp [Addr.add]
        rw [e0] at h0
        exact cell_spot h0
      · exact h6 (by omega)
    have hadd : ∀ i, (a.add (n * P.cellsOf e)).add i = ⟨a.block, a.off + n * T.size + i, none⟩ := fun i => by
      rw [add_none hspot.1, add_none rfl, hsz]
    refine ⟨l ++ [v], us ++ cs, by simp [h1], h2.append ⟨cs, [], by simp, hv, rfl⟩, by rw [List.length_append, h3, k1, hsz, Nat.succ_mul], fun j u hj => ?_, ?_, fun _ => hspot⟩
    · by_cases hjl : j < us.length
      · rw [List.getElem?_append_left hjl] at hj
        exact h4 j u hj
      · rw [List.getElem?_append_right (by omega)] at hj
        have hj2 : j - us.length < P.cellsOf e := by
          have := (List.getElem?_eq_some_iff.1 hj).1
          rw [k1] at this
          exact this
        have := k2 _ hj2
        rw [hj, hadd] at this
        rw [← this]
        congr 2
        omega
    · have e1 : elems.take (n + 1) = elems.take n ++ [elems[n]] := by simp
      rw [e1, List.map_append, List.sum_append, List.map_append, List.sum_append]
      simp only [List.map_cons, List.map_nil, List.sum_cons, List.sum_nil]
      omega

theorem fields_open [Sites] (hU : U.Ok P) (hB : Bulk b) {n : Nat} (ih : ∀ T t, tyAt U n T t = true → OpenOk P w enc sp held b T t) {fuel : Nat} {cs : List Value} :
    ∀ (T : Ty) (fs : List (TypeId × Nat)) (o : Nat), tyAt.tysAt (tyAt U n) T fs o = true → ∀ xs : List (DataW H × List MemPlace), xs.length = fs.length →
      (∀ (i : Nat) f, fs[i]? = some f → DataW.trod enc P w 0 sp held fuel f.1 ((cs.drop f.2).take (P.cellsOf f.1)) = xs[i]?) → cs.length = o + T.size →
      ∃ v : T.den, TR (old w) w T v (cs.drop o) ∧ blk T v ≤ (xs.map fun x => b x.1).sum := by
  have hsize : ∀ T t, tyAt U n T t = true → P.cellsOf t = T.size := fun T t h => by
    rw [cellsOf_U hU (tyAt_ne h)]
    cases n with
    | zero => simp [tyAt] at h
    | succ n => unfold tyAt at h; simp only [Bool.and_eq_true] at h; exact Nat.eq_of_beq_eq_true h.1
  intro T fs o
  induction T, fs, o using tyAt.tysAt.induct with
  | case1 a f o =>
    intro h xs hl hx hc
    simp only [tyAt.tysAt, Bool.and_eq_true] at h
    obtain ⟨h1, h2⟩ := h
    have h1 := Nat.eq_of_beq_eq_true h1
    obtain ⟨x, rfl⟩ : ∃ x, xs = [x] := List.length_eq_one_iff.1 hl
    have := hx 0 f rfl
    simp only [List.getElem?_cons_zero] at this
    rw [h1, hsize _ _ h2, List.take_of_length_le (by rw [List.length_drop, hc]; simp [Ty.size])] at this
    obtain ⟨v, hv, hb⟩ := ih _ _ h2 _ _ _ this
    exact ⟨(v, ()), ⟨_, [], by simp, hv, rfl⟩, by simp [blk]; exact hb⟩
  | case2 T f o hne =>
    intro h xs hl hx hc
    have h : (Nat.beq f.2 o && tyAt U n T f.1) = true := by
      cases T with
      | pair a b => cases b <;> first | exact absurd rfl (hne _) | simpa only [tyAt.tysAt] using h
      | _ => simpa only [tyAt.tysAt] using h
    simp only [Bool.and_eq_true] at h
    obtain ⟨h1, h2⟩ := h
    have h1 := Nat.eq_of_beq_eq_true h1
    obtain ⟨x, rfl⟩ : ∃ x, xs = [x] := List.length_eq_one_iff.1 hl
    have := hx 0 f rfl
    simp only [List.getElem?_cons_zero] at this
    rw [h1, hsize _ _ h2, List.take_of_length_le (by rw [List.length_drop, hc]; omega)] at this
    obtain ⟨v, hv, hb⟩ := ih _ _ h2 _ _ _ this
    exact ⟨v, hv, by simpa using hb⟩
  | case3 a b' f g q o ihq =>
    intro h xs hl hx hc
    simp only [tyAt.tysAt, Bool.and_eq_true] at h
    obtain ⟨h1, h2, h3⟩ := h
    have h1 := Nat.eq_of_beq_eq_true h1
    cases xs with
    | nil => simp at hl
    | cons x xs =>
      have h0 := hx 0 f rfl
      simp only [List.getElem?_cons_zero] at h0
      rw [h1, hsize _ _ h2] at h0
      obtain ⟨v, hv, hb⟩ := ih _ _ h2 _ _ _ h0
      obtain ⟨v', hv', hb'⟩ := ihq h3 xs (by simpa using hl) (fun i f' hf => by have := hx (i + 1) f' (by simpa using hf); simpa using this) (by rw [hc]; simp [Ty.size]; omega)
      refine ⟨(v, v'), ⟨_, _, ?_, hv, hv'⟩, ?_⟩
      · rw [← List.drop_drop, List.take_append_drop]
      · simp only [blk, List.map_cons, List.sum_cons]
        omega
  | case4 T l o h1 h2 h3 =>
    intro h
    cases T <;> cases l <;> first | (simp [tyAt.tysAt] at h; done) | skip
    all_goals (rename_i q; cases q <;> first | (simp [tyAt.tysAt] at h; done) | exact absurd rfl (h2 _ _) | exact absurd rfl (h3 _ _ _ _ _ _))

theorem wf_fits {k : IntKind} {m : Int} (h : (Lit.int k m).wf = true) : fits k m = true := by
  simp only [Lit.wf, Bool.and_eq_true, decide_eq_true_eq] at h
  cases k <;> simp [fits, IntKind.min, IntKind.max, IntKind.signed, IntKind.bits] at * <;> omega

theorem open_ok [Sites] (hU : U.Ok P) (hB : Bulk b) : ∀ (n : Nat) (T : Ty) (t : TypeId), tyAt U n T t = true → OpenOk P w enc sp held b T t := by
  intro n
  induction n with
  | zero => intro T t h; simp [tyAt] at h
  | succ n ih =>
    intro T t h fuel cs x hx
    have hne := tyAt_ne h
    have hk := (hU t hne).1
    have hco := cellsOf_U hU hne
    unfold tyAt at h
    simp only [Bool.and_eq_true] at h
    obtain ⟨hs0, h⟩ := h
    have hs := Nat.eq_of_beq_eq_true hs0
    clear hs0
    split at h
    · rename_i e
      simp only [TD.kindOk, e] at hk
      obtain ⟨m, rfl, rfl, hw⟩ := DataW.trod_int hk hx
      have hf := wf_fits hw
      have hm : 0 ≤ m ∧ m < 256 := by simpa [fits] using hf
      refine ⟨UInt8.ofNat m.toNat, ?_, hB.pos _⟩
      simp only [TR]
      congr 2
      have : (UInt8.ofNat m.toNat).toNat = m.toNat := by
        rw [UInt8.toNat_ofNat']
        apply Nat.mod_eq_of_lt
        omega
      rw [this]
      omega
    · rename_i k k' e
      have := ikEq_eq h
      subst this
      simp only [TD.kindOk, e] at hk
      obtain ⟨m, rfl, rfl, hw⟩ := DataW.trod_int hk hx
      exact ⟨m, ⟨rfl, wf_fits hw⟩, hB.pos _⟩
    · rename_i e
      simp only [TD.kindOk, e] at hk
      obtain ⟨m, rfl, rfl⟩ := DataW.trod_bool hk hx
      exact ⟨m, rfl, hB.pos _⟩
    · rename_i e
      simp only [TD.kindOk, e] at hk
      obtain ⟨m, rfl, rfl, hm⟩ := DataW.trod_string hk hx
      refine ⟨m.data.toList, ⟨by rw [Array.toArray_toList], ?_⟩, hB.str _⟩
      have : m.data.toList.length = m.size := rfl
      rw [this]; exact hm
    · rename_i T e he
      simp only [Bool.and_eq_true, Nat.blt_eq] at h
      obtain ⟨h1, h2, h3, h4⟩ := h
      simp only [TD.kindOk, he] at hk
      have hce : P.cellsOf e = T.size := by
        rw [cellsOf_U hU (tyAt_ne h4)]
        cases n with
        | zero => simp [tyAt] at h4
        | succ n => unfold tyAt at h4; simp only [Bool.and_eq_true] at h4; exact Nat.eq_of_beq_eq_true h4.1
      rcases DataW.trod_slice hk hx with ⟨rfl, rfl⟩ | ⟨a, len, cap, elems, rest, m, _, rfl, rfl, _, hle, hmax, hlen, hel, _, _⟩
      · exact ⟨[], ⟨_, rfl, none, 0, rfl, Nat.le_refl _, Nat.zero_le _, fun _ => rfl, fun ad h => by cases h⟩, by simpa [blk] using hB.pos _⟩
      · obtain ⟨l, us, g1, g2, g3, g4, g5, g6⟩ := row_open (a := a) hce h1 (ih _ _ h4) len (by omega) hel
        refine ⟨l, ⟨_, rfl, some a, cap, by rw [g1], by omega, hmax, (fun h => by cases h), fun ad had hpos => ?_⟩, ?_⟩
        · simp only [Option.some.injEq] at had
          subst had
          obtain ⟨q1, q2⟩ := g6 (by omega)
          exact ⟨q1, q2, us, g2, g4⟩
        · simp only [blk]
          have := hB.slice (elems.map (·.1)) (rest.map (·.1))
          rw [List.map_map] at this
          rw [List.take_of_length_le (by omega)] at g5
          have e1 : (elems.map (b ∘ fun x => x.1)).sum = (elems.map fun x => b x.1).sum := rfl
          rw [e1] at this
          omega
    · rename_i a b' fs e
      simp only [TD.kindOk, e] at hk
      obtain ⟨hF, rfl⟩ := fields_of hk
      obtain ⟨xs, m, rfl, rfl, hl, hxl, hxs⟩ := DataW.trod_struct hF hx
      have := fields_open (cs := cs) (fuel := m) (w := w) (enc := enc) (sp := sp) (held := held) hU hB ih (.pair a b') _ 0 h xs (by simp [hxl]) (fun i f hf => by
        rw [List.getElem?_map, Option.map_eq_some_iff] at hf
        obtain ⟨f', hf', rfl⟩ := hf
        exact hxs i f' (by simpa using hf')) (by rw [hl, hco, hs]; simp)
      obtain ⟨v, hv, hb⟩ := this
      refine ⟨v, by simpa using hv, Nat.le_trans hb ?_⟩
      have := hB.agg (xs.map (·.1))
      rw [List.map_map] at this
      exact this
    · rename_i e
      simp only [TD.kindOk, e] at hk
      obtain ⟨hF, hfs⟩ := fields_of hk
      obtain ⟨xs, m, rfl, rfl, hl, hxl, hxs⟩ := DataW.trod_struct hF hx
      refine ⟨(), ?_, Nat.zero_le _⟩
      simp only [TR]
      rw [hco, hs] at hl
      exact List.eq_nil_of_length_eq_zero (by simpa [Ty.size] using hl)
    · cases h
end
end Go.Hay
/- A law: a function of plain data that gives true. -/
set_option linter.unusedVariables false
set_option linter.unusedSimpArgs false
namespace Go.Hay
open Go.RowKit Go.ChangeShapes

theorem ikEq_refl (k : IntKind) : ikEq k k = true := by cases k <;> rfl
theorem castL_refl (t : Ty) (l : List t.den) : castL t t l = some l := by simp [castL]

theorem mk_cells [Sites] (lk : Lk) : ∀ (T : Ty) (x : T.den) (r : List AV), mk lk T (cellsOf T x ++ r) = some (x, r)
  | .byte, x, r => by simp only [cellsOf, List.cons_append, List.nil_append, mk, mkByte, u8_byte]
  | .int k, x, r => by simp only [cellsOf, List.cons_append, List.nil_append, mk, mkInt, ikEq_refl, cond_true]
  | .bool, x, r => rfl
  | .str, x, r => rfl
  | .slice t, l, r => by simp only [cellsOf, List.cons_append, List.nil_append, mk, frozenList, castL_refl]
  | .pair a b, x, r => by simp only [cellsOf, List.append_assoc, mk, mk_cells lk a x.1, mk_cells lk b x.2]
  | .unit, x, r => rfl

theorem allOne_app {l m : List AV} (h1 : allOne l = true) (h2 : allOne m = true) : allOne (l ++ m) = true := by
  induction l with
  | nil => exact h2
  | cons a l ih =>
    simp only [allOne, List.cons_append, Bool.and_eq_true] at *
    exact ⟨h1.1, ih h1.2⟩
theorem allOne_cells [Sites] : ∀ (T : Ty) (x : T.den), allOne (cellsOf T x) = true
  | .byte, x => rfl
  | .int k, x => rfl
  | .bool, x => rfl
  | .str, x => rfl
  | .slice t, l => rfl
  | .pair a b, x => allOne_app (allOne_cells a x.1) (allOne_cells b x.2)
  | .unit, x => rfl
theorem val_facts (T : Ty) (x : T.den) : (valOf T x).cells = cellsOf T x ∧ aggOk T (valOf T x) = true := by
  cases T <;> simp [valOf, Ty.isAgg, cellsOf, AV.cells, aggOk]
theorem frz_nil : ∀ l : List AV, frz [] l = []
  | [] => rfl
  | x :: r => by
    have : frz1 [] x = [] := by cases x <;> rfl
    simp only [frz, this, frz_nil r]

def insOf : List Ty → Sh
  | [] => .nil
  | T :: r => .cons (.val T) (insOf r)
def blkAll : (Ts : List Ty) → (insOf Ts).den → Nat
  | [], _ => 0
  | T :: r, x => blk T x.1 + blkAll r x.2

section
variable {α : Type}
/-- Are the numbers of a value of their kinds? -/
def wfT : (T : Ty) → T.den → Prop
  | .int k, x => fits k x = true
  | .slice T, l => ∀ x ∈ l, wfT T x
  | .pair a b, x => wfT a x.1 ∧ wfT b x.2
  | _, _ => True
def wfAll : (Ts : List Ty) → (insOf Ts).den → Prop
  | [], _ => True
  | T :: r, x => wfT T x.1 ∧ wfAll r x.2

theorem cat_wf {R : α → List Value → Prop} {p : α → Prop} (h : ∀ x us, R x us → p x) : ∀ {l : List α} {us : List Value}, Cat R l us → ∀ x ∈ l, p x
  | [], _, _, x, hx => by cases hx
  | y :: l, us, ⟨a, b, e, h1, h2⟩, x, hx => by
    rcases List.mem_cons.1 hx with rfl | hx
    · exact h _ _ h1
    · exact cat_wf h h2 x hx
theorem slice_wf {I : Nat → Prop} {w : World} {R : α → List Value → Prop} {p : α → Prop} (h : ∀ x us, R x us → p x) {l : List α} {u : Value} (hs : SliceAt I w R l u) : ∀ x ∈ l, p x := by
  obtain ⟨A, c, e, hn, hm, h0, hc⟩ := hs
  intro x hx
  have hpos : 0 < l.length := List.length_pos_of_mem hx
  cases A with
  | none => exact absurd (h0 rfl) (by omega)
  | some ad =>
    obtain ⟨_, _, us, h1, _⟩ := hc ad rfl hpos
    exact cat_wf h h1 x hx
theorem TR.wf {I : Nat → Prop} {w : World} : ∀ {t : Ty} {x : t.den} {us : List Value}, TR I w t x us → wfT t x
  | .byte, x, us, h => trivial
  | .int k, x, us, h => by simp only [TR] at h; exact h.2
  | .bool, x, us, h => trivial
  | .str, x, us, h => trivial
  | .slice t, x, us, h => by
    simp only [TR] at h
    obtain ⟨u, _, h1⟩ := h
    exact slice_wf (fun x us h => TR.wf h) h1
  | .pair a b, x, us, h => by
    simp only [TR] at h
    obtain ⟨u, v, _, h1, h2⟩ := h
    exact ⟨TR.wf h1, TR.wf h2⟩
  | .unit, x, us, h => trivial
theorem VRs.split {c : Cf} {w : World} : ∀ {xs ys : List AV} {us : List Value}, VRs c w (xs ++ ys) us → ∃ u v, us = u ++ v ∧ VRs c w xs u ∧ VRs c w ys v
  | [], ys, us, h => ⟨[], us, rfl, by simp [VRs], h⟩
  | x :: xs, ys, us, h => by
    simp only [List.cons_append, VRs] at h
    obtain ⟨u, us', rfl, h1, h2⟩ := h
    obtain ⟨p, q, rfl, h3, h4⟩ := VRs.split h2
    exact ⟨u :: p, q, rfl, by simp only [VRs]; exact ⟨u, p, rfl, h1, h3⟩, h4⟩
theorem cells_wf {c : Cf} {w : World} : ∀ {t : Ty} {x : t.den} {us : List Value}, VRs c w (cellsOf t x) us → wfT t x
  | .byte, x, us, h => trivial
  | .int k, x, us, h => by
    simp only [cellsOf, VRs, VR] at h
    obtain ⟨u, us', _, h1, _⟩ := h
    exact h1.2
  | .bool, x, us, h => trivial
  | .str, x, us, h => trivial
  | .slice t, x, us, h => by
    simp only [cellsOf, VRs, VR] at h
    obtain ⟨u, us', _, h1, _⟩ := h
    exact slice_wf (fun x us h => TR.wf h) h1
  | .pair a b, x, us, h => by
    simp only [cellsOf] at h
    obtain ⟨u, v, _, h1, h2⟩ := VRs.split h
    exact ⟨cells_wf h1, cells_wf h2⟩
  | .unit, x, us, h => trivial
theorem val_wf {c : Cf} {w : World} {t : Ty} {x : t.den} {v : Value} (h : VR c w (valOf t x) v) : wfT t x := by
  unfold valOf at h
  split at h
  · simp only [VR] at h
    obtain ⟨us, _, h1⟩ := h
    exact cells_wf h1
  · rename_i hno
    split at h
    · rename_i a ha
      exact cells_wf (t := t) (x := x) (us := [v]) (c := c) (w := w) (by rw [ha]; simp only [VRs]; exact ⟨v, [], rfl, h, rfl⟩)
    · rename_i xs hag
      cases t with
      | pair a b => cases hno
      | unit => trivial
      | int k => exact absurd rfl (hag _)
      | slice t => exact absurd rfl (hag _)
      | _ => trivial
theorem args_wf {c : Cf} {w : World} {nm : Nat → Nat} : ∀ {Ts : List Ty} {x : (insOf Ts).den} {n : Nat} {vals : List Value}, VRs c w (bld nm (insOf Ts) x n).1 vals → wfAll Ts x
  | [], x, n, vals, h => trivial
  | T :: r, x, n, vals, h => by
    have h' : VRs c w ([valOf T x.1] ++ (bld nm (insOf r) x.2 n).1) vals := h
    obtain ⟨u, v, rfl, h1, h2⟩ := VRs.split h'
    refine ⟨?_, args_wf h2⟩
    simp only [VRs] at h1
    obtain ⟨u', us', _, h3, _⟩ := h1
    exact val_wf h3

end

theorem xt_ins [Sites] (nm : Nat → Nat) : ∀ (Ts : List Ty) (x : (insOf Ts).den) (n : Nat) (fz : List Nat), ∃ fz', xt (insOf Ts) (bld nm (insOf Ts) x n).1 ⟨[], [], fz⟩ = some (x, [], ⟨[], [], fz'⟩)
  | [], x, n, fz => ⟨fz, rfl⟩
  | T :: r, x, n, fz => by
    obtain ⟨h1, h2⟩ := val_facts T x.1
    have hmk : mk1 (look ([] : Obs)) T (cellsOf T x.1) = some x.1 := by
      have := mk_cells (look ([] : Obs)) T x.1 []
      rw [List.append_nil] at this
      simp only [mk1, this]
    obtain ⟨fz', hr⟩ := xt_ins nm r x.2 n (idsDeep (valOf T x.1) ++ fz)
    refine ⟨fz', ?_⟩
    simp only [insOf, bld, List.cons_append, List.nil_append, xt, h1, h2, frz_nil, allOne_cells, Bool.and_self, hmk, hr]
    rfl

section
variable {P : Program} {U : TEnv} {w : World} {H : Type} {enc : TypeId × Value → H} {b : DataW H → Nat}

def tysOk (U : TEnv) : List Ty → List TypeId → Bool
  | [], [] => true
  | T :: r, t :: q => tyAt U 30 T t && tysOk U r q
  | _, _ => false

abbrev c0 (w : World) : Cf := ⟨fun _ => none, old w⟩

theorem arg_open [Sites] (hU : U.Ok P) (hB : Bulk b) {T : Ty} {t : TypeId} (h : tyAt U 30 T t = true) {base : Nat} {v : Value} {d : DataW H} {p : List MemPlace} (hval : Value.okWide P w .any base t v)
    (ht : DataW.Trod enc P w 0 (fun _ => true) true t v d p) : ∃ x : T.den, VR (c0 w) w (valOf T x) v ∧ blk T x ≤ b d := by
  obtain ⟨fuel, ht⟩ := ht
  obtain ⟨x, hx, hb⟩ := open_ok (w := w) (enc := enc) (sp := fun _ => true) (held := true) hU hB 30 T t h _ _ _ ht
  refine ⟨x, ?_, hb⟩
  have hc := cellsOf_ok (c := c0 w) (w := w) hx
  have hne := tyAt_ne h
  have hk := (hU t hne).1
  unfold tyAt at h
  simp only [Bool.and_eq_true] at h
  obtain ⟨hs0, h⟩ := h
  clear hs0
  have hone : (∀ cs, v ≠ .agg cs) → v.cells.toList = [v] := fun hv => by
    cases v <;> first | rfl | exact absurd rfl (hv _)
  have leaf : ∀ (D : TypeDesc), P.underlying t = some D → (∀ cs, ¬ Value.okWide P w .any base t (.agg cs)) → ∀ a, cellsOf T x = [a] → valOf T x = a → VR (c0 w) w (valOf T x) v := by
    intro D _ hno a ha hva
    rw [hone (fun cs e => hno cs (by rw [← e]; exact hval)), ha] at hc
    simp only [VRs] at hc
    obtain ⟨u, us, e1, e2, e3⟩ := hc
    simp only [List.cons.injEq] at e1
    rw [hva, e1.1]
    exact e2
  split at h
  · rename_i e
    simp only [TD.kindOk, e] at hk
    exact leaf _ hk (fun cs hv => by simp [Value.okWide, hk, Cell.okWide, Cell.ok] at hv) _ rfl rfl
  · rename_i e
    simp only [TD.kindOk, e] at hk
    exact leaf _ hk (fun cs hv => by simp [Value.okWide, hk, Cell.okWide, Cell.ok] at hv) _ rfl rfl
  · rename_i e
    simp only [TD.kindOk, e] at hk
    exact leaf _ hk (fun cs hv => by simp [Value.okWide, hk, Cell.okWide, Cell.ok] at hv) _ rfl rfl
  · rename_i e
    simp only [TD.kindOk, e] at hk
    exact leaf _ hk (fun cs hv => by simp [Value.okWide, hk, Cell.okWide, Cell.ok] at hv) _ rfl rfl
  · rename_i e
    simp only [TD.kindOk, e] at hk
    exact leaf _ hk (fun cs hv => by simp [Value.okWide, hk, Cell.okWide, Cell.ok] at hv) _ rfl rfl
  · rename_i e
    simp only [TD.kindOk, e] at hk
    obtain ⟨hF, _⟩ := fields_of hk
    simp only [Value.okWide, hF] at hval
    obtain ⟨cs, rfl, _⟩ := hval
    simp only [Value.cells] at hc
    show VR (c0 w) w (.agg (cellsOf _ x)) _
    simp only [VR]
    exact ⟨cs.toList, by rw [Array.toArray_toList], hc⟩
  · rename_i e
    simp only [TD.kindOk, e] at hk
    obtain ⟨hF, _⟩ := fields_of hk
    simp only [Value.okWide, hF] at hval
    obtain ⟨cs, rfl, _⟩ := hval
    simp only [Value.cells] at hc
    show VR (c0 w) w (.agg (cellsOf _ x)) _
    simp only [VR]
    exact ⟨cs.toList, by rw [Array.toArray_toList], hc⟩
  · cases h

theorem args_open [Sites] (hU : U.Ok P) (hB : Bulk b) {base : Nat} : ∀ (Ts : List Ty) (ts : List TypeId) (vs : List Value) (ds : List (DataW H)) (p : List MemPlace), tysOk U Ts ts = true → (∀ (j : Nat) t v, ts[j]? = some t → vs[j]? = some v → Value.okWide P w .any base t v) →
    DataW.TrodAll enc P w 0 (fun _ => true) true ts vs ds p → ∃ x : (insOf Ts).den, VRs (c0 w) w (bld (fun k => k) (insOf Ts) x 0).1 vs ∧ blkAll Ts x ≤ (ds.map b).sum ∧ ds.length = Ts.length
  | [], [], [], [], p, _, _, _ => ⟨(), by simp only [insOf, bld, VRs], by simp [blkAll], rfl⟩
  | T :: r, t :: q, v :: vs, d :: ds, p, h, hval, ⟨p1, p2, h1, h2, _⟩ => by
    simp only [tysOk, Bool.and_eq_true] at h
    obtain ⟨x, k1, k2⟩ := arg_open hU hB h.1 (hval 0 t v rfl rfl) h1
    obtain ⟨y, k3, k4, k5⟩ := args_open hU hB r q vs ds p2 h.2 (fun j t' v' hj hv => hval (j + 1) t' v' (by simpa using hj) (by simpa using hv)) h2
    refine ⟨(x, y), ?_, ?_, by simp [k5]⟩
    · simp only [insOf, bld, List.cons_append, List.nil_append, VRs]
      exact ⟨v, vs, rfl, k1, k3⟩
    · simp only [blkAll, List.map_cons, List.sum_cons]
      omega
  | [], [], [], _ :: _, _, _, _, h => by simp [DataW.TrodAll] at h
  | [], [], _ :: _, _, _, _, _, h => by simp [DataW.TrodAll] at h
  | [], _ :: _, _, _, _, h, _, _ => by simp [tysOk] at h
  | _ :: _, [], _, _, _, h, _, _ => by simp [tysOk] at h
  | _ :: _, _ :: _, [], _, _, _, _, h => by simp [DataW.TrodAll] at h
  | _ :: _, _ :: _, _ :: _, [], _, _, _, h => by simp [DataW.TrodAll] at h

/-- What a law's function is proved to do. -/
abbrev lawFs (Ts : List Ty) (g : (insOf Ts).den → Option (Bool × Unit)) : Fs := ⟨insOf Ts, .cons (.val .bool) .nil, g⟩

theorem law_run [Sites] {Ts : List Ty} {g : (insOf Ts).den → Option (Bool × Unit)} {f : FuncId} (hC : (lawFs Ts g).con.Ok P f) {x : (insOf Ts).den} {r : Bool} (hg : g x = some (r, ())) {vals : List Value} (hv : VRs (c0 w) w (bld (fun k => k) (insOf Ts) x 0).1 vals) :
    Calls P f vals.toArray w fun e w' => e = .returned (.bool r) ∧ Below w.heap.size w w' := by
  obtain ⟨fz, hxt⟩ := xt_ins (fun k => k) Ts x 0 []
  have hR : Rel ⟨w, old w, fun _ => False, fun _ => False, none, w.heap.size⟩ (c0 w) [] w :=
    { ob := fun id o h => by simp [look] at h
      dom := fun id h => rfl
      sep := fun i j oi oj bb h => by simp [look] at h
      imm := fun id o bb h => by simp [look] at h
      lo := fun bb h => h
      keep := fun bb _ _ => rfl
      mine := fun id o bb h => by simp [look] at h
      ro := fun id o bb h => by simp [look] at h
      sub := fun bb h => h
      new := fun bb h => .inl h
      os := rfl
      tape := rfl
      output := rfl
      size := Nat.le_refl _ }
  have hpre : (lawFs Ts g).con.pre (bld (fun k => k) (insOf Ts) x 0).1 [] 0 = some x := by
    simp only [Fs.con, hxt]
    rfl
  have hpost : ∃ s1 n1 W, (lawFs Ts g).con.post (bld (fun k => k) (insOf Ts) x 0).1 [] 0 x (r, ()) = some (.bool r, s1, n1, W) := by
    simp only [Fs.con, hxt]
    exact ⟨_, _, _, rfl⟩
  obtain ⟨s1, n1, W, hpost⟩ := hpost
  refine (hC.runs _ [] 0 x (r, ()) _ s1 n1 W hpre hg hpost _ _ w vals hR hv).mono ?_
  rintro e w' ⟨c', u, rfl, h1, h2, h3⟩
  simp only [VR] at h2
  subst h2
  exact ⟨rfl, h1.os, h1.tape, h1.output, h1.size, fun k hk => h1.keep k hk (fun h => h)⟩

theorem args_stay (hl : laidOutB P = true) {w' : World} (hb : Below w.heap.size w w') : ∀ {ts : List TypeId} {vs : List Value} {ds : List (DataW H)} {p : List MemPlace}, ts.all (fun t => P.readableRec t && decide (t < P.types.size)) = true → (∀ x ∈ p, x.block < w.heap.size) →
    DataW.TrodAll enc P w 0 (fun _ => true) true ts vs ds p → DataW.TrodAll enc P w' 0 (fun b => decide (b < w.heap.size)) true ts vs ds p
  | [], [], [], p, _, _, h => h
  | t :: ts, v :: vs, d :: ds, p, hr, hlt, ⟨p1, p2, h1, h2, e⟩ => by
    simp only [List.all_cons, Bool.and_eq_true, decide_eq_true_eq] at hr
    exact ⟨p1, p2, Below.trod hl hr.1.1 hr.1.2 h1 hb (fun x hx => hlt x (by rw [e]; exact List.mem_append_left _ hx)), args_stay hl hb (by simpa using hr.2) (fun x hx => hlt x (by rw [e]; exact List.mem_append_right _ hx)) h2, e⟩
  | [], [], _ :: _, _, _, _, h => by simp [DataW.TrodAll] at h
  | [], _ :: _, _, _, _, _, h => by simp [DataW.TrodAll] at h
  | _ :: _, [], _, _, _, _, h => by simp [DataW.TrodAll] at h
  | _ :: _, _ :: _, [], _, _, _, h => by simp [DataW.TrodAll] at h

/-- A law: of whatever is handed over, within a bound, the function gives true; what was handed over reads as before. -/
theorem law_ok [Sites] (hU : U.Ok P) (hl : laidOutB P = true) {f : FuncId} {fn : Func} {Ts : List Ty} {tb : TypeId} (hty : tysOk U Ts fn.params.toList = true) (hread : fn.params.toList.all (fun t => P.readableRec t && decide (t < P.types.size)) = true)
    (hres : fn.resultTypes = #[tb]) (hb : P.underlying tb = some .bool) {s : ChangeSpec} (hsv : s.vars = []) (hfn : ∀ ds : List (DataW H), ds.length = Ts.length → s.fn H ds = { results := [.lit (.bool true)], args := ds })
    (hB : Bulk b) {K : Nat} {g : Nat → (insOf Ts).den → Option (Bool × Unit)} (hC : ∀ N, (lawFs Ts (g N)).con.Ok P f) (hlaw : ∀ x : (insOf Ts).den, blkAll Ts x ≤ K → wfAll Ts x → ∃ N, g N x = some (true, ()))
    {W : World} {base : Nat} {args : Array Value} {ds gs : List (DataW H)} {before : List MemPlace} (hval : ∀ (j : Nat) t v, fn.params[j]? = some t → args[j]? = some v → Value.okWide P W .any base t v)
    (hW : DataW.Whole enc P fn.params.toList s.vars false W args.toList ds gs before) (hk : (ds.map b).sum ≤ K) {fresh handsOn : Bool} :
    Calls P f args W fun e W' => ∃ v, e = .returned v ∧ s.post enc P fn false fresh handsOn false W args v W' := by
  have hlt := hW.lt
  have hW' := hW
  obtain ⟨p, q, hA, hV, rfl, hfz, hnd⟩ := hW
  rw [hsv] at hV
  obtain ⟨rfl, rfl⟩ := trodVars_none hV
  obtain ⟨x, hv, hbk, hlen⟩ := args_open (w := W) (enc := enc) hU hB Ts fn.params.toList args.toList ds p hty (fun j t v hj hv => hval j t v (by simpa using hj) (by simpa using hv)) hA
  obtain ⟨N, hN⟩ := hlaw x (by omega) (args_wf hv)
  have hrun := law_run (hC N) hN hv
  rw [Array.toArray_toList] at hrun
  refine hrun.mono ?_
  rintro e W' ⟨rfl, hbel⟩
  refine ⟨_, rfl, ds, [], p ++ [], [], p, [], hW', ?_, ?_, ?_, hbel.frame _, fun h => by cases h⟩
  · rw [List.append_nil, hfn ds hlen, hres]
    exact trodAll_mk1 (shut_bool hb true)
  · rw [List.append_nil, hfn ds hlen]
    exact args_stay hl hbel hread (fun x hx => hlt x (by simpa using hx)) hA
  · rw [hsv, List.append_nil, hfn ds hlen]
    rfl
end
end Go.Hay
/- Ranges over functions: the record of a loop as a box, its rounds, the statement. -/
set_option linter.unusedVariables false
set_option linter.unusedSimpArgs false
namespace Go.Hay
open Go.RowKit

/-- What a range over a function says in the text. -/
structure Site where
  ps : Array Tmp
  assign : Code
  body : Code
  ts : List Tmp      -- the temporaries at which its rounds look
  nt : Nat           -- how many temporaries there are
def siteOf (ts : List Tmp) (nt : Nat) : Option Code → Site
  | some (.rangeFunc _ ps a b) => ⟨ps, a, b, ts, nt⟩
  | _ => ⟨#[], .skip, .skip, ts, nt⟩

def natOf : Value → Nat
  | .int _ n => n.toNat
  | _ => 0
/-- A record's state as a number: 0: ready; below: busy; 1: left by a return; above: left by an exit. -/
def stOf : Value → LoopState
  | .int _ n => if n = 0 then .ready else if n < 0 then .busy else .done
  | _ => .done
def pdOf : Value → Option Code
  | .int _ n => if n ≤ 0 then none else if n = 1 then some .ret else some (.exit (n - 2).toNat)
  | _ => none
/-- Arguments laid into temporaries. -/
def setAll (l : List (Tmp × Value)) (a : Array Value) : Array Value := l.foldl (fun tmps p => tmps.setIfInBounds p.1 p.2) a
/-- All temporaries, as one value. -/
def tupOf (n : Nat) : Value → Array Value
  | .tuple a => if a.size = n then a else Array.replicate n undef
  | _ => Array.replicate n undef
theorem tupOf_size (n : Nat) (v : Value) : (tupOf n v).size = n := by
  unfold tupOf
  split
  · split
    · assumption
    · simp
  · simp
/-- The record's cells: its state, its function, its block for deferred calls, all temporaries, those at which rounds look. -/
def loopRec (σ : Site) (us : List Value) : Loop :=
  { state := stOf (us.getD 0 undef), pending := pdOf (us.getD 0 undef), fn := natOf (us.getD 1 undef), tmps := setAll (σ.ts.zip (us.drop 4)) (tupOf σ.nt (us.getD 3 undef)), params := σ.ps, assign := σ.assign, body := σ.body, defers := natOf (us.getD 2 undef) }
def loopObj (σ : Site) (us : List Value) : Obj := .loop (loopRec σ us)

def ctlCode : Ctl → Int
  | .normal => 0
  | .ret => 1
  | .exit id => (id : Int) + 2
def ctlFit : Ctl → Bool | .exit id => Nat.blt id 1000000000 | _ => true
def ctlPd : Ctl → Option Code | .normal => none | .ret => some .ret | .exit id => some (.exit id)
def isNorm : Ctl → Bool | .normal => true | _ => false

/-- On with the next code, where the one ahead of it ends. -/
def thenC {Ω : Type} (k : St → Option Ω) (ctl : Ctl) (s : St) : Option Ω := match ctl with | .normal => k s | _ => none

theorem loopObj_ne (σ : Site) (us : List Value) (ds : Option (List Deferred)) : loopObj σ us ≠ .deferred ds := fun h => by unfold loopObj at h; cases h

/-- One round, proved alone: the temporaries that it looks at, the parameters, the shapes of both, the ways in which it ends, what it computes. -/
structure Ys where
  ts : List Tmp
  ps : List Tmp
  ins : Sh
  alts : List Alt
  fn : ins.den → Option (altsDen alts)

/-- The record with another state. -/
def withSt (t : TypeId) (id : Nat) (k : Int) (s : Obs) : Option Obs :=
  match look s id with
  | some (.box t' (_ :: r)) => match Nat.beq t' t with
    | true => some (put s id (.box t (.int .i64 k :: r)))
    | false => none
  | _ => none

def Ys.run (F : Ys) {Ω : Type} (args : List AV) (id : Nat) (t : TypeId) (cs : List AV) (s : Obs) (nx : Nat) (K : AV → Obs → Nat → List Nat → Option Ω) : Option Ω :=
  match cs with
  | .int .i64 st :: c1 :: c2 :: c3 :: caps => bif decide (st = 0) then
      match (Nat.beq caps.length F.ts.length && Nat.beq args.length F.ps.length) && isBig t with
      | true => match xt F.ins (caps ++ args) ⟨put s id (.box t (.int .i64 (-1) :: c1 :: c2 :: c3 :: caps)), [], []⟩ with
          | some (x, [], z) => match !(tkNames z.tk).any (Nat.beq id) && F.alts.all fun a => backOk a.sh z nx && ctlFit a.ctl with
            | true => obind (F.fn x) fun y => altCase F.alts y fun a y =>
                match withSt t id (ctlCode a.ctl) (putAll (restore (bld (fun k => k) F.ins x 0).2.1 z.tk 0 z.obs) (bld (outNm z.tk (onames (nameAt z.tk) nx a.sh 0)) a.sh y 0).2.1) with
                | some s1 => K (.bool (isNorm a.ctl)) s1 (nx + (onames (nameAt z.tk) nx a.sh 0).length) (id :: (tkNames z.tk ++ (z.fz ++ onames (nameAt z.tk) nx a.sh 0)))
                | none => none
            | false => none
          | _ => none
      | false => none
    else none
  | _ => none

theorem altCase_nat : ∀ {l : List Alt} {Ω Ω' : Type} (y : altsDen l) (k : (a : Alt) → a.sh.den → Option Ω), ∃ (a : Alt) (y' : a.sh.den), a ∈ l ∧ altCase l y k = k a y' ∧ ∀ k' : (a : Alt) → a.sh.den → Option Ω', altCase l y k' = k' a y'
  | [], _, _, y, k => by cases y
  | [a], _, _, y, k => ⟨a, y, by simp, rfl, fun _ => rfl⟩
  | a :: b :: r, Ω, Ω', y, k => by
    cases y with
    | inl y => exact ⟨a, y, by simp, rfl, fun _ => rfl⟩
    | inr y =>
      obtain ⟨a', y', h1, h2, h3⟩ := altCase_nat (l := b :: r) (Ω' := Ω') y k
      exact ⟨a', y', List.mem_cons_of_mem _ h1, h2, h3⟩

def Ys.yc (F : Ys) : Yc where
  run := F.run
  nat := by
    intro Ω args id t cs s nx K out h
    unfold Ys.run at h ⊢
    split at h
    · rename_i st c1 c2 c3 caps
      cases hd : decide (st = 0) with
      | false => simp [hd] at h
      | true =>
        rw [hd] at h
        simp only [cond_true] at h ⊢
        split at h
        · split at h
          · rename_i x z hx
            · split at h
              · rename_i hc
                unfold obind at h ⊢
                split at h
                · rename_i y hy
                  obtain ⟨a, y', h1, h2, h3⟩ := altCase_nat (Ω' := AV × Obs × Nat × List Nat) y fun a y =>
                    match withSt t id (ctlCode a.ctl) (putAll (restore (bld (fun k => k) F.ins x 0).2.1 z.tk 0 z.obs) (bld (outNm z.tk (onames (nameAt z.tk) nx a.sh 0)) a.sh y 0).2.1) with
                    | some s1 => K (.bool (isNorm a.ctl)) s1 (nx + (onames (nameAt z.tk) nx a.sh 0).length) (id :: (tkNames z.tk ++ (z.fz ++ onames (nameAt z.tk) nx a.sh 0)))
                    | none => none
                  simp only at h
                  rw [h2] at h
                  split at h
                  · rename_i s1 hs
                    refine ⟨_, _, _, _, ?_, h⟩
                    simp only [h3, hs]
                  · cases h
                · cases h
              · cases h
          · cases h
        · cases h
    · cases h

/-- Ranges over a function: how they may end. -/
def rfEnd {Ω : Type} : List Ctl → Int → St → (Ctl → St → Option Ω) → Option Ω
  | [], _, _, _ => none
  | c :: r, st, s, K => bif decide (st = ctlCode c) then K c s else rfEnd r st s K

def recCells (ts : List Tmp) (env : Env) : List AV := .int .i64 0 :: .junk :: .junk :: .junk :: ts.map fun i => match look env i with | some v => v | none => .junk

/-- The statement 'for .. := range f': its record's number, the function, the temporaries at which its rounds look, the ways in which it may be left. -/
def rfPc (C : Ctx) (t : TypeId) (f : Operand) (ts : List Tmp) (exits : List Ctl) : Pc where
  run s K := match evO s.env f with
    | some (.fn (.func g) [] cap) => match C.Γ g with
      | some con => match isFresh s.obs s.nx && isBig t with
        | true => match con.pre (.yld s.nx :: cap) (put s.obs s.nx (.box t (recCells ts s.env))) (s.nx + 1) with
          | some x => obind (con.fn x) fun y => match con.post (.yld s.nx :: cap) (put s.obs s.nx (.box t (recCells ts s.env))) (s.nx + 1) x y with
            | some (_, s1, n1, _) => match look s1 s.nx with
              | some (.box t' (.int _ st :: _)) => match Nat.beq t' t with
                | true => rfEnd exits st ⟨s.env, put s1 s.nx .dead, n1⟩ K
                | false => none
              | _ => none
            | none => none
          | none => none
        | false => none
      | none => none
    | _ => none

section
variable {P : Program} {B : Bs} {c : Cf} {w : World} {C : Ctx} {fr : Nat → Option Value}

theorem big_obj [Sites] (k : Nat) (us : List Value) : boxObj (1000000 + k) us = Sites.obj k us := by
  have h : isBig (1000000 + k) = true := by simp [isBig]
  simp [boxObj, h]

/-- A record's block is written. -/
theorem loopSet_rel [Sites] {s : Obs} (h : Rel B c s w) {i : Nat} {t : TypeId} {cs0 cs : List AV} (hb : look s i = some (.box t cs0)) {us : List Value} (hv : VRs c w cs us) {b : Nat} (hn : c.nm i = some (.pointer (some ⟨b, 0, none⟩))) {x : Obj} (hx : x = boxObj t us) :
    Rel B c (put s i (.box t cs)) (w.putObj b x) ∧ Ext c w c (w.putObj b x) := by
  have hown : Own c i (.box t cs0) b := ⟨_, hn, rfl⟩
  have hlt := (h.ob _ _ hb).lt hown
  refine h.upd i (.box t cs) (fun k => k = b) (fun _ _ h => h) (fun _ _ => rfl) (fun _ h => h) (fun _ h => .inl h) (fun k _ hk => World.putObj_heap_other hk) (fun k hk => by subst hk; exact h.free hb hown) (fun hE => ?_) (fun k hk => ?_) rfl rfl rfl (by rw [World.putObj_size]; exact Nat.le_refl _)
  · exact ⟨b, us, hn, by rw [hx]; exact World.putObj_heap_same hlt, VRs.ext hE _ _ hv⟩
  · obtain ⟨v, h4, h5⟩ := hk
    rw [hn] at h4
    simp only [Option.some.injEq] at h4
    subst h4
    simp only [blockOf, Option.some.injEq] at h5
    exact .inl h5.symm

/-- A block that is nobody's, here and at the beginning. -/
theorem Rel.both [Sites] {s : Obs} (h : Rel B c s w) {m : Nat} {x : Obj} (hm : m < B.w.heap.size) (hno : ∀ i o, look s i = some o → ¬ Own c i o m) (hI : ¬ c.I m) : Rel { B with w := B.w.putObj m x } c s (w.putObj m x) ∧ Ext c w c (w.putObj m x) := by
  have hE : Ext c w c (w.putObj m x) := ⟨fun _ _ h => h, fun _ h => h, fun b hb => World.putObj_heap_other fun e => hI (e ▸ hb)⟩
  have hsz : (B.w.putObj m x).heap.size = B.w.heap.size := World.putObj_size
  refine ⟨⟨fun i o ho => (h.ob i o ho).ext hE fun b hb => World.putObj_heap_other fun e => hno i o ho (e ▸ hb), h.dom, h.sep, h.imm, fun b hb => by rw [World.putObj_size]; exact h.lo b hb, fun b hb hM => ?_, fun i o b hl hr ho => ?_, fun i o b hl ho => ?_, h.sub, fun b hb => ?_, h.os, h.tape, h.output, Nat.le_trans (Nat.le_of_eq hsz) (Nat.le_trans h.size (Nat.le_of_eq World.putObj_size.symm))⟩, hE⟩
  · by_cases e : b = m
    · subst e
      rw [World.putObj_heap_same (Nat.lt_of_lt_of_le hm h.size), World.putObj_heap_same hm]
    · rw [World.putObj_heap_other e, World.putObj_heap_other e]
      exact h.keep b (by rw [← hsz]; exact hb) hM
  · rw [hsz]; exact h.mine i o b hl hr ho
  · rw [hsz]; exact h.ro i o b hl ho
  · rw [hsz]; exact h.new b hb

theorem putObj_back {m : Nat} {x y : Obj} (h : w.heap[m]? = some y) : (w.putObj m x).putObj m y = w := by
  have : (w.heap.setIfInBounds m x).setIfInBounds m y = w.heap := by
    apply Array.ext_getElem?
    intro i
    rw [Array.getElem?_setIfInBounds, Array.size_setIfInBounds]
    split
    · rename_i e
      subst e
      have hlt := (Array.getElem?_eq_some_iff.1 h).1
      rw [if_pos hlt, h]
    · rename_i e
      rw [Array.getElem?_setIfInBounds_ne e]
  simp only [World.putObj, this]

theorem setAll_size : ∀ (l : List (Tmp × Value)) (a : Array Value), (setAll l a).size = a.size
  | [], a => rfl
  | p :: l, a => by
    show (setAll l (a.setIfInBounds p.1 p.2)).size = _
    rw [setAll_size l, Array.size_setIfInBounds]
theorem setAll_out {t : Tmp} {d : Value} : ∀ (l : List (Tmp × Value)) (a : Array Value), (∀ p ∈ l, p.1 ≠ t) → (setAll l a).getD t d = a.getD t d
  | [], a, _ => rfl
  | p :: l, a, h => by
    show (setAll l (a.setIfInBounds p.1 p.2)).getD t d = _
    rw [setAll_out l _ fun q hq => h q (List.mem_cons_of_mem _ hq)]
    simp [Array.getD_eq_getD_getElem?, Array.getElem?_setIfInBounds_ne (h p (List.mem_cons_self ..))]
theorem setAll_in [Sites] {d : Value} : ∀ (l : List (Tmp × Value)) (a : Array Value) (i : Nat) (t : Tmp) (v : Value), (l.map (·.1)).Nodup → l[i]? = some (t, v) → t < a.size → (setAll l a).getD t d = v
  | [], a, i, t, v, _, h, _ => by simp at h
  | p :: l, a, i, t, v, hn, h, hlt => by
    show (setAll l (a.setIfInBounds p.1 p.2)).getD t d = _
    simp only [List.map_cons, List.nodup_cons] at hn
    cases i with
    | zero =>
      simp only [List.getElem?_cons_zero, Option.some.injEq] at h
      subst h
      rw [setAll_out l _ fun q hq e => hn.1 (List.mem_map.2 ⟨q, hq, e⟩)]
      simp [Array.getD_eq_getD_getElem?, hlt]
    | succ i => exact setAll_in l _ i t v hn.2 (by simpa using h) (by rw [Array.size_setIfInBounds]; exact hlt)

theorem setAll_same (a : Array Value) : ∀ (ts : List Tmp), setAll (ts.zip (ts.map fun t => a.getD t undef)) a = a
  | [] => rfl
  | t :: ts => by
    have h : a.setIfInBounds t (a.getD t undef) = a := by
      apply Array.ext_getElem?
      intro i
      rw [Array.getElem?_setIfInBounds]
      split
      · rename_i e
        subst e
        split
        · rename_i hlt; simp [Array.getD_eq_getD_getElem?, hlt]
        · rename_i hlt; simp at hlt; simp [hlt]
      · rfl
    show setAll (ts.zip (ts.map fun t => a.getD t undef)) (a.setIfInBounds t (a.getD t undef)) = a
    rw [h]
    exact setAll_same a ts

theorem round_setAll (r : Loop) (vals : List Value) : roundTmps r vals.toArray = setAll (r.params.toList.zip vals) r.tmps := by
  unfold roundTmps setAll
  rw [← Array.foldl_toList]
  congr 1
  simp

theorem allSome_get {α : Type} {f : α → Option AV} : ∀ {l : List α} {vs : List AV}, allSome (l.map f) = some vs → vs.length = l.length ∧ ∀ (i : Nat) (a : α), l[i]? = some a → f a = vs[i]? 
  | [], vs, h => by
    simp only [List.map_nil, allSome, Option.some.injEq] at h
    subst h
    exact ⟨rfl, fun i a hi => by simp at hi⟩
  | x :: l, vs, h => by
    simp only [List.map_cons] at h
    cases hx : f x with
    | none => simp [hx, allSome] at h
    | some y =>
      simp only [hx, allSome] at h
      split at h
      · rename_i ys hys
        simp only [Option.some.injEq] at h
        subst h
        obtain ⟨h1, h2⟩ := allSome_get hys
        refine ⟨by simp [h1], fun i a hi => ?_⟩
        cases i with
        | zero => simp only [List.getElem?_cons_zero, Option.some.injEq] at hi; subst hi; simpa using hx
        | succ i => simpa using h2 i a (by simpa using hi)
      · cases h

theorem withSt_some {t : TypeId} {id : Nat} {k : Int} {s s1 : Obs} (h : withSt t id k s = some s1) : ∃ v r, look s id = some (.box t (v :: r)) ∧ s1 = put s id (.box t (.int .i64 k :: r)) := by
  unfold withSt at h
  split at h
  · rename_i t' v r hl
    split at h
    · rename_i hb
      have := Nat.eq_of_beq_eq_true hb
      subst this
      simp only [Option.some.injEq] at h
      exact ⟨v, r, hl, h.symm⟩
    · cases h
  · cases h

theorem any_tk [Sites] {tk : List (Option Nat × Ob)} {id : Nat} (h : (tkNames tk).any (Nat.beq id) = false) {k : Nat} {o : Ob} : tk[k]? ≠ some (some id, o) := fun e => by
  have : id ∈ tkNames tk := List.mem_filterMap.2 ⟨(some id, o), List.mem_of_getElem? e, rfl⟩
  rw [← any_mem, h] at this
  cases this

/-- A round that is proved alone. -/
theorem ys_ok [Sites] {σ : Site} {k : Nat} (hσ : ∀ us, Sites.obj k us = loopObj σ us) (hC : C.Ok P) (hmix : P.follows .mixedOrders = true) (hmay : ∀ t, C.may t = true) {F : Ys} (hps : σ.ps.toList = F.ps) (hts : σ.ts = F.ts) (hnt : σ.nt = C.nt) (hndt : nodupB F.ts = true) (hltt : F.ts.all (fun t => Nat.blt t C.nt) = true)
    (hnd : nodupB F.ps = true) (hdj : F.ts.all (fun t => !F.ps.any (Nat.beq t)) = true) (hlt : F.ps.all (fun t => Nat.blt t C.nt) = true) {Λa Λb : Pcs} (hΛa : Λa.Ok P C σ.assign) (hΛb : Λb.Ok P C σ.body) {n0 : Nat}
    (hev : ∀ x y, F.fn x = some y → evC C σ.assign Λa ⟨addT (F.ts ++ F.ps) (bld (fun k => k) F.ins x 0).1 [], (bld (fun k => k) F.ins x 0).2.1, n0⟩ (thenC fun s => evC C σ.body Λb s (altK F.alts)) = some y) (hni : updIx F.ins = [] := by rfl) :
    F.yc.Ok P (1000000 + k) where
  runs := by
    intro args id cs s nx v s1 n1 W hrun hl B c w vals b hR hv hn
    have hbig : isBig (1000000 + k) = true := by simp [isBig]
    simp only [Ys.yc] at hrun
    unfold Ys.run at hrun
    split at hrun
    rotate_left
    · cases hrun
    rename_i st c1 c2 c3 caps
    cases hd : decide (st = 0) with
    | false => simp [hd] at hrun
    | true =>
      have hst : st = 0 := of_decide_eq_true hd
      rw [hd] at hrun
      simp only [cond_true] at hrun
      subst hst
      split at hrun
      rotate_left
      · cases hrun
      rename_i hlen
      simp only [Bool.and_eq_true] at hlen
      obtain ⟨⟨hl1, hl2⟩, _⟩ := hlen
      have hl1 := Nat.eq_of_beq_eq_true hl1
      have hl2 := Nat.eq_of_beq_eq_true hl2
      split at hrun
      rotate_left
      · cases hrun
      rename_i x z hx
      split at hrun
      rotate_left
      · cases hrun
      rename_i hc
      simp only [Bool.and_eq_true, Bool.not_eq_true'] at hc
      obtain ⟨hcid, hcal⟩ := hc
      unfold obind at hrun
      split at hrun
      rotate_left
      · cases hrun
      rename_i y hy
      simp only at hrun
      -- the record
      obtain ⟨b', us, q1, q2, q3⟩ := hR.ob id _ hl
      rw [hn] at q1
      simp only [Option.some.injEq, Value.pointer.injEq, Addr.mk.injEq, and_true] at q1
      subst q1
      rw [big_obj, hσ] at q2
      have q3' := q3
      simp only [VRs] at q3
      obtain ⟨u0, us0, rfl, g0, u1, us1, rfl, g1, u2, us2, rfl, g2, u3, utm, rfl, g3, gtm⟩ := q3
      simp only [VR] at g0
      obtain ⟨rfl, _⟩ := g0
      let r : Loop := loopRec σ (.int .i64 0 :: u1 :: u2 :: u3 :: utm)
      have hr : w.heap[b]? = some (.loop r) := q2
      have hvl := hv.length
      have hsz : vals.length = r.params.size := by
        show vals.length = σ.ps.size
        rw [hvl, hl2, ← hps]; simp
      refine ⟨r, hr, hsz, ?_⟩
      have hbw : b < w.heap.size := (Array.getElem?_eq_some_iff.1 hr).1
      -- busy
      let rb : Loop := { r with state := .busy }
      have hbusy : Obj.loop rb = boxObj (1000000 + k) (.int .i64 (-1) :: u1 :: u2 :: u3 :: utm) := by
        rw [big_obj, hσ]
        simp [rb, r, loopObj, loopRec, stOf, pdOf]
      have hvb : VRs c w (.int .i64 (-1) :: c1 :: c2 :: c3 :: caps) (.int .i64 (-1) :: u1 :: u2 :: u3 :: utm) := by
        simp only [VRs]
        exact ⟨_, _, rfl, by simp [VR, fits], _, _, rfl, g1, _, _, rfl, g2, _, _, rfl, g3, gtm⟩
      obtain ⟨hRb, hEb⟩ := loopSet_rel hR hl hvb hn hbusy
      generalize hwb : w.putObj b (Obj.loop rb) = wb at hRb hEb
      have hlb : look (put s id (.box (1000000 + k) (.int .i64 (-1) :: c1 :: c2 :: c3 :: caps))) id = some (.box (1000000 + k) (.int .i64 (-1) :: c1 :: c2 :: c3 :: caps)) := by rw [look_put, if_pos rfl]
      have hwsz : wb.heap.size = w.heap.size := by rw [← hwb]; exact World.putObj_size
      have hback : wb.putObj b (.loop r) = w := by rw [← hwb]; exact putObj_back hr
      -- what the round is handed
      have gtl := gtm.length
      have hcv : VRs c wb caps utm := VRs.ext hEb _ _ gtm
      obtain ⟨vs, I1, hH, hv0⟩ := handed hRb (hcv.append (VRs.ext hEb _ _ hv)) hx hni
      -- the record is nobody's of those
      have hnoI : ¬ I1 b := fun hI => by
        rcases hH.tk.newI b hI with g | ⟨id', e, t', l, g3, g4, g5⟩
        · exact hR.imm id _ b hl ⟨_, hn, rfl⟩ g
        · have := hRb.sep id' id _ _ b g3 hlb g5 ⟨_, hn, rfl⟩
          subst this
          rw [hlb] at g3
          cases g3
      have hno0 : ∀ i o, (i, o) ∈ (bld (fun k => k) F.ins x 0).2.1 → ¬ Own (cf0 vs I1) i o b := fun i o hm ho => by
        obtain ⟨id1, o1, g3, g4, g5, _⟩ := hH.own hm ho
        have := hRb.sep id1 id _ _ b g5 hlb g4 ⟨_, hn, rfl⟩
        subst this
        exact any_tk hcid g3
      have hR0 : Rel (bs0 (some b) w.heap.size wb vs I1 (bld (fun k => k) F.ins x 0).2.1) (cf0 vs I1) (bld (fun k => k) F.ins x 0).2.1 wb := hH.rel hRb
      have hR1 := (hR0.both (x := .loop r) (by show b < wb.heap.size; omega) (fun i o ho => hno0 i o (look_mem ho)) hnoI)
      have eB1 : ({ bs0 (some b) w.heap.size wb vs I1 (bld (fun k => k) F.ins x 0).2.1 with w := wb.putObj b (.loop r) } : Bs) = bs0 (some b) w.heap.size w vs I1 (bld (fun k => k) F.ins x 0).2.1 := by
        rw [hback]; rfl
      obtain ⟨hR1, hE1⟩ := hR1
      have hR1 : Rel (bs0 (some b) w.heap.size w vs I1 (bld (fun k => k) F.ins x 0).2.1) (cf0 vs I1) (bld (fun k => k) F.ins x 0).2.1 w := by
        have e : (bs0 (some b) w.heap.size wb vs I1 (bld (fun k => k) F.ins x 0).2.1).w.putObj b (.loop r) = w := hback
        rw [e] at hR1
        rw [show wb.putObj b (.loop r) = w from hback] at hR1
        exact hR1
      rw [hback] at hE1
      have hnoM : ¬ (bs0 (some b) w.heap.size w vs I1 (bld (fun k => k) F.ins x 0).2.1).M b := fun ⟨i, o, h1, _, h3⟩ => hno0 i o (look_mem h1) h3
      have hnoR : ¬ (bs0 (some b) w.heap.size w vs I1 (bld (fun k => k) F.ins x 0).2.1).R b := fun ⟨i, o, h1, _, h3⟩ => hno0 i o (look_mem h1) h3
      -- temporaries
      have htm : r.tmps = setAll (F.ts.zip utm) (tupOf C.nt u3) := by show setAll (σ.ts.zip utm) (tupOf σ.nt u3) = _; rw [hts, hnt]
      have hutm : utm.length = F.ts.length := by rw [gtl, hl1]
      have hzt : (F.ts.zip utm).map (·.1) = F.ts := by
        rw [List.map_fst_zip]
        rw [hutm]; exact Nat.le_refl _
      have hparl : r.params.toList = F.ps := hps
      have hzl : (F.ps.zip vals).map (·.1) = F.ps := by
        rw [List.map_fst_zip]
        rw [hvl, hl2]; exact Nat.le_refl _
      have hsim : Sim (bs0 (some b) w.heap.size w vs I1 (bld (fun k => k) F.ins x 0).2.1) C (fun _ => none) (cf0 vs I1) ⟨addT (F.ts ++ F.ps) (bld (fun k => k) F.ins x 0).1 [], (bld (fun k => k) F.ins x 0).2.1, n0⟩ w
          { tmps := roundTmps r vals.toArray, defers := [] } := by
        refine ⟨hR1, ⟨?_, fun t y' hk => ?_, fun t v' hk => (by cases hk)⟩, .nil, ⟨Nat.le_refl _, fun l hl' => ?_⟩⟩
        · simp only [round_setAll, setAll_size, htm, tupOf_size]
        · have hv1 := VRs.ext hE1 _ _ hv0
          simp only [round_setAll, hparl, htm]
          rcases look_addT hk with ⟨i, h1, h2⟩ | h1
          · obtain ⟨u, hu, hvu⟩ := hv1.get h2
            rcases get_two (List.getElem?_eq_some_iff.1 h1).1 with ⟨g3, g4⟩ | ⟨g3, g4, g5⟩
            · rw [g4] at h1
              rw [List.getElem?_append_left (by rw [hutm]; exact g3)] at hu
              rw [setAll_out]
              · have hz : (F.ts.zip utm)[i]? = some (t, u) := by
                  rw [List.getElem?_zip_eq_some]
                  exact ⟨h1, hu⟩
                rw [setAll_in (F.ts.zip utm) (tupOf C.nt u3) i t u (by rw [hzt]; exact nodupB_ok hndt) hz (by
                  have h9 : t < C.nt := by simpa using List.all_eq_true.1 hltt t (List.mem_of_getElem? h1)
                  rw [tupOf_size]
                  exact h9)]
                exact hvu
              · intro p hp e
                have h3 := List.all_eq_true.1 hdj t (List.mem_of_getElem? h1)
                have h4 : t ∈ F.ps := by rw [← hzl]; exact List.mem_map.2 ⟨p, hp, e⟩
                rw [← any_mem] at h4
                rw [h4] at h3
                cases h3
            · rw [g5] at h1
              rw [List.getElem?_append_right (by rw [hutm]; exact g3), hutm] at hu
              have hz : (F.ps.zip vals)[i - F.ts.length]? = some (t, u) := by
                rw [List.getElem?_zip_eq_some]
                exact ⟨h1, hu⟩
              rw [setAll_in (F.ps.zip vals) (setAll (F.ts.zip utm) (tupOf C.nt u3)) (i - F.ts.length) t u (by rw [hzl]; exact nodupB_ok hnd) hz (by
                have h9 : t < C.nt := by simpa using List.all_eq_true.1 hlt t (List.mem_of_getElem? h1)
                rw [setAll_size, tupOf_size]
                exact h9)]
              exact hvu
          · simp [look] at h1
        · simp only [bs0, Option.some.injEq] at hl'
          subst hl'
          exact ⟨⟨r, hr⟩, hnoM⟩
      refine roundIn_of_wpIn trivial ?_
      refine evC_ok (B := bs0 (some b) w.heap.size w vs I1 (bld (fun k => k) F.ins x 0).2.1) hC hmix (fun t ht => rfl) σ.assign Λa _ _ (hev x y hy) hΛa _ w _ _ hsim fun ctl sa c1' w1 a1 hK hs1 hE2 => ?_
      cases ctl with
      | ret => cases hK
      | exit e => cases hK
      | normal =>
      simp only [thenC] at hK
      have hno1 : ∀ i o, look sa.obs i = some o → ¬ Own c1' i o b := fun i o ho hb' => by
        rcases hs1.rel.ro i o b ho hb' with h1 | h1 | h1
        · exact hnoR h1
        · exact hnoM h1
        · exact absurd hbw (Nat.not_lt.2 h1)
      have hnoI1 : ¬ c1'.I b := fun hI => by
        rcases hs1.rel.new b hI with h1 | h1 | h1
        · exact hnoI h1
        · exact hnoM h1
        · exact absurd hbw (Nat.not_lt.2 h1)
      have hw1b : w1.heap[b]? = some (.loop r) := (hs1.rel.keep b hbw hnoM).trans hr
      obtain ⟨hR2, hE3⟩ := hs1.rel.both (x := .loop rb) hbw hno1 hnoI1
      have eB2 : ({ bs0 (some b) w.heap.size w vs I1 (bld (fun k => k) F.ins x 0).2.1 with w := w.putObj b (.loop rb) } : Bs) = bs0 (some b) w.heap.size wb vs I1 (bld (fun k => k) F.ins x 0).2.1 := by
        rw [hwb]; rfl
      have hR2 : Rel (bs0 (some b) w.heap.size wb vs I1 (bld (fun k => k) F.ins x 0).2.1) c1' sa.obs (w1.putObj b (.loop rb)) := by
        rw [← eB2]; exact hR2
      refine ⟨w1.putObj b (.loop rb), run_beginRound hw1b rfl, ?_⟩
      have hbase2 : BaseOk (bs0 (some b) w.heap.size wb vs I1 (bld (fun k => k) F.ins x 0).2.1) := by
        refine ⟨by show w.heap.size ≤ wb.heap.size; omega, fun l hl' => ?_⟩
        simp only [bs0, Option.some.injEq] at hl'
        subst hl'
        refine ⟨⟨rb, ?_⟩, hnoM⟩
        show wb.heap[b]? = _
        rw [← hwb]
        exact World.putObj_heap_same hbw
      have hs2 : Sim (bs0 (some b) w.heap.size wb vs I1 (bld (fun k => k) F.ins x 0).2.1) C (fun _ => none) c1' sa (w1.putObj b (.loop rb)) a1 := by
        refine ⟨hR2, hs1.tmps.ext hE3, ⟨fun d hd => ?_, hs1.marks.nodup⟩, hbase2⟩
        obtain ⟨m, h1, h2, h3, h4⟩ := hs1.marks.all d hd
        refine ⟨m, h1, ?_, h3, h4⟩
        rw [World.putObj_heap_other fun e => ?_]
        · exact h2
        · rw [e, hw1b] at h2; cases h2
      refine evC_ok (B := bs0 (some b) w.heap.size wb vs I1 (bld (fun k => k) F.ins x 0).2.1) hC hmix (fun t ht => rfl) σ.body Λb sa _ hK hΛb c1' _ a1 _ hs2 fun ctl s2 c2' w3 a3 hK2 hs3 hE4 => ?_
      obtain ⟨al, y', k1, k2, k3, rs, z1, k4, k5⟩ := altK_ok hK2
      rw [k1] at hrun
      split at hrun
      rotate_left
      · cases hrun
      rename_i s1' hws
      simp only [Option.some.injEq, Prod.mk.injEq] at hrun
      obtain ⟨rfl, rfl, rfl, _⟩ := hrun
      have hbo := List.all_eq_true.1 hcal al k2
      simp only [Bool.and_eq_true, backOk] at hbo
      obtain ⟨⟨⟨b1, b2⟩, b3, b4, b6⟩, b5⟩ := hbo
      have hvts := tmpsAt_ok hs3.tmps k4
      have hEE : Ext (cf0 vs I1) wb c2' w3 := hE1.trans (hE2.trans (hE3.trans hE4))
      obtain ⟨c3, f1, f2, f3, _⟩ := hH.give hRb hs3.rel hEE.lasts (fun i _ v hi => hEE.nm i v hi) hvts k5 b1 b2 rfl (Nat.le_of_ble_eq_true b6) b3 b4
      have hw3b : w3.heap[b]? = some (.loop rb) := by
        refine (hs3.rel.keep b (by show b < wb.heap.size; omega) hnoM).trans ?_
        show wb.heap[b]? = _
        rw [← hwb]
        exact World.putObj_heap_same hbw
      obtain ⟨v', r', hl', rfl⟩ := withSt_some hws
      have hn3 : c3.nm id = some (.pointer (some ⟨b, 0, none⟩)) := f3.nm id _ hn
      obtain ⟨b', us', p1, p2, p3⟩ := f1.ob id _ hl'
      rw [hn3] at p1
      simp only [Option.some.injEq, Value.pointer.injEq, Addr.mk.injEq, and_true] at p1
      subst p1
      rw [big_obj, hσ, hw3b] at p2
      simp only [VRs] at p3
      obtain ⟨w0, ws, rfl, _, p3⟩ := p3
      simp only [loopObj, Option.some.injEq, Obj.loop.injEq] at p2
      have p2' : rb.fn = natOf ((w0 :: ws).getD 1 undef) ∧ rb.tmps = setAll (σ.ts.zip ((w0 :: ws).drop 4)) (tupOf σ.nt ((w0 :: ws).getD 3 undef)) ∧ rb.defers = natOf ((w0 :: ws).getD 2 undef) := by
        rw [p2]; exact ⟨rfl, rfl, rfl⟩
      have fin : ∀ (j : Option Code), stOf (.int .i64 (ctlCode al.ctl)) = (if j.isNone then .ready else .done) → pdOf (.int .i64 (ctlCode al.ctl)) = j → fits .i64 (ctlCode al.ctl) = true → isNorm al.ctl = j.isNone →
          ∃ v w', (Instr.endRound b j).run P w3 = .ok v w' ∧ ∃ c' u, Ending.returned v = .returned u ∧ Rel B c' (put (putAll (restore (bld (fun k => k) F.ins x 0).2.1 z.tk 0 z.obs) (bld (outNm z.tk (onames (nameAt z.tk) nx al.sh 0)) al.sh y' 0).2.1) id (.box (1000000 + k) (.int .i64 (ctlCode al.ctl) :: r'))) w' ∧ VR c' w' (.bool (isNorm al.ctl)) u ∧ Ext c w c' w' := by
        intro j h1 h2 h3 h4
        have hv3 : VRs c3 w3 (.int .i64 (ctlCode al.ctl) :: r') (.int .i64 (ctlCode al.ctl) :: ws) := by
          simp only [VRs]
          exact ⟨_, _, rfl, by simp only [VR]; exact ⟨trivial, h3⟩, p3⟩
        have hobj : Obj.loop { rb with state := if j.isNone then .ready else .done, pending := j } = boxObj (1000000 + k) (.int .i64 (ctlCode al.ctl) :: ws) := by
          rw [big_obj, hσ]
          unfold loopObj loopRec
          simp only [List.getD_cons_zero, h1, h2]
          have e1 : rb.params = σ.ps := rfl
          have e2 : rb.assign = σ.assign := rfl
          have e3 : rb.body = σ.body := rfl
          rw [e1, e2, e3, p2'.1, p2'.2.1, p2'.2.2]
          rfl
        obtain ⟨m1, m2⟩ := loopSet_rel f1 hl' hv3 hn3 hobj
        refine ⟨_, _, run_endRound j hw3b, c3, _, rfl, m1, ?_, hEb.trans (f3.trans m2)⟩
        simp only [VR, h4]
      rw [← k3]
      clear hws
      generalize al.ctl = cc at fin b5 ⊢
      cases cc with
      | normal => exact fin none rfl rfl rfl rfl
      | ret => exact fin (some .ret) rfl rfl rfl rfl
      | exit e =>
        refine fin (some (.exit e)) ?_ ?_ ?_ rfl
        · have e1 : ¬ ((e : Int) + 2 = 0) := by omega
          have e2 : ¬ ((e : Int) + 2 < 0) := by omega
          simp only [stOf, ctlCode, if_neg e1, if_neg e2]; rfl
        · have e1 : ¬ ((e : Int) + 2 ≤ 0) := by omega
          have e2 : ¬ ((e : Int) + 2 = 1) := by omega
          have e3 : ((e : Int) + 2 - 2).toNat = e := by omega
          simp only [pdOf, ctlCode, if_neg e1, if_neg e2, e3]
        · simp only [ctlFit, Nat.blt_eq] at b5
          simp only [fits, ctlCode, Bool.and_eq_true]
          exact ⟨decide_eq_true (by omega), decide_eq_true (by omega)⟩
  wrote := by
    intro args id cs s nx v s1 n1 W hrun hl i hi
    simp only [Ys.yc] at hrun
    unfold Ys.run at hrun
    split at hrun
    rotate_left
    · cases hrun
    rename_i st c1 c2 c3 caps
    cases hd : decide (st = 0) with
    | false => simp [hd] at hrun
    | true =>
      simp only [hd, cond_true] at hrun
      split at hrun
      rotate_left
      · cases hrun
      split at hrun
      rotate_left
      · cases hrun
      rename_i x z hx
      split at hrun
      rotate_left
      · cases hrun
      rename_i hc
      simp only [Bool.and_eq_true] at hc
      unfold obind at hrun
      split at hrun
      rotate_left
      · cases hrun
      rename_i y hy
      simp only at hrun
      obtain ⟨a, y', h1, h2, _⟩ := altCase_nat (Ω' := Unit) y fun a y =>
        match withSt (1000000 + k) id (ctlCode a.ctl) (putAll (restore (bld (fun k => k) F.ins x 0).2.1 z.tk 0 z.obs) (bld (outNm z.tk (onames (nameAt z.tk) nx a.sh 0)) a.sh y 0).2.1) with
        | some s1 => (some (.bool (isNorm a.ctl), s1, (nx + (onames (nameAt z.tk) nx a.sh 0).length), (id :: (tkNames z.tk ++ (z.fz ++ onames (nameAt z.tk) nx a.sh 0)))) : Option (AV × Obs × Nat × List Nat))
        | none => none
      rw [h2] at hrun
      split at hrun
      rotate_left
      · cases hrun
      rename_i s1' hws
      simp only [Option.some.injEq, Prod.mk.injEq] at hrun
      obtain ⟨_, rfl, _, rfl⟩ := hrun
      obtain ⟨v', r', hl', rfl⟩ := withSt_some hws
      simp only [List.mem_cons, not_or] at hi
      rw [look_put, if_neg (fun e => hi.1 e.symm), back_look hx hi.2 (by have := List.all_eq_true.1 hc.2 a h1; simp only [backOk, Bool.and_eq_true] at this; exact Nat.le_of_ble_eq_true this.1.2.2.2), look_put, if_neg (fun e => hi.1 e.symm)]

theorem rfEnd_some {Ω : Type} {st : Int} {s : St} {K : Ctl → St → Option Ω} {out : Ω} : ∀ {l : List Ctl}, rfEnd l st s K = some out → ∃ ctl, st = ctlCode ctl ∧ K ctl s = some out
  | [], h => by cases h
  | c :: r, h => by
    simp only [rfEnd] at h
    cases hd : decide (st = ctlCode c) with
    | true => rw [hd] at h; exact ⟨c, of_decide_eq_true hd, by simpa using h⟩
    | false => rw [hd] at h; exact rfEnd_some (by simpa using h)

theorem rec_ok [Sites] {env : Env} {a : Act} (hT : Tmps C.nt fr c w env a) : ∀ (ts : List Tmp), VRs c w (ts.map fun i => match look env i with | some v => v | none => .junk) (ts.map fun t => a.tmps.getD t undef)
  | [] => by simp only [List.map_nil, VRs]
  | t :: ts => by
    simp only [List.map_cons, VRs]
    refine ⟨_, _, rfl, ?_, rec_ok hT ts⟩
    split
    · rename_i v hv
      exact hT.env t v hv
    · simp only [VR]

/-- A block more, nobody's. -/
theorem Rel.grow [Sites] {s : Obs} (h : Rel B c s w) (x : Obj) : Rel B c s (w.alloc x) ∧ Ext c w c (w.alloc x) := by
  have hk : ∀ b, b < w.heap.size → (w.alloc x).heap[b]? = w.heap[b]? := fun b hb => Below.heap_alloc w x b hb
  have hE : Ext c w c (w.alloc x) := ⟨fun _ _ h => h, fun _ h => h, fun b hb => hk b (h.lo b hb)⟩
  have hsz : (w.alloc x).heap.size = w.heap.size + 1 := by simp
  refine ⟨⟨fun i o ho => (h.ob i o ho).ext hE fun b hb => hk b ((h.ob i o ho).lt hb), h.dom, h.sep, h.imm, fun b hb => by have := h.lo b hb; omega, fun b hb hM => ?_, h.mine, h.ro, h.sub, h.new, h.os, h.tape, h.output, by have := h.size; omega⟩, hE⟩
  exact (hk b (Nat.lt_of_lt_of_le hb h.size)).trans (h.keep b hb hM)

/-- A record is laid. -/
theorem Rel.record [Sites] {s : Obs} {nx : Nat} (h : Rel B c s w) (hf : look s nx = none) {k : Nat} {σ : Site} (hσ : ∀ us, Sites.obj k us = loopObj σ us) {cs : List AV} {us : List Value} (hv : VRs c w cs us) :
    ∃ c', Rel B c' (put s nx (.box (1000000 + k) cs)) (w.alloc (loopObj σ us)) ∧ Ext c w c' (w.alloc (loopObj σ us)) ∧ c'.nm nx = some (.pointer (some ⟨w.heap.size, 0, none⟩)) ∧ c'.I = c.I := by
  have hnone := h.dom nx hf
  obtain ⟨h1, h2⟩ := h.upd (c' := ⟨fun i => if i = nx then some (.pointer (some ⟨w.heap.size, 0, none⟩)) else c.nm i, c.I⟩) (w' := w.alloc (loopObj σ us)) nx (.box (1000000 + k) cs) (fun _ => False)
    (fun i v hv => by
      by_cases e : i = nx
      · subst e; rw [hnone] at hv; cases hv
      · simp [e, hv])
    (fun i hi => by simp [hi]) (fun _ h => h) (fun b hb => .inl hb) (fun b hb _ => Below.heap_alloc w _ b hb) (fun b hb => hb.elim)
    (fun hE => ⟨w.heap.size, us, by simp, by rw [big_obj, hσ]; exact World.alloc_heap_new w _, VRs.ext hE _ _ hv⟩)
    (fun b hb => by
      obtain ⟨v, h1, h2⟩ := hb
      simp at h1
      subst h1
      simp [blockOf] at h2
      right; omega)
    rfl rfl rfl (by simp)
  exact ⟨_, h1, h2, by simp, rfl⟩

theorem Marks.ext {fl : Nat} {c c' : Cf} {w w' : World} {ds : List Deferred} (h : Marks fl c w ds) (hI : c'.I = c.I) (hk : ∀ b, b < w.heap.size → w'.heap[b]? = w.heap[b]?) : Marks fl c' w' ds :=
  ⟨fun d hd => by
    obtain ⟨m, h1, h2, h3, h4⟩ := h.all d hd
    exact ⟨m, h1, (hk m (Array.getElem?_eq_some_iff.1 h2).1).trans h2, h3, by rw [hI]; exact h4⟩, h.nodup⟩

/-- The statement. -/
theorem rf_ok [Sites] {k : Nat} {ps : Array Tmp} {x y : Code} {ts : List Tmp} (hσ : ∀ us, Sites.obj k us = loopObj ⟨ps, x, y, ts, C.nt⟩ us) (hC : C.Ok P) {f : Operand} {exits : List Ctl} : (rfPc C (1000000 + k) f ts exits).Ok P C (.rangeFunc f ps x y) := by
  intro Ω s K out hrun B fr c w a Q hfr hs hK
  simp only [rfPc] at hrun
  split at hrun
  rotate_left
  · cases hrun
  rename_i g cap hf
  split at hrun
  rotate_left
  · cases hrun
  rename_i con hcon
  split at hrun
  rotate_left
  · cases hrun
  rename_i hfresh
  simp only [Bool.and_eq_true] at hfresh
  split at hrun
  rotate_left
  · cases hrun
  rename_i xin hpre
  unfold obind at hrun
  split at hrun
  rotate_left
  · cases hrun
  rename_i yout hfn
  simp only at hrun
  split at hrun
  rotate_left
  · cases hrun
  rename_i rv s1 n1 W hpost
  split at hrun
  rotate_left
  · cases hrun
  rename_i t' ki st rest hl1
  split at hrun
  rotate_left
  · cases hrun
  rename_i ht'
  have := Nat.eq_of_beq_eq_true ht'
  subst this
  obtain ⟨ctl, hst, hKout⟩ := rfEnd_some hrun
  have hc := hC.Γ g con hcon
  -- the function
  have hfv := hs.ops _ _ hf
  simp only [VR] at hfv
  obtain ⟨fus, fvs, ef, hfus, hfvs⟩ := hfv
  simp only [VRs] at hfus
  subst hfus
  refine wpIn_rangeFunc fun fn _ => ?_
  -- the world behind the block for deferred calls; the mark
  obtain ⟨w0, mark, dn, hw0, hE0, hR0, hM0, henter⟩ : ∃ (w0 : World) (mark : List Deferred) (dn : Nat), w.heap.size ≤ w0.heap.size ∧ Ext c w c w0 ∧ Rel B c s.obs w0 ∧ Marks B.fl c w0 (mark ++ a.defers) ∧
      (Instr.enterLoop fn a.tmps ps x y B.rd).run P w = .ok (w0.heap.size, mark) (w0.alloc (.loop { state := .ready, pending := none, fn, tmps := a.tmps, params := ps, assign := x, body := y, defers := dn })) := by
    cases hrd : B.rd with
    | none =>
      obtain ⟨h1, h2⟩ := hs.rel.grow (.deferred (some []))
      refine ⟨w.alloc (.deferred (some [])), [{ target := .collected w.heap.size, args := #[] }], w.heap.size, by simp, h2, h1, ⟨fun d hd => ?_, ?_⟩, ?_⟩
      · rcases List.mem_append.1 hd with hd | hd
        · simp only [List.mem_singleton] at hd
          exact ⟨w.heap.size, hd, World.alloc_heap_new w _, Nat.le_trans hs.base.fl hs.rel.size, fun hI => by have := hs.rel.lo _ hI; omega⟩
        · exact (hs.marks.ext (c' := c) rfl fun b hb => Below.heap_alloc w _ b hb).all d hd
      · simp only [List.map_append, List.map_cons, List.map_nil, List.singleton_append, List.pairwise_cons]
        refine ⟨fun tg htg m e => ?_, hs.marks.nodup⟩
        cases e
        obtain ⟨d, hd, rfl⟩ := List.mem_map.1 htg
        obtain ⟨m', h3, h4, _⟩ := hs.marks.all d hd
        rw [h3]
        intro e
        cases e
        have := (Array.getElem?_eq_some_iff.1 h4).1
        omega
      · have := run_enterLoop_outer (P := P) (w := w) fn a.tmps ps x y
        rw [this]
        simp
    | some l0 =>
      obtain ⟨⟨r0, h1⟩, h2⟩ := hs.base.rd l0 hrd
      have h3 : w.heap[l0]? = some (.loop r0) := (hs.rel.keep l0 (Array.getElem?_eq_some_iff.1 h1).1 h2).trans h1
      refine ⟨w, [], r0.defers, Nat.le_refl _, Ext.refl c w, hs.rel, by simpa using hs.marks, ?_⟩
      unfold Instr.enterLoop
      simp only [Sem.run_bind, run_getLoop h3, run_newObj_alloc, Result.andThen, Sem.run_pure]
  -- the record
  have hrec := rec_ok (hs.tmps.ext hE0) ts
  have hv0 : VRs c w0 (recCells ts s.env) (.int .i64 0 :: .int .i64 (fn : Int) :: .int .i64 (dn : Int) :: .tuple a.tmps :: ts.map fun t => a.tmps.getD t undef) := by
    simp only [recCells, VRs]
    exact ⟨_, _, rfl, by simp [VR, fits], _, _, rfl, by simp only [VR], _, _, rfl, by simp only [VR], _, _, rfl, by simp only [VR], hrec⟩
  obtain ⟨c1, hR1, hE1, hn1, hI1⟩ := hR0.record (isFresh_none hfresh.1) hσ hv0
  have hobj : (loopObj ⟨ps, x, y, ts, C.nt⟩ (.int .i64 0 :: .int .i64 (fn : Int) :: .int .i64 (dn : Int) :: .tuple a.tmps :: ts.map fun t => a.tmps.getD t undef) : Obj) = .loop { state := .ready, pending := none, fn, tmps := a.tmps, params := ps, assign := x, body := y, defers := dn } := by
    have e1 : tupOf C.nt (.tuple a.tmps) = a.tmps := by simp [tupOf, hs.tmps.size]
    simp [loopObj, loopRec, stOf, pdOf, natOf, e1]
    simpa using setAll_same a.tmps ts
  rw [hobj] at hR1 hE1
  generalize hw1 : w0.alloc (.loop { state := .ready, pending := none, fn, tmps := a.tmps, params := ps, assign := x, body := y, defers := dn }) = w1 at hR1 hE1 henter
  have hM1 : Marks B.fl c1 w1 (mark ++ a.defers) := hM0.ext hI1 fun b hb => by rw [← hw1]; exact Below.heap_alloc w0 _ b hb
  have hcap : VRs c1 w1 (.yld s.nx :: cap) (.func (.yield w0.heap.size) #[] #[] :: fvs) := by
    simp only [VRs, VR]
    exact ⟨_, _, rfl, ⟨_, hn1, rfl⟩, VRs.ext (hE0.trans hE1) _ _ hfvs⟩
  refine ⟨w0.heap.size, mark, w1, { target := .fn (.func g) fvs.toArray, args := #[.func (.yield w0.heap.size) #[] #[]] }, w1, g, (.func (.yield w0.heap.size) #[] #[] :: fvs : List Value).toArray, w1, henter, ?_, fun _ _ => trivial, ?_, fun h => (by cases h), ?_⟩
  · have hconst : ∀ v, a.eval (.const v) = v := fun _ => rfl
    simp [resolve, ef, Deferred.ofValue, hconst]
  · have := hc.enters (.func (.yield w0.heap.size) #[] #[] :: fvs : List Value).toArray w1
    rw [← this]
    simp [invoke]
  · refine callsIn_WF ((hc.runs _ _ _ xin yout rv s1 n1 W hpre hfn hpost (here B c1 _ w1) c1 w1 _ hR1.rebase hcap).mono ?_)
    rintro e w2 ⟨c2, u, rfl, hR2, _, hE2⟩
    have hR2B := hR1.trans hR2
    have hM2 := hM1.step hR1 hR2
    -- the record again
    obtain ⟨b, us, q1, q2, q3⟩ := hR2.ob s.nx _ hl1
    rw [hE2.nm _ _ hn1] at q1
    simp only [Option.some.injEq, Value.pointer.injEq, Addr.mk.injEq, and_true] at q1
    subst q1
    rw [big_obj, hσ] at q2
    simp only [VRs] at q3
    obtain ⟨u0, us0, rfl, g0, _⟩ := q3
    simp only [VR] at g0
    obtain ⟨rfl, _⟩ := g0
    have hnb : (loopRec ⟨ps, x, y, ts, C.nt⟩ (.int ki st :: us0)).state ≠ .busy ∧ (loopRec ⟨ps, x, y, ts, C.nt⟩ (.int ki st :: us0)).pending = ctlPd ctl := by
      subst hst
      cases ctl with
      | normal => exact ⟨by simp [loopRec, stOf, ctlCode], by simp [loopRec, pdOf, ctlCode, ctlPd]⟩
      | ret => exact ⟨by simp [loopRec, stOf, ctlCode], by simp [loopRec, pdOf, ctlCode, ctlPd]⟩
      | exit id =>
        have e1 : ¬ ((id : Int) + 2 = 0) := by omega
        have e2 : ¬ ((id : Int) + 2 < 0) := by omega
        have e3 : ¬ ((id : Int) + 2 ≤ 0) := by omega
        have e4 : ¬ ((id : Int) + 2 = 1) := by omega
        have e5 : ((id : Int) + 2 - 2).toNat = id := by omega
        exact ⟨by simp [loopRec, stOf, ctlCode, e1, e2], by simp only [loopRec, pdOf, ctlCode, ctlPd, List.getD_cons_zero, if_neg e3, if_neg e4, e5]⟩
    have hend := run_endLoop (P := P) q2 hnb.1
    -- it falls
    have hown : Own c2 s.nx (.box (1000000 + k) (.int ki st :: rest)) w0.heap.size := ⟨_, hE2.nm _ _ hn1, rfl⟩
    generalize hw3 : w2.putObj w0.heap.size (.loop { loopRec ⟨ps, x, y, ts, C.nt⟩ (.int ki st :: us0) with state := .exhausted }) = w3 at hend
    obtain ⟨hR3, hE3⟩ := hR2B.rebase.upd (c' := c2) (w' := w3) s.nx .dead (fun b => b = w0.heap.size) (fun _ _ h => h) (fun _ _ => rfl) (fun _ h => h) (fun _ h => .inl h) (fun b _ hb => by rw [← hw3]; exact World.putObj_heap_other hb)
      (fun b hb => by subst hb; exact hR2B.rebase.free hl1 hown) (fun _ => trivial) (fun b hb => hb.elim) (by rw [← hw3]; rfl) (by rw [← hw3]; rfl) (by rw [← hw3]; rfl) (by rw [← hw3, World.putObj_size]; exact Nat.le_refl _)
    have hEall : Ext c w c2 w3 := hE0.trans (hE1.trans (hE2.trans hE3))
    have hsim : Sim B C fr c2 ⟨s.env, put s1 s.nx .dead, n1⟩ w3 { a with defers := mark ++ a.defers } :=
      ⟨hR2B.trans hR3, ⟨(hs.tmps.ext hEall).size, (hs.tmps.ext hEall).env, (hs.tmps.ext hEall).frame⟩, hM2.step hR2B hR3, hs.base⟩
    have hQ := hK ctl _ c2 w3 _ hKout hsim hEall
    refine ⟨_, w3, hend, ?_⟩
    rw [hnb.2]
    cases ctl with
    | normal => exact hQ
    | ret => exact wpIn_ret hQ
    | exit id => exact wpIn_exit hQ
end
end Go.Hay
