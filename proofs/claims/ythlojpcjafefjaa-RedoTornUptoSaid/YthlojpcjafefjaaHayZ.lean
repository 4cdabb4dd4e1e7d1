/- Pieces of code, and loops, that are proved alone. -/
import Derived.Test.YthlojpcjafefjaaHayY
set_option linter.unusedVariables false
set_option linter.unusedSimpArgs false
namespace Go.Hay
open Go.RowKit

/-- One way in which a piece of code may end: how, and what then stands in which temporaries. -/
structure Alt where
  ctl : Ctl
  ts : List Tmp
  sh : Sh

@[reducible] def altsDen : List Alt → Type
  | [] => Empty
  | [a] => a.sh.den
  | a :: b :: r => a.sh.den ⊕ altsDen (b :: r)

def ctlEq : Ctl → Ctl → Bool
  | .normal, .normal => true
  | .ret, .ret => true
  | .exit i, .exit j => Nat.beq i j
  | _, _ => false

def tmpsAt (env : Env) (ts : List Tmp) : Option (List AV) := allSome (ts.map (look env))

def altOne (a : Alt) (s : St) : Option a.sh.den :=
  match tmpsAt s.env a.ts with
  | some vs => match xt a.sh vs ⟨s.obs, [], []⟩ with
    | some (y, [], _) => some y
    | _ => none
  | none => none

def altK : (l : List Alt) → Ctl → St → Option (altsDen l)
  | [], _, _ => none
  | [a], ctl, s => match ctlEq a.ctl ctl with
    | true => altOne a s
    | false => none
  | a :: b :: r, ctl, s => match ctlEq a.ctl ctl with
    | true => match altOne a s with
      | some y => some (.inl y)
      | none => match altK (b :: r) ctl s with
        | some y => some (.inr y)
        | none => none
    | false => match altK (b :: r) ctl s with
      | some y => some (.inr y)
      | none => none

def altCase {Ω : Type} : (l : List Alt) → altsDen l → ((a : Alt) → a.sh.den → Option Ω) → Option Ω
  | [], y, _ => nomatch y
  | [a], y, k => k a y
  | a :: b :: r, y, k => match y with
    | .inl y => k a y
    | .inr y => altCase (b :: r) y k

/-- A piece of code: the temporaries that it looks at and their shapes, those that it may write, how it may end, what it computes. -/
structure Ps where
  ts : List Tmp
  ins : Sh
  asg : List Tmp
  alts : List Alt
  fn : ins.den → Option (altsDen alts)

def dropT (asg : List Tmp) : Env → Env
  | [] => []
  | (k, v) :: r => bif asg.any (Nat.beq k) then dropT asg r else (k, v) :: dropT asg r
def addT : List Tmp → List AV → Env → Env
  | t :: ts, v :: vs, env => (t, v) :: addT ts vs env
  | _, _, env => env

def Ps.pc (F : Ps) (C : Ctx) : Pc where
  run s K := match tmpsAt s.env F.ts with
    | some args => match xt F.ins args ⟨s.obs, [], []⟩ with
      | some (x, [], z) => bif F.asg.all (fun t => mayDst C (some t)) && F.alts.all (fun a => backOk a.sh z s.nx && a.ts.all fun t => F.asg.any (Nat.beq t)) then
          obind (F.fn x) fun y => altCase F.alts y fun a y =>
            K a.ctl ⟨addT a.ts (bld (outNm z.tk (onames (nameAt z.tk) s.nx a.sh 0)) a.sh y 0).1 (dropT F.asg s.env),
              putAll (restore (bld (fun k => k) F.ins x 0).2.1 z.tk 0 z.obs) (bld (outNm z.tk (onames (nameAt z.tk) s.nx a.sh 0)) a.sh y 0).2.1, s.nx + (onames (nameAt z.tk) s.nx a.sh 0).length⟩
        else none
      | _ => none
    | none => none

def Ps.ctx (F : Ps) (C : Ctx) : Ctx := { C with may := fun t => F.asg.any (Nat.beq t) }
def Ps.canon (F : Ps) (n0 : Nat) (x : F.ins.den) : St := ⟨addT F.ts (bld (fun k => k) F.ins x 0).1 [], (bld (fun k => k) F.ins x 0).2.1, n0⟩

section
variable {P : Program} {B : Bs} {c : Cf} {w : World} {C : Ctx}

theorem ctlEq_ok {a b : Ctl} (h : ctlEq a b = true) : a = b := by
  cases a <;> cases b <;> simp [ctlEq] at h <;> first | rfl | (rw [h])

theorem altOne_ok {a : Alt} {s : St} {y : a.sh.den} (h : altOne a s = some y) : ∃ vs z, tmpsAt s.env a.ts = some vs ∧ xt a.sh vs ⟨s.obs, [], []⟩ = some (y, [], z) := by
  unfold altOne at h
  split at h
  · rename_i vs hv
    split at h
    · rename_i y' z hx
      simp only [Option.some.injEq] at h
      subst h
      exact ⟨vs, z, hv, hx⟩
    · cases h
  · cases h

theorem altK_ok [Sites] : ∀ {l : List Alt} {ctl : Ctl} {s : St} {y : altsDen l}, altK l ctl s = some y →
    ∃ (a : Alt) (y' : a.sh.den), (∀ {Ω : Type} (k : (a : Alt) → a.sh.den → Option Ω), altCase l y k = k a y') ∧ a ∈ l ∧ a.ctl = ctl ∧ ∃ vs z, tmpsAt s.env a.ts = some vs ∧ xt a.sh vs ⟨s.obs, [], []⟩ = some (y', [], z)
  | [], ctl, s, y, h => by cases y
  | [a], ctl, s, y, h => by
    simp only [altK] at h
    split at h
    · rename_i hc
      exact ⟨a, y, fun k => rfl, by simp, ctlEq_ok hc, altOne_ok h⟩
    · cases h
  | a :: b :: r, ctl, s, y, h => by
    simp only [altK] at h
    split at h
    · rename_i hc
      split at h
      · rename_i y' hy
        simp only [Option.some.injEq] at h
        subst h
        exact ⟨a, y', fun k => rfl, by simp, ctlEq_ok hc, altOne_ok hy⟩
      · split at h
        · rename_i y' hy
          simp only [Option.some.injEq] at h
          subst h
          obtain ⟨a', y2, h1, h2, h3⟩ := altK_ok hy
          exact ⟨a', y2, fun k => by simp only [altCase]; exact h1 k, List.mem_cons_of_mem _ h2, h3⟩
        · cases h
    · split at h
      · rename_i y' hy
        simp only [Option.some.injEq] at h
        subst h
        obtain ⟨a', y2, h1, h2, h3⟩ := altK_ok hy
        exact ⟨a', y2, fun k => by simp only [altCase]; exact h1 k, List.mem_cons_of_mem _ h2, h3⟩
      · cases h

theorem tmpsAt_ok {nt : Nat} {fr : Nat → Option Value} {env : Env} {a : Act} (h : Tmps nt fr c w env a) : ∀ {ts : List Tmp} {vs : List AV}, tmpsAt env ts = some vs → VRs c w vs (ts.map fun t => a.tmps.getD t undef)
  | [], vs, hv => by simp only [tmpsAt, List.map_nil, allSome, Option.some.injEq] at hv; subst hv; simp only [List.map_nil, VRs]
  | t :: ts, vs, hv => by
    simp only [tmpsAt, List.map_cons] at hv
    cases ht : look env t with
    | none => simp [ht, allSome] at hv
    | some x =>
      simp only [ht, allSome] at hv
      split at hv
      · rename_i l hl
        simp only [Option.some.injEq] at hv
        subst hv
        simp only [List.map_cons, VRs]
        exact ⟨_, _, rfl, h.env t x ht, tmpsAt_ok h hl⟩
      · cases hv

theorem any_mem {l : List Nat} {t : Nat} : l.any (Nat.beq t) = true ↔ t ∈ l := by
  simp only [List.any_eq_true]
  constructor
  · rintro ⟨x, hx, hb⟩; rw [Nat.eq_of_beq_eq_true hb]; exact hx
  · intro h; exact ⟨t, h, Nat.beq_refl t⟩

theorem look_dropT [Sites] {asg : List Tmp} : ∀ {env : Env} {k : Nat} {x : AV}, look (dropT asg env) k = some x → look env k = some x ∧ k ∉ asg
  | [], k, x, h => by simp [dropT, look] at h
  | (j, v) :: r, k, x, h => by
    simp only [dropT] at h
    cases hb : asg.any (Nat.beq j) with
    | true =>
      rw [hb] at h
      obtain ⟨h1, h2⟩ := look_dropT (env := r) (by simpa using h)
      rw [look_cons, if_neg (fun e => h2 (by rw [← e]; exact any_mem.1 hb))]
      exact ⟨h1, h2⟩
    | false =>
      rw [hb] at h
      simp only [cond_false, look_cons] at h ⊢
      split at h
      · rename_i e
        rw [if_pos e]
        exact ⟨h, fun hm => by rw [← e, ← any_mem, hb] at hm; cases hm⟩
      · rename_i e
        rw [if_neg e]
        exact look_dropT h

theorem look_addT {env : Env} : ∀ {ts : List Tmp} {vs : List AV} {k : Nat} {x : AV}, look (addT ts vs env) k = some x → (∃ i : Nat, ts[i]? = some k ∧ vs[i]? = some x) ∨ look env k = some x
  | [], vs, k, x, h => by cases vs <;> exact .inr h
  | t :: ts, [], k, x, h => .inr h
  | t :: ts, v :: vs, k, x, h => by
    simp only [addT, look_cons] at h
    split at h
    · rename_i e
      simp only [Option.some.injEq] at h
      exact .inl ⟨0, by simp [e], by simp [h]⟩
    · rcases look_addT h with ⟨i, h1, h2⟩ | h1
      · exact .inl ⟨i + 1, by simpa using h1, by simpa using h2⟩
      · exact .inr h1

/-- The temporaries for code that is proved alone. -/
theorem canon_tmps [Sites] {F : Ps} {nt n0 : Nat} {fr : Nat → Option Value} {env : Env} {a : Act} {c0 : Cf} {x : F.ins.den} (h : Tmps nt fr c w env a) (hv : VRs c0 w (bld (fun k => k) F.ins x 0).1 (F.ts.map fun t => a.tmps.getD t undef)) (fr1 : Nat → Option Value)
    (hfr : ∀ k v, fr1 k = some v → a.tmps.getD k undef = v) : Tmps nt fr1 c0 w (F.canon n0 x).env a := by
  refine ⟨h.size, fun k y hk => ?_, hfr⟩
  rcases look_addT hk with ⟨i, h1, h2⟩ | h1
  · obtain ⟨u, hu, hvu⟩ := hv.get h2
    simp only [List.getElem?_map, h1, Option.map_some, Option.some.injEq] at hu
    rw [hu]
    exact hvu
  · simp [look] at h1

def frOf (asg : List Tmp) (a : Act) : Nat → Option Value := fun k => if asg.any (Nat.beq k) then none else some (a.tmps.getD k undef)

theorem frOf_in {asg : List Tmp} {a : Act} {t : Nat} (h : asg.any (Nat.beq t) = true) : frOf asg a t = none := by
  unfold frOf; rw [if_pos h]
theorem frOf_out [Sites] {asg : List Tmp} {a : Act} {t : Nat} (h : t ∉ asg) : frOf asg a t = some (a.tmps.getD t undef) := by
  unfold frOf; rw [if_neg (fun h' => h (any_mem.1 h'))]
theorem frOf_some {asg : List Tmp} {a : Act} {t : Nat} {v : Value} (h : frOf asg a t = some v) : a.tmps.getD t undef = v := by
  unfold frOf at h
  split at h
  · cases h
  · exact Option.some.inj h

theorem Handed.marks [Sites] {s : Obs} {z : Tk} {vs : List Value} {I1 : Nat → Prop} {s0 : Obs} (hR : Rel B c s w) (h : Handed B c s w z vs I1 s0) {ds : List Deferred} {fl : Nat} (hm : Marks fl c w ds) : Marks fl (cf0 vs I1) w ds :=
  ⟨fun d hd => by
    obtain ⟨m, q1, q2, q3, q4⟩ := hm.all d hd
    refine ⟨m, q1, q2, q3, fun hI => ?_⟩
    rcases h.tk.newI m hI with g | ⟨id, e, t, l, g1, g2, g3⟩
    · exact q4 g
    · exact (hR.ob id _ g1).not_deferred g3 _ q2, hm.nodup⟩

theorem Handed.base [Sites] {s : Obs} {z : Tk} {vs : List Value} {I1 : Nat → Prop} {s0 : Obs} (hR : Rel B c s w) (h : Handed B c s w z vs I1 s0) (hb : BaseOk B) : BaseOk (bs0 B.rd B.fl w vs I1 s0) := by
  refine ⟨Nat.le_trans hb.fl hR.size, fun l hl => ?_⟩
  obtain ⟨⟨r, h1⟩, h2⟩ := hb.rd l hl
  have hlt : l < B.w.heap.size := (Array.getElem?_eq_some_iff.1 h1).1
  refine ⟨⟨r, (hR.keep l hlt h2).trans h1⟩, fun hM => ?_⟩
  obtain ⟨_, _, _, _, _, _, _, _, _, h3⟩ := h.mine hR hM
  rcases h3 with h3 | h3
  · exact h2 h3
  · omega

/-- What stands behind a piece of code, for the code around it. -/
theorem ps_back [Sites] {F : Ps} {fr : Nat → Option Value} {s : St} {a : Act} (hs : Sim B C fr c s w a) (hfr : ∀ t, C.may t = true → fr t = none) {x : F.ins.den} {z : Tk} {vs : List Value} {I1 : Nat → Prop} (hH : Handed B c s.obs w z vs I1 (bld (fun k => k) F.ins x 0).2.1)
    (hasg : F.asg.all (fun t => mayDst C (some t)) = true) (hal : F.alts.all (fun a => backOk a.sh z s.nx && a.ts.all fun t => F.asg.any (Nat.beq t)) = true)
    {c1 : Cf} {w1 : World} {a1 : Act} {s1 : St} {fr1 : Nat → Option Value} (hfr1 : ∀ k, k ∉ F.asg → fr1 k = some (a.tmps.getD k undef)) (hs1 : Sim (bs0 B.rd B.fl w vs I1 (bld (fun k => k) F.ins x 0).2.1) (F.ctx C) fr1 c1 s1 w1 a1) (hL : Lasts I1 c1.I w w1)
    (hN : ∀ al ∈ F.alts, ∀ i ∈ updIx al.sh, ∀ v, vs[i]? = some v → c1.nm i = some v) {ctl : Ctl} {y : altsDen F.alts} (hK : altK F.alts ctl s1 = some y) :
    ∃ (al : Alt) (y' : al.sh.den), (∀ {Ω : Type} (k : (a : Alt) → a.sh.den → Option Ω), altCase F.alts y k = k al y') ∧ al.ctl = ctl ∧ ∃ c2, Ext c w c2 w1 ∧
      Sim B C fr c2 ⟨addT al.ts (bld (outNm z.tk (onames (nameAt z.tk) s.nx al.sh 0)) al.sh y' 0).1 (dropT F.asg s.env),
              putAll (restore (bld (fun k => k) F.ins x 0).2.1 z.tk 0 z.obs) (bld (outNm z.tk (onames (nameAt z.tk) s.nx al.sh 0)) al.sh y' 0).2.1, s.nx + (onames (nameAt z.tk) s.nx al.sh 0).length⟩ w1 a1 := by
  obtain ⟨al, y', h1, h2, h3, rs, z1, h4, h5⟩ := altK_ok hK
  refine ⟨al, y', h1, h3, ?_⟩
  have hb := List.all_eq_true.1 hal al h2
  simp only [Bool.and_eq_true, backOk] at hb
  obtain ⟨⟨⟨b1, b2⟩, b3, b4, b6⟩, b5⟩ := hb
  have hv := tmpsAt_ok hs1.tmps h4
  obtain ⟨c2, g1, g2, g3, g4⟩ := hH.give hs.rel hs1.rel hL (hN al h2) hv h5 b1 b2 rfl (Nat.le_of_ble_eq_true b6) b3 b4
  have hmk : Marks B.fl c2 w1 a1.defers := ⟨fun d hd => by
    obtain ⟨m, q1, q2, q3, q4⟩ := hs1.marks.all d hd
    refine ⟨m, q1, q2, q3, fun hI => ?_⟩
    rcases g4 m hI with g | ⟨i, o, g5, g6⟩
    · exact q4 g
    · exact (hs1.rel.ob i o g5).not_deferred g6 _ q2, hs1.marks.nodup⟩
  have hsame : ∀ k, k ∉ F.asg → a1.tmps.getD k undef = a.tmps.getD k undef := fun k hk => hs1.tmps.frame k _ (hfr1 k hk)
  refine ⟨c2, g3, g1, ⟨hs1.tmps.size, fun k v hk => ?_, fun k v hk => ?_⟩, hmk, hs.base⟩
  · rcases look_addT hk with ⟨i, q1, q2⟩ | q1
    · obtain ⟨u, hu, hvu⟩ := g2.get q2
      simp only [List.getElem?_map, q1, Option.map_some, Option.some.injEq] at hu
      rw [hu]
      exact hvu
    · obtain ⟨q2, q3⟩ := look_dropT q1
      rw [hsame k q3]
      exact VR.ext g3 _ _ (hs.tmps.env k v q2)
  · have hna : k ∉ F.asg := fun hm => by
      have := List.all_eq_true.1 hasg k hm
      simp only [mayDst, Bool.and_eq_true] at this
      rw [hfr k this.2] at hk
      cases hk
    rw [hsame k hna]
    exact hs.tmps.frame k v hk

/-- A piece of code that is proved alone. -/
theorem ps_ok [Sites] {code : Code} (hC : C.Ok P) (hmix : P.follows .mixedOrders = true) {F : Ps} {Λ : Pcs} (hΛ : Λ.Ok P (F.ctx C) code) {n0 : Nat}
    (hev : ∀ x y, F.fn x = some y → evC (F.ctx C) code Λ (F.canon n0 x) (altK F.alts) = some y) (hni : updIx F.ins = [] := by rfl) : (F.pc C).Ok P C code := by
  intro Ω s K out hrun B fr c w a Q hfr hs hK
  simp only [Ps.pc] at hrun
  split at hrun
  · rename_i args hargs
    split at hrun
    · rename_i x z hx
      cases hc : F.asg.all (fun t => mayDst C (some t)) && F.alts.all (fun a => backOk a.sh z s.nx && a.ts.all fun t => F.asg.any (Nat.beq t)) with
      | false => simp [hc] at hrun
      | true =>
        rw [hc] at hrun
        simp only [cond_true, obind] at hrun
        simp only [Bool.and_eq_true] at hc
        split at hrun
        · rename_i y hy
          obtain ⟨vs, I1, hH, hv0⟩ := handed hs.rel (tmpsAt_ok hs.tmps hargs) hx hni
          have hsim : Sim (bs0 B.rd B.fl w vs I1 (bld (fun k => k) F.ins x 0).2.1) (F.ctx C) (frOf F.asg a) (cf0 vs I1) (F.canon n0 x) w a :=
            ⟨hH.rel hs.rel, canon_tmps (c := c) hs.tmps hv0 _ fun k v hk => frOf_some hk, hH.marks hs.rel hs.marks, hH.base hs.rel hs.base⟩
          refine evC_ok (B := bs0 B.rd B.fl w vs I1 (bld (fun k => k) F.ins x 0).2.1) (C := F.ctx C) ⟨hC.U, hC.Γ, hC.Y⟩ hmix (fun t ht => frOf_in ht) code Λ _ _ (hev x y hy) hΛ _ w a Q hsim fun ctl s1 c1 w1 a1 hk hs1 hE1 => ?_
          obtain ⟨al, y', h1, h2, c2, h3, h4⟩ := ps_back hs hfr hH hc.1 hc.2 (fun k hk => frOf_out hk) hs1 hE1.lasts (fun _ _ i _ v hi => hE1.nm i v hi) hk
          rw [h1] at hrun
          rw [← h2]
          exact hK al.ctl _ c2 w1 a1 hrun h4 h3
        · cases hrun
    · cases hrun
  · cases hrun

/-- At a loop's head again. -/
def loopK (F : Ps) (g : F.ins.den → Option (altsDen F.alts)) (ctl : Ctl) (s : St) : Option (altsDen F.alts) :=
  match ctl with
  | .normal => match tmpsAt s.env F.ts with
    | some args => match xt F.ins args ⟨s.obs, [], []⟩ with
      | some (x, [], z) => match F.alts.all fun a => (updIx a.sh).all fun i => match z.tk[i]? with | some (some id, _) => Nat.beq id i | _ => false with
        | true => g x
        | false => none
      | _ => none
    | none => none
  | .ret => altK F.alts .ret s
  | .exit id => altK F.alts (.exit id) s

/-- The small world anew, over the same beginning. -/
theorem Handed.again [Sites] {s : Obs} {z : Tk} {vs : List Value} {I1 : Nat → Prop} {s0 : Obs} (hR : Rel B c s w) (h : Handed B c s w z vs I1 s0) : Rel B (cf0 vs I1) s0 w where
  ob id o ho := (h.live id o (look_mem ho)).2.1
  dom id ho := by
    cases hv : vs[id]? with
    | none => exact hv
    | some v =>
      obtain ⟨o0, hm⟩ := h.all id (List.getElem?_eq_some_iff.1 hv).1
      exact absurd ho (mem_look hm)
  sep i j oi oj b hi hj hbi hbj := by
    obtain ⟨id1, o1, h1, h2, h3, _⟩ := h.own (look_mem hi) hbi
    obtain ⟨id2, o2, h4, h5, h6, _⟩ := h.own (look_mem hj) hbj
    have := hR.sep id1 id2 o1 o2 b h3 h6 h2 h5
    subst this
    exact h.tk.nodup i j id1 o1 o2 h1 h4
  imm id o b ho hb := by
    obtain ⟨id1, o1, h1, h2, h3, _⟩ := h.own (look_mem ho) hb
    exact h.tk.imm hR h1 h2
  lo b hb := h.tk.rel.lo b hb
  keep b h1 h2 := hR.keep b h1 h2
  mine id o b ho hr hb := by
    obtain ⟨id1, o1, h1, h2, h3, h4⟩ := h.own (look_mem ho) hb
    exact hR.mine id1 o1 b h3 (h4 hr) h2
  ro id o b ho hb := by
    obtain ⟨id1, o1, h1, h2, h3, _⟩ := h.own (look_mem ho) hb
    exact hR.ro id1 o1 b h3 h2
  sub b hb := h.tk.ext.lasts.sub b (hR.sub b hb)
  new b hb := h.tk.rel.new b hb
  os := hR.os
  tape := hR.tape
  output := hR.output
  size := hR.size

/-- A loop that is proved alone: g n is what it computes in at most n rounds. -/
theorem loop_ok [Sites] {code : Code} (hC : C.Ok P) (hmix : P.follows .mixedOrders = true) {F : Ps} {Λ : Pcs} (hΛ : Λ.Ok P (F.ctx C) code) {n0 N : Nat} (g : Nat → F.ins.den → Option (altsDen F.alts)) (h0 : ∀ x, g 0 x = none) (hN : F.fn = g N)
    (hev : ∀ n x y, g (n + 1) x = some y → evC (F.ctx C) code Λ (F.canon n0 x) (loopK F (g n)) = some y) (hni : updIx F.ins = [] := by rfl) : (F.pc C).Ok P C (.loop code) := by
  intro Ω s K out hrun B fr c w a Q hfr hs hK
  simp only [Ps.pc] at hrun
  split at hrun
  · rename_i args hargs
    split at hrun
    · rename_i x z hx
      cases hc : F.asg.all (fun t => mayDst C (some t)) && F.alts.all (fun a => backOk a.sh z s.nx && a.ts.all fun t => F.asg.any (Nat.beq t)) with
      | false => simp [hc] at hrun
      | true =>
        rw [hc] at hrun
        simp only [cond_true, obind] at hrun
        simp only [Bool.and_eq_true] at hc
        split at hrun
        · rename_i y hy
          rw [hN] at hy
          obtain ⟨vs, I1, hH, hv0⟩ := handed hs.rel (tmpsAt_ok hs.tmps hargs) hx hni
          -- every round from what the head is handed
          have key : ∀ (n : Nat) (x' : F.ins.den), g n x' = some y → ∀ (vs' : List Value) (I' : Nat → Prop) (w' : World) (a' : Act),
              Sim (bs0 B.rd B.fl w vs I1 (bld (fun k => k) F.ins x 0).2.1) (F.ctx C) (frOf F.asg a) (cf0 vs' I') (F.canon n0 x') w' a' → Lasts I1 I' w w' → (∀ al ∈ F.alts, ∀ i ∈ updIx al.sh, ∀ v, vs[i]? = some v → vs'[i]? = some v) → Code.roundsIn (WF B.rd) 0 P code Q n a' w' := by
            intro n
            induction n with
            | zero => intro x' hg; rw [h0] at hg; cases hg
            | succ n ih =>
              intro x' hg vs' I' w' a' hsim hL hup
              rw [roundsIn_succ]
              refine evC_ok (B := bs0 B.rd B.fl w vs I1 (bld (fun k => k) F.ins x 0).2.1) (C := F.ctx C) ⟨hC.U, hC.Γ, hC.Y⟩ hmix (fun t ht => frOf_in ht) code Λ _ _ (hev n x' y hg) hΛ _ w' a' _ hsim fun ctl s1 c1 w1 a1 hk hs1 hE1 => ?_
              have hN1 : ∀ al ∈ F.alts, ∀ i ∈ updIx al.sh, ∀ v, vs[i]? = some v → c1.nm i = some v := fun al hal i hi v hv => hE1.nm i v (hup al hal i hi v hv)
              have hend : ∀ ctl', altK F.alts ctl' s1 = some y → Q ctl'.out a1 w1 := fun ctl' hk => by
                obtain ⟨al, y', h1, h2, c2, h3, h4⟩ := ps_back hs hfr hH hc.1 hc.2 (fun k hk => frOf_out hk) hs1 (hL.trans hE1.lasts) hN1 hk
                rw [h1] at hrun
                rw [← h2]
                exact hK al.ctl _ c2 w1 a1 hrun h4 h3
              cases ctl with
              | ret => exact hend .ret hk
              | exit id => exact hend (.exit id) hk
              | normal =>
                simp only [loopK] at hk
                split at hk
                · rename_i args1 hargs1
                  split at hk
                  · rename_i x2 z2 hx2
                    split at hk
                    · rename_i hsame
                      obtain ⟨vs2, I2, hH2, hv2⟩ := handed hs1.rel (tmpsAt_ok hs1.tmps hargs1) hx2 hni
                      refine ih x2 hk vs2 I2 w1 a1 ⟨hH2.again hs1.rel, canon_tmps (c := c1) hs1.tmps hv2 _ fun k v hkv => hs1.tmps.frame k v hkv, hH2.marks hs1.rel hs1.marks, hs1.base⟩ (hL.trans (hE1.lasts.trans hH2.tk.ext.lasts)) fun al hal i hi v hv => ?_
                      have h1 := List.all_eq_true.1 (List.all_eq_true.1 hsame al hal) i hi
                      split at h1
                      · rename_i id o hid
                        have := Nat.eq_of_beq_eq_true h1
                        subst this
                        have h2 := (hH2.tk.at_ _ _ _ hid).2.2.2
                        rw [← h2]
                        exact hN1 al hal _ hi v hv
                      · cases h1
                    · cases hk
                  · cases hk
                · cases hk
          refine wpIn_loop_rounds N (key N x hy vs I1 w a ⟨hH.rel hs.rel, canon_tmps (c := c) hs.tmps hv0 _ fun k v hk => frOf_some hk, hH.marks hs.rel hs.marks, hH.base hs.rel hs.base⟩ (Lasts.refl _ _) fun _ _ _ _ _ h => h)
        · cases hrun
    · cases hrun
  · cases hrun
end
end Go.Hay
