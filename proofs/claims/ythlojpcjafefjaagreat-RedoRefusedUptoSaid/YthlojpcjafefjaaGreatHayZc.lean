/- Pieces of code, and loops, that are proved alone. -/
import Derived.Test.YthlojpcjafefjaaGreatHayY
import Derived.KernelRfl
import Derived.ProofKit
set_option linter.unusedVariables false
set_option linter.unusedSimpArgs false
namespace Go.Hay
open Go.RowKit

structure Alt where
  ctl : Ctl
  ts : List Tmp
  sh : Sh

@[reducible] def altsDen : List Alt → Type
  | [] => Empty
  | [a] => a.sh.den
  | a :: b :: r => a.sh.den ⊕ altsDen (b :: r)

def ctlEq : Ctl → Ctl → Bool
  | .normal, .normal => true
  | .ret, .ret => true
  | .exit i, .exit j => Nat.beq i j
  | _, _ => false

def tmpsAt (env : Env) (ts : List Tmp) : Option (List AV) := allSome (ts.map (look env))

def altOne (a : Alt) (s : St) : Option a.sh.den :=
  match tmpsAt s.env a.ts with
  | some vs => match xt a.sh vs ⟨s.obs, [], []⟩ with
    | some (y, [], _) => some y
    | _ => none
  | none => none

def altK : (l : List Alt) → Ctl → St → Option (altsDen l)
  | [], _, _ => none
  | [a], ctl, s => match ctlEq a.ctl ctl with
    | true => altOne a s
    | false => none
  | a :: b :: r, ctl, s => match ctlEq a.ctl ctl with
    | true => match altOne a s with
      | some y => some (.inl y)
      | none => match altK (b :: r) ctl s with
        | some y => some (.inr y)
        | none => none
    | false => match altK (b :: r) ctl s with
      | some y => some (.inr y)
      | none => none

def altCase {Ω : Type} : (l : List Alt) → altsDen l → ((a : Alt) → a.sh.den → Option Ω) → Option Ω
  | [], y, _ => nomatch y
  | [a], y, k => k a y
  | a :: b :: r, y, k => match y with
    | .inl y => k a y
    | .inr y => altCase (b :: r) y k

structure Ps where
  ts : List Tmp
  ins : Sh
  asg : List Tmp
  alts : List Alt
  fn : ins.den → Option (altsDen alts)

def dropT (asg : List Tmp) : Env → Env
  | [] => []
  | (k, v) :: r => bif asg.any (Nat.beq k) then dropT asg r else (k, v) :: dropT asg r
def addT : List Tmp → List AV → Env → Env
  | t :: ts, v :: vs, env => (t, v) :: addT ts vs env
  | _, _, env => env

def Ps.pc (F : Ps) (C : Ctx) : Pc where
  run s K := match tmpsAt s.env F.ts with
    | some args => match xt F.ins args ⟨s.obs, [], []⟩ with
      | some (x, [], z) => bif F.asg.all (fun t => mayDst C (some t)) && F.alts.all (fun a => backOk a.sh z s.nx && a.ts.all fun t => F.asg.any (Nat.beq t)) then
          obind (F.fn x) fun y => altCase F.alts y fun a y =>
            K a.ctl ⟨addT a.ts (bld (outNm z.tk (onames (nameAt z.tk) s.nx a.sh 0)) a.sh y 0).1 (dropT F.asg s.env),
              putAll (restore (bld (fun k => k) F.ins x 0).2.1 z.tk 0 z.obs) (bld (outNm z.tk (onames (nameAt z.tk) s.nx a.sh 0)) a.sh y 0).2.1, s.nx + (onames (nameAt z.tk) s.nx a.sh 0).length⟩
        else none
      | _ => none
    | none => none

def Ps.ctx (F : Ps) (C : Ctx) : Ctx := { C with may := fun t => F.asg.any (Nat.beq t) }
def Ps.canon (F : Ps) (n0 : Nat) (x : F.ins.den) : St := ⟨addT F.ts (bld (fun k => k) F.ins x 0).1 [], (bld (fun k => k) F.ins x 0).2.1, n0⟩

section
variable {P : Program} {B : Bs} {c : Cf} {w : World} {C : Ctx}

theorem ctlEq_ok {a b : Ctl} (h : ctlEq a b = true) : a = b := by
  cases a <;> cases b <;> simp [ctlEq] at h <;> first | rfl | (rw [h])

theorem altOne_ok {a : Alt} {s : St} {y : a.sh.den} (h : altOne a s = some y) : ∃ vs z, tmpsAt s.env a.ts = some vs ∧ xt a.sh vs ⟨s.obs, [], []⟩ = some (y, [], z) := by
  unfold altOne at h
  split at h
  · rename_i vs hv
    split at h
    · rename_i y' z hx
      simp only [Option.some.injEq] at h
      subst h
      exact ⟨vs, z, hv, hx⟩
    · cases h
  · cases h

theorem altK_ok [Sites] : ∀ {l : List Alt} {ctl : Ctl} {s : St} {y : altsDen l}, altK l ctl s = some y →
    ∃ (a : Alt) (y' : a.sh.den), (∀ {Ω : Type} (k : (a : Alt) → a.sh.den → Option Ω), altCase l y k = k a y') ∧ a ∈ l ∧ a.ctl = ctl ∧ ∃ vs z, tmpsAt s.env a.ts = some vs ∧ xt a.sh vs ⟨s.obs, [], []⟩ = some (y', [], z)
  | [], ctl, s, y, h => by cases y
  | [a], ctl, s, y, h => by
    simp only [altK] at h
    split at h
    · rename_i hc
      exact ⟨a, y, fun k => rfl, by simp, ctlEq_ok hc, altOne_ok h⟩
    · cases h
  | a :: b :: r, ctl, s, y, h => by
    simp only [altK] at h
    split at h
    · rename_i hc
      split at h
      · rename_i y' hy
        simp only [Option.some.injEq] at h
        subst h
        exact ⟨a, y', fun k => rfl, by simp, ctlEq_ok hc, altOne_ok hy⟩
      · split at h
        · rename_i y' hy
          simp only [Option.some.injEq] at h
          subst h
          obtain ⟨a', y2, h1, h2, h3⟩ := altK_ok hy
          exact ⟨a', y2, fun k => by simp only [altCase]; exact h1 k, List.mem_cons_of_mem _ h2, h3⟩
        · cases h
    · split at h
      · rename_i y' hy
        simp only [Option.some.injEq] at h
        subst h
        obtain ⟨a', y2, h1, h2, h3⟩ := altK_ok hy
        exact ⟨a', y2, fun k => by simp only [altCase]; exact h1 k, List.mem_cons_of_mem _ h2, h3⟩
      · cases h

theorem tmpsAt_ok {nt : Nat} {fr : Nat → Option Value} {env : Env} {a : Act} (h : Tmps nt fr c w env a) : ∀ {ts : List Tmp} {vs : List AV}, tmpsAt env ts = some vs → VRs c w vs (ts.map fun t => a.tmps.getD t undef)
  | [], vs, hv => by simp only [tmpsAt, List.map_nil, allSome, Option.some.injEq] at hv; subst hv; simp only [List.map_nil, VRs]
  | t :: ts, vs, hv => by
    simp only [tmpsAt, List.map_cons] at hv
    cases ht : look env t with
    | none => simp [ht, allSome] at hv
    | some x =>
      simp only [ht, allSome] at hv
      split at hv
      · rename_i l hl
        simp only [Option.some.injEq] at hv
        subst hv
        simp only [List.map_cons, VRs]
        exact ⟨_, _, rfl, h.env t x ht, tmpsAt_ok h hl⟩
      · cases hv

theorem any_mem {l : List Nat} {t : Nat} : l.any (Nat.beq t) = true ↔ t ∈ l := by
  simp only [List.any_eq_true]
  constructor
  · rintro ⟨x, hx, hb⟩; rw [Nat.eq_of_beq_eq_true hb]; exact hx
  · intro h; exact ⟨t, h, Nat.beq_refl t⟩

theorem look_dropT [Sites] {asg : List Tmp} : ∀ {env : Env} {k : Nat} {x : AV}, look (dropT asg env) k = some x → look env k = some x ∧ k ∉ asg
  | [], k, x, h => by simp [dropT, look] at h
  | (j, v) :: r, k, x, h => by
    simp only [dropT] at h
    cases hb : asg.any (Nat.beq j) with
    | true =>
      rw [hb] at h
      obtain ⟨h1, h2⟩ := look_dropT (env := r) (by simpa using h)
      rw [look_cons, if_neg (fun e => h2 (by rw [← e]; exact any_mem.1 hb))]
      exact ⟨h1, h2⟩
    | false =>
      rw [hb] at h
      simp only [cond_false, look_cons] at h ⊢
      split at h
      · rename_i e
        rw [if_pos e]
        exact ⟨h, fun hm => by rw [← e, ← any_mem, hb] at hm; cases hm⟩
      · rename_i e
        rw [if_neg e]
        exact look_dropT h

theorem look_addT {env : Env} : ∀ {ts : List Tmp} {vs : List AV} {k : Nat} {x : AV}, look (addT ts vs env) k = some x → (∃ i : Nat, ts[i]? = some k ∧ vs[i]? = some x) ∨ look env k = some x
  | [], vs, k, x, h => by cases vs <;> exact .inr h
  | t :: ts, [], k, x, h => .inr h
  | t :: ts, v :: vs, k, x, h => by
    simp only [addT, look_cons] at h
    split at h
    · rename_i e
      simp only [Option.some.injEq] at h
      exact .inl ⟨0, by simp [e], by simp [h]⟩
    · rcases look_addT h with ⟨i, h1, h2⟩ | h1
      · exact .inl ⟨i + 1, by simpa using h1, by simpa using h2⟩
      · exact .inr h1

theorem canon_tmps [Sites] {F : Ps} {nt n0 : Nat} {fr : Nat → Option Value} {env : Env} {a : Act} {c0 : Cf} {x : F.ins.den} (h : Tmps nt fr c w env a) (hv : VRs c0 w (bld (fun k => k) F.ins x 0).1 (F.ts.map fun t => a.tmps.getD t undef)) (fr1 : Nat → Option Value)
    (hfr : ∀ k v, fr1 k = some v → a.tmps.getD k undef = v) : Tmps nt fr1 c0 w (F.canon n0 x).env a := by
  refine ⟨h.size, fun k y hk => ?_, hfr⟩
  rcases look_addT hk with ⟨i, h1, h2⟩ | h1
  · obtain ⟨u, hu, hvu⟩ := hv.get h2
    simp only [List.getElem?_map, h1, Option.map_some, Option.some.injEq] at hu
    rw [hu]
    exact hvu
  · simp [look] at h1

def frOf (asg : List Tmp) (a : Act) : Nat → Option Value := fun k => if asg.any (Nat.beq k) then none else some (a.tmps.getD k undef)

theorem frOf_in {asg : List Tmp} {a : Act} {t : Nat} (h : asg.any (Nat.beq t) = true) : frOf asg a t = none := by
  unfold frOf; rw [if_pos h]
theorem frOf_out [Sites] {asg : List Tmp} {a : Act} {t : Nat} (h : t ∉ asg) : frOf asg a t = some (a.tmps.getD t undef) := by
  unfold frOf; rw [if_neg (fun h' => h (any_mem.1 h'))]
theorem frOf_some {asg : List Tmp} {a : Act} {t : Nat} {v : Value} (h : frOf asg a t = some v) : a.tmps.getD t undef = v := by
  unfold frOf at h
  split at h
  · cases h
  · exact Option.some.inj h

theorem Handed.marks [Sites] {s : Obs} {z : Tk} {vs : List Value} {I1 : Nat → Prop} {s0 : Obs} (hR : Rel B c s w) (h : Handed B c s w z vs I1 s0) {ds : List Deferred} {fl : Nat} (hm : Marks fl c w ds) : Marks fl (cf0 vs I1) w ds :=
  ⟨fun d hd => by
    obtain ⟨m, q1, q2, q3, q4⟩ := hm.all d hd
    refine ⟨m, q1, q2, q3, fun hI => ?_⟩
    rcases h.tk.newI m hI with g | ⟨id, e, t, l, g1, g2, g3⟩
    · exact q4 g
    · exact (hR.ob id _ g1).not_deferred g3 _ q2, hm.nodup⟩

theorem Handed.base [Sites] {s : Obs} {z : Tk} {vs : List Value} {I1 : Nat → Prop} {s0 : Obs} (hR : Rel B c s w) (h : Handed B c s w z vs I1 s0) (hb : BaseOk B) : BaseOk (bs0 B.rd B.fl w vs I1 s0) := by
  refine ⟨Nat.le_trans hb.fl hR.size, fun l hl => ?_⟩
  obtain ⟨⟨r, h1⟩, h2⟩ := hb.rd l hl
  have hlt : l < B.w.heap.size := (Array.getElem?_eq_some_iff.1 h1).1
  refine ⟨⟨r, (hR.keep l hlt h2).trans h1⟩, fun hM => ?_⟩
  obtain ⟨_, _, _, _, _, _, _, _, _, h3⟩ := h.mine hR hM
  rcases h3 with h3 | h3
  · exact h2 h3
  · omega

theorem ps_back [Sites] {F : Ps} {fr : Nat → Option Value} {s : St} {a : Act} (hs : Sim B C fr c s w a) (hfr : ∀ t, C.may t = true → fr t = none) {x : F.ins.den} {z : Tk} {vs : List Value} {I1 : Nat → Prop} (hH : Handed B c s.obs w z vs I1 (bld (fun k => k) F.ins x 0).2.1)
    (hasg : F.asg.all (fun t => mayDst C (some t)) = true) (hal : F.alts.all (fun a => backOk a.sh z s.nx && a.ts.all fun t => F.asg.any (Nat.beq t)) = true)
    {c1 : Cf} {w1 : World} {a1 : Act} {s1 : St} {fr1 : Nat → Option Value} (hfr1 : ∀ k, k ∉ F.asg → fr1 k = some (a.tmps.getD k undef)) (hs1 : Sim (bs0 B.rd B.fl w vs I1 (bld (fun k => k) F.ins x 0).2.1) (F.ctx C) fr1 c1 s1 w1 a1) (hL : Lasts I1 c1.I w w1)
    (hN : ∀ al ∈ F.alts, ∀ i ∈ updIx al.sh, ∀ v, vs[i]? = some v → c1.nm i = some v) {ctl : Ctl} {y : altsDen F.alts} (hK : altK F.alts ctl s1 = some y) :
    ∃ (al : Alt) (y' : al.sh.den), (∀ {Ω : Type} (k : (a : Alt) → a.sh.den → Option Ω), altCase F.alts y k = k al y') ∧ al.ctl = ctl ∧ ∃ c2, Ext c w c2 w1 ∧
      Sim B C fr c2 ⟨addT al.ts (bld (outNm z.tk (onames (nameAt z.tk) s.nx al.sh 0)) al.sh y' 0).1 (dropT F.asg s.env),
              putAll (restore (bld (fun k => k) F.ins x 0).2.1 z.tk 0 z.obs) (bld (outNm z.tk (onames (nameAt z.tk) s.nx al.sh 0)) al.sh y' 0).2.1, s.nx + (onames (nameAt z.tk) s.nx al.sh 0).length⟩ w1 a1 := by
  obtain ⟨al, y', h1, h2, h3, rs, z1, h4, h5⟩ := altK_ok hK
  refine ⟨al, y', h1, h3, ?_⟩
  have hb := List.all_eq_true.1 hal al h2
  simp only [Bool.and_eq_true, backOk] at hb
  obtain ⟨⟨⟨b1, b2⟩, b3, b4, b6⟩, b5⟩ := hb
  have hv := tmpsAt_ok hs1.tmps h4
  obtain ⟨c2, g1, g2, g3, g4⟩ := hH.give hs.rel hs1.rel hL (hN al h2) hv h5 b1 b2 rfl (Nat.le_of_ble_eq_true b6) b3 b4
  have hmk : Marks B.fl c2 w1 a1.defers := ⟨fun d hd => by
    obtain ⟨m, q1, q2, q3, q4⟩ := hs1.marks.all d hd
    refine ⟨m, q1, q2, q3, fun hI => ?_⟩
    rcases g4 m hI with g | ⟨i, o, g5, g6⟩
    · exact q4 g
    · exact (hs1.rel.ob i o g5).not_deferred g6 _ q2, hs1.marks.nodup⟩
  have hsame : ∀ k, k ∉ F.asg → a1.tmps.getD k undef = a.tmps.getD k undef := fun k hk => hs1.tmps.frame k _ (hfr1 k hk)
  refine ⟨c2, g3, g1, ⟨hs1.tmps.size, fun k v hk => ?_, fun k v hk => ?_⟩, hmk, hs.base⟩
  · rcases look_addT hk with ⟨i, q1, q2⟩ | q1
    · obtain ⟨u, hu, hvu⟩ := g2.get q2
      simp only [List.getElem?_map, q1, Option.map_some, Option.some.injEq] at hu
      rw [hu]
      exact hvu
    · obtain ⟨q2, q3⟩ := look_dropT q1
      rw [hsame k q3]
      exact VR.ext g3 _ _ (hs.tmps.env k v q2)
  · have hna : k ∉ F.asg := fun hm => by
      have := List.all_eq_true.1 hasg k hm
      simp only [mayDst, Bool.and_eq_true] at this
      rw [hfr k this.2] at hk
      cases hk
    rw [hsame k hna]
    exact hs.tmps.frame k v hk

theorem ps_ok [Sites] {code : Code} (hC : C.Ok P) (hmix : P.follows .mixedOrders = true) {F : Ps} {Λ : Pcs} (hΛ : Λ.Ok P (F.ctx C) code) {n0 : Nat}
    (hev : ∀ x y, F.fn x = some y → evC (F.ctx C) code Λ (F.canon n0 x) (altK F.alts) = some y) (hni : updIx F.ins = [] := by rfl) : (F.pc C).Ok P C code := by
  intro Ω s K out hrun B fr c w a Q hfr hs hK
  simp only [Ps.pc] at hrun
  split at hrun
  · rename_i args hargs
    split at hrun
    · rename_i x z hx
      cases hc : F.asg.all (fun t => mayDst C (some t)) && F.alts.all (fun a => backOk a.sh z s.nx && a.ts.all fun t => F.asg.any (Nat.beq t)) with
      | false => simp [hc] at hrun
      | true =>
        rw [hc] at hrun
        simp only [cond_true, obind] at hrun
        simp only [Bool.and_eq_true] at hc
        split at hrun
        · rename_i y hy
          obtain ⟨vs, I1, hH, hv0⟩ := handed hs.rel (tmpsAt_ok hs.tmps hargs) hx hni
          have hsim : Sim (bs0 B.rd B.fl w vs I1 (bld (fun k => k) F.ins x 0).2.1) (F.ctx C) (frOf F.asg a) (cf0 vs I1) (F.canon n0 x) w a :=
            ⟨hH.rel hs.rel, canon_tmps (c := c) hs.tmps hv0 _ fun k v hk => frOf_some hk, hH.marks hs.rel hs.marks, hH.base hs.rel hs.base⟩
          refine evC_ok (B := bs0 B.rd B.fl w vs I1 (bld (fun k => k) F.ins x 0).2.1) (C := F.ctx C) ⟨hC.U, hC.Γ, hC.Y⟩ hmix (fun t ht => frOf_in ht) code Λ _ _ (hev x y hy) hΛ _ w a Q hsim fun ctl s1 c1 w1 a1 hk hs1 hE1 => ?_
          obtain ⟨al, y', h1, h2, c2, h3, h4⟩ := ps_back hs hfr hH hc.1 hc.2 (fun k hk => frOf_out hk) hs1 hE1.lasts (fun _ _ i _ v hi => hE1.nm i v hi) hk
          rw [h1] at hrun
          rw [← h2]
          exact hK al.ctl _ c2 w1 a1 hrun h4 h3
        · cases hrun
    · cases hrun
  · cases hrun

def loopK (F : Ps) (g : F.ins.den → Option (altsDen F.alts)) (ctl : Ctl) (s : St) : Option (altsDen F.alts) :=
  match ctl with
  | .normal => match tmpsAt s.env F.ts with
    | some args => match xt F.ins args ⟨s.obs, [], []⟩ with
      | some (x, [], z) => match F.alts.all fun a => (updIx a.sh).all fun i => match z.tk[i]? with | some (some id, _) => Nat.beq id i | _ => false with
        | true => g x
        | false => none
      | _ => none
    | none => none
  | .ret => altK F.alts .ret s
  | .exit id => altK F.alts (.exit id) s

theorem Handed.again [Sites] {s : Obs} {z : Tk} {vs : List Value} {I1 : Nat → Prop} {s0 : Obs} (hR : Rel B c s w) (h : Handed B c s w z vs I1 s0) : Rel B (cf0 vs I1) s0 w where
  ob id o ho := (h.live id o (look_mem ho)).2.1
  dom id ho := by
    cases hv : vs[id]? with
    | none => exact hv
    | some v =>
      obtain ⟨o0, hm⟩ := h.all id (List.getElem?_eq_some_iff.1 hv).1
      exact absurd ho (mem_look hm)
  sep i j oi oj b hi hj hbi hbj := by
    obtain ⟨id1, o1, h1, h2, h3, _⟩ := h.own (look_mem hi) hbi
    obtain ⟨id2, o2, h4, h5, h6, _⟩ := h.own (look_mem hj) hbj
    have := hR.sep id1 id2 o1 o2 b h3 h6 h2 h5
    subst this
    exact h.tk.nodup i j id1 o1 o2 h1 h4
  imm id o b ho hb := by
    obtain ⟨id1, o1, h1, h2, h3, _⟩ := h.own (look_mem ho) hb
    exact h.tk.imm hR h1 h2
  lo b hb := h.tk.rel.lo b hb
  keep b h1 h2 := hR.keep b h1 h2
  mine id o b ho hr hb := by
    obtain ⟨id1, o1, h1, h2, h3, h4⟩ := h.own (look_mem ho) hb
    exact hR.mine id1 o1 b h3 (h4 hr) h2
  ro id o b ho hb := by
    obtain ⟨id1, o1, h1, h2, h3, _⟩ := h.own (look_mem ho) hb
    exact hR.ro id1 o1 b h3 h2
  sub b hb := h.tk.ext.lasts.sub b (hR.sub b hb)
  new b hb := h.tk.rel.new b hb
  os := hR.os
  tape := hR.tape
  output := hR.output
  size := hR.size

theorem loop_ok [Sites] {code : Code} (hC : C.Ok P) (hmix : P.follows .mixedOrders = true) {F : Ps} {Λ : Pcs} (hΛ : Λ.Ok P (F.ctx C) code) {n0 N : Nat} (g : Nat → F.ins.den → Option (altsDen F.alts)) (h0 : ∀ x, g 0 x = none) (hN : F.fn = g N)
    (hev : ∀ n x y, g (n + 1) x = some y → evC (F.ctx C) code Λ (F.canon n0 x) (loopK F (g n)) = some y) (hni : updIx F.ins = [] := by rfl) : (F.pc C).Ok P C (.loop code) := by
  intro Ω s K out hrun B fr c w a Q hfr hs hK
  simp only [Ps.pc] at hrun
  split at hrun
  · rename_i args hargs
    split at hrun
    · rename_i x z hx
      cases hc : F.asg.all (fun t => mayDst C (some t)) && F.alts.all (fun a => backOk a.sh z s.nx && a.ts.all fun t => F.asg.any (Nat.beq t)) with
      | false => simp [hc] at hrun
      | true =>
        rw [hc] at hrun
        simp only [cond_true, obind] at hrun
        simp only [Bool.and_eq_true] at hc
        split at hrun
        · rename_i y hy
          rw [hN] at hy
          obtain ⟨vs, I1, hH, hv0⟩ := handed hs.rel (tmpsAt_ok hs.tmps hargs) hx hni
          -- every round from what the head is handed
          have key : ∀ (n : Nat) (x' : F.ins.den), g n x' = some y → ∀ (vs' : List Value) (I' : Nat → Prop) (w' : World) (a' : Act),
              Sim (bs0 B.rd B.fl w vs I1 (bld (fun k => k) F.ins x 0).2.1) (F.ctx C) (frOf F.asg a) (cf0 vs' I') (F.canon n0 x') w' a' → Lasts I1 I' w w' → (∀ al ∈ F.alts, ∀ i ∈ updIx al.sh, ∀ v, vs[i]? = some v → vs'[i]? = some v) → Code.roundsIn (WF B.rd) 0 P code Q n a' w' := by
            intro n
            induction n with
            | zero => intro x' hg; rw [h0] at hg; cases hg
            | succ n ih =>
              intro x' hg vs' I' w' a' hsim hL hup
              rw [roundsIn_succ]
              refine evC_ok (B := bs0 B.rd B.fl w vs I1 (bld (fun k => k) F.ins x 0).2.1) (C := F.ctx C) ⟨hC.U, hC.Γ, hC.Y⟩ hmix (fun t ht => frOf_in ht) code Λ _ _ (hev n x' y hg) hΛ _ w' a' _ hsim fun ctl s1 c1 w1 a1 hk hs1 hE1 => ?_
              have hN1 : ∀ al ∈ F.alts, ∀ i ∈ updIx al.sh, ∀ v, vs[i]? = some v → c1.nm i = some v := fun al hal i hi v hv => hE1.nm i v (hup al hal i hi v hv)
              have hend : ∀ ctl', altK F.alts ctl' s1 = some y → Q ctl'.out a1 w1 := fun ctl' hk => by
                obtain ⟨al, y', h1, h2, c2, h3, h4⟩ := ps_back hs hfr hH hc.1 hc.2 (fun k hk => frOf_out hk) hs1 (hL.trans hE1.lasts) hN1 hk
                rw [h1] at hrun
                rw [← h2]
                exact hK al.ctl _ c2 w1 a1 hrun h4 h3
              cases ctl with
              | ret => exact hend .ret hk
              | exit id => exact hend (.exit id) hk
              | normal =>
                simp only [loopK] at hk
                split at hk
                · rename_i args1 hargs1
                  split at hk
                  · rename_i x2 z2 hx2
                    split at hk
                    · rename_i hsame
                      obtain ⟨vs2, I2, hH2, hv2⟩ := handed hs1.rel (tmpsAt_ok hs1.tmps hargs1) hx2 hni
                      refine ih x2 hk vs2 I2 w1 a1 ⟨hH2.again hs1.rel, canon_tmps (c := c1) hs1.tmps hv2 _ fun k v hkv => hs1.tmps.frame k v hkv, hH2.marks hs1.rel hs1.marks, hs1.base⟩ (hL.trans (hE1.lasts.trans hH2.tk.ext.lasts)) fun al hal i hi v hv => ?_
                      have h1 := List.all_eq_true.1 (List.all_eq_true.1 hsame al hal) i hi
                      split at h1
                      · rename_i id o hid
                        have := Nat.eq_of_beq_eq_true h1
                        subst this
                        have h2 := (hH2.tk.at_ _ _ _ hid).2.2.2
                        rw [← h2]
                        exact hN1 al hal _ hi v hv
                      · cases h1
                    · cases hk
                  · cases hk
                · cases hk
          refine wpIn_loop_rounds N (key N x hy vs I1 w a ⟨hH.rel hs.rel, canon_tmps (c := c) hs.tmps hv0 _ fun k v hk => frOf_some hk, hH.marks hs.rel hs.marks, hH.base hs.rel hs.base⟩ (Lasts.refl _ _) fun _ _ _ _ _ h => h)
        · cases hrun
    · cases hrun
  · cases hrun
end
end Go.Hay
/- Lists of contracts and of pieces. -/
set_option linter.unusedVariables false
set_option linter.unusedSimpArgs false
namespace Go.Hay
open Go.RowKit

def gam : List (FuncId × Con) → FuncId → Option Con
  | [], _ => none
  | (g, c) :: r, f => bif Nat.beq g f then some c else gam r f

def gamY : List (TypeId × Yc) → TypeId → Option Yc
  | [], _ => none
  | (g, c) :: r, f => bif Nat.beq g f then some c else gamY r f

def pcs : List (List Bool × Pc) → Pcs
  | [], _ => none
  | (p, q) :: r, p' => bif pathEq p p' then some q else pcs r p'
  where pathEq : List Bool → List Bool → Bool
  | [], [] => true
  | a :: as, b :: bs => (a == b) && pathEq as bs
  | _, _ => false

def loopBody : Option Code → Code
  | some (.loop b) => b
  | _ => .skip

def Con.or (c d : Con) : Con where
  X := c.X ⊕ d.X
  Y := fun x => match x with | .inl x => c.Y x | .inr x => d.Y x
  pre a s n := match c.pre a s n with
    | some x => some (.inl x)
    | none => match d.pre a s n with
      | some x => some (.inr x)
      | none => none
  fn := fun x => match x with | .inl x => c.fn x | .inr x => d.fn x
  post a s n := fun x => match x with | .inl x => fun y => c.post a s n x y | .inr x => fun y => d.post a s n x y
  spl := fun x => match x with | .inl x => c.spl x | .inr x => d.spl x
  spl_ok := fun x => match x with | .inl x => c.spl_ok x | .inr x => d.spl_ok x

section
variable {P : Program}

def GamOk [Sites] (P : Program) (l : List (FuncId × Con)) : Prop := ∀ f c, gam l f = some c → c.Ok P f
theorem GamOk.nil [Sites] : GamOk P [] := fun f c h => by cases h
theorem GamOk.cons [Sites] {f : FuncId} {c : Con} {r : List (FuncId × Con)} (h : c.Ok P f) (hr : GamOk P r) : GamOk P ((f, c) :: r) := by
  intro g d hg
  simp only [gam] at hg
  cases hb : Nat.beq f g with
  | true =>
    rw [hb] at hg
    simp only [cond_true, Option.some.injEq] at hg
    have := Nat.eq_of_beq_eq_true hb
    subst this
    subst hg
    exact h
  | false =>
    rw [hb] at hg
    exact hr g d hg

def GamYOk [Sites] (P : Program) (l : List (TypeId × Yc)) : Prop := ∀ f c, gamY l f = some c → c.Ok P f
theorem GamYOk.nil [Sites] : GamYOk P [] := fun f c h => by cases h
theorem GamYOk.cons [Sites] {f : TypeId} {c : Yc} {r : List (TypeId × Yc)} (h : c.Ok P f) (hr : GamYOk P r) : GamYOk P ((f, c) :: r) := by
  intro g d hg
  simp only [gamY] at hg
  cases hb : Nat.beq f g with
  | true =>
    rw [hb] at hg
    simp only [cond_true, Option.some.injEq] at hg
    have := Nat.eq_of_beq_eq_true hb
    subst this
    subst hg
    exact h
  | false =>
    rw [hb] at hg
    exact hr g d hg

theorem pathEq_ok : ∀ {a b : List Bool}, pcs.pathEq a b = true → a = b
  | [], [], _ => rfl
  | a :: as, b :: bs, h => by
    simp only [pcs.pathEq, Bool.and_eq_true, beq_iff_eq] at h
    rw [h.1, pathEq_ok h.2]
  | [], _ :: _, h => by cases h
  | _ :: _, [], h => by cases h

theorem pcsOk_nil [Sites] {C : Ctx} {code : Code} : (pcs []).Ok P C code := fun p q code' h => by cases h
theorem pcsOk_cons [Sites] {C : Ctx} {code : Code} {p : List Bool} {q : Pc} {r : List (List Bool × Pc)} {c1 : Code} (hs : sub code p = some c1) (hq : q.Ok P C c1) (hr : (pcs r).Ok P C code) : (pcs ((p, q) :: r)).Ok P C code := by
  intro p' q' code' h1 h2
  simp only [pcs] at h1
  cases hb : pcs.pathEq p p' with
  | true =>
    rw [hb] at h1
    simp only [cond_true, Option.some.injEq] at h1
    have := pathEq_ok hb
    subst this
    subst h1
    rw [hs] at h2
    cases h2
    exact @hq
  | false =>
    rw [hb] at h1
    exact hr p' q' code' h1 h2

def TD.no : TD := ⟨.none, 0, 0, [], none, false⟩
def TD.Holds (P : Program) (t : TypeId) (d : TD) : Prop := TD.kindOk P t d ∧ TD.infoOk P t d ∧ TD.eqOk P t d
def Tab (P : Program) (l : List TD) (i : Nat) : Prop := ∀ j d, l[j]? = some d → d.k ≠ .none → TD.Holds P (i + j) d
theorem Tab.nil {i : Nat} : Tab P [] i := fun j d h => by simp at h
theorem Tab.cons {d : TD} {r : List TD} {i : Nat} (h : TD.Holds P i d) (hr : Tab P r (i + 1)) : Tab P (d :: r) i := by
  intro j d' hj hk
  cases j with
  | zero => simp only [List.getElem?_cons_zero, Option.some.injEq] at hj; subst hj; exact h
  | succ j =>
    simp only [List.getElem?_cons_succ] at hj
    have := hr j d' hj hk
    rwa [show i + 1 + j = i + (j + 1) by omega] at this
theorem Tab.skip {r : List TD} {i : Nat} (hr : Tab P r (i + 1)) : Tab P (TD.no :: r) i := by
  intro j d' hj hk
  cases j with
  | zero => simp only [List.getElem?_cons_zero, Option.some.injEq] at hj; subst hj; exact absurd rfl hk
  | succ j =>
    simp only [List.getElem?_cons_succ] at hj
    have := hr j d' hj hk
    rwa [show i + 1 + j = i + (j + 1) by omega] at this
theorem Tab.ok {l : List TD} (h : Tab P l 0) : TEnv.Ok P (fun t => l.getD t TD.no) := by
  intro t ht
  cases hl : l[t]? with
  | none => simp [List.getD, hl, TD.no] at ht
  | some d =>
    have hd : l.getD t TD.no = d := by simp [List.getD, hl]
    simp only [hd] at ht ⊢
    have := h t d hl ht
    rw [Nat.zero_add] at this
    exact this
theorem Con.or_ok [Sites] {f : FuncId} {c d : Con} (hc : c.Ok P f) (hd : d.Ok P f) : (c.or d).Ok P f where
  enters := hc.enters
  runs := by
    intro args s nx x y v s1 n1 W hpre hfn hpost
    cases x with
    | inl x =>
      refine hc.runs args s nx x y v s1 n1 W ?_ hfn hpost
      simp only [Con.or] at hpre
      split at hpre
      · rename_i x' hx
        simp only [Option.some.injEq] at hpre
        cases hpre
        exact hx
      · split at hpre <;> cases hpre
    | inr x =>
      refine hd.runs args s nx x y v s1 n1 W ?_ hfn hpost
      simp only [Con.or] at hpre
      split at hpre
      · cases hpre
      · split at hpre
        · rename_i x' hx
          simp only [Option.some.injEq] at hpre
          cases hpre
          exact hx
        · cases hpre
  wrote := by
    intro args s nx x y v s1 n1 W hpre hpost
    cases x with
    | inl x =>
      refine hc.wrote args s nx x y v s1 n1 W ?_ hpost
      simp only [Con.or] at hpre
      split at hpre
      · rename_i x' hx
        simp only [Option.some.injEq] at hpre
        cases hpre
        exact hx
      · split at hpre <;> cases hpre
    | inr x =>
      refine hd.wrote args s nx x y v s1 n1 W ?_ hpost
      simp only [Con.or] at hpre
      split at hpre
      · cases hpre
      · split at hpre
        · rename_i x' hx
          simp only [Option.some.injEq] at hpre
          cases hpre
          exact hx
        · cases hpre
end
end Go.Hay
/- Loops that are gone through round by round: no more than a number of rounds that is known. Conditions: none. -/
set_option linter.unusedVariables false
set_option linter.unusedSimpArgs false
namespace Go.Hay
open Go.RowKit

noncomputable def unrollRun {Ω : Type} (C : Ctx) (body : Code) (Λ : Pcs) : Nat → St → (Ctl → St → Option Ω) → Option Ω
  | 0, _, _ => none
  | n + 1, s, K => evC C body Λ s fun ctl s1 => match ctl with
    | .normal => unrollRun C body Λ n s1 K
    | .ret => K .ret s1
    | .exit id => K (.exit id) s1
noncomputable def Pc.unroll (C : Ctx) (body : Code) (Λ : Pcs) (n : Nat) : Pc := ⟨fun s K => unrollRun C body Λ n s K⟩

theorem unroll_ok [Sites] {P : Program} {C : Ctx} (hC : C.Ok P) (hmix : P.follows .mixedOrders = true) {body : Code} {Λ : Pcs} (hΛ : Λ.Ok P C body) (n : Nat) : (Pc.unroll C body Λ n).Ok P C (.loop body) := by
  intro Ω s K out h B fr c w a Q hfr hs hK
  refine wpIn_loop_rounds n ?_
  have key : ∀ (n : Nat) (s : St) (c1 : Cf) (w1 : World) (a1 : Act), unrollRun C body Λ n s K = some out → Sim B C fr c1 s w1 a1 → Ext c w c1 w1 → Code.roundsIn (WF B.rd) 0 P body Q n a1 w1 := by
    intro n
    induction n with
    | zero => intro s c1 w1 a1 h; cases h
    | succ n ih =>
      intro s c1 w1 a1 h hs1 hE
      rw [roundsIn_succ]
      refine evC_ok hC hmix hfr body Λ s _ h hΛ c1 w1 a1 _ hs1 fun ctl s2 c2 w2 a2 h1 h2 h3 => ?_
      cases ctl with
      | normal => exact ih s2 c2 w2 a2 h1 h2 (hE.trans h3)
      | ret => exact hK .ret s2 c2 w2 a2 h1 h2 (hE.trans h3)
      | exit id => exact hK (.exit id) s2 c2 w2 a2 h1 h2 (hE.trans h3)
  exact key n s c w a h hs (Ext.refl c w)
end Go.Hay
/- Rows that are lent to a function for one call: behind it they are again what they were. Conditions: none. -/
set_option linter.unusedVariables false
set_option linter.unusedSimpArgs false
namespace Go.Hay
open Go.RowKit

def flatTy : Ty → Bool
  | .slice _ => false
  | .pair a b => flatTy a && flatTy b
  | _ => true

mutual
def flatV : AV → Bool
  | .list _ _ => false
  | .eptr _ => false
  | .elist _ _ _ => false
  | .agg cs => flatVs cs
  | .tup cs => flatVs cs
  | .fn _ first cap => flatVs first && flatVs cap
  | _ => true
def flatVs : List AV → Bool
  | [] => true
  | x :: r => flatV x && flatVs r
end

def flatOb : Ob → Bool
  | .box _ cs | .rbox _ cs => flatVs cs
  | .row _ t _ | .rrow _ t _ => flatTy t
  | .frow _ _ => false
  | .dead => true

def roOb : Ob → Ob
  | .box t cs => .rbox t cs
  | .row e t l => .rrow e t l
  | o => o
def roO (o : Ob) : Ob := bif flatOb o then o else roOb o
def lent (s s2 : Obs) (k : Nat) : Bool := match look s k, look s2 k with
  | some (.row _ _ _), some (.frow _ _) => true
  | _, _ => false

section
variable {B : Bs} {c c' : Cf} {w w' : World}


structure Lent [Sites] (B : Bs) (c c2 : Cf) (s s2 : Obs) (w : World) : Prop where
  rel : Rel B c2 s2 w
  nm : c2.nm = c.nm
  sub : ∀ b, c.I b → c2.I b
  dom : ∀ k, look s2 k = none → look s k = none
  each : ∀ k o2, look s2 k = some o2 → ∃ o, look s k = some o ∧ (lent s s2 k = true ∧ (∃ e t l, o = .row e t l) ∧ (∀ b, Own c k o b → c2.I b) ∨ lent s s2 k = false ∧ o2 = roO o)

inductive Whence [Sites] (c c2 : Cf) (s s2 s3 : Obs) (w : World) (id : Nat) (o : Ob) : Prop where
  | lent (h : look s id = some o) (hl : lent s s2 id = true) (hr : ∃ e t l, o = .row e t l) (hI : ∀ b, Own c id o b → c2.I b)
  | kept (h : look s id = some o) (h3 : look s3 id = some (roO o)) (h2 : look s2 id = some (roO o)) (hf : flatOb o = false)
  | flat (h3 : look s3 id = some o) (hf : flatOb o = true)
  | dead (h : o = .dead)

end
end Go.Hay
/- Functions that end in several ways, of different shapes. Conditions: none. -/
set_option linter.unusedVariables false
set_option linter.unusedSimpArgs false
namespace Go.Hay
open Go.RowKit

@[reducible] def shsDen : List Sh → Type
  | [] => Empty
  | [a] => a.den
  | a :: b :: r => a.den ⊕ shsDen (b :: r)

def shsTake : (l : List Sh) → List AV → Obs → Option (shsDen l)
  | [], _, _ => none
  | [a], vs, s => match xt a vs ⟨s, [], []⟩ with
    | some (y, [], _) => some y
    | _ => none
  | a :: b :: r, vs, s => match xt a vs ⟨s, [], []⟩ with
    | some (y, [], _) => some (.inl y)
    | _ => match shsTake (b :: r) vs s with
      | some y => some (.inr y)
      | none => none

def shsCase {Ω : Type} : (l : List Sh) → shsDen l → ((o : Sh) → o.den → Option Ω) → Option Ω
  | [], y, _ => nomatch y
  | [a], y, k => k a y
  | a :: b :: r, y, k => match y with
    | .inl y => k a y
    | .inr y => shsCase (b :: r) y k

def shsSpl {Ω : Type} : (l : List Sh) → (y : shsDen l) → (shsDen l → Option Ω) → Option Ω
  | [], y, K => K y
  | [a], y, K => K y
  | a :: b :: r, y, K => match y with
    | .inl y => K (.inl y)
    | .inr y => shsSpl (b :: r) y fun y => K (.inr y)

theorem shsSpl_ok {Ω : Type} : ∀ (l : List Sh) (y : shsDen l) (K : shsDen l → Option Ω) (out : Ω), shsSpl l y K = some out → K y = some out
  | [], y, K, out, h => h
  | [a], y, K, out, h => h
  | a :: b :: r, .inl y, K, out, h => h
  | a :: b :: r, .inr y, K, out, h => shsSpl_ok (b :: r) y (fun y => K (.inr y)) out h

theorem shsCase_ok : ∀ (l : List Sh) (y : shsDen l), ∃ (o : Sh) (u : o.den), o ∈ l ∧ ∀ {Ω : Type} (k : (o : Sh) → o.den → Option Ω), shsCase l y k = k o u
  | [], y => nomatch y
  | [a], y => ⟨a, y, by simp, fun k => rfl⟩
  | a :: b :: r, .inl y => ⟨a, y, by simp, fun k => rfl⟩
  | a :: b :: r, .inr y => by
    obtain ⟨o, u, h1, h2⟩ := shsCase_ok (b :: r) y
    exact ⟨o, u, List.mem_cons_of_mem _ h1, fun k => by simp only [shsCase]; exact h2 k⟩

theorem shsTake_ok : ∀ {l : List Sh} {vs : List AV} {s : Obs} {y : shsDen l}, shsTake l vs s = some y →
    ∃ (o : Sh) (u : o.den) (z : Tk), o ∈ l ∧ xt o vs ⟨s, [], []⟩ = some (u, [], z) ∧ ∀ {Ω : Type} (k : (o : Sh) → o.den → Option Ω), shsCase l y k = k o u
  | [], vs, s, y, h => by cases h
  | [a], vs, s, y, h => by
    simp only [shsTake] at h
    split at h
    · rename_i y' z hx
      simp only [Option.some.injEq] at h
      subst h
      exact ⟨a, y', z, by simp, hx, fun k => rfl⟩
    · cases h
  | a :: b :: r, vs, s, y, h => by
    simp only [shsTake] at h
    split at h
    · rename_i y' z hx
      simp only [Option.some.injEq] at h
      subst h
      exact ⟨a, y', z, by simp, hx, fun k => rfl⟩
    · split at h
      · rename_i y' hy
        simp only [Option.some.injEq] at h
        subst h
        obtain ⟨o, u, z, h1, h2, h3⟩ := shsTake_ok hy
        exact ⟨o, u, z, List.mem_cons_of_mem _ h1, h2, fun k => by simp only [shsCase]; exact h3 k⟩
      · cases h

structure Fm where
  ins : Sh
  outs : List Sh
  fn : ins.den → Option (shsDen outs)

def Fm.con (F : Fm) : Con where
  X := F.ins.den
  Y := fun _ => shsDen F.outs
  pre args s nx := match xt F.ins args ⟨s, [], []⟩ with
    | some (x, [], z) => bif F.outs.all fun o => backOk o z nx then some x else none
    | _ => none
  fn := F.fn
  post args s nx x y := match xt F.ins args ⟨s, [], []⟩ with
    | some (x', [], z) => shsCase F.outs y fun o y => some (oneOrTuple (bld (outNm z.tk (onames (nameAt z.tk) nx o 0)) o y 0).1,
        putAll (restore (bld (fun k => k) F.ins x' 0).2.1 z.tk 0 z.obs) (bld (outNm z.tk (onames (nameAt z.tk) nx o 0)) o y 0).2.1,
        nx + (onames (nameAt z.tk) nx o 0).length, tkNames z.tk ++ (z.fz ++ onames (nameAt z.tk) nx o 0))
    | _ => none
  spl _ y K := shsSpl F.outs y K
  spl_ok _ y K out h := shsSpl_ok F.outs y K out h

def endN (U : TEnv) (outs : List Sh) (rs : List ResultVar) (ctl : Ctl) (s : St) : Option (shsDen outs) :=
  match ctl with
  | .exit _ => none
  | _ => match resVs U s rs with
    | some vs => shsTake outs vs s.obs
    | none => none
def endM (U : TEnv) (outs : List Sh) (rs : List ResultVar) (fix : List Tmp) (ctl : Ctl) (s : St) : Option (shsDen outs) := endN U outs rs ctl (settleAll fix s)

section
variable {P : Program} {B : Bs} {c : Cf} {w : World} {s : Obs}
theorem fm_ok [Sites] {f : FuncId} {fn : Func} {code : Code} (hf : P.funcs[f]? = some fn) (hname : (fn.name == "runtime.NumGoroutine") = false) (hb : fn.body = some code) (hmix : P.follows .mixedOrders = true)
    {C : Ctx} (hC : C.Ok P) (hmay : ∀ t, C.may t = true) {F : Fm} (hnt : ∀ x, (bld (fun k => k) F.ins x 0).1.length + (fn.ntmps - (bld (fun k => k) F.ins x 0).1.length) = C.nt) {Λ : Pcs} (hΛ : Λ.Ok P C code) {n0 : Nat} {fix : List Tmp}
    (hev : ∀ x y, F.fn x = some y → evC C code Λ ⟨envOf 0 (bld (fun k => k) F.ins x 0).1, (bld (fun k => k) F.ins x 0).2.1, n0⟩ (endM C.U F.outs fn.results.toList fix) = some y) (hni : updIx F.ins = [] := by rfl) : F.con.Ok P f where
  enters args w := MuLone.run_callFunc_enter hf hname hb args w
  runs := by
    intro args s nx (x : F.ins.den) (y : shsDen F.outs) v s1 n1 W hpre hfn hpost B c w vals hR hv
    simp only [Fm.con] at hpre hpost
    split at hpre
    · rename_i x' z hx
      cases hbk : (F.outs.all fun o => backOk o z nx) with
      | false => simp [hbk] at hpre
      | true =>
        simp only [hbk, cond_true] at hpre
        obtain rfl : x' = x := Option.some.inj hpre
        rw [hx] at hpost
        simp only at hpost
        obtain ⟨vs, I1, hH, hv0⟩ := handed hR hv hx hni
        refine callsIn_wide.1 (callsIn_of_wp_marks (n := 0) (F := Fence.wide) hf hb trivial ?_)
        have hlen := hv0.length
        have hsim : Sim (bs0 none w.heap.size w vs I1 (bld (fun k => k) F.ins x' 0).2.1) C (fun _ => none) (cf0 vs I1) ⟨envOf 0 (bld (fun k => k) F.ins x' 0).1, (bld (fun k => k) F.ins x' 0).2.1, n0⟩ w
            { tmps := vals.toArray ++ Array.replicate (fn.ntmps - vals.toArray.size) undef, defers := [] } := by
          refine ⟨hH.rel hR, ⟨?_, fun k y hk => ?_, fun k v hk => (by cases hk)⟩, .nil, ⟨Nat.le_refl _, fun l hl => by cases hl⟩⟩
          · simp only [Array.size_append, List.size_toArray, Array.size_replicate]
            rw [← hnt x', hlen]
          · obtain ⟨_, hk⟩ := look_envOf _ _ _ _ hk
            simp only [Nat.sub_zero] at hk
            obtain ⟨u, hu, hvu⟩ := hv0.get hk
            have hlt : k < vals.length := (List.getElem?_eq_some_iff.1 hu).1
            have : (vals.toArray ++ Array.replicate (fn.ntmps - vals.toArray.size) undef).getD k undef = u := by
              rw [Array.getD_eq_getD_getElem?, Array.getElem?_append_left (by simpa using hlt)]
              simp [hu]
            rw [this]
            exact hvu
        refine evC_ok hC hmix (fun t ht => rfl) code Λ _ _ (hev x' y hfn) hΛ _ w _ _ hsim fun ctl st0 c10 w1 a1 hK hs10 hE10 => ?_
        obtain ⟨c1, hs1, hE11⟩ := settleAll_ok fix hs10
        have hE1 := hE10.trans hE11
        generalize hst : settleAll fix st0 = st at hs1
        have hctl : (ctl = .normal ∨ ctl = .ret) ∧ ∃ rs o u z1, o ∈ F.outs ∧ resVs C.U st fn.results.toList = some rs ∧ xt o rs ⟨st.obs, [], []⟩ = some (u, [], z1) ∧ ∀ {Ω : Type} (k : (o : Sh) → o.den → Option Ω), shsCase F.outs y k = k o u := by
          unfold endM endN at hK
          rw [hst] at hK
          split at hK
          · cases hK
          · rename_i hne
            refine ⟨?_, ?_⟩
            · cases ctl with
              | normal => exact .inl rfl
              | ret => exact .inr rfl
              | exit id => exact absurd rfl (hne id)
            · split at hK
              · rename_i rs hrs
                obtain ⟨o, u, z1, g1, g2, g3⟩ := shsTake_ok hK
                exact ⟨rs, o, u, z1, g1, hrs, g2, @g3⟩
              · cases hK
        obtain ⟨hctl, rs, o, y1, z1, ho, hrs, hx1, hcase⟩ := hctl
        have hbk := List.all_eq_true.1 hbk o ho
        simp only [backOk, Bool.and_eq_true] at hbk
        obtain ⟨⟨b1, b2⟩, b3, b4, b5⟩ := hbk
        rw [hcase] at hpost
        simp only [Option.some.injEq, Prod.mk.injEq] at hpost
        obtain ⟨rfl, rfl, _⟩ := hpost
        obtain ⟨w2, r1, r2, r3⟩ := Marks.pay (P := P) (fn := fn) (tmps := a1.tmps) (R := fun e w' => ∃ c' u, e = .returned u ∧ Rel B c' (putAll (restore (bld (fun k => k) F.ins x' 0).2.1 z.tk 0 z.obs) (bld (outNm z.tk (onames (nameAt z.tk) nx o 0)) o y1 0).2.1) w' ∧
            VR c' w' (oneOrTuple (bld (outNm z.tk (onames (nameAt z.tk) nx o 0)) o y1 0).1) u ∧ Ext c w c' w') hs1.rel hs1.marks (Nat.le_refl _)
        have hs2 : Sim (bs0 none w.heap.size w vs I1 (bld (fun k => k) F.ins x' 0).2.1) C (fun _ => none) c1 st w2 { a1 with defers := [] } :=
          ⟨r1, ⟨(hs1.tmps.ext r2).size, (hs1.tmps.ext r2).env, (hs1.tmps.ext r2).frame⟩, .nil, hs1.base⟩
        have hE2 := hE1.trans r2
        obtain ⟨us, hrun, hvr⟩ := results_ok (P := P) hC.U hs2 hrs
        obtain ⟨c2, g1, g2, g3, _⟩ := hH.give hR hs2.rel hE2.lasts (fun i _ v hi => hE2.nm i v hi) hvr hx1 b1 b2 rfl (Nat.le_of_ble_eq_true b5) b3 b4
        have hpost := r3 ⟨_, hrun, c2, _, rfl, g1, one_or_tuple g2, g3⟩
        rcases hctl with rfl | rfl
        · exact hpost
        · exact hpost
    · cases hpre
  wrote := by
    intro args s nx (x : F.ins.den) (y : shsDen F.outs) v s1 n1 W hpre hpost i hi
    simp only [Fm.con] at hpre hpost
    split at hpost
    · rename_i x' z hx
      obtain ⟨o, u, ho, hcase⟩ := shsCase_ok F.outs y
      rw [hcase] at hpost
      simp only [Option.some.injEq, Prod.mk.injEq] at hpost
      obtain ⟨_, rfl, _, rfl⟩ := hpost
      rw [hx] at hpre
      simp only at hpre
      cases hbk : (F.outs.all fun o => backOk o z nx) with
      | false => simp [hbk] at hpre
      | true =>
        have hbk := List.all_eq_true.1 hbk o ho
        simp only [backOk, Bool.and_eq_true] at hbk
        exact back_look hx hi (Nat.le_of_ble_eq_true hbk.2.2.2)
    · cases hpost
end
end Go.Hay
/- Short forms of the laws for what is printed. Conditions: none. -/
set_option linter.unusedVariables false
namespace Go.Hay
section
variable {P : Program}
theorem okC [Sites] {C : Ctx} (h : C.Ok P) (m : Nat → Bool) : Ctx.Ok P { C with may := m } := ⟨h.U, h.Γ, h.Y⟩

theorem okF [Sites] {F : Fs} (fix : List Tmp) {f : FuncId} {fn : Func} {code : Code} (hf : P.funcs[f]? = some fn) (hname : (fn.name == "runtime.NumGoroutine") = false) (hb : fn.body = some code) (hmix : P.follows .mixedOrders = true)
    {C : Ctx} (hC : C.Ok P) {Λ : Pcs} (hΛ : Λ.Ok P C code)
    (hev : ∀ x, evC C code Λ ⟨envOf 0 (bld (fun k => k) F.ins x 0).1, (bld (fun k => k) F.ins x 0).2.1, 1000⟩ (endF C.U F.outs fn.results.toList fix) = F.fn x)
    (hmay : ∀ t, C.may t = true := by exact fun _ => rfl) (hnt : ∀ x, (bld (fun k => k) F.ins x 0).1.length + (fn.ntmps - (bld (fun k => k) F.ins x 0).1.length) = C.nt := by exact fun _ => rfl) (hni : updIx F.ins = [] := by rfl) : F.con.Ok P f :=
  fn_ok (n0 := 1000) hf hname hb hmix hC hmay hnt hΛ (fun x y h => (hev x).trans h) hni

theorem okM [Sites] {F : Fm} (fix : List Tmp) {f : FuncId} {fn : Func} {code : Code} (hf : P.funcs[f]? = some fn) (hname : (fn.name == "runtime.NumGoroutine") = false) (hb : fn.body = some code) (hmix : P.follows .mixedOrders = true)
    {C : Ctx} (hC : C.Ok P) {Λ : Pcs} (hΛ : Λ.Ok P C code)
    (hev : ∀ x, evC C code Λ ⟨envOf 0 (bld (fun k => k) F.ins x 0).1, (bld (fun k => k) F.ins x 0).2.1, 1000⟩ (endM C.U F.outs fn.results.toList fix) = F.fn x)
    (hmay : ∀ t, C.may t = true := by exact fun _ => rfl) (hnt : ∀ x, (bld (fun k => k) F.ins x 0).1.length + (fn.ntmps - (bld (fun k => k) F.ins x 0).1.length) = C.nt := by exact fun _ => rfl) (hni : updIx F.ins = [] := by rfl) : F.con.Ok P f :=
  fm_ok (n0 := 1000) hf hname hb hmix hC hmay hnt hΛ (fun x y h => (hev x).trans h) hni

theorem okP [Sites] {C : Ctx} {F : Ps} {code : Code} (hC : C.Ok P) (hmix : P.follows .mixedOrders = true) {Λ : Pcs} (hΛ : Λ.Ok P (F.ctx C) code)
    (hev : ∀ x, evC (F.ctx C) code Λ (F.canon 1000 x) (altK F.alts) = F.fn x) (hni : updIx F.ins = [] := by rfl) : (F.pc C).Ok P C code :=
  ps_ok hC hmix hΛ (fun x y h => (hev x).trans h) hni

theorem okL [Sites] {C : Ctx} {F : Ps} {code : Code} {N : Nat} (g : Nat → F.ins.den → Option (altsDen F.alts)) (hC : C.Ok P) (hmix : P.follows .mixedOrders = true) {Λ : Pcs} (hΛ : Λ.Ok P (F.ctx C) code)
    (h0 : ∀ x, g 0 x = none) (hN : F.fn = g N) (hev : ∀ n x, evC (F.ctx C) code Λ (F.canon 1000 x) (loopK F (g n)) = g (n + 1) x) (hni : updIx F.ins = [] := by rfl) : (F.pc C).Ok P C (.loop code) :=
  loop_ok (N := N) hC hmix hΛ g h0 hN (fun n x y h => (hev n x).trans h) hni

/- What a row of the table of types says, by kinds. -/
variable {t : TypeId} {n b : Nat} {z : List Value} {ty : Option Ty}
theorem hInt {k : IntKind} (h : P.underlying t = some (.int k)) (i : (P.info? t).map (fun i => (i.size, i.bytes, i.zero.map fun z => z.cells.toList)) = some (n, b, some z)) : TD.Holds P t ⟨.int k, n, b, z, ty, false⟩ := ⟨h, i, fun h => nomatch h⟩
theorem hBool (h : P.underlying t = some .bool) (i : (P.info? t).map (fun i => (i.size, i.bytes, i.zero.map fun z => z.cells.toList)) = some (n, b, some z)) : TD.Holds P t ⟨.bool, n, b, z, ty, false⟩ := ⟨h, i, fun h => nomatch h⟩
theorem hString (h : P.underlying t = some .string) (i : (P.info? t).map (fun i => (i.size, i.bytes, i.zero.map fun z => z.cells.toList)) = some (n, b, some z)) : TD.Holds P t ⟨.string, n, b, z, ty, false⟩ := ⟨h, i, fun h => nomatch h⟩
theorem hPtr {e : TypeId} (h : P.underlying t = some (.pointer e)) (i : (P.info? t).map (fun i => (i.size, i.bytes, i.zero.map fun z => z.cells.toList)) = some (n, b, some z)) : TD.Holds P t ⟨.ptr e, n, b, z, ty, false⟩ := ⟨h, i, fun h => nomatch h⟩
theorem hSlice {e : TypeId} (h : P.underlying t = some (.slice e)) (i : (P.info? t).map (fun i => (i.size, i.bytes, i.zero.map fun z => z.cells.toList)) = some (n, b, some z)) : TD.Holds P t ⟨.slice e, n, b, z, ty, false⟩ := ⟨h, i, fun h => nomatch h⟩
theorem hArray {m : Nat} {e : TypeId} (h : P.underlying t = some (.array m e)) (i : (P.info? t).map (fun i => (i.size, i.bytes, i.zero.map fun z => z.cells.toList)) = some (n, b, some z)) : TD.Holds P t ⟨.array m e, n, b, z, ty, false⟩ := ⟨h, i, fun h => nomatch h⟩
theorem hFunc (h : (P.underlying t).map funcDesc = some true) (i : (P.info? t).map (fun i => (i.size, i.bytes, i.zero.map fun z => z.cells.toList)) = some (n, b, some z)) : TD.Holds P t ⟨.func, n, b, z, ty, false⟩ := ⟨h, i, fun h => nomatch h⟩
theorem hMap {k e : TypeId} {agg : Bool} (h : P.underlying t = some (.map k e)) (h2 : ((P.info? e).bind (·.zero)).map isAggV = some agg) (i : (P.info? t).map (fun i => (i.size, i.bytes, i.zero.map fun z => z.cells.toList)) = some (n, b, some z)) : TD.Holds P t ⟨.map k e agg, n, b, z, ty, false⟩ := ⟨⟨h, h2⟩, i, fun h => nomatch h⟩
theorem hStruct {fs : List (TypeId × Nat)} (h : (P.underlying t).bind fieldsOf = some fs) (i : (P.info? t).map (fun i => (i.size, i.bytes, i.zero.map fun z => z.cells.toList)) = some (n, b, some z)) : TD.Holds P t ⟨.struct fs, n, b, z, ty, false⟩ := ⟨h, i, fun h => nomatch h⟩
end
end Go.Hay
/- Loops whose head has one of several shapes. Conditions: none. -/
set_option linter.unusedVariables false
set_option linter.unusedSimpArgs false
namespace Go.Hay
open Go.RowKit

structure Hd (l : List Sh) where
  o : Sh
  x : o.den
  z : Tk
  y : shsDen l

def headFit : (l : List Sh) → List AV → Obs → Option (Hd l)
  | [], _, _ => none
  | [a], vs, s => match xt a vs ⟨s, [], []⟩ with
    | some (x, [], z) => some ⟨a, x, z, x⟩
    | _ => none
  | a :: b :: r, vs, s => match xt a vs ⟨s, [], []⟩ with
    | some (x, [], z) => some ⟨a, x, z, .inl x⟩
    | _ => match headFit (b :: r) vs s with
      | some h => some ⟨h.o, h.x, h.z, .inr h.y⟩
      | none => none

theorem headFit_ok : ∀ {l : List Sh} {vs : List AV} {s : Obs} {h : Hd l}, headFit l vs s = some h →
    h.o ∈ l ∧ xt h.o vs ⟨s, [], []⟩ = some (h.x, [], h.z) ∧ ∀ {Ω : Type} (k : (o : Sh) → o.den → Option Ω), shsCase l h.y k = k h.o h.x
  | [], vs, s, h, hh => by cases hh
  | [a], vs, s, h, hh => by
    simp only [headFit] at hh
    split at hh
    · rename_i x z hx
      simp only [Option.some.injEq] at hh
      subst hh
      exact ⟨by simp, hx, fun k => rfl⟩
    · cases hh
  | a :: b :: r, vs, s, h, hh => by
    simp only [headFit] at hh
    split at hh
    · rename_i x z hx
      simp only [Option.some.injEq] at hh
      subst hh
      exact ⟨by simp, hx, fun k => rfl⟩
    · split at hh
      · rename_i h2 hq
        simp only [Option.some.injEq] at hh
        subst hh
        obtain ⟨h3, h4, h5⟩ := headFit_ok hq
        exact ⟨List.mem_cons_of_mem _ h3, h4, fun k => by simp only [shsCase]; exact h5 k⟩
      · cases hh

structure Lm where
  ts : List Tmp
  heads : List Sh
  asg : List Tmp
  alts : List Alt
  fn : shsDen heads → Option (altsDen alts)

def Lm.at (F : Lm) (o : Sh) : Ps := ⟨F.ts, o, F.asg, F.alts, fun _ => none⟩
def Lm.ctx (F : Lm) (C : Ctx) : Ctx := { C with may := fun t => F.asg.any (Nat.beq t) }

def Lm.pc (F : Lm) (C : Ctx) : Pc where
  run s K := match tmpsAt s.env F.ts with
    | some args => match headFit F.heads args s.obs with
      | some h => bif F.asg.all (fun t => mayDst C (some t)) && F.alts.all (fun a => backOk a.sh h.z s.nx && a.ts.all fun t => F.asg.any (Nat.beq t)) then
          obind (F.fn h.y) fun y => altCase F.alts y fun a y =>
            K a.ctl ⟨addT a.ts (bld (outNm h.z.tk (onames (nameAt h.z.tk) s.nx a.sh 0)) a.sh y 0).1 (dropT F.asg s.env),
              putAll (restore (bld (fun k => k) h.o h.x 0).2.1 h.z.tk 0 h.z.obs) (bld (outNm h.z.tk (onames (nameAt h.z.tk) s.nx a.sh 0)) a.sh y 0).2.1, s.nx + (onames (nameAt h.z.tk) s.nx a.sh 0).length⟩
        else none
      | none => none
    | none => none

def loopKm (F : Lm) (g : shsDen F.heads → Option (altsDen F.alts)) (ctl : Ctl) (s : St) : Option (altsDen F.alts) :=
  match ctl with
  | .normal => match tmpsAt s.env F.ts with
    | some args => match headFit F.heads args s.obs with
      | some h => match F.alts.all fun a => (updIx a.sh).all fun i => match h.z.tk[i]? with | some (some id, _) => Nat.beq id i | _ => false with
        | true => g h.y
        | false => none
      | none => none
    | none => none
  | .ret => altK F.alts .ret s
  | .exit id => altK F.alts (.exit id) s

section
variable {P : Program} {C : Ctx}

theorem lm_ok [Sites] {code : Code} (hC : C.Ok P) (hmix : P.follows .mixedOrders = true) {F : Lm} {Λ : Pcs} (hΛ : Λ.Ok P (F.ctx C) code) {N : Nat} (g : Nat → shsDen F.heads → Option (altsDen F.alts)) (h0 : ∀ x, g 0 x = none) (hN : F.fn = g N)
    (hev : ∀ n y, shsCase F.heads y (fun o x => evC (F.ctx C) code Λ ((F.at o).canon 1000 x) (loopKm F (g n))) = g (n + 1) y) (hni : (F.heads.all fun o => (updIx o).isEmpty) = true := by rfl) : (F.pc C).Ok P C (.loop code) := by
  have hni' : ∀ o ∈ F.heads, updIx o = [] := fun o ho => by simpa using List.all_eq_true.1 hni o ho
  intro Ω s K out hrun B fr c w a Q hfr hs hK
  simp only [Lm.pc] at hrun
  split at hrun
  · rename_i args hargs
    split at hrun
    · rename_i h hh
      obtain ⟨ho, hx, hcase⟩ := headFit_ok hh
      cases hc : F.asg.all (fun t => mayDst C (some t)) && F.alts.all (fun a => backOk a.sh h.z s.nx && a.ts.all fun t => F.asg.any (Nat.beq t)) with
      | false => simp [hc] at hrun
      | true =>
        rw [hc] at hrun
        simp only [cond_true, obind] at hrun
        simp only [Bool.and_eq_true] at hc
        split at hrun
        · rename_i y hy
          rw [hN] at hy
          obtain ⟨vs, I1, hH, hv0⟩ := handed hs.rel (tmpsAt_ok hs.tmps hargs) hx (hni' _ ho)
          have key : ∀ (n : Nat) (y' : shsDen F.heads) (o' : Sh) (x' : o'.den), (∀ {Ω : Type} (k : (o : Sh) → o.den → Option Ω), shsCase F.heads y' k = k o' x') → g n y' = some y → ∀ (vs' : List Value) (I' : Nat → Prop) (w' : World) (a' : Act),
              Sim (bs0 B.rd B.fl w vs I1 (bld (fun k => k) h.o h.x 0).2.1) (F.ctx C) (frOf F.asg a) (cf0 vs' I') ((F.at o').canon 1000 x') w' a' → Lasts I1 I' w w' → (∀ al ∈ F.alts, ∀ i ∈ updIx al.sh, ∀ v, vs[i]? = some v → vs'[i]? = some v) → Code.roundsIn (WF B.rd) 0 P code Q n a' w' := by
            intro n
            induction n with
            | zero => intro y' o' x' hc' hg; rw [h0] at hg; cases hg
            | succ n ih =>
              intro y' o' x' hc' hg vs' I' w' a' hsim hL hup
              rw [roundsIn_succ]
              have hev' := hev n y'
              rw [hc', hg] at hev'
              refine evC_ok (B := bs0 B.rd B.fl w vs I1 (bld (fun k => k) h.o h.x 0).2.1) (C := F.ctx C) ⟨hC.U, hC.Γ, hC.Y⟩ hmix (fun t ht => frOf_in ht) code Λ _ _ hev' hΛ _ w' a' _ hsim fun ctl s1 c1 w1 a1 hk hs1 hE1 => ?_
              have hN1 : ∀ al ∈ F.alts, ∀ i ∈ updIx al.sh, ∀ v, vs[i]? = some v → c1.nm i = some v := fun al hal i hi v hv => hE1.nm i v (hup al hal i hi v hv)
              have hend : ∀ ctl', altK F.alts ctl' s1 = some y → Q ctl'.out a1 w1 := fun ctl' hk => by
                obtain ⟨al, y', h1, h2, c2, h3, h4⟩ := ps_back (F := F.at h.o) hs hfr hH hc.1 hc.2 (fun k hk => frOf_out hk) hs1 (hL.trans hE1.lasts) hN1 hk
                change altCase (F.at h.o).alts y _ = some out at hrun
                rw [h1] at hrun
                rw [← h2]
                exact hK al.ctl _ c2 w1 a1 hrun h4 h3
              cases ctl with
              | ret => exact hend .ret hk
              | exit id => exact hend (.exit id) hk
              | normal =>
                simp only [loopKm] at hk
                split at hk
                · rename_i args1 hargs1
                  split at hk
                  · rename_i h2 hh2
                    obtain ⟨ho2, hx2, hcase2⟩ := headFit_ok hh2
                    split at hk
                    · rename_i hsame
                      obtain ⟨vs2, I2, hH2, hv2⟩ := handed hs1.rel (tmpsAt_ok hs1.tmps hargs1) hx2 (hni' _ ho2)
                      refine ih h2.y h2.o h2.x hcase2 hk vs2 I2 w1 a1 ⟨hH2.again hs1.rel, canon_tmps (F := F.at h2.o) (c := c1) hs1.tmps hv2 _ fun k v hkv => hs1.tmps.frame k v hkv, hH2.marks hs1.rel hs1.marks, hs1.base⟩ (hL.trans (hE1.lasts.trans hH2.tk.ext.lasts)) fun al hal i hi v hv => ?_
                      have h1 := List.all_eq_true.1 (List.all_eq_true.1 hsame al hal) i hi
                      split at h1
                      · rename_i id o hid
                        have := Nat.eq_of_beq_eq_true h1
                        subst this
                        have h2 := (hH2.tk.at_ _ _ _ hid).2.2.2
                        rw [← h2]
                        exact hN1 al hal _ hi v hv
                      · cases h1
                    · cases hk
                  · cases hk
                · cases hk
          refine wpIn_loop_rounds N (key N h.y h.o h.x hcase hy vs I1 w a ⟨hH.rel hs.rel, canon_tmps (F := F.at h.o) (c := c) hs.tmps hv0 _ fun k v hk => frOf_some hk, hH.marks hs.rel hs.marks, hH.base hs.rel hs.base⟩ (Lasts.refl _ _) fun _ _ _ _ _ h => h)
        · cases hrun
    · cases hrun
  · cases hrun
end
end Go.Hay
/- What a caller hands over, as plain data. -/
set_option linter.unusedVariables false
set_option linter.unusedSimpArgs false
namespace Go.Hay
open Go.RowKit

def tyAt (U : TEnv) : Nat → Ty → TypeId → Bool
  | 0, _, _ => false
  | n + 1, T, t => Nat.beq (U t).size T.size && match T, (U t).k with
    | .byte, .int .u8 => true
    | .int k, .int k' => ikEq k k'
    | .bool, .bool => true
    | .str, .string => true
    | .slice T, .slice e => Nat.blt 0 T.size && (Nat.blt 0 (U e).size && ((match (U e).k with | .none => false | _ => true) && tyAt U n T e))
    | .pair a b, .struct fs => tysAt (tyAt U n) (.pair a b) fs 0
    | .unit, .struct [] => true
    | _, _ => false
  where tysAt (r : Ty → TypeId → Bool) : Ty → List (TypeId × Nat) → Nat → Bool
  | .pair a .unit, [f], o => Nat.beq f.2 o && r a f.1
  | T, [f], o => Nat.beq f.2 o && r T f.1
  | .pair a b, f :: g :: q, o => Nat.beq f.2 o && (r a f.1 && tysAt r b (g :: q) (o + a.size))
  | _, _, _ => false

def blk : (T : Ty) → T.den → Nat
  | .byte, _ | .int _, _ | .bool, _ => 1
  | .str, l => l.length + 1
  | .slice T, l => (l.map (blk T)).sum + 1
  | .pair a b, x => blk a x.1 + blk b x.2
  | .unit, _ => 0

structure Bulk {H : Type} (b : DataW H → Nat) : Prop where
  pos : ∀ d, 1 ≤ b d
  str : ∀ l, l.length + 1 ≤ b (.lit (.string l))
  slice : ∀ l m, (l.map b).sum + 1 ≤ b (.slice l m)
  agg : ∀ l, (l.map b).sum ≤ b (.agg l)

section
variable {P : Program} {U : TEnv} {w : World} {H : Type} {enc : TypeId × Value → H} {sp : Nat → Bool} {held : Bool} {b : DataW H → Nat}

abbrev old (w : World) : Nat → Prop := fun k => k < w.heap.size

theorem tyAt_ne {n : Nat} {T : Ty} {t : TypeId} (h : tyAt U n T t = true) : (U t).k ≠ .none := by
  intro e
  cases n with
  | zero => simp [tyAt] at h
  | succ n => cases T <;> simp [tyAt, e] at h

theorem cellsOf_U (hU : U.Ok P) {t : TypeId} (h : (U t).k ≠ .none) : P.cellsOf t = (U t).size := by
  have := (hU t h).2.1
  unfold TD.infoOk at this
  cases hi : P.info? t with
  | none => simp [hi] at this
  | some i =>
    simp only [hi, Option.map_some, Option.some.injEq, Prod.mk.injEq] at this
    simp [Program.cellsOf, hi, this.1]

def OpenOk (P : Program) (w : World) (enc : TypeId × Value → H) (sp : Nat → Bool) (held : Bool) (b : DataW H → Nat) (T : Ty) (t : TypeId) : Prop :=
  ∀ fuel cs x, DataW.trod enc P w 0 sp held fuel t cs = some x → ∃ v : T.den, TR (old w) w T v cs ∧ blk T v ≤ b x.1

theorem add_none {a : Addr} (h : a.spot = none) (m : Nat) : a.add m = ⟨a.block, a.off + m, none⟩ := by
  unfold Addr.add
  split
  · rename_i e
    subst e
    cases a
    simp only at h
    subst h
    rfl
  · rfl
theorem cell_spot {a : Addr} {v : Value} (h : w.cell? a = some v) : a.spot = none ∧ a.block < w.heap.size := by
  unfold World.cell? at h
  split at h
  · rename_i hb
    split at h
    · cases h
    · rename_i hs
      refine ⟨?_, (Array.getElem?_eq_some_iff.1 hb).1⟩
      cases hsp : a.spot with
      | none => rfl
      | some _ => simp [hsp] at hs
  · cases h

theorem row_open [Sites] {T : Ty} {e : TypeId} (hsz : P.cellsOf e = T.size) (hpos : 0 < T.size) (ih : OpenOk P w enc sp held b T e) {fuel : Nat} {a : Addr} {elems : List (DataW H × List MemPlace)} :
    ∀ n, n ≤ elems.length → (∀ i, i < n → (w.cells? 0 (a.add (i * P.cellsOf e)) (P.cellsOf e)).bind (DataW.trod enc P w 0 sp held fuel e) = elems[i]?) →
      ∃ (l : List T.den) (us : List Value), l.length = n ∧ Cat (TR (old w) w T) l us ∧ us.length = n * T.size ∧ CellsAt w a.block a.off us ∧ (l.map (blk T)).sum ≤ ((elems.take n).map fun x => b x.1).sum ∧
        (0 < n → a.spot = none ∧ a.block < w.heap.size) := by
  intro n
  induction n with
  | zero => intro _ _; exact ⟨[], [], rfl, rfl, by simp, fun j u h => by simp at h, by simp, fun h => absurd h (Nat.lt_irrefl _)⟩
  | succ n ihn =>
    intro hn hel
    obtain ⟨l, us, h1, h2, h3, h4, h5, h6⟩ := ihn (by omega) fun i hi => hel i (by omega)
    have hlt : n < elems.length := by omega
    have := hel n (Nat.lt_succ_self n)
    rw [List.getElem?_eq_getElem hlt] at this
    obtain ⟨cs, hc, ht⟩ := Option.bind_eq_some_iff.1 this
    obtain ⟨v, hv, hb⟩ := ih _ _ _ ht
    obtain ⟨_, k1, k2⟩ := World.cells?_some hc
    have hspot : a.spot = none ∧ a.block < w.heap.size := by
      by_cases hn0 : n = 0
      · subst hn0
        have h0 := k2 0 (by omega)
        rw [show cs[0]? = some cs[0] from List.getElem?_eq_getElem (by omega)] at h0
        have e0 : (a.add (0 * P.cellsOf e)).add 0 = a := by simp [Addr.add]
        rw [e0] at h0
        exact cell_spot h0
      · exact h6 (by omega)
    have hadd : ∀ i, (a.add (n * P.cellsOf e)).add i = ⟨a.block, a.off + n * T.size + i, none⟩ := fun i => by
      rw [add_none hspot.1, add_none rfl, hsz]
    refine ⟨l ++ [v], us ++ cs, by simp [h1], h2.append ⟨cs, [], by simp, hv, rfl⟩, by rw [List.length_append, h3, k1, hsz, Nat.succ_mul], fun j u hj => ?_, ?_, fun _ => hspot⟩
    · by_cases hjl : j < us.length
      · rw [List.getElem?_append_left hjl] at hj
        exact h4 j u hj
      · rw [List.getElem?_append_right (by omega)] at hj
        have hj2 : j - us.length < P.cellsOf e := by
          have := (List.getElem?_eq_some_iff.1 hj).1
          rw [k1] at this
          exact this
        have := k2 _ hj2
        rw [hj, hadd] at this
        rw [← this]
        congr 2
        omega
    · have e1 : elems.take (n + 1) = elems.take n ++ [elems[n]] := by simp
      rw [e1, List.map_append, List.sum_append, List.map_append, List.sum_append]
      simp only [List.map_cons, List.map_nil, List.sum_cons, List.sum_nil]
      omega

theorem fields_open [Sites] (hU : U.Ok P) (hB : Bulk b) {n : Nat} (ih : ∀ T t, tyAt U n T t = true → OpenOk P w enc sp held b T t) {fuel : Nat} {cs : List Value} :
    ∀ (T : Ty) (fs : List (TypeId × Nat)) (o : Nat), tyAt.tysAt (tyAt U n) T fs o = true → ∀ xs : List (DataW H × List MemPlace), xs.length = fs.length →
      (∀ (i : Nat) f, fs[i]? = some f → DataW.trod enc P w 0 sp held fuel f.1 ((cs.drop f.2).take (P.cellsOf f.1)) = xs[i]?) → cs.length = o + T.size →
      ∃ v : T.den, TR (old w) w T v (cs.drop o) ∧ blk T v ≤ (xs.map fun x => b x.1).sum := by
  have hsize : ∀ T t, tyAt U n T t = true → P.cellsOf t = T.size := fun T t h => by
    rw [cellsOf_U hU (tyAt_ne h)]
    cases n with
    | zero => simp [tyAt] at h
    | succ n => unfold tyAt at h; simp only [Bool.and_eq_true] at h; exact Nat.eq_of_beq_eq_true h.1
  intro T fs o
  induction T, fs, o using tyAt.tysAt.induct with
  | case1 a f o =>
    intro h xs hl hx hc
    simp only [tyAt.tysAt, Bool.and_eq_true] at h
    obtain ⟨h1, h2⟩ := h
    have h1 := Nat.eq_of_beq_eq_true h1
    obtain ⟨x, rfl⟩ : ∃ x, xs = [x] := List.length_eq_one_iff.1 hl
    have := hx 0 f rfl
    simp only [List.getElem?_cons_zero] at this
    rw [h1, hsize _ _ h2, List.take_of_length_le (by rw [List.length_drop, hc]; simp [Ty.size])] at this
    obtain ⟨v, hv, hb⟩ := ih _ _ h2 _ _ _ this
    exact ⟨(v, ()), ⟨_, [], by simp, hv, rfl⟩, by simp [blk]; exact hb⟩
  | case2 T f o hne =>
    intro h xs hl hx hc
    have h : (Nat.beq f.2 o && tyAt U n T f.1) = true := by
      cases T with
      | pair a b => cases b <;> first | exact absurd rfl (hne _) | simpa only [tyAt.tysAt] using h
      | _ => simpa only [tyAt.tysAt] using h
    simp only [Bool.and_eq_true] at h
    obtain ⟨h1, h2⟩ := h
    have h1 := Nat.eq_of_beq_eq_true h1
    obtain ⟨x, rfl⟩ : ∃ x, xs = [x] := List.length_eq_one_iff.1 hl
    have := hx 0 f rfl
    simp only [List.getElem?_cons_zero] at this
    rw [h1, hsize _ _ h2, List.take_of_length_le (by rw [List.length_drop, hc]; omega)] at this
    obtain ⟨v, hv, hb⟩ := ih _ _ h2 _ _ _ this
    exact ⟨v, hv, by simpa using hb⟩
  | case3 a b' f g q o ihq =>
    intro h xs hl hx hc
    simp only [tyAt.tysAt, Bool.and_eq_true] at h
    obtain ⟨h1, h2, h3⟩ := h
    have h1 := Nat.eq_of_beq_eq_true h1
    cases xs with
    | nil => simp at hl
    | cons x xs =>
      have h0 := hx 0 f rfl
      simp only [List.getElem?_cons_zero] at h0
      rw [h1, hsize _ _ h2] at h0
      obtain ⟨v, hv, hb⟩ := ih _ _ h2 _ _ _ h0
      obtain ⟨v', hv', hb'⟩ := ihq h3 xs (by simpa using hl) (fun i f' hf => by have := hx (i + 1) f' (by simpa using hf); simpa using this) (by rw [hc]; simp [Ty.size]; omega)
      refine ⟨(v, v'), ⟨_, _, ?_, hv, hv'⟩, ?_⟩
      · rw [← List.drop_drop, List.take_append_drop]
      · simp only [blk, List.map_cons, List.sum_cons]
        omega
  | case4 T l o h1 h2 h3 =>
    intro h
    cases T <;> cases l <;> first | (simp [tyAt.tysAt] at h; done) | skip
    all_goals (rename_i q; cases q <;> first | (simp [tyAt.tysAt] at h; done) | exact absurd rfl (h2 _ _) | exact absurd rfl (h3 _ _ _ _ _ _))

theorem wf_fits {k : IntKind} {m : Int} (h : (Lit.int k m).wf = true) : fits k m = true := by
  simp only [Lit.wf, Bool.and_eq_true, decide_eq_true_eq] at h
  cases k <;> simp [fits, IntKind.min, IntKind.max, IntKind.signed, IntKind.bits] at * <;> omega

theorem open_ok [Sites] (hU : U.Ok P) (hB : Bulk b) : ∀ (n : Nat) (T : Ty) (t : TypeId), tyAt U n T t = true → OpenOk P w enc sp held b T t := by
  intro n
  induction n with
  | zero => intro T t h; simp [tyAt] at h
  | succ n ih =>
    intro T t h fuel cs x hx
    have hne := tyAt_ne h
    have hk := (hU t hne).1
    have hco := cellsOf_U hU hne
    unfold tyAt at h
    simp only [Bool.and_eq_true] at h
    obtain ⟨hs0, h⟩ := h
    have hs := Nat.eq_of_beq_eq_true hs0
    clear hs0
    split at h
    · rename_i e
      simp only [TD.kindOk, e] at hk
      obtain ⟨m, rfl, rfl, hw⟩ := DataW.trod_int hk hx
      have hf := wf_fits hw
      have hm : 0 ≤ m ∧ m < 256 := by simpa [fits] using hf
      refine ⟨UInt8.ofNat m.toNat, ?_, hB.pos _⟩
      simp only [TR]
      congr 2
      have : (UInt8.ofNat m.toNat).toNat = m.toNat := by
        rw [UInt8.toNat_ofNat']
        apply Nat.mod_eq_of_lt
        omega
      rw [this]
      omega
    · rename_i k k' e
      have := ikEq_eq h
      subst this
      simp only [TD.kindOk, e] at hk
      obtain ⟨m, rfl, rfl, hw⟩ := DataW.trod_int hk hx
      exact ⟨m, ⟨rfl, wf_fits hw⟩, hB.pos _⟩
    · rename_i e
      simp only [TD.kindOk, e] at hk
      obtain ⟨m, rfl, rfl⟩ := DataW.trod_bool hk hx
      exact ⟨m, rfl, hB.pos _⟩
    · rename_i e
      simp only [TD.kindOk, e] at hk
      obtain ⟨m, rfl, rfl, hm⟩ := DataW.trod_string hk hx
      refine ⟨m.data.toList, ⟨by rw [Array.toArray_toList], ?_⟩, hB.str _⟩
      have : m.data.toList.length = m.size := rfl
      rw [this]; exact hm
    · rename_i T e he
      simp only [Bool.and_eq_true, Nat.blt_eq] at h
      obtain ⟨h1, h2, h3, h4⟩ := h
      simp only [TD.kindOk, he] at hk
      have hce : P.cellsOf e = T.size := by
        rw [cellsOf_U hU (tyAt_ne h4)]
        cases n with
        | zero => simp [tyAt] at h4
        | succ n => unfold tyAt at h4; simp only [Bool.and_eq_true] at h4; exact Nat.eq_of_beq_eq_true h4.1
      rcases DataW.trod_slice hk hx with ⟨rfl, rfl⟩ | ⟨a, len, cap, elems, rest, m, _, rfl, rfl, _, hle, hmax, hlen, hel, _, _⟩
      · exact ⟨[], ⟨_, rfl, none, 0, rfl, Nat.le_refl _, Nat.zero_le _, fun _ => rfl, fun ad h => by cases h⟩, by simpa [blk] using hB.pos _⟩
      · obtain ⟨l, us, g1, g2, g3, g4, g5, g6⟩ := row_open (a := a) hce h1 (ih _ _ h4) len (by omega) hel
        refine ⟨l, ⟨_, rfl, some a, cap, by rw [g1], by omega, hmax, (fun h => by cases h), fun ad had hpos => ?_⟩, ?_⟩
        · simp only [Option.some.injEq] at had
          subst had
          obtain ⟨q1, q2⟩ := g6 (by omega)
          exact ⟨q1, q2, us, g2, g4⟩
        · simp only [blk]
          have := hB.slice (elems.map (·.1)) (rest.map (·.1))
          rw [List.map_map] at this
          rw [List.take_of_length_le (by omega)] at g5
          have e1 : (elems.map (b ∘ fun x => x.1)).sum = (elems.map fun x => b x.1).sum := rfl
          rw [e1] at this
          omega
    · rename_i a b' fs e
      simp only [TD.kindOk, e] at hk
      obtain ⟨hF, rfl⟩ := fields_of hk
      obtain ⟨xs, m, rfl, rfl, hl, hxl, hxs⟩ := DataW.trod_struct hF hx
      have := fields_open (cs := cs) (fuel := m) (w := w) (enc := enc) (sp := sp) (held := held) hU hB ih (.pair a b') _ 0 h xs (by simp [hxl]) (fun i f hf => by
        rw [List.getElem?_map, Option.map_eq_some_iff] at hf
        obtain ⟨f', hf', rfl⟩ := hf
        exact hxs i f' (by simpa using hf')) (by rw [hl, hco, hs]; simp)
      obtain ⟨v, hv, hb⟩ := this
      refine ⟨v, by simpa using hv, Nat.le_trans hb ?_⟩
      have := hB.agg (xs.map (·.1))
      rw [List.map_map] at this
      exact this
    · rename_i e
      simp only [TD.kindOk, e] at hk
      obtain ⟨hF, hfs⟩ := fields_of hk
      obtain ⟨xs, m, rfl, rfl, hl, hxl, hxs⟩ := DataW.trod_struct hF hx
      refine ⟨(), ?_, Nat.zero_le _⟩
      simp only [TR]
      rw [hco, hs] at hl
      exact List.eq_nil_of_length_eq_zero (by simpa [Ty.size] using hl)
    · cases h
end
end Go.Hay
/- A law: a function of plain data that gives true. -/
set_option linter.unusedVariables false
set_option linter.unusedSimpArgs false
namespace Go.Hay
open Go.RowKit Go.ChangeShapes

theorem ikEq_refl (k : IntKind) : ikEq k k = true := by cases k <;> rfl
theorem castL_refl (t : Ty) (l : List t.den) : castL t t l = some l := by simp [castL]

theorem mk_cells [Sites] (lk : Lk) : ∀ (T : Ty) (x : T.den) (r : List AV), mk lk T (cellsOf T x ++ r) = some (x, r)
  | .byte, x, r => by simp only [cellsOf, List.cons_append, List.nil_append, mk, mkByte, u8_byte]
  | .int k, x, r => by simp only [cellsOf, List.cons_append, List.nil_append, mk, mkInt, ikEq_refl, cond_true]
  | .bool, x, r => rfl
  | .str, x, r => rfl
  | .slice t, l, r => by simp only [cellsOf, List.cons_append, List.nil_append, mk, frozenList, castL_refl]
  | .pair a b, x, r => by simp only [cellsOf, List.append_assoc, mk, mk_cells lk a x.1, mk_cells lk b x.2]
  | .unit, x, r => rfl

theorem allOne_app {l m : List AV} (h1 : allOne l = true) (h2 : allOne m = true) : allOne (l ++ m) = true := by
  induction l with
  | nil => exact h2
  | cons a l ih =>
    simp only [allOne, List.cons_append, Bool.and_eq_true] at *
    exact ⟨h1.1, ih h1.2⟩
theorem allOne_cells [Sites] : ∀ (T : Ty) (x : T.den), allOne (cellsOf T x) = true
  | .byte, x => rfl
  | .int k, x => rfl
  | .bool, x => rfl
  | .str, x => rfl
  | .slice t, l => rfl
  | .pair a b, x => allOne_app (allOne_cells a x.1) (allOne_cells b x.2)
  | .unit, x => rfl
theorem val_facts (T : Ty) (x : T.den) : (valOf T x).cells = cellsOf T x ∧ aggOk T (valOf T x) = true := by
  cases T <;> simp [valOf, Ty.isAgg, cellsOf, AV.cells, aggOk]
theorem frz_nil : ∀ l : List AV, frz [] l = []
  | [] => rfl
  | x :: r => by
    have : frz1 [] x = [] := by cases x <;> rfl
    simp only [frz, this, frz_nil r]

def insOf : List Ty → Sh
  | [] => .nil
  | T :: r => .cons (.val T) (insOf r)
def blkAll : (Ts : List Ty) → (insOf Ts).den → Nat
  | [], _ => 0
  | T :: r, x => blk T x.1 + blkAll r x.2

section
variable {α : Type}
def wfT : (T : Ty) → T.den → Prop
  | .int k, x => fits k x = true
  | .slice T, l => ∀ x ∈ l, wfT T x
  | .pair a b, x => wfT a x.1 ∧ wfT b x.2
  | _, _ => True
def wfAll : (Ts : List Ty) → (insOf Ts).den → Prop
  | [], _ => True
  | T :: r, x => wfT T x.1 ∧ wfAll r x.2

theorem cat_wf {R : α → List Value → Prop} {p : α → Prop} (h : ∀ x us, R x us → p x) : ∀ {l : List α} {us : List Value}, Cat R l us → ∀ x ∈ l, p x
  | [], _, _, x, hx => by cases hx
  | y :: l, us, ⟨a, b, e, h1, h2⟩, x, hx => by
    rcases List.mem_cons.1 hx with rfl | hx
    · exact h _ _ h1
    · exact cat_wf h h2 x hx
theorem slice_wf {I : Nat → Prop} {w : World} {R : α → List Value → Prop} {p : α → Prop} (h : ∀ x us, R x us → p x) {l : List α} {u : Value} (hs : SliceAt I w R l u) : ∀ x ∈ l, p x := by
  obtain ⟨A, c, e, hn, hm, h0, hc⟩ := hs
  intro x hx
  have hpos : 0 < l.length := List.length_pos_of_mem hx
  cases A with
  | none => exact absurd (h0 rfl) (by omega)
  | some ad =>
    obtain ⟨_, _, us, h1, _⟩ := hc ad rfl hpos
    exact cat_wf h h1 x hx
theorem TR.wf {I : Nat → Prop} {w : World} : ∀ {t : Ty} {x : t.den} {us : List Value}, TR I w t x us → wfT t x
  | .byte, x, us, h => trivial
  | .int k, x, us, h => by simp only [TR] at h; exact h.2
  | .bool, x, us, h => trivial
  | .str, x, us, h => trivial
  | .slice t, x, us, h => by
    simp only [TR] at h
    obtain ⟨u, _, h1⟩ := h
    exact slice_wf (fun x us h => TR.wf h) h1
  | .pair a b, x, us, h => by
    simp only [TR] at h
    obtain ⟨u, v, _, h1, h2⟩ := h
    exact ⟨TR.wf h1, TR.wf h2⟩
  | .unit, x, us, h => trivial
theorem VRs.split {c : Cf} {w : World} : ∀ {xs ys : List AV} {us : List Value}, VRs c w (xs ++ ys) us → ∃ u v, us = u ++ v ∧ VRs c w xs u ∧ VRs c w ys v
  | [], ys, us, h => ⟨[], us, rfl, by simp [VRs], h⟩
  | x :: xs, ys, us, h => by
    simp only [List.cons_append, VRs] at h
    obtain ⟨u, us', rfl, h1, h2⟩ := h
    obtain ⟨p, q, rfl, h3, h4⟩ := VRs.split h2
    exact ⟨u :: p, q, rfl, by simp only [VRs]; exact ⟨u, p, rfl, h1, h3⟩, h4⟩
theorem cells_wf {c : Cf} {w : World} : ∀ {t : Ty} {x : t.den} {us : List Value}, VRs c w (cellsOf t x) us → wfT t x
  | .byte, x, us, h => trivial
  | .int k, x, us, h => by
    simp only [cellsOf, VRs, VR] at h
    obtain ⟨u, us', _, h1, _⟩ := h
    exact h1.2
  | .bool, x, us, h => trivial
  | .str, x, us, h => trivial
  | .slice t, x, us, h => by
    simp only [cellsOf, VRs, VR] at h
    obtain ⟨u, us', _, h1, _⟩ := h
    exact slice_wf (fun x us h => TR.wf h) h1
  | .pair a b, x, us, h => by
    simp only [cellsOf] at h
    obtain ⟨u, v, _, h1, h2⟩ := VRs.split h
    exact ⟨cells_wf h1, cells_wf h2⟩
  | .unit, x, us, h => trivial
theorem val_wf {c : Cf} {w : World} {t : Ty} {x : t.den} {v : Value} (h : VR c w (valOf t x) v) : wfT t x := by
  unfold valOf at h
  split at h
  · simp only [VR] at h
    obtain ⟨us, _, h1⟩ := h
    exact cells_wf h1
  · rename_i hno
    split at h
    · rename_i a ha
      exact cells_wf (t := t) (x := x) (us := [v]) (c := c) (w := w) (by rw [ha]; simp only [VRs]; exact ⟨v, [], rfl, h, rfl⟩)
    · rename_i xs hag
      cases t with
      | pair a b => cases hno
      | unit => trivial
      | int k => exact absurd rfl (hag _)
      | slice t => exact absurd rfl (hag _)
      | _ => trivial
theorem args_wf {c : Cf} {w : World} {nm : Nat → Nat} : ∀ {Ts : List Ty} {x : (insOf Ts).den} {n : Nat} {vals : List Value}, VRs c w (bld nm (insOf Ts) x n).1 vals → wfAll Ts x
  | [], x, n, vals, h => trivial
  | T :: r, x, n, vals, h => by
    have h' : VRs c w ([valOf T x.1] ++ (bld nm (insOf r) x.2 n).1) vals := h
    obtain ⟨u, v, rfl, h1, h2⟩ := VRs.split h'
    refine ⟨?_, args_wf h2⟩
    simp only [VRs] at h1
    obtain ⟨u', us', _, h3, _⟩ := h1
    exact val_wf h3

end

theorem xt_ins [Sites] (nm : Nat → Nat) : ∀ (Ts : List Ty) (x : (insOf Ts).den) (n : Nat) (fz : List Nat), ∃ fz', xt (insOf Ts) (bld nm (insOf Ts) x n).1 ⟨[], [], fz⟩ = some (x, [], ⟨[], [], fz'⟩)
  | [], x, n, fz => ⟨fz, rfl⟩
  | T :: r, x, n, fz => by
    obtain ⟨h1, h2⟩ := val_facts T x.1
    have hmk : mk1 (look ([] : Obs)) T (cellsOf T x.1) = some x.1 := by
      have := mk_cells (look ([] : Obs)) T x.1 []
      rw [List.append_nil] at this
      simp only [mk1, this]
    obtain ⟨fz', hr⟩ := xt_ins nm r x.2 n (idsDeep (valOf T x.1) ++ fz)
    refine ⟨fz', ?_⟩
    simp only [insOf, bld, List.cons_append, List.nil_append, xt, h1, h2, frz_nil, allOne_cells, Bool.and_self, hmk, hr]
    rfl

section
variable {P : Program} {U : TEnv} {w : World} {H : Type} {enc : TypeId × Value → H} {b : DataW H → Nat}

def tysOk (U : TEnv) : List Ty → List TypeId → Bool
  | [], [] => true
  | T :: r, t :: q => tyAt U 30 T t && tysOk U r q
  | _, _ => false

abbrev c0 (w : World) : Cf := ⟨fun _ => none, old w⟩

theorem arg_open [Sites] (hU : U.Ok P) (hB : Bulk b) {T : Ty} {t : TypeId} (h : tyAt U 30 T t = true) {base : Nat} {v : Value} {d : DataW H} {p : List MemPlace} (hval : Value.okWide P w .any base t v)
    (ht : DataW.Trod enc P w 0 (fun _ => true) true t v d p) : ∃ x : T.den, VR (c0 w) w (valOf T x) v ∧ blk T x ≤ b d := by
  obtain ⟨fuel, ht⟩ := ht
  obtain ⟨x, hx, hb⟩ := open_ok (w := w) (enc := enc) (sp := fun _ => true) (held := true) hU hB 30 T t h _ _ _ ht
  refine ⟨x, ?_, hb⟩
  have hc := cellsOf_ok (c := c0 w) (w := w) hx
  have hne := tyAt_ne h
  have hk := (hU t hne).1
  unfold tyAt at h
  simp only [Bool.and_eq_true] at h
  obtain ⟨hs0, h⟩ := h
  clear hs0
  have hone : (∀ cs, v ≠ .agg cs) → v.cells.toList = [v] := fun hv => by
    cases v <;> first | rfl | exact absurd rfl (hv _)
  have leaf : ∀ (D : TypeDesc), P.underlying t = some D → (∀ cs, ¬ Value.okWide P w .any base t (.agg cs)) → ∀ a, cellsOf T x = [a] → valOf T x = a → VR (c0 w) w (valOf T x) v := by
    intro D _ hno a ha hva
    rw [hone (fun cs e => hno cs (by rw [← e]; exact hval)), ha] at hc
    simp only [VRs] at hc
    obtain ⟨u, us, e1, e2, e3⟩ := hc
    simp only [List.cons.injEq] at e1
    rw [hva, e1.1]
    exact e2
  split at h
  · rename_i e
    simp only [TD.kindOk, e] at hk
    exact leaf _ hk (fun cs hv => by simp [Value.okWide, hk, Cell.okWide, Cell.ok] at hv) _ rfl rfl
  · rename_i e
    simp only [TD.kindOk, e] at hk
    exact leaf _ hk (fun cs hv => by simp [Value.okWide, hk, Cell.okWide, Cell.ok] at hv) _ rfl rfl
  · rename_i e
    simp only [TD.kindOk, e] at hk
    exact leaf _ hk (fun cs hv => by simp [Value.okWide, hk, Cell.okWide, Cell.ok] at hv) _ rfl rfl
  · rename_i e
    simp only [TD.kindOk, e] at hk
    exact leaf _ hk (fun cs hv => by simp [Value.okWide, hk, Cell.okWide, Cell.ok] at hv) _ rfl rfl
  · rename_i e
    simp only [TD.kindOk, e] at hk
    exact leaf _ hk (fun cs hv => by simp [Value.okWide, hk, Cell.okWide, Cell.ok] at hv) _ rfl rfl
  · rename_i e
    simp only [TD.kindOk, e] at hk
    obtain ⟨hF, _⟩ := fields_of hk
    simp only [Value.okWide, hF] at hval
    obtain ⟨cs, rfl, _⟩ := hval
    simp only [Value.cells] at hc
    show VR (c0 w) w (.agg (cellsOf _ x)) _
    simp only [VR]
    exact ⟨cs.toList, by rw [Array.toArray_toList], hc⟩
  · rename_i e
    simp only [TD.kindOk, e] at hk
    obtain ⟨hF, _⟩ := fields_of hk
    simp only [Value.okWide, hF] at hval
    obtain ⟨cs, rfl, _⟩ := hval
    simp only [Value.cells] at hc
    show VR (c0 w) w (.agg (cellsOf _ x)) _
    simp only [VR]
    exact ⟨cs.toList, by rw [Array.toArray_toList], hc⟩
  · cases h

theorem args_open [Sites] (hU : U.Ok P) (hB : Bulk b) {base : Nat} : ∀ (Ts : List Ty) (ts : List TypeId) (vs : List Value) (ds : List (DataW H)) (p : List MemPlace), tysOk U Ts ts = true → (∀ (j : Nat) t v, ts[j]? = some t → vs[j]? = some v → Value.okWide P w .any base t v) →
    DataW.TrodAll enc P w 0 (fun _ => true) true ts vs ds p → ∃ x : (insOf Ts).den, VRs (c0 w) w (bld (fun k => k) (insOf Ts) x 0).1 vs ∧ blkAll Ts x ≤ (ds.map b).sum ∧ ds.length = Ts.length
  | [], [], [], [], p, _, _, _ => ⟨(), by simp only [insOf, bld, VRs], by simp [blkAll], rfl⟩
  | T :: r, t :: q, v :: vs, d :: ds, p, h, hval, ⟨p1, p2, h1, h2, _⟩ => by
    simp only [tysOk, Bool.and_eq_true] at h
    obtain ⟨x, k1, k2⟩ := arg_open hU hB h.1 (hval 0 t v rfl rfl) h1
    obtain ⟨y, k3, k4, k5⟩ := args_open hU hB r q vs ds p2 h.2 (fun j t' v' hj hv => hval (j + 1) t' v' (by simpa using hj) (by simpa using hv)) h2
    refine ⟨(x, y), ?_, ?_, by simp [k5]⟩
    · simp only [insOf, bld, List.cons_append, List.nil_append, VRs]
      exact ⟨v, vs, rfl, k1, k3⟩
    · simp only [blkAll, List.map_cons, List.sum_cons]
      omega
  | [], [], [], _ :: _, _, _, _, h => by simp [DataW.TrodAll] at h
  | [], [], _ :: _, _, _, _, _, h => by simp [DataW.TrodAll] at h
  | [], _ :: _, _, _, _, h, _, _ => by simp [tysOk] at h
  | _ :: _, [], _, _, _, h, _, _ => by simp [tysOk] at h
  | _ :: _, _ :: _, [], _, _, _, _, h => by simp [DataW.TrodAll] at h
  | _ :: _, _ :: _, _ :: _, [], _, _, _, h => by simp [DataW.TrodAll] at h

abbrev lawFs (Ts : List Ty) (g : (insOf Ts).den → Option (Bool × Unit)) : Fs := ⟨insOf Ts, .cons (.val .bool) .nil, g⟩

theorem law_run [Sites] {Ts : List Ty} {g : (insOf Ts).den → Option (Bool × Unit)} {f : FuncId} (hC : (lawFs Ts g).con.Ok P f) {x : (insOf Ts).den} {r : Bool} (hg : g x = some (r, ())) {vals : List Value} (hv : VRs (c0 w) w (bld (fun k => k) (insOf Ts) x 0).1 vals) :
    Calls P f vals.toArray w fun e w' => e = .returned (.bool r) ∧ Below w.heap.size w w' := by
  obtain ⟨fz, hxt⟩ := xt_ins (fun k => k) Ts x 0 []
  have hR : Rel ⟨w, old w, fun _ => False, fun _ => False, none, w.heap.size⟩ (c0 w) [] w :=
    { ob := fun id o h => by simp [look] at h
      dom := fun id h => rfl
      sep := fun i j oi oj bb h => by simp [look] at h
      imm := fun id o bb h => by simp [look] at h
      lo := fun bb h => h
      keep := fun bb _ _ => rfl
      mine := fun id o bb h => by simp [look] at h
      ro := fun id o bb h => by simp [look] at h
      sub := fun bb h => h
      new := fun bb h => .inl h
      os := rfl
      tape := rfl
      output := rfl
      size := Nat.le_refl _ }
  have hpre : (lawFs Ts g).con.pre (bld (fun k => k) (insOf Ts) x 0).1 [] 0 = some x := by
    simp only [Fs.con, hxt]
    rfl
  have hpost : ∃ s1 n1 W, (lawFs Ts g).con.post (bld (fun k => k) (insOf Ts) x 0).1 [] 0 x (r, ()) = some (.bool r, s1, n1, W) := by
    simp only [Fs.con, hxt]
    exact ⟨_, _, _, rfl⟩
  obtain ⟨s1, n1, W, hpost⟩ := hpost
  refine (hC.runs _ [] 0 x (r, ()) _ s1 n1 W hpre hg hpost _ _ w vals hR hv).mono ?_
  rintro e w' ⟨c', u, rfl, h1, h2, h3⟩
  simp only [VR] at h2
  subst h2
  exact ⟨rfl, h1.os, h1.tape, h1.output, h1.size, fun k hk => h1.keep k hk (fun h => h)⟩

theorem args_stay (hl : laidOutB P = true) {w' : World} (hb : Below w.heap.size w w') : ∀ {ts : List TypeId} {vs : List Value} {ds : List (DataW H)} {p : List MemPlace}, ts.all (fun t => P.readableRec t && decide (t < P.types.size)) = true → (∀ x ∈ p, x.block < w.heap.size) →
    DataW.TrodAll enc P w 0 (fun _ => true) true ts vs ds p → DataW.TrodAll enc P w' 0 (fun b => decide (b < w.heap.size)) true ts vs ds p
  | [], [], [], p, _, _, h => h
  | t :: ts, v :: vs, d :: ds, p, hr, hlt, ⟨p1, p2, h1, h2, e⟩ => by
    simp only [List.all_cons, Bool.and_eq_true, decide_eq_true_eq] at hr
    exact ⟨p1, p2, Below.trod hl hr.1.1 hr.1.2 h1 hb (fun x hx => hlt x (by rw [e]; exact List.mem_append_left _ hx)), args_stay hl hb (by simpa using hr.2) (fun x hx => hlt x (by rw [e]; exact List.mem_append_right _ hx)) h2, e⟩
  | [], [], _ :: _, _, _, _, h => by simp [DataW.TrodAll] at h
  | [], _ :: _, _, _, _, _, h => by simp [DataW.TrodAll] at h
  | _ :: _, [], _, _, _, _, h => by simp [DataW.TrodAll] at h
  | _ :: _, _ :: _, [], _, _, _, h => by simp [DataW.TrodAll] at h

theorem law_ok [Sites] (hU : U.Ok P) (hl : laidOutB P = true) {f : FuncId} {fn : Func} {Ts : List Ty} {tb : TypeId} (hty : tysOk U Ts fn.params.toList = true) (hread : fn.params.toList.all (fun t => P.readableRec t && decide (t < P.types.size)) = true)
    (hres : fn.resultTypes = #[tb]) (hb : P.underlying tb = some .bool) {s : ChangeSpec} (hsv : s.vars = []) (hfn : ∀ ds : List (DataW H), ds.length = Ts.length → s.fn H ds = { results := [.lit (.bool true)], args := ds })
    (hB : Bulk b) {K : Nat} {g : Nat → (insOf Ts).den → Option (Bool × Unit)} (hC : ∀ N, (lawFs Ts (g N)).con.Ok P f) (hlaw : ∀ x : (insOf Ts).den, blkAll Ts x ≤ K → wfAll Ts x → ∃ N, g N x = some (true, ()))
    {W : World} {base : Nat} {args : Array Value} {ds gs : List (DataW H)} {before : List MemPlace} (hval : ∀ (j : Nat) t v, fn.params[j]? = some t → args[j]? = some v → Value.okWide P W .any base t v)
    (hW : DataW.Whole enc P fn.params.toList s.vars false W args.toList ds gs before) (hk : (ds.map b).sum ≤ K) {fresh handsOn : Bool} :
    Calls P f args W fun e W' => ∃ v, e = .returned v ∧ s.post enc P fn false fresh handsOn false W args v W' := by
  have hlt := hW.lt
  have hW' := hW
  obtain ⟨p, q, hA, hV, rfl, hfz, hnd⟩ := hW
  rw [hsv] at hV
  obtain ⟨rfl, rfl⟩ := trodVars_none hV
  obtain ⟨x, hv, hbk, hlen⟩ := args_open (w := W) (enc := enc) hU hB Ts fn.params.toList args.toList ds p hty (fun j t v hj hv => hval j t v (by simpa using hj) (by simpa using hv)) hA
  obtain ⟨N, hN⟩ := hlaw x (by omega) (args_wf hv)
  have hrun := law_run (hC N) hN hv
  rw [Array.toArray_toList] at hrun
  refine hrun.mono ?_
  rintro e W' ⟨rfl, hbel⟩
  refine ⟨_, rfl, ds, [], p ++ [], [], p, [], hW', ?_, ?_, ?_, hbel.frame _, fun h => by cases h⟩
  · rw [List.append_nil, hfn ds hlen, hres]
    exact trodAll_mk1 (shut_bool hb true)
  · rw [List.append_nil, hfn ds hlen]
    exact args_stay hl hbel hread (fun x hx => hlt x (by simpa using hx)) hA
  · rw [hsv, List.append_nil, hfn ds hlen]
    rfl
end
end Go.Hay
