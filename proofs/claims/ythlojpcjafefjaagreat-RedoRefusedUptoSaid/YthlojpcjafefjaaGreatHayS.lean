/- Contracts of functions, and the evaluator of code. -/
import Derived.Test.YthlojpcjafefjaaGreatHayM
import Derived.Conc.MuLone
import Derived.LoopNIn
import Derived.OrdersIn
import Derived.RangeFuncRecord
import Derived.Orders
import Derived.Scope
set_option linter.unusedVariables false
set_option linter.unusedSimpArgs false
namespace Go.Hay
open Go.RowKit

structure Con where
  X : Type
  Y : X → Type
  pre : List AV → Obs → Nat → Option X
  fn : (x : X) → Option (Y x)
  post : List AV → Obs → Nat → (x : X) → Y x → Option (AV × Obs × Nat × List Nat)
  spl : {Ω : Type} → (x : X) → (y : Y x) → (Y x → Option Ω) → Option Ω := fun _ y K => K y
  spl_ok : ∀ {Ω : Type} (x : X) (y : Y x) (K : Y x → Option Ω) (out : Ω), spl x y K = some out → K y = some out := by intros; assumption

structure Con.Ok [Sites] (P : Program) (f : FuncId) (C : Con) : Prop where
  enters : ∀ args w, (callFunc f args).run P w = .ok (.enter f args) w
  runs : ∀ (args : List AV) (s : Obs) (nx : Nat) (x : C.X) (y : C.Y x) (v : AV) (s1 : Obs) (n1 : Nat) (W : List Nat), C.pre args s nx = some x → C.fn x = some y → C.post args s nx x y = some (v, s1, n1, W) →
    ∀ (B : Bs) (c : Cf) (w : World) (vals : List Value), Rel B c s w → VRs c w args vals →
      Calls P f vals.toArray w fun e w' => ∃ c' u, e = .returned u ∧ Rel B c' s1 w' ∧ VR c' w' v u ∧ Ext c w c' w'
  wrote : ∀ (args : List AV) (s : Obs) (nx : Nat) (x : C.X) (y : C.Y x) (v : AV) (s1 : Obs) (n1 : Nat) (W : List Nat), C.pre args s nx = some x → C.post args s nx x y = some (v, s1, n1, W) → ∀ i, i ∉ W → look s1 i = look s i

structure Yc where
  run : {Ω : Type} → List AV → Nat → TypeId → List AV → Obs → Nat → (AV → Obs → Nat → List Nat → Option Ω) → Option Ω
  nat : ∀ {Ω : Type} (args : List AV) (id : Nat) (t : TypeId) (cs : List AV) (s : Obs) (nx : Nat) (K : AV → Obs → Nat → List Nat → Option Ω) (out : Ω), run args id t cs s nx K = some out →
    ∃ v s1 n1 W, run args id t cs s nx (fun v s1 n1 W => some (v, s1, n1, W)) = some (v, s1, n1, W) ∧ K v s1 n1 W = some out

abbrev WF (r : Option Nat) : Fence := { fn := fun _ => True, depth := none, alive := false, round := r }

theorem callsIn_WF {r : Option Nat} {n : Nat} {P : Program} {f : FuncId} {args : Array Value} {w : World} {R : Ending → World → Prop} (h : Calls P f args w R) : CallsIn (WF r) n P f args w R :=
  (callsIn_wide.2 h : CallsIn Fence.wide n P f args w R)
def roundTmps (r : Loop) (args : Array Value) : Array Value := (r.params.zip args).foldl (fun tmps (t, a) => tmps.setIfInBounds t a) r.tmps

structure Yc.Ok [Sites] (P : Program) (t : Nat) (q : Yc) : Prop where
  runs : ∀ (args : List AV) (id : Nat) (cs : List AV) (s : Obs) (nx : Nat) (v : AV) (s1 : Obs) (n1 : Nat) (W : List Nat), q.run args id t cs s nx (fun v s1 n1 W => some (v, s1, n1, W)) = some (v, s1, n1, W) → look s id = some (.box t cs) →
    ∀ (B : Bs) (c : Cf) (w : World) (vals : List Value) (b : Nat), Rel B c s w → VRs c w args vals → c.nm id = some (.pointer (some ⟨b, 0, none⟩)) →
      ∃ r, w.heap[b]? = some (.loop r) ∧ vals.length = r.params.size ∧
        RoundIn (WF none) 0 P b r.fn (roundTmps r vals.toArray) r.assign r.body w fun e w' => ∃ c' u, e = .returned u ∧ Rel B c' s1 w' ∧ VR c' w' v u ∧ Ext c w c' w'
  wrote : ∀ (args : List AV) (id : Nat) (cs : List AV) (s : Obs) (nx : Nat) (v : AV) (s1 : Obs) (n1 : Nat) (W : List Nat), q.run args id t cs s nx (fun v s1 n1 W => some (v, s1, n1, W)) = some (v, s1, n1, W) → look s id = some (.box t cs) → ∀ i, i ∉ W → look s1 i = look s i

structure St where
  env : Env
  obs : Obs
  nx : Nat

inductive Ctl where
  | normal | ret | exit (id : Nat)

def Ctl.out : Ctl → Exit
  | .normal => .normal
  | .ret => .ret
  | .exit id => .exit id

structure Ctx where
  U : TEnv
  nt : Nat
  may : Nat → Bool
  Γ : FuncId → Option Con
  Y : TypeId → Option Yc

def mayDst (C : Ctx) (d : Option Tmp) : Bool := match d with | none => true | some t => Nat.blt t C.nt && C.may t

def callee (ρ : Operand → Option AV) (o : Op) : Option (FuncId × List AV) :=
  match o with
  | .call { callee := .value f, args := args, argTypes := _ } => match ρ f, allSome (args.toList.map ρ) with
    | some (.fn (.func g) first cap), some as => some (g, first ++ (as ++ cap))
    | _, _ => none
  | _ => none

def yieldee (ρ : Operand → Option AV) (o : Op) : Option (Nat × List AV) :=
  match o with
  | .call { callee := .value f, args := args, argTypes := _ } => match ρ f, allSome (args.toList.map ρ) with
    | some (.yld id), some as => some (id, as)
    | _, _ => none
  | _ => none

def idsDeep : AV → List Nat
  | .agg cs => cs.flatMap AV.ids
  | x => x.ids
def wrE (ρ : Operand → Option AV) (nx : Nat) (o : Op) : List Nat := nx :: o.operands.toList.flatMap fun x => match ρ x with | some v => idsDeep v | none => []

def obind {α β : Type} (x : Option α) (f : α → Option β) : Option β := match x with | some a => f a | none => none

inductive Lg where
  | rd (ids : List Nat)
  | wr (ids : List Nat)

def evOp {Ω : Type} (C : Ctx) (o : Op) (s : St) (K : AV → Obs → Nat → Lg → Option Ω) : Option Ω :=
  match evalV C.U (evO s.env) (rdk s.obs) o with
  | some (v, b) => bif b then K v s.obs s.nx (.rd (foot (evO s.env) o)) else none
  | none => match evalE C.U (evO s.env) s.obs s.nx o with
    | some (v, s1, n1, b) => bif b then K v s1 n1 (.wr (wrE (evO s.env) s.nx o)) else none
    | none => match callee (evO s.env) o with
      | some (f, args) => match C.Γ f with
        | some c => match c.pre args s.obs s.nx with
          | some x => obind (c.fn x) fun y => c.spl x y fun y => match c.post args s.obs s.nx x y with
            | some (v, s1, n1, W) => K v s1 n1 (.wr W)
            | none => none
          | none => none
        | none => none
      | none => match yieldee (evO s.env) o with
        | some (id, args) => match look s.obs id with
          | some (.box t cs) => match C.Y t with
            | some q => q.run args id t cs s.obs s.nx fun v s1 n1 W => K v s1 n1 (.wr W)
            | none => none
          | _ => none
        | none => none

def guardTmp (ops : Array Oper) (g : Nat) : Option Tmp := (ops[g]?).bind (·.dst)

def evGuard {Ω : Type} (C : Ctx) (ops : Array Oper) (o : Oper) (s : St) (K : St → Lg → Option Ω) : Option Ω :=
  match mayDst C o.dst with
  | true => match o.guard with
    | none => evOp C o.op s fun v s1 n1 lg => K ⟨setT s.env o.dst v, s1, n1⟩ lg
    | some (g, want) => match guardTmp ops g with
      | some t => match look s.env t with
        | some (.bool b) => bif b then
            (match want with
            | true => evOp C o.op ⟨put s.env t (.bool true), s.obs, s.nx⟩ fun v s1 n1 lg => K ⟨setT (put s.env t (.bool true)) o.dst v, s1, n1⟩ lg
            | false => K ⟨setT (put s.env t (.bool true)) o.dst (.tup []), s.obs, s.nx⟩ (.rd []))
          else
            (match want with
            | false => evOp C o.op ⟨put s.env t (.bool false), s.obs, s.nx⟩ fun v s1 n1 lg => K ⟨setT (put s.env t (.bool false)) o.dst v, s1, n1⟩ lg
            | true => K ⟨setT (put s.env t (.bool false)) o.dst (.tup []), s.obs, s.nx⟩ (.rd []))
        | some (.tup []) => K ⟨setT s.env o.dst (.tup []), s.obs, s.nx⟩ (.rd [])
        | _ => none
      | none => none
  | false => none

noncomputable def pick2 {Ω : Type} (b : Bool) (x y : Option Ω) : Option Ω := open Classical in bif b then (if x = y then x else none) else y

def nilAsk (C : Ctx) (s : St) (o : Oper) : Option (Bool × Bool) :=
  match o.guard with
  | none => match o.op with
    | .binOp op t x (.const (.slice none 0 0)) _ => match (C.U t).k, mayDst C o.dst, look2 s x with
      | .slice _, true, some v => match v with
        | .view _ _ _ _ => none
        | v => match lenOf (rdk s.obs) v, op with
          | some n, .eql => some (Nat.beq n 0, false)
          | some n, .neq => some (Nat.beq n 0, true)
          | _, _ => none
      | _, _, _ => none
    | _ => none
  | some _ => none
  where look2 (s : St) (x : Operand) : Option AV := evO s.env x

noncomputable def evOps {Ω : Type} (C : Ctx) (ops : Array Oper) : List Oper → St → (St → Option Ω) → Option Ω
  | [], s, K => K s
  | o :: r, s, K => match nilAsk C s o with
    | some (b, ng) => pick2 b (evOps C ops r ⟨setT s.env o.dst (.bool (!ng)), s.obs, s.nx⟩ K) (evOps C ops r ⟨setT s.env o.dst (.bool ng), s.obs, s.nx⟩ K)
    | none => evGuard C ops o s fun s' _ => evOps C ops r s' K

section
variable {P : Program} {B : Bs} {c : Cf} {w : World} {fr : Nat → Option Value} {a : Act} {C : Ctx}

structure Ctx.Ok [Sites] (P : Program) (C : Ctx) : Prop where
  U : C.U.Ok P
  Γ : ∀ f K, C.Γ f = some K → K.Ok P f
  Y : ∀ t q, C.Y t = some q → q.Ok P t

structure BaseOk (B : Bs) : Prop where
  fl : B.fl ≤ B.w.heap.size
  rd : ∀ l, B.rd = some l → (∃ r, B.w.heap[l]? = some (.loop r)) ∧ ¬ B.M l

structure Sim [Sites] (B : Bs) (C : Ctx) (fr : Nat → Option Value) (c : Cf) (s : St) (w : World) (a : Act) : Prop where
  rel : Rel B c s.obs w
  tmps : Tmps C.nt fr c w s.env a
  marks : Marks B.fl c w a.defers
  base : BaseOk B

theorem put_defers (a : Act) (d : Option Tmp) (u : Value) : (a.put d u).defers = a.defers := by cases d <;> rfl

theorem Sim.ops [Sites] {s : St} (h : Sim B C fr c s w a) : Ops.Ok c w (evO s.env) a.eval := fun o x hx => evO_ok h.tmps hx

theorem mayDst_ok (hfr : ∀ t, C.may t = true → fr t = none) {d : Option Tmp} (h : mayDst C d = true) : mayD C.nt fr d := by
  intro t ht
  subst ht
  simp only [mayDst, Bool.and_eq_true, Nat.blt_eq] at h
  exact ⟨h.1, hfr t h.2⟩

def Ends [Sites] (P : Program) (B : Bs) (c : Cf) (w : World) (a : Act) (o : Oper) (Q : Exit → Act → World → Prop) (v : AV) (s1 : Obs) : Prop :=
  ∀ next : Act → World → Prop, (∀ c' w' u, Rel B c' s1 w' → Marks B.fl c' w' a.defers → VR c' w' v u → Ext c w c' w' → next (a.put o.dst u) w') → o.wpIn (WF B.rd) 0 P a w next Q

theorem wpIn_of {r : Option Nat} {o : Oper} {next : Act → World → Prop} {Q : Exit → Act → World → Prop} (hd : ∀ c, o.op ≠ .defer c) (h : o.uponIn (WF r) 0 P a next Q ((execOp a.eval o).run P w)) : o.wpIn (WF r) 0 P a w next Q :=
  ⟨fun _ _ => trivial, by rw [Oper.semAt_eq _ _ _ hd]; exact h⟩

theorem no_defer_v {U : TEnv} {ρ : Operand → Option AV} {lk : Lk} {o : Op} {r : AV × Bool} (h : evalV U ρ lk o = some r) : ∀ c, o ≠ .defer c := fun c e => by rw [e] at h; simp [evalV] at h
theorem no_defer_e {U : TEnv} {ρ : Operand → Option AV} {s : Obs} {nx : Nat} {o : Op} {r : AV × Obs × Nat × Bool} (h : evalE U ρ s nx o = some r) : ∀ c, o ≠ .defer c := fun c e => by rw [e] at h; simp [evalE] at h
theorem no_defer_c {ρ : Operand → Option AV} {o : Op} {r : FuncId × List AV} (h : callee ρ o = some r) : ∀ c, o ≠ .defer c := fun c e => by rw [e] at h; simp [callee] at h
theorem no_defer_y {ρ : Operand → Option AV} {o : Op} {r : Nat × List AV} (h : yieldee ρ o = some r) : ∀ c, o ≠ .defer c := fun c e => by rw [e] at h; simp [yieldee] at h

theorem callee_ok [Sites] {ρ : Operand → Option AV} {e : Operand → Value} (hρ : Ops.Ok c w ρ e) {o : Oper} {f : FuncId} {args : List AV} (h : callee ρ o.op = some (f, args)) :
    ∃ vals : List Value, VRs c w args vals ∧ ((execOp e o).run P w = (callFunc f vals.toArray).run P w) := by
  unfold callee at h
  split at h
  · rename_i g args' ts ho
    split at h
    · rename_i g' first cap as h1 h2
      simp only [Option.some.injEq, Prod.mk.injEq] at h
      obtain ⟨rfl, rfl⟩ := h
      have hf := hρ _ _ h1
      simp only [VR] at hf
      obtain ⟨us, vs, ef, hus, hvs⟩ := hf
      have has := allSome_ok hρ h2
      refine ⟨us ++ (args'.toList.map e ++ vs), hus.append (has.append hvs), ?_⟩
      have : us.toArray ++ (args'.map e) ++ vs.toArray = (us ++ (args'.toList.map e ++ vs)).toArray := by
        apply Array.toList_inj.1
        simp
      simp [execOp, ho, resolve, ef, Deferred.ofValue, invoke, ← this]
    · cases h
  · cases h

theorem yieldee_ok [Sites] {ρ : Operand → Option AV} {e : Operand → Value} (hρ : Ops.Ok c w ρ e) {o : Oper} {id : Nat} {args : List AV} (h : yieldee ρ o.op = some (id, args)) :
    ∃ (vals : List Value) (b : Nat), VRs c w args vals ∧ c.nm id = some (.pointer (some ⟨b, 0, none⟩)) ∧ ((execOp e o).run P w = (Instr.yield b vals.toArray).run P w) := by
  unfold yieldee at h
  split at h
  · rename_i g args' ts ho
    split at h
    · rename_i id' as h1 h2
      simp only [Option.some.injEq, Prod.mk.injEq] at h
      obtain ⟨rfl, rfl⟩ := h
      have hf := hρ _ _ h1
      simp only [VR] at hf
      obtain ⟨b, hn, ef⟩ := hf
      have has := allSome_ok hρ h2
      refine ⟨args'.toList.map e, b, has, hn, ?_⟩
      have : (args'.map e) = (args'.toList.map e).toArray := by
        apply Array.toList_inj.1
        simp
      simp [execOp, ho, resolve, ef, Deferred.ofValue, invoke, ← this]
    · cases h
  · cases h

theorem evOp_ok [Sites] {Ω : Type} (hC : C.Ok P) {o : Oper} {s : St} {K : AV → Obs → Nat → Lg → Option Ω} {out : Ω} (h : evOp C o.op s K = some out) :
    ∃ v s1 n1 lg, K v s1 n1 lg = some out ∧ ∀ (B : Bs) (fr : Nat → Option Value) (c : Cf) (w : World) (a : Act) (Q : Exit → Act → World → Prop), Sim B C fr c s w a → Ends P B c w a o Q v s1 := by
  unfold evOp at h
  split at h
  · rename_i v b hv
    cases b with
    | false => simp at h
    | true =>
      simp only [cond_true] at h
      refine ⟨v, _, _, _, h, fun B fr c w a Q hs next hn => ?_⟩
      obtain ⟨u, hrun, hvr⟩ := evalV_ok (P := P) hC.U hv hs.ops hs.rel.rdk
      refine wpIn_of (no_defer_v hv) ?_
      rw [hrun]
      exact hn c w u hs.rel hs.marks hvr (Ext.refl c w)
  · rename_i hv
    split at h
    · rename_i v s1 n1 b he
      cases b with
      | false => simp at h
      | true =>
        simp only [cond_true] at h
        refine ⟨v, _, _, _, h, fun B fr c w a Q hs next hn => ?_⟩
        obtain ⟨c', w', u, hrun, h1, h2, h3⟩ := evalE_ok (P := P) hC.U he hs.rel.rebase hs.ops
        refine wpIn_of (no_defer_e he) ?_
        rcases hrun with hrun | ⟨hrun, rfl⟩
        · rw [hrun]; exact hn c' w' u (hs.rel.trans h1) (hs.marks.step hs.rel h1) h2 h3
        · rw [hrun]; exact hn c' w' undef (hs.rel.trans h1) (hs.marks.step hs.rel h1) h2 h3
    · rename_i he
      split at h
      · rename_i f args hcal
        split at h
        · rename_i K' hK
          split at h
          · rename_i x hx
            unfold obind at h
            split at h
            · rename_i y hy
              have h := K'.spl_ok _ _ _ _ h
              split at h
              · rename_i v s1 n1 W hpost
                refine ⟨v, _, _, _, h, fun B fr c w a Q hs next hn => ?_⟩
                have hc := hC.Γ f K' hK
                obtain ⟨vals, hvals, hrun⟩ := callee_ok (P := P) hs.ops hcal
                refine wpIn_of (no_defer_c hcal) ?_
                rw [hrun, hc.enters, Oper.uponIn_enter]
                refine ⟨fun h => (by cases h), callsIn_WF ((hc.runs args s.obs s.nx x y v s1 n1 W hx hy hpost (here B c s.obs w) c w vals hs.rel.rebase hvals).mono ?_)⟩
                rintro e' w' ⟨c', u, rfl, h1, h2, h3⟩
                exact hn c' w' u (hs.rel.trans h1) (hs.marks.step hs.rel h1) h2 h3
              · cases h
            · cases h
          · cases h
        · cases h
      · rename_i hcal
        split at h
        · rename_i id args hy
          split at h
          · rename_i t cs hl
            split at h
            · rename_i q hq
              obtain ⟨v, s1, n1, W, h1, h2⟩ := q.nat _ _ _ _ _ _ _ _ h
              refine ⟨v, s1, n1, _, h2, fun B fr c w a Q hs next hn => ?_⟩
              obtain ⟨vals, b, hvals, hnm, hrun⟩ := yieldee_ok (P := P) hs.ops hy
              obtain ⟨r, hr, hsz, hround⟩ := (hC.Y t q hq).runs args id cs s.obs s.nx v s1 n1 W h1 hl (here B c s.obs w) c w vals b hs.rel.rebase hvals hnm
              refine wpIn_of (no_defer_y hy) ?_
              rw [hrun, run_yield hr (by simpa using hsz), Oper.uponIn_round]
              refine ⟨fun h => (by cases h), RoundIn.mono (hround : RoundIn (WF B.rd) 0 P b r.fn _ r.assign r.body w _) ?_⟩
              rintro e' w' ⟨c', u, rfl, h1, h2, h3⟩
              exact hn c' w' u (hs.rel.trans h1) (hs.marks.step hs.rel h1) h2 h3
            · cases h
          · cases h
        · cases h

theorem wanted_none {o : Oper} (h : o.guard = none) (f : Nat → Option Bool) : Region.wanted o f = true := by simp [Region.wanted, h]

def Goes [Sites] (P : Program) (B : Bs) (c : Cf) (w : World) (a : Act) (ops : Array Oper) (o : Oper) (Q : Exit → Act → World → Prop) (C : Ctx) (fr : Nat → Option Value) (s1 : St) : Prop :=
  ∀ next : Act → World → Prop, (∀ c' w' a', Sim B C fr c' s1 w' a' → Ext c w c' w' → next a' w') →
    (if Region.wanted o (yielded ops a.tmps) then o.wpIn (WF B.rd) 0 P a w next Q else (∀ f, o.about P w a.eval = some f → (WF B.rd).fn f) ∧ next (a.put o.dst undef) w)

theorem undef_VR {c : Cf} {w : World} : VR c w (.tup []) undef := by
  unfold VR
  exact ⟨[], rfl, by unfold VRs; rfl⟩
theorem VR_undef {c : Cf} {w : World} {u : Value} (h : VR c w (.tup []) u) : u = undef := by
  unfold VR at h
  obtain ⟨us, h1, h2⟩ := h
  unfold VRs at h2
  subst h2
  exact h1

theorem evGuard_ok [Sites] {Ω : Type} (hC : C.Ok P) {ops : Array Oper} {o : Oper} {s : St} {K : St → Lg → Option Ω} {out : Ω} (h : evGuard C ops o s K = some out) :
    ∃ s1 lg, K s1 lg = some out ∧ ∀ (B : Bs) (fr : Nat → Option Value) (c : Cf) (w : World) (a : Act) (Q : Exit → Act → World → Prop), (∀ t, C.may t = true → fr t = none) → Sim B C fr c s w a → Goes P B c w a ops o Q C fr s1 := by
  unfold evGuard at h
  split at h
  · rename_i hm
    split at h
    · rename_i hg
      obtain ⟨v, s1, n1, lg, hk, hd⟩ := evOp_ok hC h
      refine ⟨_, _, hk, fun B fr c w a Q hfr hs next hn => ?_⟩
      rw [if_pos (wanted_none hg _)]
      refine hd B fr c w a Q hs next fun c' w' u h1 hm1 h2 h3 => hn c' w' _ ⟨h1, (hs.tmps.ext h3).put (mayDst_ok hfr hm) h2, by rw [put_defers]; exact hm1, hs.base⟩ h3
    · rename_i g want hg
      split at h
      · rename_i t ht
        split at h
        · rename_i b hb
          have key : ∀ (B : Bs) (fr : Nat → Option Value) (c : Cf) (w : World) (a : Act), Sim B C fr c s w a → yielded ops a.tmps g = some b ∧ Sim B C fr c ⟨put s.env t (.bool b), s.obs, s.nx⟩ w a := by
            intro B fr c w a hs
            have hv := hs.tmps.env t _ hb
            simp only [VR] at hv
            refine ⟨?_, ⟨hs.rel, ⟨hs.tmps.size, fun k x hx => ?_, hs.tmps.frame⟩, hs.marks, hs.base⟩⟩
            · unfold guardTmp at ht
              unfold yielded
              rw [ht]
              have : a.tmps[t]? = some (.bool b) := by
                cases ha : a.tmps[t]? with
                | none => simp [ha] at hv; exact absurd hv (by simp [undef])
                | some z => simp [ha] at hv; rw [hv]
              simp [this]
            · rw [look_put] at hx
              split at hx
              · rename_i e; subst e; simp only [Option.some.injEq] at hx; subst hx; simpa only [VR] using hv
              · exact hs.tmps.env k x hx
          cases b with
          | true =>
            simp only [cond_true] at h
            cases want with
            | true =>
              obtain ⟨v, s1, n1, lg, hk, hd⟩ := evOp_ok hC h
              refine ⟨_, _, hk, fun B fr c w a Q hfr hs next hn => ?_⟩
              obtain ⟨hy, hs'⟩ := key B fr c w a hs
              rw [if_pos (by simp [Region.wanted, hg, hy])]
              exact hd B fr c w a Q hs' next fun c' w' u h1 hm1 h2 h3 => hn c' w' _ ⟨h1, (hs'.tmps.ext h3).put (mayDst_ok hfr hm) h2, by rw [put_defers]; exact hm1, hs'.base⟩ h3
            | false =>
              refine ⟨_, _, h, fun B fr c w a Q hfr hs next hn => ?_⟩
              obtain ⟨hy, hs'⟩ := key B fr c w a hs
              rw [if_neg (by simp [Region.wanted, hg, hy])]
              exact ⟨fun _ _ => trivial, hn c w _ ⟨hs'.rel, hs'.tmps.put (mayDst_ok hfr hm) undef_VR, by rw [put_defers]; exact hs'.marks, hs'.base⟩ (Ext.refl c w)⟩
          | false =>
            simp only [cond_false] at h
            cases want with
            | false =>
              obtain ⟨v, s1, n1, lg, hk, hd⟩ := evOp_ok hC h
              refine ⟨_, _, hk, fun B fr c w a Q hfr hs next hn => ?_⟩
              obtain ⟨hy, hs'⟩ := key B fr c w a hs
              rw [if_pos (by simp [Region.wanted, hg, hy])]
              exact hd B fr c w a Q hs' next fun c' w' u h1 hm1 h2 h3 => hn c' w' _ ⟨h1, (hs'.tmps.ext h3).put (mayDst_ok hfr hm) h2, by rw [put_defers]; exact hm1, hs'.base⟩ h3
            | true =>
              refine ⟨_, _, h, fun B fr c w a Q hfr hs next hn => ?_⟩
              obtain ⟨hy, hs'⟩ := key B fr c w a hs
              rw [if_neg (by simp [Region.wanted, hg, hy])]
              exact ⟨fun _ _ => trivial, hn c w _ ⟨hs'.rel, hs'.tmps.put (mayDst_ok hfr hm) undef_VR, by rw [put_defers]; exact hs'.marks, hs'.base⟩ (Ext.refl c w)⟩
        · rename_i hb
          refine ⟨_, _, h, fun B fr c w a Q hfr hs next hn => ?_⟩
          have hv := VR_undef (hs.tmps.env t _ hb)
          have hy : yielded ops a.tmps g = none := by
            unfold guardTmp at ht
            unfold yielded
            rw [ht]
            cases ha : a.tmps[t]? with
            | none => simp [ha]
            | some z => simp [ha] at hv; simp [ha, hv, undef]
          rw [if_neg (by simp [Region.wanted, hg, hy])]
          exact ⟨fun _ _ => trivial, hn c w _ ⟨hs.rel, hs.tmps.put (mayDst_ok hfr hm) undef_VR, by rw [put_defers]; exact hs.marks, hs.base⟩ (Ext.refl c w)⟩
        · cases h
      · cases h
  · cases h

theorem pick2_snd {Ω : Type} {b : Bool} {x y : Option Ω} {out : Ω} (h : pick2 b x y = some out) : y = some out := by
  unfold pick2 at h
  cases b with
  | false => exact h
  | true =>
    simp only [cond_true] at h
    split at h
    · rename_i e; rw [← e]; exact h
    · cases h
theorem pick2_both [Sites] {Ω : Type} {b : Bool} {x y : Option Ω} {out : Ω} (h : pick2 b x y = some out) (hb : b = true) : x = some out ∧ y = some out := by
  refine ⟨?_, pick2_snd h⟩
  unfold pick2 at h
  subst hb
  simp only [cond_true] at h
  split at h
  · exact h
  · cases h

theorem len_nil [Sites] {lk : Lk} (hk : Obs.Ok c w lk) {x : AV} {n : Nat} (h : lenOf lk x = some n) (hx : ∀ a b c d, x ≠ .view a b c d) {u : Value} (hv : VR c w x u) : ∃ A cap, u = .slice A n cap ∧ (A = none → n = 0) := by
  have key : ∀ {t : Ty} {l : List t.den} {v : Value}, SeqAt c w t l v → ∃ A cap, v = .slice A l.length cap ∧ (A = none → l.length = 0) := by
    rintro t l v ⟨A, cap, us, e, h1, h2, h3, _⟩
    exact ⟨A, cap, e, h3⟩
  unfold lenOf at h
  split at h
  · simp only [Option.some.injEq] at h
    subst h
    simp only [VR] at hv
    exact key hv.seq
  · simp only [Option.some.injEq] at h
    subst h
    simp only [VR] at hv
    obtain ⟨A, rfl⟩ := hv
    exact ⟨A, 0, rfl, fun _ => rfl⟩
  · rename_i id
    simp only [VR] at hv
    split at h
    · rename_i e t' l' hl
      simp only [Option.some.injEq] at h
      subst h
      obtain ⟨v, h1, h2⟩ := (row_seq hk hv.1 hv.2).1 _ _ _ hl
      rw [hv.1] at h1; simp only [Option.some.injEq] at h1; subst h1
      exact key h2
    · rename_i t' l' hl
      simp only [Option.some.injEq] at h
      subst h
      obtain ⟨v, h1, h2⟩ := (row_seq hk hv.1 hv.2).2 _ _ hl
      rw [hv.1] at h1; simp only [Option.some.injEq] at h1; subst h1
      exact key h2
    · cases h
  · exact absurd rfl (hx _ _ _ _)
  · simp only [VR] at hv
    obtain ⟨b, us, rfl, h1, _⟩ := hv
    cases h
    exact ⟨_, _, rfl, fun h => by cases h⟩
  · cases h

theorem nilAsk_ok [Sites] (hC : C.Ok P) {s : St} {o : Oper} {b ng : Bool} (h : nilAsk C s o = some (b, ng)) :
    o.guard = none ∧ mayDst C o.dst = true ∧ (∀ c, o.op ≠ .defer c) ∧ ∀ {fr : Nat → Option Value} {c : Cf} {w : World} {a : Act}, Sim B C fr c s w a →
      ∃ u, (execOp a.eval o).run P w = .ok (.value u) w ∧ ((u = .bool (!ng) ∧ b = true) ∨ u = .bool ng) := by
  unfold nilAsk at h
  split at h
  · rename_i hg
    split at h
    · rename_i op t x yt ho
      split at h
      · rename_i e v hk hm hx
        split at h
        · cases h
        · rename_i hview
          have key : ∀ n, lenOf (rdk s.obs) v = some n → ∀ {fr : Nat → Option Value} {c : Cf} {w : World} {a : Act}, Sim B C fr c s w a →
              ∃ A m cap, a.eval x = .slice A n cap ∧ (A = none → n = 0) ∧ m = A.isNone ∧ (Op.equal t (.slice A n cap) (.slice none 0 0)).run P w = .ok m w := by
            intro n hn fr c w a hs
            have hv := hs.ops _ _ hx
            obtain ⟨A, cap, hu, hA⟩ := len_nil hs.rel.rdk hn hview hv
            have hund := (hC.U t (by simp [hk])).1
            simp only [TD.kindOk, hk] at hund
            refine ⟨A, A.isNone, cap, hu, hA, rfl, equal_of fun d => ?_⟩
            cases A <;> simp [Op.equalIn, run_underlying hund]
          split at h
          · rename_i n hn
            simp only [Option.some.injEq, Prod.mk.injEq] at h
            obtain ⟨rfl, rfl⟩ := h
            refine ⟨hg, hm, fun c e => (by rw [ho] at e; cases e), fun {fr c w a} hs => ?_⟩
            obtain ⟨A, m, cap, hu, hA, rfl, heq⟩ := key n hn hs
            have hc : a.eval (.const (.slice none 0 0)) = .slice none 0 0 := rfl
            refine ⟨.bool A.isNone, ?_, ?_⟩
            · have hg : (eqGuard .eql t x (.const (.slice none 0 0)) (.slice A n cap) (.slice none 0 0)).run P w = .ok () w := rfl
              have hb : binOp .eql t (.slice A n cap) (.slice none 0 0) = (do pure (.bool (← Op.equal t (.slice A n cap) (.slice none 0 0)))) := rfl
              simp [execOp, ho, hu, hc, hg, hb, heq]
            · cases A with
              | none => exact .inl ⟨rfl, by rw [hA rfl]; rfl⟩
              | some _ => exact .inr rfl
          · rename_i n hn
            simp only [Option.some.injEq, Prod.mk.injEq] at h
            obtain ⟨rfl, rfl⟩ := h
            refine ⟨hg, hm, fun c e => (by rw [ho] at e; cases e), fun {fr c w a} hs => ?_⟩
            obtain ⟨A, m, cap, hu, hA, rfl, heq⟩ := key n hn hs
            have hc : a.eval (.const (.slice none 0 0)) = .slice none 0 0 := rfl
            refine ⟨.bool (!A.isNone), ?_, ?_⟩
            · have hg : (eqGuard .neq t x (.const (.slice none 0 0)) (.slice A n cap) (.slice none 0 0)).run P w = .ok () w := rfl
              have hb : binOp .neq t (.slice A n cap) (.slice none 0 0) = (do pure (.bool (!(← Op.equal t (.slice A n cap) (.slice none 0 0))))) := rfl
              simp [execOp, ho, hu, hc, hg, hb, heq]
            · cases A with
              | none => exact .inl ⟨rfl, by rw [hA rfl]; rfl⟩
              | some _ => exact .inr rfl
          · cases h
      · cases h
    · cases h
  · cases h

theorem evOps_ok [Sites] {Ω : Type} (hC : C.Ok P) {ops : Array Oper} {Q : Exit → Act → World → Prop} (hfr : ∀ t, C.may t = true → fr t = none) {K : St → Option Ω} {out : Ω} :
    ∀ (n : Nat) (s : St) (c : Cf) (w : World) (a : Act), evOps C ops (ops.toList.drop n) s K = some out → n ≤ ops.size → Sim B C fr c s w a →
      (∀ s1 c' w' a', K s1 = some out → Sim B C fr c' s1 w' a' → Ext c w c' w' → Q .normal a' w') → wpOpsIn (WF B.rd) 0 P ops Q ((List.range ops.size).drop n) a w := by
  intro n
  generalize hm : ops.size - n = m
  induction m generalizing n with
  | zero =>
    intro s c w a h hn hs hK
    have e1 : n = ops.size := by omega
    subst e1
    rw [List.drop_of_length_le (by simp)] at h
    rw [List.drop_of_length_le (by simp)]
    simp only [evOps] at h
    exact hK s c w a h hs (Ext.refl c w)
  | succ m ih =>
    intro s c w a h hn hs hK
    have hlt : n < ops.size := by omega
    rw [List.drop_eq_getElem_cons (by simpa using hlt)] at h
    rw [List.drop_eq_getElem_cons (by simpa using hlt)]
    simp only [evOps, Array.getElem_toList] at h
    split at h
    · rename_i b ng hask
      obtain ⟨hg, hm, hnd, hrun⟩ := nilAsk_ok (P := P) hC hask
      obtain ⟨u, hu, hcase⟩ := hrun hs
      simp only [List.getElem_range, wpOpsIn, Array.getElem?_eq_getElem hlt]
      rw [if_pos (wanted_none hg _)]
      refine wpIn_of hnd ?_
      rw [hu]
      have go : ∀ t : Bool, u = .bool t → evOps C ops (ops.toList.drop (n + 1)) ⟨setT s.env ops[n].dst (.bool t), s.obs, s.nx⟩ K = some out → wpOpsIn (WF B.rd) 0 P ops Q ((List.range ops.size).drop (n + 1)) (a.put ops[n].dst u) w := by
        intro t ht hk
        refine ih (n + 1) (by omega) _ c w _ hk (by omega) ⟨hs.rel, hs.tmps.put (mayDst_ok hfr hm) (by simp only [VR]; exact ht), by rw [put_defers]; exact hs.marks, hs.base⟩ hK
      rcases hcase with ⟨ht, hb⟩ | ht
      · exact go _ ht (pick2_both h hb).1
      · exact go _ ht (pick2_snd h)
    rename_i hask
    obtain ⟨s1, lg, hk, hd⟩ := evGuard_ok hC h
    simp only [List.getElem_range, wpOpsIn, Array.getElem?_eq_getElem hlt]
    have := hd B fr c w a Q hfr hs (wpOpsIn (WF B.rd) 0 P ops Q ((List.range ops.size).drop (n + 1))) fun c' w' a' hs' he => ih (n + 1) (by omega) s1 c' w' a' hk (by omega) hs' fun s2 c2 w2 a2 h1 h2 h3 => hK s2 c2 w2 a2 h1 h2 (he.trans h3)
    exact this
end
end Go.Hay
/- Statements whose order is open: whatever order is drawn, they end where the order of the text ends. -/
set_option linter.unusedVariables false
set_option linter.unusedSimpArgs false
namespace Go.Hay
open Go.RowKit

inductive Did (C : Ctx) (o : Op) (ρ : Operand → Option AV) (s : Obs) (nx : Nat) : AV → Obs → Nat → Lg → Prop where
  | quiet (v : AV) : evalV C.U ρ (rdk s) o = some (v, true) → Did C o ρ s nx v s nx (.rd (foot ρ o))
  | eff (v : AV) (s1 : Obs) (n1 : Nat) : evalV C.U ρ (rdk s) o = none → evalE C.U ρ s nx o = some (v, s1, n1, true) → Did C o ρ s nx v s1 n1 (.wr (wrE ρ nx o))
  | call (f : FuncId) (args : List AV) (K : Con) (x : K.X) (y : K.Y x) (v : AV) (s1 : Obs) (n1 : Nat) (W : List Nat) : evalV C.U ρ (rdk s) o = none → evalE C.U ρ s nx o = none → callee ρ o = some (f, args) → C.Γ f = some K → K.pre args s nx = some x →
      K.fn x = some y → K.post args s nx x y = some (v, s1, n1, W) → Did C o ρ s nx v s1 n1 (.wr W)
  | round (id : Nat) (args : List AV) (t : TypeId) (cs : List AV) (q : Yc) (v : AV) (s1 : Obs) (n1 : Nat) (W : List Nat) : evalV C.U ρ (rdk s) o = none → evalE C.U ρ s nx o = none → callee ρ o = none → yieldee ρ o = some (id, args) → look s id = some (.box t cs) → C.Y t = some q →
      q.run args id t cs s nx (fun v s1 n1 W => some (v, s1, n1, W)) = some (v, s1, n1, W) → Did C o ρ s nx v s1 n1 (.wr W)

inductive Done (C : Ctx) (ops : Array Oper) (o : Oper) (ρ : Operand → Option AV) (s : Obs) (nx : Nat) : AV → Obs → Nat → Lg → Prop where
  | run (v : AV) (s1 : Obs) (n1 : Nat) (lg : Lg) : (∀ g want, o.guard = some (g, want) → ∃ t, guardTmp ops g = some t ∧ ρ (.tmp t) = some (.bool want)) → Did C o.op ρ s nx v s1 n1 lg → Done C ops o ρ s nx v s1 n1 lg
  | skip (g : Nat) (want : Bool) (t : Tmp) : o.guard = some (g, want) → guardTmp ops g = some t → ρ (.tmp t) = some (.bool (!want)) → Done C ops o ρ s nx (.tup []) s nx (.rd [])
  | skipu (g : Nat) (want : Bool) (t : Tmp) : o.guard = some (g, want) → guardTmp ops g = some t → ρ (.tmp t) = some (.tup []) → Done C ops o ρ s nx (.tup []) s nx (.rd [])

section
variable {P : Program} {B : Bs} {c : Cf} {w : World} {fr : Nat → Option Value} {a : Act} {C : Ctx}

theorem evOp_did {Ω : Type} {o : Op} {s : St} {K : AV → Obs → Nat → Lg → Option Ω} {out : Ω} (h : evOp C o s K = some out) :
    ∃ v s1 n1 lg, K v s1 n1 lg = some out ∧ Did C o (evO s.env) s.obs s.nx v s1 n1 lg := by
  unfold evOp at h
  split at h
  · rename_i v b hv
    cases b with
    | false => simp at h
    | true => exact ⟨v, _, _, _, by simpa using h, .quiet v hv⟩
  · rename_i hv
    split at h
    · rename_i v s1 n1 b he
      cases b with
      | false => simp at h
      | true => exact ⟨v, _, _, _, by simpa using h, .eff v s1 n1 hv he⟩
    · rename_i he
      split at h
      · rename_i f args hcal
        split at h
        · rename_i K' hK
          split at h
          · rename_i x hx
            unfold obind at h
            split at h
            · rename_i y hy
              have h := K'.spl_ok _ _ _ _ h
              split at h
              · rename_i v s1 n1 W hpost
                exact ⟨v, _, _, _, h, .call f args K' x y v s1 n1 W hv he hcal hK hx hy hpost⟩
              · cases h
            · cases h
          · cases h
        · cases h
      · rename_i hcal
        split at h
        · rename_i id args hy
          split at h
          · rename_i t cs hl
            split at h
            · rename_i q hq
              obtain ⟨v, s1, n1, W, h1, h2⟩ := q.nat _ _ _ _ _ _ _ _ h
              exact ⟨v, _, _, _, h2, .round id args t cs q v s1 n1 W hv he hcal hy hl hq h1⟩
            · cases h
          · cases h
        · cases h

theorem Did.ends [Sites] (hC : C.Ok P) {o : Oper} {ρ : Operand → Option AV} {s : Obs} {nx : Nat} {v : AV} {s1 : Obs} {n1 : Nat} {lg : Lg} (h : Did C o.op ρ s nx v s1 n1 lg)
    {Q : Exit → Act → World → Prop} (hR : Rel B c s w) (hM : Marks B.fl c w a.defers) (hρ : Ops.Ok c w ρ a.eval) : Ends P B c w a o Q v s1 := by
  intro next hn
  cases h with
  | quiet _ hv =>
    obtain ⟨u, hrun, hvr⟩ := evalV_ok (P := P) hC.U hv hρ hR.rdk
    refine wpIn_of (no_defer_v hv) ?_
    rw [hrun]
    exact hn c w u hR hM hvr (Ext.refl c w)
  | eff _ _ _ hv he =>
    obtain ⟨c', w', u, hrun, h1, h2, h3⟩ := evalE_ok (P := P) hC.U he hR.rebase hρ
    refine wpIn_of (no_defer_e he) ?_
    rcases hrun with hrun | ⟨hrun, rfl⟩
    · rw [hrun]; exact hn c' w' u (hR.trans h1) (hM.step hR h1) h2 h3
    · rw [hrun]; exact hn c' w' undef (hR.trans h1) (hM.step hR h1) h2 h3
  | call f args K x y _ _ _ W hv he hcal hK hx hy hpost =>
    have hc := hC.Γ f K hK
    obtain ⟨vals, hvals, hrun⟩ := callee_ok (P := P) hρ hcal
    refine wpIn_of (no_defer_c hcal) ?_
    rw [hrun, hc.enters, Oper.uponIn_enter]
    refine ⟨fun h => (by cases h), callsIn_WF ((hc.runs args s nx x y v s1 n1 W hx hy hpost (here B c s w) c w vals hR.rebase hvals).mono ?_)⟩
    rintro e' w' ⟨c', u, rfl, h1, h2, h3⟩
    exact hn c' w' u (hR.trans h1) (hM.step hR h1) h2 h3
  | round id args t cs q _ _ _ W hv he hcal hy hl hq h1 =>
    obtain ⟨vals, b, hvals, hnm, hrun⟩ := yieldee_ok (P := P) hρ hy
    obtain ⟨r, hr, hsz, hround⟩ := (hC.Y t q hq).runs args id cs s nx v s1 n1 W h1 hl (here B c s w) c w vals b hR.rebase hvals hnm
    refine wpIn_of (no_defer_y hy) ?_
    rw [hrun, run_yield hr (by simpa using hsz), Oper.uponIn_round]
    refine ⟨fun h => (by cases h), RoundIn.mono (hround : RoundIn (WF B.rd) 0 P b r.fn _ r.assign r.body w _) ?_⟩
    rintro e' w' ⟨c', u, rfl, h1, h2, h3⟩
    exact hn c' w' u (hR.trans h1) (hM.step hR h1) h2 h3

theorem Done.goes [Sites] (hC : C.Ok P) {ops : Array Oper} {o : Oper} {ρ : Operand → Option AV} {s : Obs} {nx : Nat} {v : AV} {s1 : Obs} {n1 : Nat} {lg : Lg} (h : Done C ops o ρ s nx v s1 n1 lg)
    {Q : Exit → Act → World → Prop} (hR : Rel B c s w) (hM : Marks B.fl c w a.defers) (hρ : Ops.Ok c w ρ a.eval) {next : Act → World → Prop} (hn : ∀ c' w' u, Rel B c' s1 w' → Marks B.fl c' w' a.defers → VR c' w' v u → Ext c w c' w' → next (a.put o.dst u) w') :
    (if Region.wanted o (yielded ops a.tmps) then o.wpIn (WF B.rd) 0 P a w next Q else (∀ f, o.about P w a.eval = some f → (WF B.rd).fn f) ∧ next (a.put o.dst undef) w) := by
  have hy : ∀ g t b, guardTmp ops g = some t → ρ (.tmp t) = some (.bool b) → yielded ops a.tmps g = some b := by
    intro g t b ht hb
    have hv := hρ _ _ hb
    simp only [VR, Act.eval] at hv
    unfold guardTmp at ht
    unfold yielded
    rw [ht]
    have : a.tmps[t]? = some (.bool b) := by
      cases ha : a.tmps[t]? with
      | none => simp [ha] at hv; exact absurd hv (by simp [undef])
      | some z => simp [ha] at hv; rw [hv]
    simp [this]
  cases h with
  | run _ _ _ _ hg hd =>
    have hw : Region.wanted o (yielded ops a.tmps) = true := by
      cases hgd : o.guard with
      | none => exact wanted_none hgd _
      | some gw =>
        obtain ⟨g, want⟩ := gw
        obtain ⟨t, ht, hb⟩ := hg g want hgd
        simp [Region.wanted, hgd, hy g t want ht hb]
    rw [if_pos hw]
    exact hd.ends hC hR hM hρ next hn
  | skip g want t hgd ht hb =>
    have := hy g t _ ht hb
    rw [if_neg (by simp [Region.wanted, hgd, this])]
    exact ⟨fun _ _ => trivial, hn c w _ hR hM undef_VR (Ext.refl c w)⟩
  | skipu g want t hgd ht hb =>
    have hv := VR_undef (hρ _ _ hb)
    have hy : yielded ops a.tmps g = none := by
      simp only [Act.eval] at hv
      unfold guardTmp at ht
      unfold yielded
      rw [ht]
      cases ha : a.tmps[t]? with
      | none => simp [ha]
      | some z => simp [ha] at hv; simp [ha, hv, undef]
    rw [if_neg (by simp [Region.wanted, hgd, hy])]
    exact ⟨fun _ _ => trivial, hn c w _ hR hM undef_VR (Ext.refl c w)⟩

structure Along (C : Ctx) (ops : Array Oper) (i : Nat) (o : Oper) (s s1 : St) (v : AV) (lg : Lg) : Prop where
  may : mayDst C o.dst = true
  done : Done C ops o (evO s.env) s.obs s.nx v s1.obs s1.nx lg
  env : ∀ k, look s1.env k = if o.dst = some k then some v else look s.env k

theorem look_setT (env : Env) (d : Option Tmp) (v : AV) (k : Nat) : look (setT env d v) k = if d = some k then some v else look env k := by
  cases d with
  | none => simp [setT]
  | some t => simp only [setT, look_put, Option.some.injEq]

theorem look_same {env : Env} {t : Nat} {x : AV} (h : look env t = some x) (k : Nat) : look (put env t x) k = look env k := by
  rw [look_put]
  split
  · rename_i e; rw [← e, h]
  · rfl

theorem evO_same {env env' : Env} (h : ∀ k, look env k = look env' k) : evO env = evO env' := by
  funext o
  cases o <;> simp [evO, h]

theorem evGuard_along [Sites] {Ω : Type} {ops : Array Oper} {o : Oper} {i : Nat} {s : St} {K : St → Lg → Option Ω} {out : Ω} (h : evGuard C ops o s K = some out) :
    ∃ s1 v lg, K s1 lg = some out ∧ Along C ops i o s s1 v lg := by
  unfold evGuard at h
  split at h
  · rename_i hm
    split at h
    · rename_i hg
      obtain ⟨v, s1, n1, lg, hk, hd⟩ := evOp_did h
      exact ⟨_, v, lg, hk, hm, .run v s1 n1 lg (fun g want hgw => by rw [hg] at hgw; cases hgw) hd, fun k => look_setT _ _ _ _⟩
    · rename_i g want hg
      split at h
      · rename_i t ht
        split at h
        · rename_i b hb
          have he : evO (put s.env t (.bool b)) = evO s.env := evO_same (look_same hb)
          have hρ : evO s.env (.tmp t) = some (.bool b) := hb
          cases b with
          | true =>
            simp only [cond_true] at h
            cases want with
            | true =>
              obtain ⟨v, s1, n1, lg, hk, hd⟩ := evOp_did h
              simp only [he] at hd
              exact ⟨_, v, lg, hk, hm, .run v s1 n1 lg (fun g' want' hgw => by rw [hg] at hgw; cases hgw; exact ⟨t, ht, hρ⟩) hd, fun k => by rw [look_setT, look_same hb]⟩
            | false => exact ⟨_, .tup [], _, h, hm, .skip g false t hg ht hρ, fun k => by rw [look_setT, look_same hb]⟩
          | false =>
            simp only [cond_false] at h
            cases want with
            | false =>
              obtain ⟨v, s1, n1, lg, hk, hd⟩ := evOp_did h
              simp only [he] at hd
              exact ⟨_, v, lg, hk, hm, .run v s1 n1 lg (fun g' want' hgw => by rw [hg] at hgw; cases hgw; exact ⟨t, ht, hρ⟩) hd, fun k => by rw [look_setT, look_same hb]⟩
            | true => exact ⟨_, .tup [], _, h, hm, .skip g true t hg ht hρ, fun k => by rw [look_setT, look_same hb]⟩
        · rename_i hb
          exact ⟨_, .tup [], _, h, hm, .skipu g want t hg ht hb, fun k => look_setT _ _ _ _⟩
        · cases h
      · cases h
  · cases h

def Lg.isWr : Lg → Bool | .wr _ => true | _ => false
def apartL : List Nat → List Nat → Bool
  | [], _ => true
  | i :: r, l => !l.any (Nat.beq i) && apartL r l
def Lg.free : Lg → Lg → Bool
  | .rd _, .rd _ => true
  | .rd a, .wr b => apartL a b
  | .wr a, .rd b => apartL b a
  | .wr _, .wr _ => false

theorem apartL_mem {a b : List Nat} (h : apartL a b = true) {i : Nat} (ha : i ∈ a) (hb : i ∈ b) : False := by
  induction a with
  | nil => cases ha
  | cons x r ih =>
    simp only [apartL, Bool.and_eq_true, Bool.not_eq_true', List.any_eq_false] at h
    rcases List.mem_cons.1 ha with rfl | ha
    · exact absurd (Nat.beq_refl i) (by simpa using h.1 i hb)
    · exact ih h.2 ha

def waits (bs : Array Nat) (i j : Nat) : Bool := (bs.getD i 0).testBit j

def tmpsOf (ops : Array Oper) (o : Oper) : List Tmp :=
  (o.op.operands.toList.filterMap fun | .tmp t => some t | _ => none) ++ (match o.guard with | some (g, _) => (guardTmp ops g).toList | none => [])

def isDst (o : Oper) (t : Tmp) : Bool := match o.dst with | some d => Nat.beq d t | none => false

def mkOf (U : TEnv) (o : Oper) : Option TypeId :=
  match o.guard, o.op with
  | none, .alloc t => match (U t).k with
    | .array _ _ => none
    | _ => some t
  | _, _ => none
def isMk (U : TEnv) (ops : Array Oper) (i : Nat) : Bool := match ops[i]? with | some o => (mkOf U o).isSome | none => false
def looksAt (ops : Array Oper) (i k : Nat) : Bool := match ops[i]?, ops[k]? with | some x, some y => (tmpsOf ops x).any (isDst y) | _, _ => true
def lateIn (bs : Array Nat) (k : Nat) (r : List (Nat × Lg)) : Bool := r.any fun p => p.2.isWr && !waits bs k p.1
def allWait (bs : Array Nat) (i : Nat) (r : List (Nat × Lg)) : Bool := r.all fun p => !p.2.isWr || waits bs i p.1

def logOk (U : TEnv) (ops : Array Oper) (bs : Array Nat) (i : Nat) (lg : Lg) : List (Nat × Lg) → Bool
  | [] => true
  | (j, l) :: r => (((waits bs i j || l.free lg) || (isMk U ops i && l.isWr)) && (!(isMk U ops j && lateIn bs j r) || (((l.free lg || isMk U ops i) && !looksAt ops i j) || (waits bs i j && allWait bs i r)))) && logOk U ops bs i lg r

def evLog {Ω : Type} (C : Ctx) (ops : Array Oper) (bs : Array Nat) : List Oper → Nat → List (Nat × Lg) → St → (St → Option Ω) → Option Ω
  | [], _, _, s, K => K s
  | o :: r, i, log, s, K => evGuard C ops o s fun s1 lg => match logOk C.U ops bs i lg log with
    | true => evLog C ops bs r (i + 1) ((i, lg) :: log) s1 K
    | false => none

def pairOk (ops : Array Oper) (bs : Array Nat) (i j : Nat) : Bool :=
  match ops[i]?, ops[j]? with
  | some x, some y => (waits bs i j || waits bs j i) || (!(tmpsOf ops x).any (isDst y) && (!(tmpsOf ops y).any (isDst x) && !(match x.dst with | some d => isDst y d | none => false)))
  | _, _ => true
def dstsOk (ops : Array Oper) (i j : Nat) : Bool :=
  match ops[i]?, ops[j]? with
  | some x, some y => !(match x.dst with | some d => isDst y d | none => false)
  | _, _ => true
def allBelow (n : Nat) (p : Nat → Bool) : Bool := Nat.rec true (fun k r => p k && r) n
def edgesOk (ops : Array Oper) (i : Nat) : Bool := match ops[i]? with | some o => o.after.all fun e => !Region.binds .any e || Nat.blt e.on i | none => true
def drawOk (ops : Array Oper) (bs : Array Nat) : Bool :=
  allBelow ops.size fun i => edgesOk ops i && allBelow i fun j => pairOk ops bs i j && dstsOk ops i j

theorem allBelow_get {n : Nat} {p : Nat → Bool} (h : allBelow n p = true) {k : Nat} (hk : k < n) : p k = true := by
  induction n with
  | zero => omega
  | succ n ih =>
    have h' : (p n && allBelow n p) = true := h
    simp only [Bool.and_eq_true] at h'
    rcases Nat.lt_succ_iff_lt_or_eq.1 hk with hk | rfl
    · exact ih h'.2 hk
    · exact h'.1
end
end Go.Hay
/- Statements whose order is open, second part: the law. -/
set_option linter.unusedVariables false
set_option linter.unusedSimpArgs false
namespace Go.Hay
open Go.RowKit
section
variable {P : Program} {B : Bs} {c : Cf} {w : World} {fr : Nat → Option Value} {a : Act} {C : Ctx}

theorem foldl_push {α β : Type} (g : Array β → α → β) : ∀ (l : List α) (acc : Array β) (i : Nat), i < acc.size + l.length → acc.size ≤ i → ∀ o, l[i - acc.size]? = some o →
    (l.foldl (fun acc o => acc.push (g acc o)) acc)[i]? = some (g ((l.foldl (fun acc o => acc.push (g acc o)) acc).extract 0 i) o)
  | [], acc, i, h1, h2, o, ho => by simp at ho
  | x :: l, acc, i, h1, h2, o, ho => by
    have hpre : ∀ (l : List α) (acc : Array β) (k : Nat), k ≤ acc.size → (l.foldl (fun acc o => acc.push (g acc o)) acc).extract 0 k = acc.extract 0 k ∧ acc.size ≤ (l.foldl (fun acc o => acc.push (g acc o)) acc).size ∧ (∀ q, q < acc.size → (l.foldl (fun acc o => acc.push (g acc o)) acc)[q]? = acc[q]?) := by
      intro l
      induction l with
      | nil => intro acc k hk; simp
      | cons y l ih =>
        intro acc k hk
        obtain ⟨h1, h2, h3⟩ := ih (acc.push (g acc y)) k (by simp; omega)
        simp only [List.foldl_cons]
        refine ⟨?_, by simp at h2; omega, fun q hq => ?_⟩
        · rw [h1]
          apply Array.ext
          · simp; omega
          · intro i hi1 hi2
            simp only [Array.size_extract, Nat.sub_zero] at hi1 hi2
            simp only [Array.getElem_extract, Nat.zero_add]
            rw [Array.getElem_push_lt (by omega)]
        · rw [h3 q (by simp; omega), Array.getElem?_push_lt hq]
          simp [hq]
    simp only [List.foldl_cons]
    by_cases hi : i = acc.size
    · subst hi
      simp only [Nat.sub_self, List.getElem?_cons_zero, Option.some.injEq] at ho
      subst ho
      obtain ⟨h3, _, h4⟩ := hpre l (acc.push (g acc x)) acc.size (by simp)
      rw [h3, h4 acc.size (by simp)]
      have : (acc.push (g acc x)).extract 0 acc.size = acc := by
        apply Array.ext
        · simp
        · intro i hi1 hi2
          simp [Array.getElem_push, hi2]
      rw [this]
      simp
    · refine foldl_push g l (acc.push (g acc x)) i (by simp at h1 ⊢; omega) (by simp; omega) o ?_
      simp only [Array.size_push]
      have : i - acc.size = (i - (acc.size + 1)) + 1 := by omega
      rw [this, List.getElem?_cons_succ] at ho
      exact ho

theorem testBit_fold (acc : Array Nat) (j : Nat) : ∀ (l : List Edge) (s : Nat), (l.foldl (fun s e => if Region.binds .any e then s ||| 2 ^ e.on ||| acc.getD e.on 0 else s) s).testBit j = true →
    s.testBit j = true ∨ ∃ e ∈ l, Region.binds .any e = true ∧ (e.on = j ∨ (acc.getD e.on 0).testBit j = true)
  | [], s, h => .inl h
  | e :: l, s, h => by
    simp only [List.foldl_cons] at h
    rcases testBit_fold acc j l _ h with h1 | ⟨e', he', hb, h1⟩
    · by_cases hb : Region.binds .any e = true
      · simp only [hb, if_true, Nat.testBit_or, Bool.or_eq_true] at h1
        rcases h1 with (h1 | h1) | h1
        · exact .inl h1
        · right
          refine ⟨e, by simp, hb, .inl ?_⟩
          rw [Nat.testBit_two_pow] at h1
          simpa using h1
        · exact .inr ⟨e, by simp, hb, .inr h1⟩
      · simp only [hb, if_false] at h1
        exact .inl h1
    · exact .inr ⟨e', List.mem_cons_of_mem _ he', hb, h1⟩

theorem before_size (ops : Array Oper) : (Region.before ops).size = ops.size := by
  unfold Region.before
  rw [← Array.foldl_toList]
  have : ∀ (l : List Oper) (acc : Array Nat), (l.foldl (fun acc o => acc.push (o.after.foldl (fun s e => if Region.binds .any e then s ||| 2 ^ e.on ||| acc.getD e.on 0 else s) 0)) acc).size = acc.size + l.length := by
    intro l
    induction l with
    | nil => intro acc; simp
    | cons x l ih => intro acc; simp only [List.foldl_cons]; rw [ih]; simp; omega
  rw [this]
  simp

theorem waits_spec [Sites] {ops : Array Oper} {i j : Nat} {o : Oper} (ho : ops[i]? = some o) (hedge : edgesOk ops i = true) (h : waits (Region.before ops) i j = true) :
    ∃ e ∈ o.after.toList, Region.binds .any e = true ∧ e.on < i ∧ (e.on = j ∨ waits (Region.before ops) e.on j = true) := by
  have hi : i < ops.size := (Array.getElem?_eq_some_iff.1 ho).1
  let g : Array Nat → Oper → Nat := fun acc o => o.after.foldl (fun s e => if Region.binds .any e then s ||| 2 ^ e.on ||| acc.getD e.on 0 else s) 0
  have hb : Region.before ops = ops.toList.foldl (fun acc o => acc.push (g acc o)) #[] := by
    unfold Region.before
    rw [← Array.foldl_toList]
  have h1 := foldl_push g ops.toList #[] i (by simpa using hi) (by simp) o (by simpa using ho)
  rw [← hb] at h1
  unfold waits at h
  have h2 : (Region.before ops).getD i 0 = g ((Region.before ops).extract 0 i) o := by
    rw [Array.getD_eq_getD_getElem?, h1]; rfl
  rw [h2] at h
  simp only [g] at h
  rw [← Array.foldl_toList] at h
  rcases testBit_fold _ j o.after.toList 0 h with h3 | ⟨e, he, hbd, h3⟩
  · simp at h3
  · simp only [edgesOk, ho] at hedge
    have hlt : e.on < i := by
      have := Array.all_eq_true'.1 hedge e (Array.mem_toList_iff.1 he)
      simp only [hbd, Bool.not_true, Bool.false_or, Nat.blt_eq] at this
      exact this
    refine ⟨e, he, hbd, hlt, h3.imp id fun h4 => ?_⟩
    unfold waits
    have : ((Region.before ops).extract 0 i).getD e.on 0 = (Region.before ops).getD e.on 0 := by
      have hsz := before_size ops
      rw [Array.getD_eq_getD_getElem?, Array.getD_eq_getD_getElem?, Array.getElem?_extract, if_pos (by omega), Nat.zero_add]
    rw [← this]
    exact h4

theorem waits_lt [Sites] {ops : Array Oper} (hd : drawOk ops (Region.before ops) = true) : ∀ (i j : Nat), waits (Region.before ops) i j = true → j < i := by
  intro i
  induction i using Nat.strongRecOn with
  | _ i ih =>
    intro j h
    cases ho : ops[i]? with
    | none =>
      have hi : ops.size ≤ i := by simpa using ho
      unfold waits at h
      have : (Region.before ops).getD i 0 = 0 := by
        have hsz := before_size ops
        rw [Array.getD_eq_getD_getElem?, Array.getElem?_eq_none (by omega)]; rfl
      rw [this] at h
      simp at h
    | some o =>
      have hi : i < ops.size := (Array.getElem?_eq_some_iff.1 ho).1
      have hall := allBelow_get hd hi
      simp only [Bool.and_eq_true] at hall
      obtain ⟨e, _, _, hlt, h1⟩ := waits_spec ho hall.1 h
      rcases h1 with rfl | h1
      · exact hlt
      · have := ih e.on hlt j h1
        omega

def mkLog (L : Nat → Lg) : Nat → List (Nat × Lg)
  | 0 => []
  | n + 1 => (n, L n) :: mkLog L n
theorem mkLog_congr {L L' : Nat → Lg} : ∀ {n : Nat}, (∀ k, k < n → L k = L' k) → mkLog L n = mkLog L' n
  | 0, _ => rfl
  | n + 1, h => by simp only [mkLog]; rw [h n (Nat.lt_succ_self n), mkLog_congr fun k hk => h k (by omega)]
theorem mkLog_mem {L : Nat → Lg} : ∀ {n : Nat} {p : Nat × Lg}, p ∈ mkLog L n ↔ p.1 < n ∧ p.2 = L p.1
  | 0, p => by simp [mkLog]
  | n + 1, p => by
    simp only [mkLog, List.mem_cons, mkLog_mem]
    constructor
    · rintro (rfl | ⟨h1, h2⟩)
      · exact ⟨Nat.lt_succ_self n, rfl⟩
      · exact ⟨by omega, h2⟩
    · rintro ⟨h1, h2⟩
      by_cases e : p.1 = n
      · left; rw [← e, ← h2]
      · exact .inr ⟨by omega, h2⟩
def Late (bs : Array Nat) (L : Nat → Lg) (k : Nat) : Prop := ∃ j, j < k ∧ (L j).isWr = true ∧ waits bs k j = false
theorem lateIn_iff {bs : Array Nat} {L : Nat → Lg} {k : Nat} : lateIn bs k (mkLog L k) = true ↔ Late bs L k := by
  unfold lateIn Late
  rw [List.any_eq_true]
  constructor
  · rintro ⟨p, h1, h2⟩
    obtain ⟨h3, h4⟩ := mkLog_mem.1 h1
    simp only [Bool.and_eq_true, Bool.not_eq_true'] at h2
    exact ⟨p.1, h3, by rw [← h4]; exact h2.1, h2.2⟩
  · rintro ⟨j, h1, h2, h3⟩
    exact ⟨(j, L j), mkLog_mem.2 ⟨h1, rfl⟩, by simp [h2, h3]⟩
theorem allWait_ok {bs : Array Nat} {L : Nat → Lg} {i k : Nat} (h : allWait bs i (mkLog L k) = true) {j : Nat} (hj : j < k) (hw : (L j).isWr = true) : waits bs i j = true := by
  unfold allWait at h
  have := List.all_eq_true.1 h (j, L j) (mkLog_mem.2 ⟨hj, rfl⟩)
  simpa [hw] using this

structure Run (C : Ctx) (ops : Array Oper) (S : Nat → St) (V : Nat → AV) (L : Nat → Lg) : Prop where
  step : ∀ i (o : Oper), ops[i]? = some o → Along C ops i o (S i) (S (i + 1)) (V i) (L i)
  log : ∀ i j, i < ops.size → j < i → waits (Region.before ops) i j = true ∨ (L j).free (L i) = true ∨ (isMk C.U ops i = true ∧ (L j).isWr = true)
  late : ∀ i k, i < ops.size → k < i → isMk C.U ops k = true → Late (Region.before ops) L k → (((L k).free (L i) = true ∨ isMk C.U ops i = true) ∧ looksAt ops i k = false) ∨ (waits (Region.before ops) i k = true ∧ ∀ j, j < k → (L j).isWr = true → waits (Region.before ops) i j = true)

theorem logOk_at {U : TEnv} {ops : Array Oper} {bs : Array Nat} {i : Nat} {lg : Lg} {L : Nat → Lg} : ∀ {n : Nat}, logOk U ops bs i lg (mkLog L n) = true → ∀ j, j < n →
    (waits bs i j = true ∨ (L j).free lg = true ∨ (isMk U ops i = true ∧ (L j).isWr = true)) ∧
    (isMk U ops j = true → Late bs L j → (((L j).free lg = true ∨ isMk U ops i = true) ∧ looksAt ops i j = false) ∨ (waits bs i j = true ∧ ∀ k, k < j → (L k).isWr = true → waits bs i k = true))
  | 0, _, j, hj => by omega
  | n + 1, h, j, hj => by
    simp only [mkLog, logOk, Bool.and_eq_true] at h
    by_cases e : j = n
    · subst e
      obtain ⟨⟨h1, h2⟩, _⟩ := h
      constructor
      · simp only [Bool.or_eq_true, Bool.and_eq_true] at h1
        rcases h1 with (h1 | h1) | h1
        · exact .inl h1
        · exact .inr (.inl h1)
        · exact .inr (.inr h1)
      · intro hm hl
        rw [hm, lateIn_iff.2 hl] at h2
        simp only [Bool.and_self, Bool.not_true, Bool.false_or, Bool.or_eq_true, Bool.and_eq_true, Bool.not_eq_true'] at h2
        rcases h2 with h2 | h2
        · exact .inl h2
        · exact .inr ⟨h2.1, fun k hk hw => allWait_ok h2.2 hk hw⟩
    · exact logOk_at h.2 j (by omega)

theorem evLog_run [Sites] {Ω : Type} {ops : Array Oper} {bs : Array Nat} {K : St → Option Ω} {out : Ω} : ∀ (m n : Nat) (L0 : Nat → Lg) (s : St), ops.size - n = m → n ≤ ops.size → evLog C ops bs (ops.toList.drop n) n (mkLog L0 n) s K = some out →
    ∃ (S : Nat → St) (V : Nat → AV) (L : Nat → Lg), (∀ k, k < n → L k = L0 k) ∧ S n = s ∧ K (S ops.size) = some out ∧ (∀ i (o : Oper), n ≤ i → ops[i]? = some o → Along C ops i o (S i) (S (i + 1)) (V i) (L i)) ∧
      (∀ i, n ≤ i → i < ops.size → logOk C.U ops bs i (L i) (mkLog L i) = true)
  | 0, n, L0, s, hm, hn, h => by
    have e1 : n = ops.size := by omega
    subst e1
    rw [List.drop_of_length_le (by simp)] at h
    simp only [evLog] at h
    refine ⟨fun _ => s, fun _ => .junk, L0, fun _ _ => rfl, rfl, h, fun i o hi ho => ?_, fun i hi hi' => by omega⟩
    have := (Array.getElem?_eq_some_iff.1 ho).1
    omega
  | m + 1, n, L0, s, hm, hn, h => by
    have hlt : n < ops.size := by omega
    rw [List.drop_eq_getElem_cons (by simpa using hlt)] at h
    simp only [evLog, Array.getElem_toList] at h
    obtain ⟨s1, v, lg, hk, hal⟩ := evGuard_along (i := n) h
    cases hlo : logOk C.U ops bs n lg (mkLog L0 n) with
    | false => simp [hlo] at hk
    | true =>
      simp only [hlo] at hk
      have hL : (n, lg) :: mkLog L0 n = mkLog (fun k => if k = n then lg else L0 k) (n + 1) := by
        simp only [mkLog, if_true]
        rw [mkLog_congr (L := L0) (L' := fun k => if k = n then lg else L0 k) fun k hk => by rw [if_neg (by omega)]]
      rw [hL] at hk
      obtain ⟨S, V, L, h0, h1, h2, h3, h4⟩ := evLog_run m (n + 1) _ s1 (by omega) (by omega) hk
      have hLn : L n = lg := by rw [h0 n (Nat.lt_succ_self n), if_pos rfl]
      have hLlt : ∀ k, k < n → L k = L0 k := fun k hk => by rw [h0 k (by omega), if_neg (by omega)]
      have hKn : K ((fun k => if k = n then s else S k) ops.size) = some out := by
        simp only [if_neg (show ¬ ops.size = n by omega)]; exact h2
      refine ⟨fun k => if k = n then s else S k, fun k => if k = n then v else V k, L, hLlt, by simp, hKn, fun i o hi ho => ?_, fun i hi hi' => ?_⟩
      · by_cases e : i = n
        · subst e
          rw [Array.getElem?_eq_getElem hlt] at ho
          simp only [Option.some.injEq] at ho
          subst ho
          simpa [h1, hLn] using hal
        · have e2 : ¬ i + 1 = n := by omega
          simpa [e, e2] using h3 i o (by omega) ho
      · by_cases e : i = n
        · subst e
          rw [hLn, mkLog_congr hLlt]
          exact hlo
        · exact h4 i (by omega) hi'
end
end Go.Hay
/- Statements whose order is open, third part: what operations look at and write; the law. -/
set_option linter.unusedVariables false
set_option linter.unusedSimpArgs false
namespace Go.Hay
open Go.RowKit
section
variable {P : Program} {B : Bs} {c : Cf} {w : World} {fr : Nat → Option Value} {a : Act} {C : Ctx} {U : TEnv}

theorem frz1_look {s : Obs} {x : AV} {i : Nat} (h : i ∉ x.ids) : look (frz1 s x) i = look s i := by
  unfold frz1
  split
  · rename_i id
    split
    · rw [look_put, if_neg (fun e => h (by simp [AV.ids, e]))]
    · rfl
  · rename_i id _ _ _
    split
    · rw [look_put, if_neg (fun e => h (by simp [AV.ids, e]))]
    · rfl
  · rfl
theorem frz_look [Sites] {i : Nat} : ∀ {xs : List AV} {s : Obs}, (∀ x ∈ xs, i ∉ x.ids) → look (frz s xs) i = look s i
  | [], s, h => rfl
  | x :: xs, s, h => by
    simp only [frz]
    rw [frz_look fun y hy => h y (List.mem_cons_of_mem _ hy), frz1_look (h x (by simp))]

theorem const_ids (v : Value) : (constAV v).ids = [] := by
  unfold constAV
  split <;> try rfl
  · cases fits _ _ <;> rfl
  · rename_i s; cases Nat.ble s.data.toList.length 1000000 <;> rfl

theorem fillIn_mem {place : Nat → Option (Nat × Nat)} : ∀ (parts : List (Nat × Option AV)) (cs out : List AV), fillIn place cs parts = some out → ∀ x ∈ out, x ∈ cs ∨ ∃ i v, (i, some v) ∈ parts ∧ x ∈ v.cells
  | [], cs, out, h, x, hx => by
    simp only [fillIn, Option.some.injEq] at h
    subst h
    exact .inl hx
  | (i, y) :: r, cs, out, h, x, hx => by
    unfold fillIn at h
    split at h
    · rename_i off size v hp
      split at h
      · rcases fillIn_mem r _ out h x hx with h1 | ⟨j, u, h1, h2⟩
        · simp only [List.mem_append] at h1
          rcases h1 with (h1 | h1) | h1
          · exact .inl (List.mem_of_mem_take h1)
          · exact .inr ⟨i, v, by simp, h1⟩
          · exact .inl (List.mem_of_mem_drop h1)
        · exact .inr ⟨j, u, List.mem_cons_of_mem _ h1, h2⟩
      · cases h
    · cases h

theorem cells_ids {v x : AV} {i : Nat} (hx : x ∈ v.cells) (hi : i ∈ x.ids) : i ∈ idsDeep v := by
  cases v with
  | agg cs => simp only [idsDeep, List.mem_flatMap]; exact ⟨x, by simpa [AV.cells] using hx, hi⟩
  | _ => simp only [AV.cells, List.mem_singleton] at hx; subst hx; simpa [idsDeep] using hi

theorem wr_mem {ρ : Operand → Option AV} {nx : Nat} {o : Op} {x : Operand} (hx : x ∈ o.operands) {v : AV} (hv : ρ x = some v) {i : Nat} (hi : i ∈ idsDeep v) : i ∈ wrE ρ nx o := by
  unfold wrE
  refine List.mem_cons_of_mem _ (List.mem_flatMap.2 ⟨x, Array.mem_toList_iff.2 hx, ?_⟩)
  simp only [hv]
  exact hi

theorem newBox_look {s : Obs} {nx : Nat} {t : TypeId} {cs : List AV} {v : AV} {s1 : Obs} {n1 : Nat} {b : Bool} (h : newBox s nx t cs = some (v, s1, n1, b)) {i : Nat} (hi : i ≠ nx) : look s1 i = look s i := by
  unfold newBox at h
  split at h
  · simp only [Option.some.injEq, Prod.mk.injEq] at h
    rw [← h.2.1, look_put, if_neg (fun e => hi e.symm)]
  · cases h

theorem eList_look {s : Obs} {nx sz len : Nat} {cs : List AV} {v : AV} {s1 : Obs} {n1 : Nat} {b : Bool} (h : eList s nx sz len cs = some (v, s1, n1, b)) {i : Nat} (hi : i ≠ nx) : look s1 i = look s i := by
  unfold eList at h
  split at h
  · simp only [Option.some.injEq, Prod.mk.injEq] at h
    rw [← h.2.1, look_put, if_neg (fun e => hi e.symm)]
  · cases h
theorem evalE_look [Sites] {ρ : Operand → Option AV} {s : Obs} {nx : Nat} {o : Op} {v : AV} {s1 : Obs} {n1 : Nat} {b : Bool} (h : evalE U ρ s nx o = some (v, s1, n1, b)) {i : Nat} (hi : i ∉ wrE ρ nx o) : look s1 i = look s i := by
  have hnx : i ≠ nx := fun e => hi (by rw [e]; unfold wrE; simp)
  have hop : ∀ x ∈ o.operands, ∀ u, ρ x = some u → i ∉ idsDeep u := fun x hx u hu hm => hi (wr_mem hx hu hm)
  unfold evalE at h
  split at h
  · unfold eAlloc at h
    split at h
    · split at h
      · split at h
        · split at h
          · simp only [Option.some.injEq, Prod.mk.injEq] at h
            rw [← h.2.1, look_put, if_neg (fun e => hnx e.symm)]
          · cases h
        · cases h
      · exact newBox_look h hnx
    · cases h
  · unfold eBox at h
    split at h
    · exact newBox_look h hnx
    · cases h
  · rename_i t len parts
    unfold eBuildSlice at h
    split at h
    · split at h
      · split at h
        · rename_i cs hf
          split at h
          · split at h
            · simp only [Option.some.injEq, Prod.mk.injEq] at h
              rw [← h.2.1, look_put, if_neg (fun e => hnx e.symm)]
              refine frz_look fun x hx => ?_
              rcases fillIn_mem _ _ _ hf x hx with h1 | ⟨j, u, h1, h2⟩
              · simp only [List.mem_flatten, List.mem_replicate] at h1
                obtain ⟨l, ⟨_, rfl⟩, h1⟩ := h1
                simp only [atoms, List.mem_map] at h1
                obtain ⟨z, _, rfl⟩ := h1
                rw [const_ids]
                simp
              · unfold evParts at h1
                obtain ⟨p, hp, he⟩ := List.mem_map.1 h1
                simp only [Prod.mk.injEq] at he
                intro hix
                exact hop p.2 (by simp only [Op.operands, List.mem_toArray, List.mem_map]; exact ⟨p, hp, rfl⟩) u he.2 (cells_ids h2 hix)
            · cases h
          · exact eList_look h hnx
        · cases h
      · split at h
        · exact eList_look h hnx
        · cases h
      · cases h
    · cases h
  · rename_i t x y
    have hx := hop x (by simp [Op.operands])
    have hy := hop y (by simp [Op.operands])
    unfold eStore at h
    split at h
    · rename_i i0 j v' _ hxx hyy
      split at h
      · split at h
        · simp only [Option.some.injEq, Prod.mk.injEq] at h
          rw [← h.2.1, look_put, if_neg (fun e => hx _ hxx (by simp [idsDeep, AV.ids, e]))]
        · cases h
      · cases h
    · rename_i id sz i0 j v' _ hxx hyy
      split at h
      · split at h
        · split at h
          · simp only [Option.some.injEq, Prod.mk.injEq] at h
            rw [← h.2.1, look_put, if_neg (fun e => hx _ hxx (by simp [idsDeep, AV.ids, e]))]
            exact frz_look fun z hz hiz => hy _ hyy (cells_ids hz hiz)
          · cases h
        · cases h
      · cases h
    · cases h
  · rename_i src dst x
    have hx := hop x (by simp [Op.operands])
    unfold eConv at h
    split at h
    · unfold eBytes at h
      split at h
      · split at h
        · split at h
          · simp only [Option.some.injEq, Prod.mk.injEq] at h
            rw [← h.2.1, look_put, if_neg (fun e => hnx e.symm)]
          · cases h
        · cases h
      · cases h
    · unfold eMark at h
      split at h
      · split at h
        · rename_i id _ hxx
          split at h
          · split at h
            · simp only [Option.some.injEq, Prod.mk.injEq] at h
              rw [← h.2.1, look_put, if_neg (fun e => hx _ hxx (by simp [idsDeep, AV.ids, e]))]
            · cases h
          · cases h
        · cases h
      · cases h
  · unfold eMake at h
    split at h
    · split at h
      · split at h
        · simp only [Option.some.injEq, Prod.mk.injEq] at h
          rw [← h.2.1, look_put, if_neg (fun e => hnx e.symm)]
        · cases h
      · cases h
    · cases h
  · unfold eMakeMap at h
    split at h
    · split at h
      · split at h
        · simp only [Option.some.injEq, Prod.mk.injEq] at h
          rw [← h.2.1, look_put, if_neg (fun e => hnx e.symm)]
        · cases h
      · cases h
    · cases h
  · rename_i t m k y
    have hx := hop m (by simp [Op.operands])
    have hy := hop y (by simp [Op.operands])
    unfold eMapUpdate at h
    split at h
    · split at h
      · rename_i id key v' _ hxx _ hyy
        split at h
        · split at h
          · split at h
            · simp only [Option.some.injEq, Prod.mk.injEq] at h
              rw [← h.2.1, look_put, if_neg (fun e => hx _ hxx (by simp [idsDeep, AV.ids, e]))]
              exact frz_look fun z hz hiz => hy _ hyy (cells_ids hz hiz)
            · cases h
          · cases h
        · cases h
      · cases h
    · cases h
  · rename_i args ts
    split at h
    · rename_i m k t tr ha ht
      have hx := hop m (by simp only [Op.operands, Call.operands, Array.mem_append]; right; rw [← Array.mem_toList_iff, ha]; simp)
      unfold eDelete at h
      split at h
      · split at h
        · rename_i id key _ hxx _
          split at h
          · simp only [Option.some.injEq, Prod.mk.injEq] at h
            rw [← h.2.1, look_put, if_neg (fun e => hx _ hxx (by simp [idsDeep, AV.ids, e]))]
          · cases h
        · cases h
      · cases h
    · cases h
  · rename_i args ts
    split at h
    · rename_i x y t t' ha ht
      have hx := hop x (by simp only [Op.operands, Call.operands, Array.mem_append]; right; rw [← Array.mem_toList_iff, ha]; simp)
      split at h
      · rename_i r hr
        simp only [Option.some.injEq] at h
        subst h
        have h := hr
        unfold eAppend at h
        split at h
        · split at h
          · split at h
            · rename_i id hxx
              split at h
              · split at h
                · split at h
                  · simp only [Option.some.injEq, Prod.mk.injEq] at h
                    rw [← h.2.1, look_put, if_neg (fun e => hnx e.symm), look_put, if_neg (fun e => hx _ hxx (by simp [idsDeep, AV.ids, e]))]
                  · cases h
                · cases h
              · cases h
            · split at h
              · split at h
                · split at h
                  · simp only [Option.some.injEq, Prod.mk.injEq] at h
                    rw [← h.2.1, look_put, if_neg (fun e => hnx e.symm)]
                  · cases h
                · cases h
              · cases h
            · cases h
          · cases h
        · cases h
      · unfold eZeros at h
        split at h
        · split at h
          · split at h
            · simp only [Option.some.injEq, Prod.mk.injEq] at h
              rw [← h.2.1, look_put, if_neg (fun e => hnx e.symm)]
            · cases h
          · cases h
        · cases h
    · cases h
  · cases h

theorem foot_rho {ρ ρ' : Operand → Option AV} {o : Op} (h : ∀ x ∈ o.operands, ρ x = ρ' x) : foot ρ o = foot ρ' o := by
  unfold foot
  congr 1
  rw [List.flatMap_def, List.flatMap_def]
  congr 1
  exact List.map_congr_left fun x hx => by rw [h x (Array.mem_toList_iff.1 hx)]
theorem wrE_rho {ρ ρ' : Operand → Option AV} {nx : Nat} {o : Op} (h : ∀ x ∈ o.operands, ρ x = ρ' x) : wrE ρ nx o = wrE ρ' nx o := by
  unfold wrE
  rw [List.flatMap_def, List.flatMap_def]
  congr 2
  exact List.map_congr_left fun x hx => by rw [h x (Array.mem_toList_iff.1 hx)]
theorem callee_rho [Sites] {ρ ρ' : Operand → Option AV} {o : Op} (h : ∀ x ∈ o.operands, ρ x = ρ' x) : callee ρ o = callee ρ' o := by
  unfold callee
  split
  · rename_i f args ts
    rw [h f (by simp [Op.operands, Call.operands]), map_rho fun x hx => h x (by simp only [Op.operands, Call.operands, Array.mem_append]; exact .inr (Array.mem_toList_iff.1 hx))]
  · rfl

theorem yieldee_rho [Sites] {ρ ρ' : Operand → Option AV} {o : Op} (h : ∀ x ∈ o.operands, ρ x = ρ' x) : yieldee ρ o = yieldee ρ' o := by
  unfold yieldee
  split
  · rename_i f args ts
    rw [h f (by simp [Op.operands, Call.operands]), map_rho fun x hx => h x (by simp only [Op.operands, Call.operands, Array.mem_append]; exact .inr (Array.mem_toList_iff.1 hx))]
  · rfl

theorem Did.move [Sites] {o : Op} {ρ ρ' : Operand → Option AV} {s s' : Obs} {nx nx' : Nat} {v : AV} {s1 : Obs} {n1 : Nat} {lg : Lg} (h : Did C o ρ s nx v s1 n1 lg) (hρ : ∀ x ∈ o.operands, ρ x = ρ' x)
    (hq : ∀ ids, lg = .rd ids → ∀ i ∈ ids, look s' i = look s i) (he : lg.isWr = true → s' = s ∧ nx' = nx) :
    (lg.isWr = true ∧ Did C o ρ' s' nx' v s1 n1 lg) ∨ (lg.isWr = false ∧ Did C o ρ' s' nx' v s' nx' lg) := by
  cases h with
  | quiet _ hv =>
    right
    refine ⟨rfl, ?_⟩
    rw [foot_rho hρ]
    refine .quiet v ?_
    have h1 : evalV C.U ρ' (rdk s') o = evalV C.U ρ' (rdk s) o := evalV_lk o fun i hi => by
      unfold rdk
      rw [hq _ rfl i (by rw [foot_rho hρ]; exact hi)]
    rw [h1, ← evalV_rho o hρ]
    exact hv
  | eff _ _ _ hv hE =>
    left
    obtain ⟨rfl, rfl⟩ := he rfl
    refine ⟨rfl, ?_⟩
    rw [wrE_rho hρ]
    exact .eff v s1 n1 (by rw [← evalV_rho o hρ]; exact hv) (by rw [← evalE_rho o hρ]; exact hE)
  | call f args K x y _ _ _ W hv hE hcal hK hx hy hpost =>
    left
    obtain ⟨rfl, rfl⟩ := he rfl
    exact ⟨rfl, .call f args K x y v s1 n1 W (by rw [← evalV_rho o hρ]; exact hv) (by rw [← evalE_rho o hρ]; exact hE) (by rw [← callee_rho hρ]; exact hcal) hK hx hy hpost⟩
  | round id args t cs q _ _ _ W hv hE hcal hy hl hq' h1 =>
    left
    obtain ⟨rfl, rfl⟩ := he rfl
    exact ⟨rfl, .round id args t cs q v s1 n1 W (by rw [← evalV_rho o hρ]; exact hv) (by rw [← evalE_rho o hρ]; exact hE) (by rw [← callee_rho hρ]; exact hcal) (by rw [← yieldee_rho hρ]; exact hy) hl hq' h1⟩

theorem Did.wrote [Sites] (hC : C.Ok P) {o : Op} {ρ : Operand → Option AV} {s : Obs} {nx : Nat} {v : AV} {s1 : Obs} {n1 : Nat} {lg : Lg} (h : Did C o ρ s nx v s1 n1 lg) :
    (∀ ids, lg = .wr ids → ∀ i, i ∉ ids → look s1 i = look s i) ∧ (lg.isWr = false → s1 = s ∧ n1 = nx) := by
  cases h with
  | quiet _ hv => exact ⟨fun ids e => (by cases e), fun _ => ⟨rfl, rfl⟩⟩
  | eff _ _ _ hv hE => exact ⟨fun ids e i hi => by cases e; exact evalE_look hE hi, fun e => by cases e⟩
  | call f args K x y _ _ _ W hv hE hcal hK hx hy hpost => exact ⟨fun ids e i hi => by cases e; exact (hC.Γ f K hK).wrote args s nx x y v s1 n1 W hx hpost i hi, fun e => by cases e⟩
  | round id args t cs q _ _ _ W hv hE hcal hy hl hq h1 => exact ⟨fun ids e i hi => by cases e; exact (hC.Y t q hq).wrote args id cs s nx v s1 n1 W h1 hl i hi, fun e => by cases e⟩

theorem Done.wrote [Sites] (hC : C.Ok P) {ops : Array Oper} {o : Oper} {ρ : Operand → Option AV} {s : Obs} {nx : Nat} {v : AV} {s1 : Obs} {n1 : Nat} {lg : Lg} (h : Done C ops o ρ s nx v s1 n1 lg) :
    (∀ ids, lg = .wr ids → ∀ i, i ∉ ids → look s1 i = look s i) ∧ (lg.isWr = false → s1 = s ∧ n1 = nx) := by
  cases h with
  | run _ _ _ _ hg hd => exact hd.wrote hC
  | skip g want t hgd ht hb => exact ⟨fun ids e => (by cases e), fun _ => ⟨rfl, rfl⟩⟩
  | skipu g want t hgd ht hb => exact ⟨fun ids e => (by cases e), fun _ => ⟨rfl, rfl⟩⟩

theorem Done.move [Sites] {ops : Array Oper} {o : Oper} {ρ ρ' : Operand → Option AV} {s s' : Obs} {nx nx' : Nat} {v : AV} {s1 : Obs} {n1 : Nat} {lg : Lg} (h : Done C ops o ρ s nx v s1 n1 lg) (hρ : ∀ x ∈ o.op.operands, ρ x = ρ' x)
    (hgt : ∀ t ∈ tmpsOf ops o, ρ (.tmp t) = ρ' (.tmp t))
    (hq : ∀ ids, lg = .rd ids → ∀ i ∈ ids, look s' i = look s i) (he : lg.isWr = true → s' = s ∧ nx' = nx) :
    (lg.isWr = true ∧ Done C ops o ρ' s' nx' v s1 n1 lg) ∨ (lg.isWr = false ∧ Done C ops o ρ' s' nx' v s' nx' lg) := by
  have hgm : ∀ g want t, o.guard = some (g, want) → guardTmp ops g = some t → t ∈ tmpsOf ops o := fun g want t h1 h2 => by simp [tmpsOf, h1, h2]
  cases h with
  | run _ _ _ _ hg hd =>
    have hg' : ∀ g want, o.guard = some (g, want) → ∃ t, guardTmp ops g = some t ∧ ρ' (.tmp t) = some (.bool want) := fun g want hgw => by
      obtain ⟨t, h1, h2⟩ := hg g want hgw
      exact ⟨t, h1, by rw [← hgt t (hgm g want t hgw h1)]; exact h2⟩
    rcases hd.move hρ hq he with ⟨h1, h2⟩ | ⟨h1, h2⟩
    · exact .inl ⟨h1, .run v s1 n1 lg hg' h2⟩
    · exact .inr ⟨h1, .run v s' nx' lg hg' h2⟩
  | skip g want t hgd ht hb => exact .inr ⟨rfl, .skip g want t hgd ht (by rw [← hgt t (hgm g want t hgd ht)]; exact hb)⟩
  | skipu g want t hgd ht hb => exact .inr ⟨rfl, .skipu g want t hgd ht (by rw [← hgt t (hgm g want t hgd ht)]; exact hb)⟩
end
end Go.Hay
/- Statements whose order is open, last part: every order ends where the text's order ends. -/
set_option linter.unusedVariables false
set_option linter.unusedSimpArgs false
namespace Go.Hay
open Go.RowKit
section
variable {P : Program} {B : Bs} {fr : Nat → Option Value} {C : Ctx}

theorem pair_of [Sites] {ops : Array Oper} {bs : Array Nat} (hd : drawOk ops bs = true) {i j : Nat} {x y : Oper} (hx : ops[i]? = some x) (hy : ops[j]? = some y) (hij : i ≠ j) :
    (waits bs i j = true ∨ waits bs j i = true ∨ ((∀ t ∈ tmpsOf ops x, y.dst ≠ some t) ∧ (∀ t ∈ tmpsOf ops y, x.dst ≠ some t))) ∧ (∀ d, x.dst = some d → y.dst ≠ some d) := by
  have key : ∀ {i j : Nat} {x y : Oper}, ops[i]? = some x → ops[j]? = some y → j < i → (waits bs i j = true ∨ waits bs j i = true ∨ ((∀ t ∈ tmpsOf ops x, y.dst ≠ some t) ∧ (∀ t ∈ tmpsOf ops y, x.dst ≠ some t))) ∧ (∀ d, x.dst = some d → y.dst ≠ some d) := by
    intro i j x y hx hy hlt
    have h1 := allBelow_get hd (Array.getElem?_eq_some_iff.1 hx).1
    simp only [Bool.and_eq_true] at h1
    have h2 := allBelow_get h1.2 hlt
    simp only [Bool.and_eq_true] at h2
    have hdst : ∀ (o : Oper) t, isDst o t = false → o.dst ≠ some t := fun o t h e => by simp [isDst, e] at h
    refine ⟨?_, fun d hxd hyd => ?_⟩
    · have h3 := h2.1
      simp only [pairOk, hx, hy, Bool.or_eq_true, Bool.and_eq_true, Bool.not_eq_true'] at h3
      rcases h3 with (h3 | h3) | ⟨h3, h4, _⟩
      · exact .inl h3
      · exact .inr (.inl h3)
      · exact .inr (.inr ⟨fun t ht => hdst y t (by simpa using List.any_eq_false.1 h3 t ht), fun t ht => hdst x t (by simpa using List.any_eq_false.1 h4 t ht)⟩)
    · have h3 := h2.2
      simp only [dstsOk, hx, hy, hxd, Bool.not_eq_true'] at h3
      exact hdst y d h3 hyd
  rcases Nat.lt_or_gt_of_ne hij with h | h
  · obtain ⟨h1, h2⟩ := key hy hx h
    refine ⟨?_, fun d hxd hyd => h2 d hyd hxd⟩
    rcases h1 with h1 | h1 | ⟨h1, h3⟩
    · exact .inr (.inl h1)
    · exact .inl h1
    · exact .inr (.inr ⟨h3, h1⟩)
  · exact key hx hy h

theorem run_env [Sites] {ops : Array Oper} {bs : Array Nat} (hd : drawOk ops bs = true) {S : Nat → St} {V : Nat → AV} {L : Nat → Lg} (hr : ∀ (i : Nat) (o : Oper), ops[i]? = some o → Along C ops i o (S i) (S (i + 1)) (V i) (L i)) :
    ∀ i : Nat, i ≤ ops.size → (∀ (j : Nat) (o : Oper) (k : Nat), j < i → ops[j]? = some o → o.dst = some k → look (S i).env k = some (V j)) ∧ (∀ k : Nat, (∀ (j : Nat) (o : Oper), j < i → ops[j]? = some o → o.dst ≠ some k) → look (S i).env k = look (S 0).env k)
  | 0, _ => ⟨fun j o k hj => by omega, fun k _ => rfl⟩
  | i + 1, hi => by
    obtain ⟨h1, h2⟩ := run_env hd hr i (by omega)
    have hlt : i < ops.size := by omega
    have ho : ops[i]? = some ops[i] := Array.getElem?_eq_getElem hlt
    have hal := hr i _ ho
    refine ⟨fun j o k hj hoj hk => ?_, fun k hk => ?_⟩
    · rw [hal.env]
      by_cases e : j = i
      · subst e
        rw [ho] at hoj
        cases hoj
        rw [if_pos hk]
      · rw [if_neg (fun e2 => (pair_of hd ho hoj (fun e3 => e e3.symm)).2 k e2 hk)]
        exact h1 j o k (by omega) hoj hk
    · rw [hal.env, if_neg (hk i _ (by omega) ho)]
      exact h2 k fun j o hj hoj => hk j o (by omega) hoj

theorem run_look [Sites] (hC : C.Ok P) {ops : Array Oper} {S : Nat → St} {V : Nat → AV} {L : Nat → Lg} (hr : ∀ (i : Nat) (o : Oper), ops[i]? = some o → Along C ops i o (S i) (S (i + 1)) (V i) (L i)) (id : Nat) :
    ∀ (d m : Nat), m + d ≤ ops.size → (∀ k, m ≤ k → k < m + d → ∀ ids, L k = .wr ids → id ∉ ids) → look (S (m + d)).obs id = look (S m).obs id
  | 0, m, _, _ => rfl
  | d + 1, m, hle, h => by
    have hlt : m + d < ops.size := by omega
    have hal := hr (m + d) _ (Array.getElem?_eq_getElem hlt)
    have hw := hal.done.wrote hC
    have ih := run_look hC hr id d m (by omega) fun k h1 h2 => h k h1 (by omega)
    rw [← ih, ← Nat.add_assoc]
    cases hl : L (m + d) with
    | rd ids => rw [(hw.2 (by rw [hl]; rfl)).1]
    | wr ids => exact hw.1 ids hl id (h (m + d) (by omega) (by omega) ids hl)
theorem run_same [Sites] (hC : C.Ok P) {ops : Array Oper} {S : Nat → St} {V : Nat → AV} {L : Nat → Lg} (hr : ∀ (i : Nat) (o : Oper), ops[i]? = some o → Along C ops i o (S i) (S (i + 1)) (V i) (L i)) :
    ∀ (d m : Nat), m + d ≤ ops.size → (∀ k, m ≤ k → k < m + d → (L k).isWr = false) → (S (m + d)).obs = (S m).obs ∧ (S (m + d)).nx = (S m).nx
  | 0, m, _, _ => ⟨rfl, rfl⟩
  | d + 1, m, hle, h => by
    have hlt : m + d < ops.size := by omega
    have hal := hr (m + d) _ (Array.getElem?_eq_getElem hlt)
    have hw := hal.done.wrote hC
    have ih := run_same hC hr d m (by omega) fun k h1 h2 => h k h1 (by omega)
    have h1 := hw.2 (h (m + d) (by omega) (by omega))
    rw [← Nat.add_assoc, h1.1, h1.2]
    exact ih

def Pd (ops : Array Oper) (L : Nat → Lg) (listed : Array Bool) (m i : Nat) : Prop := m ≤ i ∧ i < ops.size ∧ (L i).isWr = true ∧ listed[i]? = some true

structure Part (C : Ctx) (ops : Array Oper) (S : Nat → St) (V : Nat → AV) (L : Nat → Lg) (listed : Array Bool) (m : Nat) (s : St) : Prop where
  size : listed.size = ops.size
  envD : ∀ (i : Nat) (o : Oper) (k : Nat), ops[i]? = some o → listed[i]? = some true → ¬ Pd ops L listed m i → o.dst = some k → look s.env k = some (V i)
  env0 : ∀ k : Nat, (∀ (i : Nat) (o : Oper), ops[i]? = some o → listed[i]? = some true → o.dst ≠ some k) → look s.env k = look (S 0).env k
  mle : m ≤ ops.size
  obs : s.obs = (S m).obs
  nx : s.nx = (S m).nx
  low : ∀ i : Nat, i < m → (L i).isWr = true → listed[i]? = some true
  high : ∀ i : Nat, Pd ops L listed m i → isMk C.U ops i = true ∧ Late (Region.before ops) L i
  closed : ∀ i j : Nat, i < ops.size → listed[i]? = some true → waits (Region.before ops) i j = true → listed[j]? = some true
def First (ops : Array Oper) (L : Nat → Lg) (listed : Array Bool) (m : Nat) : Prop := ∀ i, Pd ops L listed m i → ∃ j, m ≤ j ∧ j < i ∧ (L j).isWr = true ∧ listed[j]? ≠ some true

structure Aside [Sites] (B : Bs) (c : Cf) (s : Obs) (w : World) (U : TEnv) (t : TypeId) (b : Nat) : Prop where
  heap : w.heap[b]? = some (.cells (U t).zero.toArray t (0, 0))
  imm : ¬ c.I b
  own : ∀ id o, look s id = some o → ¬ Own c id o b
  base : B.M b ∨ B.w.heap.size ≤ b

theorem Aside.keep [Sites] {U : TEnv} {c c' : Cf} {s s1 : Obs} {w w' : World} {t : TypeId} {b : Nat} (hA : Aside B c s w U t b) (k : Rel (here B c s w) c' s1 w') : Aside B c' s1 w' U t b := by
  have hlt : b < w.heap.size := (Array.getElem?_eq_some_iff.1 hA.heap).1
  have hM : ¬ (here B c s w).M b := fun ⟨i, o, g1, _, g3⟩ => hA.own i o g1 g3
  have hR : ¬ (here B c s w).R b := fun ⟨i, o, g1, _, g3⟩ => hA.own i o g1 g3
  refine ⟨(k.keep b hlt hM).trans hA.heap, fun hI => ?_, fun id o hl ho => ?_, hA.base⟩
  · rcases k.new b hI with g | g | g
    · exact hA.imm g
    · exact hM g
    · exact absurd hlt (Nat.not_lt.2 g)
  · rcases k.ro id o b hl ho with g | g | g
    · exact hR g
    · exact hM g
    · exact absurd hlt (Nat.not_lt.2 g)

theorem own_nm1 {c c' : Cf} {id b : Nat} {o : Ob} (h : c.nm id = c'.nm id) (ho : Own c id o b) : Own c' id o b := by
  cases o <;> first | (obtain ⟨v, h1, h2⟩ := ho; exact ⟨v, h ▸ h1, h2⟩) | exact ho

theorem Aside.name [Sites] {U : TEnv} {c : Cf} {s : Obs} {w : World} {t : TypeId} {b : Nat} (hA : Aside B c s w U t b) (hR : Rel B c s w) {id : Nat} (hid : look s id = none) (hbig : isBig t = false) :
    Rel B ⟨fun i => if i = id then some (.pointer (some ⟨b, 0, none⟩)) else c.nm i, c.I⟩ (put s id (.box t (atoms (U t).zero))) w ∧ Ext c w ⟨fun i => if i = id then some (.pointer (some ⟨b, 0, none⟩)) else c.nm i, c.I⟩ w := by
  have hnone := hR.dom id hid
  refine hR.upd id (.box t (atoms (U t).zero)) (fun x => x = b) (fun i v hv => ?_) (fun i hi => by simp [hi]) (fun _ h => h) (fun b hb => .inl hb) (fun _ _ _ => rfl) (fun x hx => ?_) (fun hE => ?_) (fun x hx => ?_) rfl rfl rfl (Nat.le_refl _)
  · by_cases e : i = id
    · subst e; rw [hnone] at hv; cases hv
    · simp [e, hv]
  · subst hx
    exact ⟨fun j oj _ hl => hA.own j oj hl, hA.imm, hA.base⟩
  · exact ⟨b, (U t).zero, by simp, by rw [boxObj_small hbig]; exact hA.heap, vrs_atoms _⟩
  · obtain ⟨v, h1, h2⟩ := hx
    simp at h1
    subst h1
    simp [blockOf] at h2
    exact .inl h2.symm

theorem mkOf_inv {U : TEnv} {o : Oper} {t : TypeId} (h : mkOf U o = some t) : o.guard = none ∧ o.op = .alloc t ∧ ∀ n e, (U t).k ≠ .array n e := by
  unfold mkOf at h
  split at h
  · rename_i t' hg ho
    split at h
    · cases h
    · rename_i hk
      simp only [Option.some.injEq] at h
      subst h
      exact ⟨hg, ho, fun n e hh => hk n e hh⟩
  · cases h
theorem isMk_at {U : TEnv} {ops : Array Oper} {i : Nat} (h : isMk U ops i = true) : ∃ o t, ops[i]? = some o ∧ mkOf U o = some t := by
  unfold isMk at h
  split at h
  · rename_i o ho
    obtain ⟨t, ht⟩ := Option.isSome_iff_exists.1 h
    exact ⟨o, t, ho, ht⟩
  · cases h
theorem mk_inv [Sites] {ops : Array Oper} {o : Oper} {ρ : Operand → Option AV} {s : Obs} {nx : Nat} {v : AV} {s1 : Obs} {n1 : Nat} {lg : Lg} {t : TypeId} (hm : mkOf C.U o = some t) (h : Done C ops o ρ s nx v s1 n1 lg) :
    v = .ptr nx 0 ∧ s1 = put s nx (.box t (atoms (C.U t).zero)) ∧ n1 = nx + 1 ∧ look s nx = none ∧ lg.isWr = true ∧ (C.U t).real = true ∧ isBig t = false := by
  obtain ⟨hg, ho, hk⟩ := mkOf_inv hm
  have hcal : callee ρ o.op = none := by rw [ho]; rfl
  have hyl : yieldee ρ o.op = none := by rw [ho]; rfl
  cases h with
  | run _ _ _ _ _ hd =>
    cases hd with
    | quiet _ hv => rw [ho] at hv; simp [evalV] at hv
    | eff _ _ _ hv he =>
      rw [ho] at he
      simp only [evalE, eAlloc] at he
      split at he
      · rename_i hr
        unfold newBox at he
        split at he
        · rename_i hc
          simp only [Bool.and_eq_true, Bool.not_eq_true'] at hc
          simp only [Option.some.injEq, Prod.mk.injEq] at he
          obtain ⟨rfl, rfl, rfl, _⟩ := he
          exact ⟨rfl, rfl, rfl, isFresh_none hc.1.1, rfl, hr, hc.2⟩
        · cases he
      · cases he
    | call f args K x y _ _ _ W hv he hc => rw [hcal] at hc; cases hc
    | round id args t cs q _ _ _ W hv he hc hy => rw [hyl] at hy; cases hy
  | skip g want t' hgd => rw [hg] at hgd; cases hgd
  | skipu g want t' hgd => rw [hg] at hgd; cases hgd

theorem Rel.grow1 [Sites] {c : Cf} {w : World} {s : Obs} (h : Rel B c s w) (x : Obj) : Rel B c s (w.alloc x) ∧ Ext c w c (w.alloc x) := by
  have hk : ∀ b, b < w.heap.size → (w.alloc x).heap[b]? = w.heap[b]? := fun b hb => Below.heap_alloc w x b hb
  have hE : Ext c w c (w.alloc x) := ⟨fun _ _ h => h, fun _ h => h, fun b hb => hk b (h.lo b hb)⟩
  have hsz : (w.alloc x).heap.size = w.heap.size + 1 := by simp
  refine ⟨⟨fun i o ho => (h.ob i o ho).ext hE fun b hb => hk b ((h.ob i o ho).lt hb), h.dom, h.sep, h.imm, fun b hb => by have := h.lo b hb; omega, fun b hb hM => ?_, h.mine, h.ro, h.sub, h.new, h.os, h.tape, h.output, by have := h.size; omega⟩, hE⟩
  exact (hk b (Nat.lt_of_lt_of_le hb h.size)).trans (h.keep b hb hM)
theorem Marks.grow1 {fl : Nat} {c : Cf} {w : World} {ds : List Deferred} (h : Marks fl c w ds) (x : Obj) : Marks fl c (w.alloc x) ds :=
  ⟨fun d hd => by
    obtain ⟨m, h1, h2, h3, h4⟩ := h.all d hd
    exact ⟨m, h1, (Below.heap_alloc w x m (Array.getElem?_eq_some_iff.1 h2).1).trans h2, h3, h4⟩, h.nodup⟩

theorem mk_early [Sites] (hU : C.U.Ok P) {ops : Array Oper} {o : Oper} {t : TypeId} (hm : mkOf C.U o = some t) (hr : (C.U t).real = true) {a : Act} {Q : Exit → Act → World → Prop} {c : Cf} {s : Obs} {w : World} (hR : Rel B c s w) {next : Act → World → Prop}
    (hn : Rel B c s (w.alloc (.cells (C.U t).zero.toArray t)) → Ext c w c (w.alloc (.cells (C.U t).zero.toArray t)) → Aside B c s (w.alloc (.cells (C.U t).zero.toArray t)) C.U t w.heap.size → next (a.put o.dst (.pointer (some ⟨w.heap.size, 0, none⟩))) (w.alloc (.cells (C.U t).zero.toArray t))) :
    (if Region.wanted o (yielded ops a.tmps) then o.wpIn (WF B.rd) 0 P a w next Q else (∀ f, o.about P w a.eval = some f → (WF B.rd).fn f) ∧ next (a.put o.dst undef) w) := by
  obtain ⟨hg, ho, hk⟩ := mkOf_inv hm
  rw [if_pos (wanted_none hg _)]
  refine wpIn_of (fun c e => by rw [ho] at e; cases e) ?_
  obtain ⟨z, hz, hzc⟩ := run_zero_of (w := w) (real_ok hU hr).2.1
  have hrun : (execOp a.eval o).run P w = .ok (.value (.pointer (some ⟨w.heap.size, 0, none⟩))) (w.alloc (.cells z.cells t)) := by
    simp [execOp, ho, Instr.alloc, hz, newVar, Go.newRow, newObj, Sem.run]
  have hcells : z.cells = (C.U t).zero.toArray := by rw [← hzc]
  rw [hcells] at hrun
  rw [hrun]
  obtain ⟨h1, h2⟩ := hR.grow1 (.cells (C.U t).zero.toArray t)
  refine hn h1 h2 ⟨World.alloc_heap_new w _, fun hI => ?_, fun id o' hl hown => ?_, .inr hR.size⟩
  · have := hR.lo _ hI; omega
  · have := (hR.ob id o' hl).lt hown; omega

structure Pend [Sites] (B : Bs) (c : Cf) (s : Obs) (w : World) (a : Act) (U : TEnv) (ops : Array Oper) (L : Nat → Lg) (listed : Array Bool) (m : Nat) (bl : Nat → Nat) : Prop where
  at_ : ∀ i o t, Pd ops L listed m i → ops[i]? = some o → mkOf U o = some t → Aside B c s w U t (bl i) ∧ ∀ k, o.dst = some k → a.tmps.getD k undef = .pointer (some ⟨bl i, 0, none⟩)
  inj : ∀ i j, Pd ops L listed m i → Pd ops L listed m j → bl i = bl j → i = j

theorem waits_listed [Sites] {ops : Array Oper} {S : Nat → St} {V : Nat → AV} {L : Nat → Lg} {listed : Array Bool} {m : Nat} {s : St} (hp : Part C ops S V L listed m s) (hd : drawOk ops (Region.before ops) = true) {i : Nat} {o : Oper} (ho : ops[i]? = some o)
    (he : ∀ e ∈ o.after.toList, Region.binds .any e = true → listed[e.on]? = some true) {j : Nat} (hw : waits (Region.before ops) i j = true) : listed[j]? = some true := by
  have hi := (Array.getElem?_eq_some_iff.1 ho).1
  have hall := allBelow_get hd hi
  simp only [Bool.and_eq_true] at hall
  obtain ⟨e, h1, h2, h3, h4⟩ := waits_spec ho hall.1 hw
  have hl := he e h1 h2
  rcases h4 with rfl | h4
  · exact hl
  · exact hp.closed e.on j (by omega) hl h4

theorem settleB [Sites] (hC : C.Ok P) {ops : Array Oper} (hd : drawOk ops (Region.before ops) = true) {S : Nat → St} {V : Nat → AV} {L : Nat → Lg} (hrun : Run C ops S V L) {listed : Array Bool} {w : World} {a : Act} {bl : Nat → Nat} :
    ∀ (d m : Nat) (s : St) (c : Cf), ops.size - m = d → Part C ops S V L listed m s → Sim B C fr c s w a → Pend B c s.obs w a C.U ops L listed m bl →
      ∃ m' s' c', Part C ops S V L listed m' s' ∧ First ops L listed m' ∧ Sim B C fr c' s' w a ∧ Pend B c' s'.obs w a C.U ops L listed m' bl ∧ Ext c w c' w := by
  intro d
  induction d using Nat.strongRecOn with
  | _ d ih =>
    intro m s c hd' hp hs hq
    by_cases hex : ∃ i, Pd ops L listed m i ∧ ∀ j, m ≤ j → j < i → (L j).isWr = true → listed[j]? = some true
    · -- the first one that is ahead
      have hmin : ∀ n, (∃ i, i ≤ n ∧ Pd ops L listed m i) → ∃ i, Pd ops L listed m i ∧ ∀ j, Pd ops L listed m j → i ≤ j := by
        intro n
        induction n with
        | zero =>
          rintro ⟨i, hi, hpd⟩
          exact ⟨i, hpd, fun j _ => by omega⟩
        | succ n ihn =>
          rintro ⟨i, hi, hpd⟩
          by_cases h : ∃ i, i ≤ n ∧ Pd ops L listed m i
          · exact ihn h
          · refine ⟨i, hpd, fun j hj => ?_⟩
            have h1 : ¬ j ≤ n := fun hjn => h ⟨j, hjn, hj⟩
            omega
      obtain ⟨i', hi', hall'⟩ := hex
      obtain ⟨i, hpd, hleast⟩ := hmin i' ⟨i', Nat.le_refl _, hi'⟩
      have hii := hleast i' hi'
      have hnone : ∀ j, m ≤ j → j < i → (L j).isWr = false := fun j h1 h2 => by
        cases hj : (L j).isWr with
        | false => rfl
        | true =>
          have := hleast j ⟨h1, by have := hpd.2.1; omega, hj, hall' j h1 (by omega) hj⟩
          omega
      obtain ⟨hmk, hlate⟩ := hp.high i hpd
      obtain ⟨o, t, ho, ht⟩ := isMk_at hmk
      have hal := hrun.step i o ho
      have hsame := run_same hC hrun.step (i - m) m (by have := hpd.2.1; have := hpd.1; omega) fun k h1 h2 => hnone k h1 (by omega)
      rw [show m + (i - m) = i by have := hpd.1; omega] at hsame
      obtain ⟨g1, g2, g3, g4, g5, g6, g7⟩ := mk_inv ht hal.done
      obtain ⟨hA, hdst⟩ := hq.at_ i o t hpd ho ht
      have hobs : s.obs = (S i).obs := by rw [hp.obs, hsame.1]
      obtain ⟨k1, k2⟩ := hA.name hs.rel (id := (S i).nx) (by rw [hobs]; exact g4) g7
      rw [hobs, ← g2] at k1
      have hlt := hpd.2.1
      have hmi := hpd.1
      have hpd' : ∀ j, Pd ops L listed (i + 1) j → Pd ops L listed m j := fun j hj => ⟨by have := hj.1; omega, hj.2⟩
      -- behind it
      obtain ⟨m', s', c', q1, q2, q3, q4, q5⟩ := ih (ops.size - (i + 1)) (by omega) (i + 1) ⟨setT s.env o.dst (V i), (S (i + 1)).obs, (S (i + 1)).nx⟩ _ rfl
        ⟨hp.size, fun j oj k hj hl hnp hk => by
          simp only [look_setT]
          by_cases e : j = i
          · subst e; rw [ho] at hj; cases hj; rw [if_pos hk]
          · rw [if_neg fun e2 => (pair_of hd ho hj (fun e3 => e e3.symm)).2 k e2 hk]
            refine hp.envD j oj k hj hl (fun hpj => hnp ?_) hk
            have := hleast j hpj
            exact ⟨by omega, hpj.2⟩,
         fun k hk => by
          simp only [look_setT]
          rw [if_neg (hk i o ho hpd.2.2.2)]
          exact hp.env0 k hk,
         by omega, rfl, rfl, fun j hj hw => by
          rcases Nat.lt_or_ge j m with h1 | h1
          · exact hp.low j h1 hw
          · rcases Nat.lt_or_ge j i with h2 | h2
            · rw [hnone j h1 h2] at hw; cases hw
            · have : j = i := by omega
              subst this; exact hpd.2.2.2,
         fun j hj => hp.high j (hpd' j hj), hp.closed⟩
        ⟨k1, ⟨hs.tmps.size, fun k x hx => by
          simp only [look_setT] at hx
          split at hx
          · rename_i hk
            simp only [Option.some.injEq] at hx
            subst hx
            rw [g1, hdst k hk]
            simp only [VR]
            exact ⟨bl i, by simp, rfl⟩
          · exact VR.ext k2 _ _ (hs.tmps.env k x hx), hs.tmps.frame⟩, ⟨hs.marks.all, hs.marks.nodup⟩, hs.base⟩
        ⟨fun j oj tj hj hoj htj => by
          obtain ⟨hA', hd''⟩ := hq.at_ j oj tj (hpd' j hj) hoj htj
          refine ⟨⟨hA'.heap, hA'.imm, fun id ob hl hown => ?_, hA'.base⟩, hd''⟩
          rw [g2, look_put] at hl
          split at hl
          · rename_i e
            simp only [Option.some.injEq] at hl
            subst hl; subst e
            obtain ⟨v, h1, h2⟩ := hown
            simp at h1
            subst h1
            simp [blockOf] at h2
            have := hq.inj i j hpd (hpd' j hj) h2
            have := hj.1
            omega
          · rename_i e
            rw [← hobs] at hl
            exact hA'.own id ob hl (own_nm1 (c' := c) (by show (if id = (S i).nx then _ else c.nm id) = c.nm id; rw [if_neg (fun h => e h.symm)]) hown),
         fun j j' hj hj' h => hq.inj j j' (hpd' j hj) (hpd' j' hj') h⟩
      exact ⟨m', s', c', q1, q2, q3, q4, k2.trans q5⟩
    · refine ⟨m, s, c, hp, fun i hi => Classical.byContradiction fun hno => hex ⟨i, hi, fun j h1 h2 h3 => Classical.byContradiction fun h4 => hno ⟨j, h1, h2, h3, h4⟩⟩, hs, hq, Ext.refl c w⟩

theorem ready_iff {ops : Array Oper} {listed : Array Bool} (hs : listed.size = ops.size) {i : Nat} (h : i ∈ Region.ready .any ops listed) :
    ∃ o, ops[i]? = some o ∧ listed[i]? = some false ∧ ∀ e ∈ o.after.toList, Region.binds .any e = true → listed[e.on]? = some true := by
  unfold Region.ready at h
  simp only [List.mem_filter, List.mem_range, Bool.and_eq_true, Bool.not_eq_true'] at h
  obtain ⟨h1, h2, h3⟩ := h
  have ho : ops[i]? = some ops[i] := Array.getElem?_eq_getElem h1
  refine ⟨ops[i], ho, ?_, fun e he hb => ?_⟩
  · have hl : listed[i]? = some listed[i] := Array.getElem?_eq_getElem (by omega)
    rw [Array.getD_eq_getD_getElem?, hl] at h2
    rw [hl]
    simpa using h2
  · rw [ho] at h3
    simp only [Option.map_some, Option.getD_some] at h3
    have := Array.all_eq_true'.1 h3 e (Array.mem_toList_iff.1 he)
    simp only [hb, Bool.not_true, Bool.false_or] at this
    rw [Array.getD_eq_getD_getElem?] at this
    cases hh : listed[e.on]? with
    | none => simp [hh] at this
    | some b => simp [hh] at this; rw [this]

theorem part_step [Sites] (hC : C.Ok P) {ops : Array Oper} (hd : drawOk ops (Region.before ops) = true) {S : Nat → St} {V : Nat → AV} {L : Nat → Lg} (hrun : Run C ops S V L) {listed : Array Bool} {m : Nat} {s : St} (hp : Part C ops S V L listed m s) (hF : First ops L listed m)
    {i : Nat} {o : Oper} (ho : ops[i]? = some o) (hl : listed[i]? = some false) (he : ∀ e ∈ o.after.toList, Region.binds .any e = true → listed[e.on]? = some true) :
    (∃ (s' : St) (m' : Nat), s'.env = setT s.env o.dst (V i) ∧ Done C ops o (evO s.env) s.obs s.nx (V i) s'.obs s'.nx (L i) ∧ Part C ops S V L (listed.setIfInBounds i true) m' s' ∧ ∀ j, Pd ops L (listed.setIfInBounds i true) m' j → Pd ops L listed m j) ∨
    (∃ t, mkOf C.U o = some t ∧ (C.U t).real = true ∧ Part C ops S V L (listed.setIfInBounds i true) m ⟨setT s.env o.dst .junk, s.obs, s.nx⟩ ∧ ∀ j, Pd ops L (listed.setIfInBounds i true) m j → j = i ∨ Pd ops L listed m j) := by
  have hi := (Array.getElem?_eq_some_iff.1 ho).1
  have hal := hrun.step i o ho
  obtain ⟨hE1, hE0⟩ := run_env hd hrun.step i (by omega)
  -- what is ahead is looked at by nobody that is ready
  have hnopd : ∀ k, k < i → Pd ops L listed m k → ((L k).free (L i) = true ∨ isMk C.U ops i = true) ∧ looksAt ops i k = false := by
    intro k hk hpd
    obtain ⟨h1, h2⟩ := hp.high k hpd
    rcases hrun.late i k hi hk h1 h2 with h3 | ⟨h3, h4⟩
    · exact h3
    · obtain ⟨j, g1, g2, g3, g4⟩ := hF k hpd
      exact (g4 (waits_listed hp hd ho he (h4 j g2 g3))).elim
  -- temporaries that are looked at
  have htmp : ∀ t ∈ tmpsOf ops o, look (S i).env t = look s.env t := by
    intro t ht
    by_cases hex : ∃ (k : Nat) (o' : Oper), ops[k]? = some o' ∧ o'.dst = some t
    · obtain ⟨k, o', hk, hkt⟩ := hex
      have huniq : ∀ (k' : Nat) (o'' : Oper), ops[k']? = some o'' → o''.dst = some t → k' = k := fun k' o'' h1 h2 => Classical.byContradiction fun hne => (pair_of hd h1 hk hne).2 t h2 hkt
      have hself : k = i ∨ waits (Region.before ops) i k = true ∨ waits (Region.before ops) k i = true := by
        by_cases e : k = i
        · exact .inl e
        · rcases (pair_of hd ho hk (fun e' => e e'.symm)).1 with h1 | h1 | h1
          · exact .inr (.inl h1)
          · exact .inr (.inr h1)
          · exact (h1.1 t ht hkt).elim
      have hcase : (k < i ∧ listed[k]? = some true) ∨ (i ≤ k ∧ listed[k]? ≠ some true) := by
        rcases hself with rfl | h1 | h1
        · exact .inr ⟨Nat.le_refl _, by rw [hl]; simp⟩
        · exact .inl ⟨waits_lt hd i k h1, waits_listed hp hd ho he h1⟩
        · have := waits_lt hd k i h1
          refine .inr ⟨by omega, fun hlk => ?_⟩
          have := hp.closed k i (Array.getElem?_eq_some_iff.1 hk).1 hlk h1
          rw [hl] at this
          cases this
      rcases hcase with ⟨hlt, hlk⟩ | ⟨hge, hlk⟩
      · have hnp : ¬ Pd ops L listed m k := fun hpd => by
          have h1 := (hnopd k hlt hpd).2
          unfold looksAt at h1
          rw [ho, hk] at h1
          simp only at h1
          have h2 : (tmpsOf ops o).any (isDst o') = true := List.any_eq_true.2 ⟨t, ht, by simp [isDst, hkt]⟩
          rw [h2] at h1
          cases h1
        rw [hE1 k o' t hlt hk hkt, hp.envD k o' t hk hlk hnp hkt]
      · rw [hE0 t fun j oj hj hoj hjt => by have := huniq j oj hoj hjt; omega, hp.env0 t fun j oj hoj hlj hjt => by have := huniq j oj hoj hjt; subst this; exact hlk hlj]
    · have hno : ∀ (k : Nat) (o' : Oper), ops[k]? = some o' → o'.dst ≠ some t := fun k o' h1 h2 => hex ⟨k, o', h1, h2⟩
      rw [hE0 t fun j oj _ hoj => hno j oj hoj, hp.env0 t fun j oj hoj _ => hno j oj hoj]
  have hgt : ∀ t ∈ tmpsOf ops o, evO (S i).env (.tmp t) = evO s.env (.tmp t) := fun t ht => htmp t ht
  have hρ : ∀ x ∈ o.op.operands, evO (S i).env x = evO s.env x := by
    intro x hx
    cases x with
    | tmp t => exact htmp t (by unfold tmpsOf; simp only [List.mem_append, List.mem_filterMap]; exact .inl ⟨.tmp t, Array.mem_toList_iff.2 hx, rfl⟩)
    | const v => rfl
    | func f => rfl
    | global g => rfl
  have hobs := hp.obs
  have hnx := hp.nx
  have hlow := hp.low
  have hm := hp.mle
  have hmkwr : ∀ k, k < ops.size → isMk C.U ops k = true → (L k).isWr = true := by
    intro k hk hmk
    obtain ⟨o', t, h1, h2⟩ := isMk_at hmk
    exact (mk_inv h2 (hrun.step k o' h1).done).2.2.2.2.1
  -- what writes, between what is carried out and what is waited for
  have hgap : ∀ k, m ≤ k → k < i → (L k).isWr = true → waits (Region.before ops) i k = true → Pd ops L listed m k := fun k h1 h2 h3 h4 => ⟨h1, by omega, h3, waits_listed hp hd ho he h4⟩
  -- what reading operations look at
  have hq : ∀ ids, L i = .rd ids → ∀ id ∈ ids, look s.obs id = look (S i).obs id := by
    intro ids hli id hid
    have hnw : isMk C.U ops i ≠ true := fun h => by
      have := hmkwr i hi h
      rw [hli] at this
      cases this
    rw [hobs]
    rcases Nat.le_total m i with hmi | him
    · have := run_look hC hrun.step id (i - m) m (by omega) fun k h1 h2 idsw hk hmem => by
        have hki : k < i := by omega
        have hfree : (L k).free (L i) = true → False := fun hf => by
          rw [hk, hli] at hf
          exact apartL_mem hf hid hmem
        rcases hrun.log i k hi hki with hw | hf | hf
        · exact (hnopd k hki (hgap k h1 hki (by rw [hk]; rfl) hw)).1.elim hfree hnw
        · exact hfree hf
        · exact hnw hf.1
      rw [show m + (i - m) = i by omega] at this
      exact this.symm
    · have := run_look hC hrun.step id (m - i) i (by omega) fun k h1 h2 idsw hk hmem => by
        have hlk := hlow k (by omega) (by rw [hk]; rfl)
        rcases Nat.eq_or_lt_of_le h1 with e | hlt
        · subst e; rw [hli] at hk; cases hk
        · rcases hrun.log k i (by omega) hlt with hw | hf | hf
          · have := hp.closed k i (by omega) hlk hw
            rw [hl] at this
            cases this
          · rw [hk, hli] at hf
            exact apartL_mem hf hid hmem
          · rw [hli] at hf
            exact absurd hf.2 (by simp [Lg.isWr])
      rw [show i + (m - i) = m by omega] at this
      exact this
  have hset : ∀ j : Nat, (listed.setIfInBounds i true)[j]? = some true ↔ (j = i ∨ listed[j]? = some true) := by
    intro j
    rw [Array.getElem?_setIfInBounds]
    by_cases e : i = j
    · subst e; simp [hp.size, hi]
    · simp only [e, if_false]; exact ⟨.inr, fun h => h.resolve_left (fun e' => e e'.symm)⟩
  have hclosed : ∀ j k : Nat, j < ops.size → (listed.setIfInBounds i true)[j]? = some true → waits (Region.before ops) j k = true → (listed.setIfInBounds i true)[k]? = some true := by
    intro j k hj hlj hw
    rcases (hset j).1 hlj with rfl | hlj
    · exact (hset k).2 (.inr (waits_listed hp hd ho he hw))
    · exact (hset k).2 (.inr (hp.closed j k hj hlj hw))
  have henv0 : ∀ (v : AV) (k : Nat), (∀ (j : Nat) (oj : Oper), ops[j]? = some oj → (listed.setIfInBounds i true)[j]? = some true → oj.dst ≠ some k) → look (setT s.env o.dst v) k = look (S 0).env k := by
    intro v k hk
    simp only [look_setT]
    rw [if_neg (hk i o ho ((hset i).2 (.inl rfl)))]
    exact hp.env0 k fun j oj hoj hlj => hk j oj hoj ((hset j).2 (.inr hlj))
  have henvj : ∀ (v : AV) (j : Nat) (oj : Oper) (k : Nat), j ≠ i → ops[j]? = some oj → oj.dst = some k → look (setT s.env o.dst v) k = look s.env k := by
    intro v j oj k e hoj hjk
    simp only [look_setT]
    rw [if_neg fun e2 => (pair_of hd ho hoj (fun e3 => e e3.symm)).2 k e2 hjk]
  -- what writes and is carried out now: nothing that writes stands between
  have hmi : (L i).isWr = true → m ≤ i := fun hwr => Classical.byContradiction fun hlt => by
    have := hlow i (by omega) hwr
    rw [hl] at this
    cases this
  by_cases hearly : (L i).isWr = true ∧ ∃ k, m ≤ k ∧ k < i ∧ (L k).isWr = true
  · -- it is ahead
    obtain ⟨hwr, k, hk1, hk2, hk3⟩ := hearly
    -- one that writes, is no maker's, and is not waited for
    have hno : ∃ k, k < i ∧ (L k).isWr = true ∧ waits (Region.before ops) i k = false := by
      refine Classical.byContradiction fun hn => ?_
      have hall : ∀ k, k < i → (L k).isWr = true → waits (Region.before ops) i k = true := fun k h1 h2 => by
        cases hw : waits (Region.before ops) i k with
        | true => rfl
        | false => exact (hn ⟨k, h1, h2, hw⟩).elim
      have hpd := hgap k hk1 hk2 hk3 (hall k hk2 hk3)
      obtain ⟨j, g1, g2, g3, g4⟩ := hF k hpd
      exact g4 (waits_listed hp hd ho he (hall j (by omega) g3))
    obtain ⟨k', h1, h2, h3⟩ := hno
    have hmk : isMk C.U ops i = true := by
      rcases hrun.log i k' hi h1 with hw | hf | hf
      · rw [h3] at hw; cases hw
      · cases hLk : L k' <;> cases hLi : L i <;> simp [hLk, hLi, Lg.isWr, Lg.free] at h2 hwr hf
      · exact hf.1
    obtain ⟨o', t, g1, g2⟩ := isMk_at hmk
    rw [ho] at g1
    cases g1
    have hinv := mk_inv g2 hal.done
    refine .inr ⟨t, g2, hinv.2.2.2.2.2.1, ⟨by simp [hp.size], fun j oj k hoj hlj hnp hjk => ?_, henv0 _, hm, hobs, hnx, fun j hj hw => (hset j).2 (.inr (hlow j hj hw)), fun j hj => ?_, hclosed⟩, fun j hj => ?_⟩
    · have hji : j ≠ i := fun e => hnp (by subst e; exact ⟨hmi hwr, hi, hwr, hlj⟩)
      show look (setT s.env o.dst .junk) k = _
      rw [henvj _ j oj k hji hoj hjk]
      exact hp.envD j oj k hoj (((hset j).1 hlj).resolve_left hji) (fun hpd => hnp ⟨hpd.1, hpd.2.1, hpd.2.2.1, hlj⟩) hjk
    · by_cases e : j = i
      · subst e; exact ⟨hmk, k', h1, h2, h3⟩
      · exact hp.high j ⟨hj.1, hj.2.1, hj.2.2.1, ((hset j).1 hj.2.2.2).resolve_left e⟩
    · rcases (hset j).1 hj.2.2.2 with e | h
      · exact .inl e
      · exact .inr ⟨hj.1, hj.2.1, hj.2.2.1, h⟩
  · have hew : (L i).isWr = true → s.obs = (S i).obs ∧ s.nx = (S i).nx := by
      intro hwr
      have hmi := hmi hwr
      have hnone : ∀ k, m ≤ k → k < m + (i - m) → (L k).isWr = false := fun k h1 h2 => by
        cases hk : (L k).isWr with
        | false => rfl
        | true => exact (hearly ⟨hwr, k, h1, by omega, hk⟩).elim
      have := run_same hC hrun.step (i - m) m (by omega) hnone
      rw [show m + (i - m) = i by omega] at this
      exact ⟨by rw [hobs, this.1], by rw [hnx, this.2]⟩
    have hmv := hal.done.move (ρ' := evO s.env) (s' := s.obs) (nx' := s.nx) hρ hgt hq hew
    rcases hmv with ⟨hwr, hdone⟩ | ⟨hwr, hdone⟩
    · have hmi := hmi hwr
      have hnone : ∀ k, m ≤ k → k < i → (L k).isWr = false := fun k h1 h2 => by
        cases hk : (L k).isWr with
        | false => rfl
        | true => exact (hearly ⟨hwr, k, h1, h2, hk⟩).elim
      have hpd : ∀ j, Pd ops L (listed.setIfInBounds i true) (i + 1) j → Pd ops L listed m j := fun j hj => by
        have h1 := hj.1
        exact ⟨by omega, hj.2.1, hj.2.2.1, ((hset j).1 hj.2.2.2).resolve_left (by omega)⟩
      refine .inl ⟨⟨setT s.env o.dst (V i), (S (i + 1)).obs, (S (i + 1)).nx⟩, i + 1, rfl, hdone, ⟨by simp [hp.size], fun j oj k hoj hlj hnp hjk => ?_, henv0 _, by omega, rfl, rfl, fun j hj hw => ?_, fun j hj => hp.high j (hpd j hj), hclosed⟩, hpd⟩
      · by_cases e : j = i
        · subst e; rw [ho] at hoj; cases hoj
          show look (setT s.env o.dst (V j)) k = _
          rw [look_setT, if_pos hjk]
        · show look (setT s.env o.dst (V i)) k = _
          rw [henvj _ j oj k e hoj hjk]
          refine hp.envD j oj k hoj (((hset j).1 hlj).resolve_left e) (fun hpj => ?_) hjk
          rcases Nat.lt_or_ge j i with h1 | h1
          · have := hnone j hpj.1 h1
            rw [hpj.2.2.1] at this
            cases this
          · exact hnp ⟨by omega, hpj.2.1, hpj.2.2.1, hlj⟩
      · rcases Nat.lt_or_ge j m with h1 | h1
        · exact (hset j).2 (.inr (hlow j h1 hw))
        · rcases Nat.lt_or_ge j i with h2 | h2
          · rw [hnone j h1 h2] at hw; cases hw
          · have : j = i := by omega
            exact (hset j).2 (.inl this)
    · have hpd : ∀ j, Pd ops L (listed.setIfInBounds i true) m j → Pd ops L listed m j := fun j hj => by
        have hji : j ≠ i := fun e => by
          have := hj.2.2.1
          rw [e, hwr] at this
          cases this
        exact ⟨hj.1, hj.2.1, hj.2.2.1, ((hset j).1 hj.2.2.2).resolve_left hji⟩
      refine .inl ⟨⟨setT s.env o.dst (V i), s.obs, s.nx⟩, m, rfl, hdone, ⟨by simp [hp.size], fun j oj k hoj hlj hnp hjk => ?_, henv0 _, hm, hobs, hnx, fun j hj hw => (hset j).2 (.inr (hlow j hj hw)), fun j hj => hp.high j (hpd j hj), hclosed⟩, hpd⟩
      by_cases e : j = i
      · subst e; rw [ho] at hoj; cases hoj
        show look (setT s.env o.dst (V j)) k = _
        rw [look_setT, if_pos hjk]
      · show look (setT s.env o.dst (V i)) k = _
        rw [henvj _ j oj k e hoj hjk]
        exact hp.envD j oj k hoj (((hset j).1 hlj).resolve_left e) (fun hpj => hnp ⟨hpj.1, hpj.2.1, hpj.2.2.1, hlj⟩) hjk

theorem all_listed [Sites] {ops : Array Oper} (hd : drawOk ops (Region.before ops) = true) {listed : Array Bool} (hs : listed.size = ops.size) (h : Region.ready .any ops listed = []) : ∀ i : Nat, i < ops.size → listed[i]? = some true := by
  intro i
  induction i using Nat.strongRecOn with
  | _ i ih =>
    intro hi
    have ho : ops[i]? = some ops[i] := Array.getElem?_eq_getElem hi
    have hl : listed[i]? = some listed[i] := Array.getElem?_eq_getElem (by omega)
    have hnr : i ∉ Region.ready .any ops listed := by rw [h]; simp
    cases hb : listed[i] with
    | true => rw [hl, hb]
    | false =>
      exfalso
      apply hnr
      unfold Region.ready
      simp only [List.mem_filter, List.mem_range, Bool.and_eq_true, Bool.not_eq_true']
      refine ⟨hi, by rw [Array.getD_eq_getD_getElem?, hl, hb]; rfl, ?_⟩
      rw [ho]
      simp only [Option.map_some, Option.getD_some]
      rw [Array.all_eq_true']
      intro e he
      have hall := allBelow_get hd hi
      simp only [Bool.and_eq_true, edgesOk, ho] at hall
      have := Array.all_eq_true'.1 hall.1 e he
      cases hbd : Region.binds .any e with
      | false => rfl
      | true =>
        simp only [hbd, Bool.not_true, Bool.false_or, Nat.blt_eq] at this
        simp only [Bool.not_true, Bool.false_or]
        rw [Array.getD_eq_getD_getElem?, ih e.on this (by omega)]
        rfl

theorem unlisted_step (listed : Array Bool) {i : Nat} (h : listed[i]? = some false) : (listed.setIfInBounds i true).toList.countP (! ·) + 1 = listed.toList.countP (! ·) := by
  obtain ⟨hi, hv⟩ := Array.getElem?_eq_some_iff.1 h
  have hi' : i < listed.toList.length := by simpa using hi
  have h1 : listed.toList = listed.toList.take i ++ false :: listed.toList.drop (i + 1) := by
    have := List.take_append_drop i listed.toList
    rw [List.drop_eq_getElem_cons hi'] at this
    rw [show listed.toList[i] = false by simpa using hv] at this
    exact this.symm
  have h2 : (listed.setIfInBounds i true).toList = listed.toList.take i ++ true :: listed.toList.drop (i + 1) := by
    rw [Array.toList_setIfInBounds, List.set_eq_take_append_cons_drop, if_pos hi']
  rw [h2]
  conv => rhs; rw [h1]
  simp only [List.countP_append, List.countP_cons]
  simp
  omega

theorem all_true {listed : Array Bool} (h : listed.toList.countP (! ·) = 0) {i : Nat} (hi : i < listed.size) : listed[i]? = some true := by
  rw [List.countP_eq_zero] at h
  have := h listed[i] (by simp)
  rw [Array.getElem?_eq_getElem hi]
  simpa using this

theorem put_getD {a : Act} {d : Option Tmp} {u : Value} {k : Nat} (hk : k < a.tmps.size) : (a.put d u).tmps.getD k undef = if d = some k then u else a.tmps.getD k undef := by
  cases d with
  | none => simp [Act.put]
  | some t =>
    simp only [Act.put, Option.some.injEq]
    rw [Array.getD_eq_getD_getElem?, Array.getD_eq_getD_getElem?, Array.getElem?_setIfInBounds]
    by_cases e : t = k
    · subst e; simp [hk]
    · simp [e]
theorem put_other {a : Act} {d : Option Tmp} {u : Value} {k : Nat} (hk : d ≠ some k) : (a.put d u).tmps.getD k undef = a.tmps.getD k undef := by
  cases d with
  | none => rfl
  | some t =>
    have e : ¬ t = k := fun e => hk (by rw [e])
    simp only [Act.put]
    rw [Array.getD_eq_getD_getElem?, Array.getD_eq_getD_getElem?, Array.getElem?_setIfInBounds]
    simp [e]

theorem draw_any [Sites] (hC : C.Ok P) {ops : Array Oper} {Q : Exit → Act → World → Prop} (hd : drawOk ops (Region.before ops) = true) (hfr : ∀ t, C.may t = true → fr t = none) {S : Nat → St} {V : Nat → AV} {L : Nat → Lg} (hrun : Run C ops S V L) :
    ∀ (fuel : Nat) (listed : Array Bool) (m : Nat) (s : St) (c : Cf) (w : World) (a : Act) (bl : Nat → Nat), listed.toList.countP (! ·) ≤ fuel → Part C ops S V L listed m s → First ops L listed m → Sim B C fr c s w a → Pend B c s.obs w a C.U ops L listed m bl →
      (∀ c' w' a', Sim B C fr c' (S ops.size) w' a' → Ext c w c' w' → Q .normal a' w') → wpAnyIn (WF B.rd) 0 P .any ops Q fuel listed a w := by
  have hend : ∀ (listed : Array Bool) (m : Nat) (s : St) (c : Cf) (w : World) (a : Act), (∀ i : Nat, i < ops.size → listed[i]? = some true) → Part C ops S V L listed m s → First ops L listed m → Sim B C fr c s w a →
      (∀ c' w' a', Sim B C fr c' (S ops.size) w' a' → Ext c w c' w' → Q .normal a' w') → Q .normal a w := by
    intro listed m s c w a hall hp hF hs hK
    obtain ⟨hE1, hE0⟩ := run_env hd hrun.step ops.size (Nat.le_refl _)
    have hnp : ∀ i, ¬ Pd ops L listed m i := fun i hi => by
      obtain ⟨j, g1, g2, g3, g4⟩ := hF i hi
      exact g4 (hall j (by have := hi.2.1; omega))
    have hm := hp.mle
    have hsame := run_same hC hrun.step (ops.size - m) m (by omega) fun k h1 h2 => by
      cases hk : (L k).isWr with
      | false => rfl
      | true => exact (hnp k ⟨h1, by omega, hk, hall k (by omega)⟩).elim
    rw [show m + (ops.size - m) = ops.size by omega] at hsame
    have henv : ∀ k, look (S ops.size).env k = look s.env k := by
      intro k
      by_cases hex : ∃ (j : Nat) (o' : Oper), ops[j]? = some o' ∧ o'.dst = some k
      · obtain ⟨j, o', hj, hjk⟩ := hex
        have hlt := (Array.getElem?_eq_some_iff.1 hj).1
        rw [hE1 j o' k hlt hj hjk, hp.envD j o' k hj (hall j hlt) (hnp j) hjk]
      · rw [hE0 k fun j o' _ hj hjk => hex ⟨j, o', hj, hjk⟩, hp.env0 k fun j o' hj _ hjk => hex ⟨j, o', hj, hjk⟩]
    refine hK c w a ⟨?_, ⟨hs.tmps.size, fun k x hx => hs.tmps.env k x (by rw [← henv]; exact hx), hs.tmps.frame⟩, hs.marks, hs.base⟩ (Ext.refl c w)
    rw [hsame.1, ← hp.obs]
    exact hs.rel
  intro fuel
  induction fuel with
  | zero =>
    intro listed m s c w a bl hf hp hF hs hq hK
    have hall : ∀ i : Nat, i < ops.size → listed[i]? = some true := fun i hi => all_true (by omega) (by rw [hp.size]; exact hi)
    refine ⟨?_, hend listed m s c w a hall hp hF hs hK⟩
    rw [List.eq_nil_iff_forall_not_mem]
    intro i hi
    obtain ⟨o, ho, hl, _⟩ := ready_iff hp.size hi
    rw [hall i (Array.getElem?_eq_some_iff.1 ho).1] at hl
    cases hl
  | succ fuel ih =>
    intro listed m s c w a bl hf hp hF hs hq hK
    refine ⟨fun hnil => hend listed m s c w a (all_listed hd hp.size hnil) hp hF hs hK, fun i hi => ?_⟩
    obtain ⟨o, ho, hl, he⟩ := ready_iff hp.size hi
    have hstep := unlisted_step listed hl
    have hal := hrun.step i o ho
    have hdst : ∀ j oj k, Pd ops L listed m j → ops[j]? = some oj → oj.dst = some k → o.dst ≠ some k := fun j oj k hj hoj hk e => by
      have hne : i ≠ j := fun e' => by
        subst e'
        have := hj.2.2.2
        rw [hl] at this
        cases this
      exact (pair_of hd ho hoj hne).2 k e hk
    unfold wpOpIn
    rw [ho]
    rcases part_step hC hd hrun hp hF ho hl he with ⟨s', m', henv, hdone, hp', hpd⟩ | ⟨t, hmk, hreal, hp', hpd⟩
    · refine hdone.goes (B := here B c s.obs w) hC hs.rel.rebase hs.marks hs.ops fun c' w' u h1 hm1 h2 h3 => ?_
      have hs1 : Sim B C fr c' s' w' (a.put o.dst u) := ⟨hs.rel.trans h1, by rw [henv]; exact (hs.tmps.ext h3).put (mayDst_ok hfr hal.may) h2, by rw [put_defers]; exact hm1, hs.base⟩
      have hq1 : Pend B c' s'.obs w' (a.put o.dst u) C.U ops L (listed.setIfInBounds i true) m' bl := ⟨fun j oj tj hj hoj htj => by
          obtain ⟨g1, g2⟩ := hq.at_ j oj tj (hpd j hj) hoj htj
          exact ⟨g1.keep h1, fun k hk => by rw [put_other (hdst j oj k (hpd j hj) hoj hk)]; exact g2 k hk⟩, fun j j' hj hj' => hq.inj j j' (hpd j hj) (hpd j' hj')⟩
      obtain ⟨m2, s2, c2, q1, q2, q3, q4, q5⟩ := settleB hC hd hrun _ m' s' c' rfl hp' hs1 hq1
      exact ih _ m2 s2 c2 w' _ bl (by omega) q1 q2 q3 q4 fun c3 w3 a3 h4 h5 => hK c3 w3 a3 h4 (h3.trans (q5.trans h5))
    · refine mk_early (B := B) (C := C) (ops := ops) hC.U hmk hreal hs.rel fun h1 h2 hA => ?_
      have hs1 : Sim B C fr c ⟨setT s.env o.dst .junk, s.obs, s.nx⟩ (w.alloc (.cells (C.U t).zero.toArray t)) (a.put o.dst (.pointer (some ⟨w.heap.size, 0, none⟩))) :=
        ⟨h1, (hs.tmps.ext h2).put (mayDst_ok hfr hal.may) (by simp only [VR]), by rw [put_defers]; exact hs.marks.grow1 _, hs.base⟩
      have hnotpd : ¬ Pd ops L listed m i := fun h => by
        have := h.2.2.2
        rw [hl] at this
        cases this
      have hkeep : ∀ b, b < w.heap.size → (w.alloc (.cells (C.U t).zero.toArray t)).heap[b]? = w.heap[b]? := fun b hb => Below.heap_alloc w _ b hb
      have hq1 : Pend B c s.obs (w.alloc (.cells (C.U t).zero.toArray t)) (a.put o.dst (.pointer (some ⟨w.heap.size, 0, none⟩))) C.U ops L (listed.setIfInBounds i true) m (fun j => if j = i then w.heap.size else bl j) := by
        have hsz : ∀ j, Pd ops L listed m j → bl j < w.heap.size := fun j hj => by
          obtain ⟨oj, tj, e1, e2⟩ := isMk_at (hp.high j hj).1
          exact (Array.getElem?_eq_some_iff.1 (hq.at_ j oj tj hj e1 e2).1.heap).1
        refine ⟨fun j oj tj hj hoj htj => ?_, fun j j' hj hj' h => ?_⟩
        · by_cases e : j = i
          · subst e
            rw [ho] at hoj
            cases hoj
            rw [hmk] at htj
            cases htj
            simp only [if_true]
            refine ⟨hA, fun k hk => ?_⟩
            have hkt := mayDst_ok hfr hal.may k hk
            rw [put_getD (by rw [hs.tmps.size]; exact hkt.1), if_pos hk]
          · simp only [if_neg e]
            have hj0 := (hpd j hj).resolve_left e
            obtain ⟨g1, g2⟩ := hq.at_ j oj tj hj0 hoj htj
            refine ⟨⟨(hkeep _ (hsz j hj0)).trans g1.heap, g1.imm, g1.own, g1.base⟩, fun k hk => ?_⟩
            rw [put_other (hdst j oj k hj0 hoj hk)]
            exact g2 k hk
        · by_cases e : j = i <;> by_cases e' : j' = i
          · rw [e, e']
          · simp only [if_pos e, if_neg e'] at h
            have := hsz j' ((hpd j' hj').resolve_left e')
            omega
          · simp only [if_neg e, if_pos e'] at h
            have := hsz j ((hpd j hj).resolve_left e)
            omega
          · simp only [if_neg e, if_neg e'] at h
            exact hq.inj j j' ((hpd j hj).resolve_left e) ((hpd j' hj').resolve_left e') h
      obtain ⟨m2, s2, c2, q1, q2, q3, q4, q5⟩ := settleB hC hd hrun _ m _ c rfl hp' hs1 hq1
      exact ih _ m2 s2 c2 _ _ _ (by omega) q1 q2 q3 q4 fun c3 w3 a3 h4 h5 => hK c3 w3 a3 h4 (h2.trans (q5.trans h5))

theorem evLog_ok [Sites] {Ω : Type} (hC : C.Ok P) (hmix : P.follows .mixedOrders = true) {id : Nat} {ops : Array Oper} {Q : Exit → Act → World → Prop} (hfr : ∀ t, C.may t = true → fr t = none) {K : St → Option Ω} {out : Ω} {s : St} {c : Cf} {w : World} {a : Act}
    (hd : drawOk ops (Region.before ops) = true) (h : evLog C ops (Region.before ops) ops.toList 0 [] s K = some out) (hs : Sim B C fr c s w a)
    (hK : ∀ s1 c' w' a', K s1 = some out → Sim B C fr c' s1 w' a' → Ext c w c' w' → Q .normal a' w') : (Code.region id ops true).wpIn (WF B.rd) 0 P Q a w := by
  obtain ⟨S, V, L, _, h1, h2, h3, h4⟩ := evLog_run (C := C) ops.size 0 (fun _ => .rd []) s (by omega) (Nat.zero_le _) h
  have hrun : Run C ops S V L := ⟨fun i o ho => h3 i o (Nat.zero_le _) ho, fun i j hi hj => (logOk_at (h4 i (Nat.zero_le _) hi) j hj).1, fun i k hi hk => (logOk_at (h4 i (Nat.zero_le _) hi) k hk).2⟩
  refine wpIn_region_any hmix ?_
  have hdr : Sim B C fr c s { w with drawn := w.drawn + 1 } a ∧ Ext c w c { w with drawn := w.drawn + 1 } := by
    have hE : Ext c w c { w with drawn := w.drawn + 1 } := ⟨fun _ _ h => h, fun _ h => h, fun _ _ => rfl⟩
    refine ⟨⟨⟨fun i o ho => (hs.rel.ob i o ho).ext hE fun _ _ => rfl, hs.rel.dom, hs.rel.sep, hs.rel.imm, hs.rel.lo, hs.rel.keep, hs.rel.mine, hs.rel.ro, hs.rel.sub, hs.rel.new, hs.rel.os, hs.rel.tape, hs.rel.output, hs.rel.size⟩, hs.tmps.ext hE, ⟨hs.marks.all, hs.marks.nodup⟩, hs.base⟩, hE⟩
  have hrep : ∀ i : Nat, (Array.replicate ops.size false)[i]? ≠ some true := fun i => by
    rw [Array.getElem?_replicate]
    split <;> simp
  have hnp : ∀ i, ¬ Pd ops L (Array.replicate ops.size false) 0 i := fun i hi => hrep i hi.2.2.2
  refine draw_any hC hd hfr hrun ops.size _ 0 (S 0) c _ a (fun _ => 0) ?_ ?_ (fun i hi => (hnp i hi).elim) (by rw [h1]; exact hdr.1) ⟨fun i o t hi => (hnp i hi).elim, fun i j hi => (hnp i hi).elim⟩ fun c' w' a' h5 h6 => hK _ c' w' a' h2 h5 (hdr.2.trans h6)
  · rw [Array.toList_replicate]
    exact Nat.le_trans List.countP_le_length (by simp)
  · exact ⟨by simp, fun i o k _ hl => (hrep i hl).elim, fun k _ => rfl, Nat.zero_le _, rfl, rfl, fun i hi => by omega, fun i hi => (hnp i hi).elim, fun i j _ hl => (hrep i hl).elim⟩
end
end Go.Hay
/- The evaluator of code. -/
set_option linter.unusedVariables false
set_option linter.unusedSimpArgs false
namespace Go.Hay
open Go.RowKit

structure Pc where
  run : {Ω : Type} → St → (Ctl → St → Option Ω) → Option Ω

def Pc.Ok [Sites] (P : Program) (C : Ctx) (code : Code) (q : Pc) : Prop :=
  ∀ {Ω : Type} (s : St) (K : Ctl → St → Option Ω) (out : Ω), q.run s K = some out →
    ∀ (B : Bs) (fr : Nat → Option Value) (c : Cf) (w : World) (a : Act) (Q : Exit → Act → World → Prop), (∀ t, C.may t = true → fr t = none) → Sim B C fr c s w a →
      (∀ ctl s1 c' w' a', K ctl s1 = some out → Sim B C fr c' s1 w' a' → Ext c w c' w' → Q ctl.out a' w') → code.wpIn (WF B.rd) 0 P Q a w

def evPc {Ω : Type} (q : Pc) (s : St) (K : Ctl → St → Option Ω) : Option Ω := q.run s K

abbrev Pcs := List Bool → Option Pc
def Pcs.l (Λ : Pcs) : Pcs := fun p => Λ (false :: p)
def Pcs.r (Λ : Pcs) : Pcs := fun p => Λ (true :: p)

noncomputable def evC {Ω : Type} (C : Ctx) : Code → Pcs → St → (Ctl → St → Option Ω) → Option Ω
  | .skip, _, s, K => K .normal s
  | .label _, _, s, K => K .normal s
  | .exit id, _, s, K => K (.exit id) s
  | .ret, _, s, K => K .ret s
  | .region _ ops d, Λ, s, K => match Λ [] with
    | some q => evPc q s K
    | none => match d with
      | false => evOps C ops ops.toList s (K .normal)
      | true => match drawOk ops (Region.before ops) with
        | true => evLog C ops (Region.before ops) ops.toList 0 [] s (K .normal)
        | false => none
  | .seq a b, Λ, s, K => match Λ [] with
    | some q => evPc q s K
    | none => evC C a Λ.l s fun ctl s1 => match ctl with
      | .normal => evC C b Λ.r s1 K
      | .ret => K .ret s1
      | .exit id => K (.exit id) s1
  | .cond c a b, Λ, s, K => match Λ [] with
    | some q => evPc q s K
    | none => match evO s.env c with
      | some (.bool t) => bif t then evC C a Λ.l s K else evC C b Λ.r s K
      | _ => none
  | .block id b, Λ, s, K => match Λ [] with
    | some q => evPc q s K
    | none => evC C b Λ.l s fun ctl s1 => match ctl with
      | .normal => K .normal s1
      | .ret => K .ret s1
      | .exit j => bif Nat.beq j id then K .normal s1 else K (.exit j) s1
  | .scope b, Λ, s, K => match Λ [] with
    | some q => evPc q s K
    | none => evC C b Λ.l s K
  | .loop _, Λ, s, K => match Λ [] with
    | some q => evPc q s K
    | none => none
  | .rangeFunc _ _ _ _, Λ, s, K => match Λ [] with
    | some q => evPc q s K
    | none => none
  | _, _, _, _ => none

def sub : Code → List Bool → Option Code
  | c, [] => some c
  | .seq a _, false :: p => sub a p
  | .seq _ b, true :: p => sub b p
  | .cond _ a _, false :: p => sub a p
  | .cond _ _ b, true :: p => sub b p
  | .block _ b, false :: p => sub b p
  | .scope b, false :: p => sub b p
  | _, _ :: _ => none

def Pcs.Ok [Sites] (P : Program) (C : Ctx) (code : Code) (Λ : Pcs) : Prop := ∀ p q code', Λ p = some q → sub code p = some code' → q.Ok P C code'

section
variable {P : Program} {B : Bs} {fr : Nat → Option Value} {C : Ctx}

theorem stepR_scope {c : Code} {b : Frame} {a : Act} {k : List Item} {cs : List Frame} {w : World} :
    step P (lone (b.atR a (.code (.scope c) :: k)) cs w) = .next (lone (b.atR a (.code c :: .inScope c :: k)) cs w) := step_lone_go (by simp [stepG, stepG.exec, Frame.atR])
theorem stepR_inScope {c : Code} {b : Frame} {a : Act} {k : List Item} {cs : List Frame} {w : World} :
    step P (lone (b.atR a (.inScope c :: k)) cs w) = .next (lone (b.atR a k) cs w) := step_lone_go (by simp [stepG, stepG.exec, Frame.atR])
theorem wpIn_scope {F : Fence} {n : Nat} {Q : Exit → Act → World → Prop} {a : Act} {w : World} {c : Code} (h : c.wpIn F n P (Exit.noGoto Q) a w) : (Code.scope c).wpIn F n P Q a w := by
  intro b k cs hro hb hr
  have h0 : (lone (b.atR a (.code (.scope c) :: k)) cs w).fenced P F := fenced_calm hb hr rfl
  obtain ⟨e, a₁, w₁, hq, harr⟩ := h b (.inScope c :: k) cs hro hb hr
  cases e with
  | normal => exact ⟨.normal, a₁, w₁, hq, .head h0 stepR_scope (StepsIn.trans harr (.one (fenced_calm hb hr rfl) stepR_inScope))⟩
  | exit id =>
    have hx : exitTo id (.inScope c :: k) = exitTo id k := by simp [exitTo]
    exact ⟨.exit id, a₁, w₁, hq, fun k' hk => .head h0 stepR_scope (harr.1 k' (by rw [hx]; exact hk)),
      fun hr' hk => let ⟨k₁, h1, h2⟩ := harr.2 hr' (by rw [hx]; exact hk); ⟨k₁, h1, .head h0 stepR_scope h2⟩⟩
  | goto l => exact hq.elim
  | ret => exact ⟨_, a₁, w₁, hq, .of_steps (.one h0 stepR_scope) harr⟩
  | panic ch => exact ⟨_, a₁, w₁, hq, .of_steps (.one h0 stepR_scope) harr⟩
  | outgrown => exact ⟨_, a₁, w₁, hq, .of_steps (.one h0 stepR_scope) harr⟩

theorem evPc_ok [Sites] {Ω : Type} {code : Code} {q : Pc} (hq : q.Ok P C code) {s : St} {K : Ctl → St → Option Ω} {out : Ω} (h : evPc q s K = some out) {c : Cf} {w : World} {a : Act} {Q : Exit → Act → World → Prop}
    (hfr : ∀ t, C.may t = true → fr t = none) (hs : Sim B C fr c s w a) (hK : ∀ ctl s1 c' w' a', K ctl s1 = some out → Sim B C fr c' s1 w' a' → Ext c w c' w' → Q ctl.out a' w') : code.wpIn (WF B.rd) 0 P Q a w :=
  hq s K out h B fr c w a Q hfr hs hK

theorem evC_ok [Sites] {Ω : Type} (hC : C.Ok P) (hmix : P.follows .mixedOrders = true) (hfr : ∀ t, C.may t = true → fr t = none) {out : Ω} :
    ∀ (code : Code) (Λ : Pcs) (s : St) (K : Ctl → St → Option Ω), evC C code Λ s K = some out → Λ.Ok P C code →
      ∀ (c : Cf) (w : World) (a : Act) (Q : Exit → Act → World → Prop), Sim B C fr c s w a → (∀ ctl s1 c' w' a', K ctl s1 = some out → Sim B C fr c' s1 w' a' → Ext c w c' w' → Q ctl.out a' w') → code.wpIn (WF B.rd) 0 P Q a w := by
  intro code
  induction code with
  | skip => intro Λ s K h hΛ c w a Q hs hK; exact wpIn_skip (hK .normal s c w a h hs (Ext.refl c w))
  | label l => intro Λ s K h hΛ c w a Q hs hK; exact wpIn_label (hK .normal s c w a h hs (Ext.refl c w))
  | exit id => intro Λ s K h hΛ c w a Q hs hK; exact wpIn_exit (hK (.exit id) s c w a h hs (Ext.refl c w))
  | ret => intro Λ s K h hΛ c w a Q hs hK; exact wpIn_ret (hK .ret s c w a h hs (Ext.refl c w))
  | region id ops d =>
    intro Λ s K h hΛ c w a Q hs hK
    simp only [evC] at h
    split at h
    · rename_i q hq
      exact evPc_ok (hΛ [] q _ hq (by simp [sub])) h hfr hs hK
    cases d with
    | false => exact wpIn_region (evOps_ok hC hfr 0 s c w a h (Nat.zero_le _) hs fun s1 c' w' a' h1 h2 h3 => hK .normal s1 c' w' a' h1 h2 h3)
    | true =>
      simp only at h
      split at h
      · rename_i hd
        exact evLog_ok hC hmix hfr hd h hs fun s1 c' w' a' h1 h2 h3 => hK .normal s1 c' w' a' h1 h2 h3
      · cases h
  | seq x y ihx ihy =>
    intro Λ s K h hΛ c w a Q hs hK
    simp only [evC] at h
    split at h
    · rename_i q hq
      exact evPc_ok (hΛ [] q _ hq (by simp [sub])) h hfr hs hK
    · refine wpIn_seq (ihx Λ.l s _ h (fun p q code' h1 h2 => hΛ (false :: p) q code' h1 (by simpa [sub] using h2)) c w a _ hs fun ctl s1 c' w' a' h1 h2 h3 => ?_)
      cases ctl with
      | normal => exact ihy Λ.r s1 K h1 (fun p q code' h1 h2 => hΛ (true :: p) q code' h1 (by simpa [sub] using h2)) c' w' a' Q h2 fun ctl s2 c2 w2 a2 h4 h5 h6 => hK ctl s2 c2 w2 a2 h4 h5 (h3.trans h6)
      | ret => exact hK .ret s1 c' w' a' h1 h2 h3
      | exit id => exact hK (.exit id) s1 c' w' a' h1 h2 h3
  | cond o x y ihx ihy =>
    intro Λ s K h hΛ c w a Q hs hK
    simp only [evC] at h
    split at h
    · rename_i q hq
      exact evPc_ok (hΛ [] q _ hq (by simp [sub])) h hfr hs hK
    · split at h
      · rename_i t ht
        have hv := hs.ops _ _ ht
        simp only [VR] at hv
        refine wpIn_cond hv ?_
        cases t with
        | true => exact ihx Λ.l s K h (fun p q code' h1 h2 => hΛ (false :: p) q code' h1 (by simpa [sub] using h2)) c w a Q hs hK
        | false => exact ihy Λ.r s K h (fun p q code' h1 h2 => hΛ (true :: p) q code' h1 (by simpa [sub] using h2)) c w a Q hs hK
      · cases h
  | block id x ih =>
    intro Λ s K h hΛ c w a Q hs hK
    simp only [evC] at h
    split at h
    · rename_i q hq
      exact evPc_ok (hΛ [] q _ hq (by simp [sub])) h hfr hs hK
    · refine wpIn_block (ih Λ.l s _ h (fun p q code' h1 h2 => hΛ (false :: p) q code' h1 (by simpa [sub] using h2)) c w a _ hs fun ctl s1 c' w' a' h1 h2 h3 => ?_)
      cases ctl with
      | normal => exact hK .normal s1 c' w' a' h1 h2 h3
      | ret => exact hK .ret s1 c' w' a' h1 h2 h3
      | exit j =>
        simp only at h1
        simp only [Ctl.out, Exit.inBlock]
        by_cases e : j = id
        · subst e
          rw [if_pos rfl]
          rw [show Nat.beq j j = true from Nat.beq_refl j] at h1
          exact hK .normal s1 c' w' a' (by simpa using h1) h2 h3
        · rw [if_neg e]
          rw [beq_no e] at h1
          exact hK (.exit j) s1 c' w' a' (by simpa using h1) h2 h3
  | scope x ih =>
    intro Λ s K h hΛ c w a Q hs hK
    simp only [evC] at h
    split at h
    · rename_i q hq
      exact evPc_ok (hΛ [] q _ hq (by simp [sub])) h hfr hs hK
    · refine wpIn_scope (ih Λ.l s _ h (fun p q code' h1 h2 => hΛ (false :: p) q code' h1 (by simpa [sub] using h2)) c w a _ hs fun ctl s1 c' w' a' h1 h2 h3 => ?_)
      have := hK ctl s1 c' w' a' h1 h2 h3
      cases ctl <;> exact this
  | loop x ih =>
    intro Λ s K h hΛ c w a Q hs hK
    simp only [evC] at h
    split at h
    · rename_i q hq
      exact evPc_ok (hΛ [] q _ hq (by simp [sub])) h hfr hs hK
    · cases h
  | rangeFunc f ps x y ihx ihy =>
    intro Λ s K h hΛ c w a Q hs hK
    simp only [evC] at h
    split at h
    · rename_i q hq
      exact evPc_ok (hΛ [] q _ hq (by simp [sub])) h hfr hs hK
    · cases h
  | _ => intro Λ s K h; simp [evC] at h
end
end Go.Hay
