/- Contracts of functions, and the evaluator of code. -/
import Derived.Test.YthlojpcjafefjaaHayM
import Derived.Conc.MuLone
import Derived.LoopNIn
import Derived.OrdersIn
import Derived.RangeFuncRecord
set_option linter.unusedVariables false
set_option linter.unusedSimpArgs false
namespace Go.Hay
open Go.RowKit

/-- What a function does, seen from a caller: its input out of arguments and objects; what it computes; what stands behind it, and which names were written. -/
structure Con where
  X : Type
  Y : X → Type
  pre : List AV → Obs → Nat → Option X
  fn : (x : X) → Option (Y x)
  post : List AV → Obs → Nat → (x : X) → Y x → Option (AV × Obs × Nat × List Nat)
  spl : {Ω : Type} → (x : X) → (y : Y x) → (Y x → Option Ω) → Option Ω := fun _ y K => K y
  spl_ok : ∀ {Ω : Type} (x : X) (y : Y x) (K : Y x → Option Ω) (out : Ω), spl x y K = some out → K y = some out := by intros; assumption

/-- The contract holds of a function. -/
structure Con.Ok [Sites] (P : Program) (f : FuncId) (C : Con) : Prop where
  enters : ∀ args w, (callFunc f args).run P w = .ok (.enter f args) w
  runs : ∀ (args : List AV) (s : Obs) (nx : Nat) (x : C.X) (y : C.Y x) (v : AV) (s1 : Obs) (n1 : Nat) (W : List Nat), C.pre args s nx = some x → C.fn x = some y → C.post args s nx x y = some (v, s1, n1, W) →
    ∀ (B : Bs) (c : Cf) (w : World) (vals : List Value), Rel B c s w → VRs c w args vals →
      Calls P f vals.toArray w fun e w' => ∃ c' u, e = .returned u ∧ Rel B c' s1 w' ∧ VR c' w' v u ∧ Ext c w c' w'
  wrote : ∀ (args : List AV) (s : Obs) (nx : Nat) (x : C.X) (y : C.Y x) (v : AV) (s1 : Obs) (n1 : Nat) (W : List Nat), C.pre args s nx = some x → C.post args s nx x y = some (v, s1, n1, W) → ∀ i, i ∉ W → look s1 i = look s i

/-- What the function does that gives a range over a function its next values: a round of the range. 'run': the arguments, the record's name, its number and cells, the objects, the next name; what stands behind it is the value, the objects, the next name, the names that were written. -/
structure Yc where
  run : {Ω : Type} → List AV → Nat → TypeId → List AV → Obs → Nat → (AV → Obs → Nat → List Nat → Option Ω) → Option Ω
  nat : ∀ {Ω : Type} (args : List AV) (id : Nat) (t : TypeId) (cs : List AV) (s : Obs) (nx : Nat) (K : AV → Obs → Nat → List Nat → Option Ω) (out : Ω), run args id t cs s nx K = some out →
    ∃ v s1 n1 W, run args id t cs s nx (fun v s1 n1 W => some (v, s1, n1, W)) = some (v, s1, n1, W) ∧ K v s1 n1 W = some out

abbrev WF (r : Option Nat) : Fence := { fn := fun _ => True, depth := none, alive := false, round := r }

theorem callsIn_WF {r : Option Nat} {n : Nat} {P : Program} {f : FuncId} {args : Array Value} {w : World} {R : Ending → World → Prop} (h : Calls P f args w R) : CallsIn (WF r) n P f args w R :=
  (callsIn_wide.2 h : CallsIn Fence.wide n P f args w R)
theorem room_WF (r : Option Nat) (n : Nat) : (WF r).room n := fun _ h => by cases h

/-- The record of a loop, with yield's arguments in the parameters. -/
def roundTmps (r : Loop) (args : Array Value) : Array Value := (r.params.zip args).foldl (fun tmps (t, a) => tmps.setIfInBounds t a) r.tmps

structure Yc.Ok [Sites] (P : Program) (t : Nat) (q : Yc) : Prop where
  runs : ∀ (args : List AV) (id : Nat) (cs : List AV) (s : Obs) (nx : Nat) (v : AV) (s1 : Obs) (n1 : Nat) (W : List Nat), q.run args id t cs s nx (fun v s1 n1 W => some (v, s1, n1, W)) = some (v, s1, n1, W) → look s id = some (.box t cs) →
    ∀ (B : Bs) (c : Cf) (w : World) (vals : List Value) (b : Nat), Rel B c s w → VRs c w args vals → c.nm id = some (.pointer (some ⟨b, 0, none⟩)) →
      ∃ r, w.heap[b]? = some (.loop r) ∧ vals.length = r.params.size ∧
        RoundIn (WF none) 0 P b r.fn (roundTmps r vals.toArray) r.assign r.body w fun e w' => ∃ c' u, e = .returned u ∧ Rel B c' s1 w' ∧ VR c' w' v u ∧ Ext c w c' w'
  wrote : ∀ (args : List AV) (id : Nat) (cs : List AV) (s : Obs) (nx : Nat) (v : AV) (s1 : Obs) (n1 : Nat) (W : List Nat), q.run args id t cs s nx (fun v s1 n1 W => some (v, s1, n1, W)) = some (v, s1, n1, W) → look s id = some (.box t cs) → ∀ i, i ∉ W → look s1 i = look s i

structure St where
  env : Env
  obs : Obs
  nx : Nat

inductive Ctl where
  | normal | ret | exit (id : Nat)

def Ctl.out : Ctl → Exit
  | .normal => .normal
  | .ret => .ret
  | .exit id => .exit id

/-- What is fixed while code is evaluated: types, how many temporaries, which may be written, contracts, rounds. -/
structure Ctx where
  U : TEnv
  nt : Nat
  may : Nat → Bool
  Γ : FuncId → Option Con
  Y : TypeId → Option Yc

def mayDst (C : Ctx) (d : Option Tmp) : Bool := match d with | none => true | some t => Nat.blt t C.nt && C.may t

/-- The function that a call enters, and its arguments. -/
def callee (ρ : Operand → Option AV) (o : Op) : Option (FuncId × List AV) :=
  match o with
  | .call { callee := .value f, args := args, argTypes := _ } => match ρ f, allSome (args.toList.map ρ) with
    | some (.fn (.func g) [] cap), some as => some (g, as ++ cap)
    | _, _ => none
  | _ => none

/-- The record whose next round a call asks for, and the arguments. -/
def yieldee (ρ : Operand → Option AV) (o : Op) : Option (Nat × List AV) :=
  match o with
  | .call { callee := .value f, args := args, argTypes := _ } => match ρ f, allSome (args.toList.map ρ) with
    | some (.yld id), some as => some (id, as)
    | _, _ => none
  | _ => none

/-- The names that an operation may write. -/
def idsDeep : AV → List Nat
  | .agg cs => cs.flatMap AV.ids
  | x => x.ids
def wrE (ρ : Operand → Option AV) (nx : Nat) (o : Op) : List Nat := nx :: o.operands.toList.flatMap fun x => match ρ x with | some v => idsDeep v | none => []

def obind {α β : Type} (x : Option α) (f : α → Option β) : Option β := match x with | some a => f a | none => none

/-- A record of what was read or written, where the order is open. -/
inductive Lg where
  | rd (ids : List Nat)
  | wr (ids : List Nat)

/-- One operation that is carried out: the value, the objects behind it, its record. -/
def evOp {Ω : Type} (C : Ctx) (o : Op) (s : St) (K : AV → Obs → Nat → Lg → Option Ω) : Option Ω :=
  match evalV C.U (evO s.env) (rdk s.obs) o with
  | some (v, b) => bif b then K v s.obs s.nx (.rd (foot (evO s.env) o)) else none
  | none => match evalE C.U (evO s.env) s.obs s.nx o with
    | some (v, s1, n1, b) => bif b then K v s1 n1 (.wr (wrE (evO s.env) s.nx o)) else none
    | none => match callee (evO s.env) o with
      | some (f, args) => match C.Γ f with
        | some c => match c.pre args s.obs s.nx with
          | some x => obind (c.fn x) fun y => c.spl x y fun y => match c.post args s.obs s.nx x y with
            | some (v, s1, n1, W) => K v s1 n1 (.wr W)
            | none => none
          | none => none
        | none => none
      | none => match yieldee (evO s.env) o with
        | some (id, args) => match look s.obs id with
          | some (.box t cs) => match C.Y t with
            | some q => q.run args id t cs s.obs s.nx fun v s1 n1 W => K v s1 n1 (.wr W)
            | none => none
          | _ => none
        | none => none

/-- The temporary that a guard asks. -/
def guardTmp (ops : Array Oper) (g : Nat) : Option Tmp := (ops[g]?).bind (·.dst)

/-- One operation, as its guard says. -/
def evGuard {Ω : Type} (C : Ctx) (ops : Array Oper) (o : Oper) (s : St) (K : St → Lg → Option Ω) : Option Ω :=
  match mayDst C o.dst with
  | true => match o.guard with
    | none => evOp C o.op s fun v s1 n1 lg => K ⟨setT s.env o.dst v, s1, n1⟩ lg
    | some (g, want) => match guardTmp ops g with
      | some t => match look s.env t with
        | some (.bool b) => bif b then
            (match want with
            | true => evOp C o.op ⟨put s.env t (.bool true), s.obs, s.nx⟩ fun v s1 n1 lg => K ⟨setT (put s.env t (.bool true)) o.dst v, s1, n1⟩ lg
            | false => K ⟨setT (put s.env t (.bool true)) o.dst (.tup []), s.obs, s.nx⟩ (.rd []))
          else
            (match want with
            | false => evOp C o.op ⟨put s.env t (.bool false), s.obs, s.nx⟩ fun v s1 n1 lg => K ⟨setT (put s.env t (.bool false)) o.dst v, s1, n1⟩ lg
            | true => K ⟨setT (put s.env t (.bool false)) o.dst (.tup []), s.obs, s.nx⟩ (.rd []))
        | some (.tup []) => K ⟨setT s.env o.dst (.tup []), s.obs, s.nx⟩ (.rd [])
        | _ => none
      | none => none
  | false => none

/-- Of two results the second; where 'b' says so both have to be one. -/
noncomputable def pick2 {Ω : Type} (b : Bool) (x y : Option Ω) : Option Ω := open Classical in bif b then (if x = y then x else none) else y

/-- A slice that is asked whether it is nil: is it empty? Is it asked whether it is not? -/
def nilAsk (C : Ctx) (s : St) (o : Oper) : Option (Bool × Bool) :=
  match o.guard with
  | none => match o.op with
    | .binOp op t x (.const (.slice none 0 0)) _ => match (C.U t).k, mayDst C o.dst, look2 s x with
      | .slice _, true, some v => match v with
        | .view _ _ _ _ => none
        | v => match lenOf (rdk s.obs) v, op with
          | some n, .eql => some (Nat.beq n 0, false)
          | some n, .neq => some (Nat.beq n 0, true)
          | _, _ => none
      | _, _, _ => none
    | _ => none
  | some _ => none
  where look2 (s : St) (x : Operand) : Option AV := evO s.env x

/-- Operations in the order of the text. -/
noncomputable def evOps {Ω : Type} (C : Ctx) (ops : Array Oper) : List Oper → St → (St → Option Ω) → Option Ω
  | [], s, K => K s
  | o :: r, s, K => match nilAsk C s o with
    | some (b, ng) => pick2 b (evOps C ops r ⟨setT s.env o.dst (.bool (!ng)), s.obs, s.nx⟩ K) (evOps C ops r ⟨setT s.env o.dst (.bool ng), s.obs, s.nx⟩ K)
    | none => evGuard C ops o s fun s' _ => evOps C ops r s' K

section
variable {P : Program} {B : Bs} {c : Cf} {w : World} {fr : Nat → Option Value} {a : Act} {C : Ctx}

structure Ctx.Ok [Sites] (P : Program) (C : Ctx) : Prop where
  U : C.U.Ok P
  Γ : ∀ f K, C.Γ f = some K → K.Ok P f
  Y : ∀ t q, C.Y t = some q → q.Ok P t

/-- A beginning: in a round of a range over a function its record is there, and nothing of ours. -/
structure BaseOk (B : Bs) : Prop where
  fl : B.fl ≤ B.w.heap.size
  rd : ∀ l, B.rd = some l → (∃ r, B.w.heap[l]? = some (.loop r)) ∧ ¬ B.M l

/-- A state stands for a world and temporaries. -/
structure Sim [Sites] (B : Bs) (C : Ctx) (fr : Nat → Option Value) (c : Cf) (s : St) (w : World) (a : Act) : Prop where
  rel : Rel B c s.obs w
  tmps : Tmps C.nt fr c w s.env a
  marks : Marks B.fl c w a.defers
  base : BaseOk B

theorem put_defers (a : Act) (d : Option Tmp) (u : Value) : (a.put d u).defers = a.defers := by cases d <;> rfl

theorem Sim.ops [Sites] {s : St} (h : Sim B C fr c s w a) : Ops.Ok c w (evO s.env) a.eval := fun o x hx => evO_ok h.tmps hx

theorem mayDst_ok (hfr : ∀ t, C.may t = true → fr t = none) {d : Option Tmp} (h : mayDst C d = true) : mayD C.nt fr d := by
  intro t ht
  subst ht
  simp only [mayDst, Bool.and_eq_true, Nat.blt_eq] at h
  exact ⟨h.1, hfr t h.2⟩

/-- What one operation does: where it ends. -/
def Ends [Sites] (P : Program) (B : Bs) (c : Cf) (w : World) (a : Act) (o : Oper) (Q : Exit → Act → World → Prop) (v : AV) (s1 : Obs) : Prop :=
  ∀ next : Act → World → Prop, (∀ c' w' u, Rel B c' s1 w' → Marks B.fl c' w' a.defers → VR c' w' v u → Ext c w c' w' → next (a.put o.dst u) w') → o.wpIn (WF B.rd) 0 P a w next Q

theorem wpIn_of {r : Option Nat} {o : Oper} {next : Act → World → Prop} {Q : Exit → Act → World → Prop} (hd : ∀ c, o.op ≠ .defer c) (h : o.uponIn (WF r) 0 P a next Q ((execOp a.eval o).run P w)) : o.wpIn (WF r) 0 P a w next Q :=
  ⟨fun _ _ => trivial, by rw [Oper.semAt_eq _ _ _ hd]; exact h⟩

theorem no_defer_v {U : TEnv} {ρ : Operand → Option AV} {lk : Lk} {o : Op} {r : AV × Bool} (h : evalV U ρ lk o = some r) : ∀ c, o ≠ .defer c := fun c e => by rw [e] at h; simp [evalV] at h
theorem no_defer_e {U : TEnv} {ρ : Operand → Option AV} {s : Obs} {nx : Nat} {o : Op} {r : AV × Obs × Nat × Bool} (h : evalE U ρ s nx o = some r) : ∀ c, o ≠ .defer c := fun c e => by rw [e] at h; simp [evalE] at h
theorem no_defer_c {ρ : Operand → Option AV} {o : Op} {r : FuncId × List AV} (h : callee ρ o = some r) : ∀ c, o ≠ .defer c := fun c e => by rw [e] at h; simp [callee] at h
theorem no_defer_y {ρ : Operand → Option AV} {o : Op} {r : Nat × List AV} (h : yieldee ρ o = some r) : ∀ c, o ≠ .defer c := fun c e => by rw [e] at h; simp [yieldee] at h

theorem callee_ok [Sites] {ρ : Operand → Option AV} {e : Operand → Value} (hρ : Ops.Ok c w ρ e) {o : Oper} {f : FuncId} {args : List AV} (h : callee ρ o.op = some (f, args)) :
    ∃ vals : List Value, VRs c w args vals ∧ ((execOp e o).run P w = (callFunc f vals.toArray).run P w) := by
  unfold callee at h
  split at h
  · rename_i g args' ts ho
    split at h
    · rename_i g' cap as h1 h2
      simp only [Option.some.injEq, Prod.mk.injEq] at h
      obtain ⟨rfl, rfl⟩ := h
      have hf := hρ _ _ h1
      simp only [VR] at hf
      obtain ⟨us, vs, ef, hus, hvs⟩ := hf
      simp only [VRs] at hus
      subst hus
      have has := allSome_ok hρ h2
      refine ⟨args'.toList.map e ++ vs, has.append hvs, ?_⟩
      have : (args'.map e) ++ vs.toArray = (args'.toList.map e ++ vs).toArray := by
        apply Array.toList_inj.1
        simp
      simp [execOp, ho, resolve, ef, Deferred.ofValue, invoke, ← this]
    · cases h
  · cases h

theorem yieldee_ok [Sites] {ρ : Operand → Option AV} {e : Operand → Value} (hρ : Ops.Ok c w ρ e) {o : Oper} {id : Nat} {args : List AV} (h : yieldee ρ o.op = some (id, args)) :
    ∃ (vals : List Value) (b : Nat), VRs c w args vals ∧ c.nm id = some (.pointer (some ⟨b, 0, none⟩)) ∧ ((execOp e o).run P w = (Instr.yield b vals.toArray).run P w) := by
  unfold yieldee at h
  split at h
  · rename_i g args' ts ho
    split at h
    · rename_i id' as h1 h2
      simp only [Option.some.injEq, Prod.mk.injEq] at h
      obtain ⟨rfl, rfl⟩ := h
      have hf := hρ _ _ h1
      simp only [VR] at hf
      obtain ⟨b, hn, ef⟩ := hf
      have has := allSome_ok hρ h2
      refine ⟨args'.toList.map e, b, has, hn, ?_⟩
      have : (args'.map e) = (args'.toList.map e).toArray := by
        apply Array.toList_inj.1
        simp
      simp [execOp, ho, resolve, ef, Deferred.ofValue, invoke, ← this]
    · cases h
  · cases h

theorem evOp_ok [Sites] {Ω : Type} (hC : C.Ok P) {o : Oper} {s : St} {K : AV → Obs → Nat → Lg → Option Ω} {out : Ω} (h : evOp C o.op s K = some out) :
    ∃ v s1 n1 lg, K v s1 n1 lg = some out ∧ ∀ (B : Bs) (fr : Nat → Option Value) (c : Cf) (w : World) (a : Act) (Q : Exit → Act → World → Prop), Sim B C fr c s w a → Ends P B c w a o Q v s1 := by
  unfold evOp at h
  split at h
  · rename_i v b hv
    cases b with
    | false => simp at h
    | true =>
      simp only [cond_true] at h
      refine ⟨v, _, _, _, h, fun B fr c w a Q hs next hn => ?_⟩
      obtain ⟨u, hrun, hvr⟩ := evalV_ok (P := P) hC.U hv hs.ops hs.rel.rdk
      refine wpIn_of (no_defer_v hv) ?_
      rw [hrun]
      exact hn c w u hs.rel hs.marks hvr (Ext.refl c w)
  · rename_i hv
    split at h
    · rename_i v s1 n1 b he
      cases b with
      | false => simp at h
      | true =>
        simp only [cond_true] at h
        refine ⟨v, _, _, _, h, fun B fr c w a Q hs next hn => ?_⟩
        obtain ⟨c', w', u, hrun, h1, h2, h3⟩ := evalE_ok (P := P) hC.U he hs.rel.rebase hs.ops
        refine wpIn_of (no_defer_e he) ?_
        rcases hrun with hrun | ⟨hrun, rfl⟩
        · rw [hrun]; exact hn c' w' u (hs.rel.trans h1) (hs.marks.step hs.rel h1) h2 h3
        · rw [hrun]; exact hn c' w' undef (hs.rel.trans h1) (hs.marks.step hs.rel h1) h2 h3
    · rename_i he
      split at h
      · rename_i f args hcal
        split at h
        · rename_i K' hK
          split at h
          · rename_i x hx
            unfold obind at h
            split at h
            · rename_i y hy
              have h := K'.spl_ok _ _ _ _ h
              split at h
              · rename_i v s1 n1 W hpost
                refine ⟨v, _, _, _, h, fun B fr c w a Q hs next hn => ?_⟩
                have hc := hC.Γ f K' hK
                obtain ⟨vals, hvals, hrun⟩ := callee_ok (P := P) hs.ops hcal
                refine wpIn_of (no_defer_c hcal) ?_
                rw [hrun, hc.enters, Oper.uponIn_enter]
                refine ⟨fun h => (by cases h), callsIn_WF ((hc.runs args s.obs s.nx x y v s1 n1 W hx hy hpost (here B c s.obs w) c w vals hs.rel.rebase hvals).mono ?_)⟩
                rintro e' w' ⟨c', u, rfl, h1, h2, h3⟩
                exact hn c' w' u (hs.rel.trans h1) (hs.marks.step hs.rel h1) h2 h3
              · cases h
            · cases h
          · cases h
        · cases h
      · rename_i hcal
        split at h
        · rename_i id args hy
          split at h
          · rename_i t cs hl
            split at h
            · rename_i q hq
              obtain ⟨v, s1, n1, W, h1, h2⟩ := q.nat _ _ _ _ _ _ _ _ h
              refine ⟨v, s1, n1, _, h2, fun B fr c w a Q hs next hn => ?_⟩
              obtain ⟨vals, b, hvals, hnm, hrun⟩ := yieldee_ok (P := P) hs.ops hy
              obtain ⟨r, hr, hsz, hround⟩ := (hC.Y t q hq).runs args id cs s.obs s.nx v s1 n1 W h1 hl (here B c s.obs w) c w vals b hs.rel.rebase hvals hnm
              refine wpIn_of (no_defer_y hy) ?_
              rw [hrun, run_yield hr (by simpa using hsz), Oper.uponIn_round]
              refine ⟨fun h => (by cases h), RoundIn.mono (hround : RoundIn (WF B.rd) 0 P b r.fn _ r.assign r.body w _) ?_⟩
              rintro e' w' ⟨c', u, rfl, h1, h2, h3⟩
              exact hn c' w' u (hs.rel.trans h1) (hs.marks.step hs.rel h1) h2 h3
            · cases h
          · cases h
        · cases h

theorem wanted_none {o : Oper} (h : o.guard = none) (f : Nat → Option Bool) : Region.wanted o f = true := by simp [Region.wanted, h]

/-- What an operation with its guard does. -/
def Goes [Sites] (P : Program) (B : Bs) (c : Cf) (w : World) (a : Act) (ops : Array Oper) (o : Oper) (Q : Exit → Act → World → Prop) (C : Ctx) (fr : Nat → Option Value) (s1 : St) : Prop :=
  ∀ next : Act → World → Prop, (∀ c' w' a', Sim B C fr c' s1 w' a' → Ext c w c' w' → next a' w') →
    (if Region.wanted o (yielded ops a.tmps) then o.wpIn (WF B.rd) 0 P a w next Q else (∀ f, o.about P w a.eval = some f → (WF B.rd).fn f) ∧ next (a.put o.dst undef) w)

/-- What was skipped. -/
theorem undef_VR {c : Cf} {w : World} : VR c w (.tup []) undef := by
  unfold VR
  exact ⟨[], rfl, by unfold VRs; rfl⟩
theorem VR_undef {c : Cf} {w : World} {u : Value} (h : VR c w (.tup []) u) : u = undef := by
  unfold VR at h
  obtain ⟨us, h1, h2⟩ := h
  unfold VRs at h2
  subst h2
  exact h1

theorem evGuard_ok [Sites] {Ω : Type} (hC : C.Ok P) {ops : Array Oper} {o : Oper} {s : St} {K : St → Lg → Option Ω} {out : Ω} (h : evGuard C ops o s K = some out) :
    ∃ s1 lg, K s1 lg = some out ∧ ∀ (B : Bs) (fr : Nat → Option Value) (c : Cf) (w : World) (a : Act) (Q : Exit → Act → World → Prop), (∀ t, C.may t = true → fr t = none) → Sim B C fr c s w a → Goes P B c w a ops o Q C fr s1 := by
  unfold evGuard at h
  split at h
  · rename_i hm
    split at h
    · rename_i hg
      obtain ⟨v, s1, n1, lg, hk, hd⟩ := evOp_ok hC h
      refine ⟨_, _, hk, fun B fr c w a Q hfr hs next hn => ?_⟩
      rw [if_pos (wanted_none hg _)]
      refine hd B fr c w a Q hs next fun c' w' u h1 hm1 h2 h3 => hn c' w' _ ⟨h1, (hs.tmps.ext h3).put (mayDst_ok hfr hm) h2, by rw [put_defers]; exact hm1, hs.base⟩ h3
    · rename_i g want hg
      split at h
      · rename_i t ht
        split at h
        · rename_i b hb
          have key : ∀ (B : Bs) (fr : Nat → Option Value) (c : Cf) (w : World) (a : Act), Sim B C fr c s w a → yielded ops a.tmps g = some b ∧ Sim B C fr c ⟨put s.env t (.bool b), s.obs, s.nx⟩ w a := by
            intro B fr c w a hs
            have hv := hs.tmps.env t _ hb
            simp only [VR] at hv
            refine ⟨?_, ⟨hs.rel, ⟨hs.tmps.size, fun k x hx => ?_, hs.tmps.frame⟩, hs.marks, hs.base⟩⟩
            · unfold guardTmp at ht
              unfold yielded
              rw [ht]
              have : a.tmps[t]? = some (.bool b) := by
                cases ha : a.tmps[t]? with
                | none => simp [ha] at hv; exact absurd hv (by simp [undef])
                | some z => simp [ha] at hv; rw [hv]
              simp [this]
            · rw [look_put] at hx
              split at hx
              · rename_i e; subst e; simp only [Option.some.injEq] at hx; subst hx; simpa only [VR] using hv
              · exact hs.tmps.env k x hx
          cases b with
          | true =>
            simp only [cond_true] at h
            cases want with
            | true =>
              obtain ⟨v, s1, n1, lg, hk, hd⟩ := evOp_ok hC h
              refine ⟨_, _, hk, fun B fr c w a Q hfr hs next hn => ?_⟩
              obtain ⟨hy, hs'⟩ := key B fr c w a hs
              rw [if_pos (by simp [Region.wanted, hg, hy])]
              exact hd B fr c w a Q hs' next fun c' w' u h1 hm1 h2 h3 => hn c' w' _ ⟨h1, (hs'.tmps.ext h3).put (mayDst_ok hfr hm) h2, by rw [put_defers]; exact hm1, hs'.base⟩ h3
            | false =>
              refine ⟨_, _, h, fun B fr c w a Q hfr hs next hn => ?_⟩
              obtain ⟨hy, hs'⟩ := key B fr c w a hs
              rw [if_neg (by simp [Region.wanted, hg, hy])]
              exact ⟨fun _ _ => trivial, hn c w _ ⟨hs'.rel, hs'.tmps.put (mayDst_ok hfr hm) undef_VR, by rw [put_defers]; exact hs'.marks, hs'.base⟩ (Ext.refl c w)⟩
          | false =>
            simp only [cond_false] at h
            cases want with
            | false =>
              obtain ⟨v, s1, n1, lg, hk, hd⟩ := evOp_ok hC h
              refine ⟨_, _, hk, fun B fr c w a Q hfr hs next hn => ?_⟩
              obtain ⟨hy, hs'⟩ := key B fr c w a hs
              rw [if_pos (by simp [Region.wanted, hg, hy])]
              exact hd B fr c w a Q hs' next fun c' w' u h1 hm1 h2 h3 => hn c' w' _ ⟨h1, (hs'.tmps.ext h3).put (mayDst_ok hfr hm) h2, by rw [put_defers]; exact hm1, hs'.base⟩ h3
            | true =>
              refine ⟨_, _, h, fun B fr c w a Q hfr hs next hn => ?_⟩
              obtain ⟨hy, hs'⟩ := key B fr c w a hs
              rw [if_neg (by simp [Region.wanted, hg, hy])]
              exact ⟨fun _ _ => trivial, hn c w _ ⟨hs'.rel, hs'.tmps.put (mayDst_ok hfr hm) undef_VR, by rw [put_defers]; exact hs'.marks, hs'.base⟩ (Ext.refl c w)⟩
        · rename_i hb
          refine ⟨_, _, h, fun B fr c w a Q hfr hs next hn => ?_⟩
          have hv := VR_undef (hs.tmps.env t _ hb)
          have hy : yielded ops a.tmps g = none := by
            unfold guardTmp at ht
            unfold yielded
            rw [ht]
            cases ha : a.tmps[t]? with
            | none => simp [ha]
            | some z => simp [ha] at hv; simp [ha, hv, undef]
          rw [if_neg (by simp [Region.wanted, hg, hy])]
          exact ⟨fun _ _ => trivial, hn c w _ ⟨hs.rel, hs.tmps.put (mayDst_ok hfr hm) undef_VR, by rw [put_defers]; exact hs.marks, hs.base⟩ (Ext.refl c w)⟩
        · cases h
      · cases h
  · cases h

theorem pick2_snd {Ω : Type} {b : Bool} {x y : Option Ω} {out : Ω} (h : pick2 b x y = some out) : y = some out := by
  unfold pick2 at h
  cases b with
  | false => exact h
  | true =>
    simp only [cond_true] at h
    split at h
    · rename_i e; rw [← e]; exact h
    · cases h
theorem pick2_both [Sites] {Ω : Type} {b : Bool} {x y : Option Ω} {out : Ω} (h : pick2 b x y = some out) (hb : b = true) : x = some out ∧ y = some out := by
  refine ⟨?_, pick2_snd h⟩
  unfold pick2 at h
  subst hb
  simp only [cond_true] at h
  split at h
  · exact h
  · cases h

theorem len_nil [Sites] {lk : Lk} (hk : Obs.Ok c w lk) {x : AV} {n : Nat} (h : lenOf lk x = some n) (hx : ∀ a b c d, x ≠ .view a b c d) {u : Value} (hv : VR c w x u) : ∃ A cap, u = .slice A n cap ∧ (A = none → n = 0) := by
  have key : ∀ {t : Ty} {l : List t.den} {v : Value}, SeqAt c w t l v → ∃ A cap, v = .slice A l.length cap ∧ (A = none → l.length = 0) := by
    rintro t l v ⟨A, cap, us, e, h1, h2, h3, _⟩
    exact ⟨A, cap, e, h3⟩
  unfold lenOf at h
  split at h
  · simp only [Option.some.injEq] at h
    subst h
    simp only [VR] at hv
    exact key hv.seq
  · simp only [Option.some.injEq] at h
    subst h
    simp only [VR] at hv
    obtain ⟨A, rfl⟩ := hv
    exact ⟨A, 0, rfl, fun _ => rfl⟩
  · rename_i id
    simp only [VR] at hv
    split at h
    · rename_i e t' l' hl
      simp only [Option.some.injEq] at h
      subst h
      obtain ⟨v, h1, h2⟩ := (row_seq hk hv.1 hv.2).1 _ _ _ hl
      rw [hv.1] at h1; simp only [Option.some.injEq] at h1; subst h1
      exact key h2
    · rename_i t' l' hl
      simp only [Option.some.injEq] at h
      subst h
      obtain ⟨v, h1, h2⟩ := (row_seq hk hv.1 hv.2).2 _ _ hl
      rw [hv.1] at h1; simp only [Option.some.injEq] at h1; subst h1
      exact key h2
    · cases h
  · exact absurd rfl (hx _ _ _ _)
  · simp only [VR] at hv
    obtain ⟨b, us, rfl, h1, _⟩ := hv
    cases h
    exact ⟨_, _, rfl, fun h => by cases h⟩
  · cases h

theorem nilAsk_ok [Sites] (hC : C.Ok P) {s : St} {o : Oper} {b ng : Bool} (h : nilAsk C s o = some (b, ng)) :
    o.guard = none ∧ mayDst C o.dst = true ∧ (∀ c, o.op ≠ .defer c) ∧ ∀ {fr : Nat → Option Value} {c : Cf} {w : World} {a : Act}, Sim B C fr c s w a →
      ∃ u, (execOp a.eval o).run P w = .ok (.value u) w ∧ ((u = .bool (!ng) ∧ b = true) ∨ u = .bool ng) := by
  unfold nilAsk at h
  split at h
  · rename_i hg
    split at h
    · rename_i op t x yt ho
      split at h
      · rename_i e v hk hm hx
        split at h
        · cases h
        · rename_i hview
          have key : ∀ n, lenOf (rdk s.obs) v = some n → ∀ {fr : Nat → Option Value} {c : Cf} {w : World} {a : Act}, Sim B C fr c s w a →
              ∃ A m cap, a.eval x = .slice A n cap ∧ (A = none → n = 0) ∧ m = A.isNone ∧ (Op.equal t (.slice A n cap) (.slice none 0 0)).run P w = .ok m w := by
            intro n hn fr c w a hs
            have hv := hs.ops _ _ hx
            obtain ⟨A, cap, hu, hA⟩ := len_nil hs.rel.rdk hn hview hv
            have hund := (hC.U t (by simp [hk])).1
            simp only [TD.kindOk, hk] at hund
            refine ⟨A, A.isNone, cap, hu, hA, rfl, equal_of fun d => ?_⟩
            cases A <;> simp [Op.equalIn, run_underlying hund]
          split at h
          · rename_i n hn
            simp only [Option.some.injEq, Prod.mk.injEq] at h
            obtain ⟨rfl, rfl⟩ := h
            refine ⟨hg, hm, fun c e => (by rw [ho] at e; cases e), fun {fr c w a} hs => ?_⟩
            obtain ⟨A, m, cap, hu, hA, rfl, heq⟩ := key n hn hs
            have hc : a.eval (.const (.slice none 0 0)) = .slice none 0 0 := rfl
            refine ⟨.bool A.isNone, ?_, ?_⟩
            · have hg : (eqGuard .eql t x (.const (.slice none 0 0)) (.slice A n cap) (.slice none 0 0)).run P w = .ok () w := rfl
              have hb : binOp .eql t (.slice A n cap) (.slice none 0 0) = (do pure (.bool (← Op.equal t (.slice A n cap) (.slice none 0 0)))) := rfl
              simp [execOp, ho, hu, hc, hg, hb, heq]
            · cases A with
              | none => exact .inl ⟨rfl, by rw [hA rfl]; rfl⟩
              | some _ => exact .inr rfl
          · rename_i n hn
            simp only [Option.some.injEq, Prod.mk.injEq] at h
            obtain ⟨rfl, rfl⟩ := h
            refine ⟨hg, hm, fun c e => (by rw [ho] at e; cases e), fun {fr c w a} hs => ?_⟩
            obtain ⟨A, m, cap, hu, hA, rfl, heq⟩ := key n hn hs
            have hc : a.eval (.const (.slice none 0 0)) = .slice none 0 0 := rfl
            refine ⟨.bool (!A.isNone), ?_, ?_⟩
            · have hg : (eqGuard .neq t x (.const (.slice none 0 0)) (.slice A n cap) (.slice none 0 0)).run P w = .ok () w := rfl
              have hb : binOp .neq t (.slice A n cap) (.slice none 0 0) = (do pure (.bool (!(← Op.equal t (.slice A n cap) (.slice none 0 0))))) := rfl
              simp [execOp, ho, hu, hc, hg, hb, heq]
            · cases A with
              | none => exact .inl ⟨rfl, by rw [hA rfl]; rfl⟩
              | some _ => exact .inr rfl
          · cases h
      · cases h
    · cases h
  · cases h

/-- Operations in the order of the text: where they end. -/
theorem evOps_ok [Sites] {Ω : Type} (hC : C.Ok P) {ops : Array Oper} {Q : Exit → Act → World → Prop} (hfr : ∀ t, C.may t = true → fr t = none) {K : St → Option Ω} {out : Ω} :
    ∀ (n : Nat) (s : St) (c : Cf) (w : World) (a : Act), evOps C ops (ops.toList.drop n) s K = some out → n ≤ ops.size → Sim B C fr c s w a →
      (∀ s1 c' w' a', K s1 = some out → Sim B C fr c' s1 w' a' → Ext c w c' w' → Q .normal a' w') → wpOpsIn (WF B.rd) 0 P ops Q ((List.range ops.size).drop n) a w := by
  intro n
  generalize hm : ops.size - n = m
  induction m generalizing n with
  | zero =>
    intro s c w a h hn hs hK
    have e1 : n = ops.size := by omega
    subst e1
    rw [List.drop_of_length_le (by simp)] at h
    rw [List.drop_of_length_le (by simp)]
    simp only [evOps] at h
    exact hK s c w a h hs (Ext.refl c w)
  | succ m ih =>
    intro s c w a h hn hs hK
    have hlt : n < ops.size := by omega
    rw [List.drop_eq_getElem_cons (by simpa using hlt)] at h
    rw [List.drop_eq_getElem_cons (by simpa using hlt)]
    simp only [evOps, Array.getElem_toList] at h
    split at h
    · rename_i b ng hask
      obtain ⟨hg, hm, hnd, hrun⟩ := nilAsk_ok (P := P) hC hask
      obtain ⟨u, hu, hcase⟩ := hrun hs
      simp only [List.getElem_range, wpOpsIn, Array.getElem?_eq_getElem hlt]
      rw [if_pos (wanted_none hg _)]
      refine wpIn_of hnd ?_
      rw [hu]
      have go : ∀ t : Bool, u = .bool t → evOps C ops (ops.toList.drop (n + 1)) ⟨setT s.env ops[n].dst (.bool t), s.obs, s.nx⟩ K = some out → wpOpsIn (WF B.rd) 0 P ops Q ((List.range ops.size).drop (n + 1)) (a.put ops[n].dst u) w := by
        intro t ht hk
        refine ih (n + 1) (by omega) _ c w _ hk (by omega) ⟨hs.rel, hs.tmps.put (mayDst_ok hfr hm) (by simp only [VR]; exact ht), by rw [put_defers]; exact hs.marks, hs.base⟩ hK
      rcases hcase with ⟨ht, hb⟩ | ht
      · exact go _ ht (pick2_both h hb).1
      · exact go _ ht (pick2_snd h)
    rename_i hask
    obtain ⟨s1, lg, hk, hd⟩ := evGuard_ok hC h
    simp only [List.getElem_range, wpOpsIn, Array.getElem?_eq_getElem hlt]
    have := hd B fr c w a Q hfr hs (wpOpsIn (WF B.rd) 0 P ops Q ((List.range ops.size).drop (n + 1))) fun c' w' a' hs' he => ih (n + 1) (by omega) s1 c' w' a' hk (by omega) hs' fun s2 c2 w2 a2 h1 h2 h3 => hK s2 c2 w2 a2 h1 h2 (he.trans h3)
    exact this
end
end Go.Hay
