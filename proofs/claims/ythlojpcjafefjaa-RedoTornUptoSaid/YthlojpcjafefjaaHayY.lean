/- Functions that are proved alone, and their contracts. -/
import Derived.Test.YthlojpcjafefjaaHayXa
set_option linter.unusedVariables false
set_option linter.unusedSimpArgs false
namespace Go.Hay
open Go.RowKit

/-- What a function is handed, hands back, and computes. -/
structure Fs where
  ins : Sh
  outs : Sh
  fn : ins.den → Option outs.den

def oneOrTuple : List AV → AV
  | [x] => x
  | xs => .tup xs

/-- Is all in order for what is handed back? -/
def backOk (outs : Sh) (z : Tk) (nx : Nat) : Bool :=
  (noRo outs && updOk z.tk outs) && (nodupB (onames (nameAt z.tk) nx outs 0) && (freshB z.obs nx (onames (nameAt z.tk) nx outs 0).length && Nat.ble (onames (nameAt z.tk) nx outs 0).length 1000000))

def tkNames (tk : List (Option Nat × Ob)) : List Nat := tk.filterMap (·.1)

def Fs.con (F : Fs) : Con where
  X := F.ins.den
  Y := fun _ => F.outs.den
  pre args s nx := match xt F.ins args ⟨s, [], []⟩ with
    | some (x, [], z) => bif backOk F.outs z nx then some x else none
    | _ => none
  fn := F.fn
  post args s nx x y := match xt F.ins args ⟨s, [], []⟩ with
    | some (x', [], z) => some (oneOrTuple (bld (outNm z.tk (onames (nameAt z.tk) nx F.outs 0)) F.outs y 0).1,
        putAll (restore (bld (fun k => k) F.ins x' 0).2.1 z.tk 0 z.obs) (bld (outNm z.tk (onames (nameAt z.tk) nx F.outs 0)) F.outs y 0).2.1,
        nx + (onames (nameAt z.tk) nx F.outs 0).length, tkNames z.tk ++ (z.fz ++ onames (nameAt z.tk) nx F.outs 0))
    | _ => none

/-- The values in temporaries. -/
def envOf : Nat → List AV → Env
  | _, [] => []
  | k, v :: r => (k, v) :: envOf (k + 1) r

def resV (U : TEnv) (s : St) : ResultVar → Option AV
  | .tmp t => look s.env t
  | .cell t ty => match vLoad (rdk s.obs) (U ty) (look s.env t) with
    | some (v, true) => some v
    | _ => none
def resVs (U : TEnv) (s : St) : List ResultVar → Option (List AV)
  | [] => some []
  | r :: rs => match resV U s r, resVs U s rs with
    | some v, some vs => some (v :: vs)
    | _, _ => none

/-- What a function's end comes to. -/
def endK (U : TEnv) (outs : Sh) (rs : List ResultVar) (ctl : Ctl) (s : St) : Option outs.den :=
  match ctl with
  | .exit _ => none
  | _ => match resVs U s rs with
    | some vs => match xt outs vs ⟨s.obs, [], []⟩ with
      | some (y, [], _) => some y
      | _ => none
    | none => none

/-- The same, once the fronts of rows stand for themselves. -/
def endF (U : TEnv) (outs : Sh) (rs : List ResultVar) (fix : List Tmp) (ctl : Ctl) (s : St) : Option outs.den := endK U outs rs ctl (settleAll fix s)

def tupV : List Value → Value
  | [u] => u
  | us => .tuple us.toArray

def rvRun (tmps : Array Value) : ResultVar → Sem Value
  | .tmp t => pure (tmps.getD t undef)
  | .cell a t => do loadVar t (← asAddr (tmps.getD a undef))

section
variable {P : Program} {B : Bs} {c : Cf} {w : World} {s : Obs}

theorem results_rv (fn : Func) (tmps : Array Value) : results fn tmps = (do
    let vs ← fn.results.mapM (rvRun tmps)
    pure (if h : vs.size = 1 then vs[0] else .tuple vs)) := by
  unfold results
  congr 1

theorem look_envOf : ∀ (l : List AV) (k i : Nat) (x : AV), look (envOf k l) i = some x → k ≤ i ∧ l[i - k]? = some x
  | [], k, i, x, h => by simp [envOf, look] at h
  | v :: r, k, i, x, h => by
    simp only [envOf, look_cons] at h
    split at h
    · rename_i e
      subst e
      exact ⟨Nat.le_refl _, by simpa using h⟩
    · obtain ⟨h1, h2⟩ := look_envOf r (k + 1) i x h
      refine ⟨by omega, ?_⟩
      rw [show i - k = (i - (k + 1)) + 1 by omega, List.getElem?_cons_succ]
      exact h2

theorem run_loadVar_of {t : TypeId} {e : Operand → Value} {x : Operand} {a : Addr} (ha : e x = .pointer (some a)) {u : Value} {o : Oper} (ho : o.op = .load t x) (h : (execOp e o).run P w = .ok (.value u) w) : (loadVar t a).run P w = .ok u w := by
  simp only [execOp, ho, ha, Instr.loadAt, Instr.sureAddr, Sem.run_bind, Sem.run_pure, Result.andThen_ok] at h
  cases hl : (loadVar t a).run P w with
  | ok v w' =>
    simp only [hl, Result.andThen_ok] at h
    simp only [Result.ok.injEq, Next.value.injEq] at h
    rw [h.1, h.2]
  | halt x w' => simp [hl, Result.andThen] at h

theorem resV_ok [Sites] {C : Ctx} (hC : C.U.Ok P) {fr : Nat → Option Value} {st : St} {a : Act} (hs : Sim B C fr c st w a) {r : ResultVar} {v : AV} (h : resV C.U st r = some v) :
    ∃ u, (rvRun a.tmps r).run P w = .ok u w ∧ VR c w v u := by
  unfold rvRun
  cases r with
  | tmp t =>
    simp only [resV] at h
    exact ⟨_, by simp [Sem.run_pure], hs.tmps.env t v h⟩
  | cell t ty =>
    simp only [resV] at h
    split at h
    · rename_i v' hl
      simp only [Option.some.injEq] at h
      subst h
      let o : Oper := { dst := none, op := .load ty (.tmp t), type := 0, pos := "", after := #[], guard := none }
      have h1 := vLoad_ok (P := P) (c := c) (w := w) (lk := rdk st.obs) (ρ := evO st.env) (e := a.eval) (o := o) (t := ty) (x := .tmp t) hC rfl hl hs.ops hs.rel.rdk
      obtain ⟨u, hu, hv⟩ := h1
      have hptr : ∃ ad, a.eval (.tmp t) = .pointer (some ad) := by
        unfold vLoad at hl
        split at hl
        · split at hl
          · rename_i hx
            have := hs.tmps.env t _ hx
            simp only [VR] at this
            obtain ⟨b, _, e⟩ := this
            exact ⟨_, e⟩
          · rename_i hx
            have := hs.tmps.env t _ hx
            simp only [VR] at this
            obtain ⟨b, o, us, e, _⟩ := this
            exact ⟨_, e⟩
          · rename_i hx
            have := hs.tmps.env t _ hx
            simp only [VR] at this
            obtain ⟨b, n, cap, _, e⟩ := this
            exact ⟨_, e⟩
          · cases hl
        · cases hl
      obtain ⟨ad, hptr⟩ := hptr
      have h2 := run_loadVar_of (o := o) hptr rfl hu
      have h3 : a.tmps.getD t undef = .pointer (some ad) := hptr
      refine ⟨u, ?_, hv⟩
      simp only [h3, asAddr, Sem.run_bind, Sem.run_pure, Result.andThen_ok, h2]
    · cases h

theorem resVs_ok [Sites] {C : Ctx} (hC : C.U.Ok P) {fr : Nat → Option Value} {st : St} {a : Act} (hs : Sim B C fr c st w a) : ∀ {rs : List ResultVar} {vs : List AV}, resVs C.U st rs = some vs →
    ∃ us : List Value, (rs.mapM (rvRun a.tmps)).run P w = .ok us w ∧ VRs c w vs us
  | [], vs, h => by
    simp only [resVs, Option.some.injEq] at h
    subst h
    exact ⟨[], by simp [Sem.run_pure], by simp only [VRs]⟩
  | r :: rs, vs, h => by
    simp only [resVs] at h
    split at h
    · rename_i v vs' h1 h2
      simp only [Option.some.injEq] at h
      subst h
      obtain ⟨u, hu, hv⟩ := resV_ok (P := P) hC hs h1
      obtain ⟨us, hus, hvs⟩ := resVs_ok hC hs h2
      refine ⟨u :: us, ?_, by simp only [VRs]; exact ⟨u, us, rfl, hv, hvs⟩⟩
      rw [List.mapM_cons]
      simp only [Sem.run_bind, hu, Result.andThen_ok, hus, Sem.run_pure]
    · cases h

theorem results_ok [Sites] {C : Ctx} (hC : C.U.Ok P) {fr : Nat → Option Value} {st : St} {a : Act} (hs : Sim B C fr c st w a) {fn : Func} {vs : List AV} (h : resVs C.U st fn.results.toList = some vs) :
    ∃ us : List Value, (results fn a.tmps).run P w = .ok (tupV us) w ∧ VRs c w vs us := by
  obtain ⟨us, h1, h2⟩ := resVs_ok (P := P) hC hs h
  refine ⟨us, ?_, h2⟩
  have h3 : (fn.results.mapM (rvRun a.tmps)).run P w = .ok us.toArray w := by
    rw [Array.mapM_eq_mapM_toList]
    simp only [map_eq_pure_bind, Sem.run_bind, h1, Result.andThen_ok, Sem.run_pure]
  rw [results_rv]
  simp only [Sem.run_bind, h3, Result.andThen_ok, Sem.run_pure]
  match us with
  | [] => simp [tupV]
  | [u] => simp [tupV]
  | u :: u' :: r => simp [tupV]

theorem one_or_tuple {vs : List AV} {us : List Value} (h : VRs c w vs us) : VR c w (oneOrTuple vs) (tupV us) := by
  match vs, us, h with
  | [], us, h =>
    simp only [VRs] at h
    subst h
    simp only [oneOrTuple, VR]
    exact ⟨[], rfl, by simp only [VRs]⟩
  | [x], us, h =>
    simp only [VRs] at h
    obtain ⟨u, us', rfl, h1, rfl⟩ := h
    exact h1
  | x :: y :: r, us, h =>
    have h0 := h
    simp only [VRs] at h
    obtain ⟨u, us', rfl, h1, u2, us2, rfl, h2, h3⟩ := h
    simp only [oneOrTuple, VR]
    exact ⟨_, rfl, h0⟩

theorem bld_count (σ : Nat → Nat) (nx : Nat) (nm : Nat → Nat) : ∀ (sh : Sh) (x : sh.den) (n : Nat), (bld nm sh x n).2.2 = n + (onames σ nx sh n).length ∧ ∀ i o, (i, o) ∈ (bld nm sh x n).2.1 → ∃ k, n ≤ k ∧ k < (bld nm sh x n).2.2 ∧ i = nm k := by
  intro sh
  induction sh with
  | val t => intro x n; exact ⟨by simp [bld, onames], fun i o hm => by simp [bld] at hm⟩
  | ref j => intro x n; exact ⟨by simp [bld, onames], fun i o hm => by simp [bld] at hm⟩
  | refr j => intro x n; exact ⟨by simp [bld, onames], fun i o hm => by simp [bld] at hm⟩
  | nils => intro x n; exact ⟨by simp [bld, onames], fun i o hm => by simp [bld] at hm⟩
  | nilp => intro x n; exact ⟨by simp [bld, onames], fun i o hm => by simp [bld] at hm⟩
  | junk => intro x n; exact ⟨by simp [bld, onames], fun i o hm => by simp [bld] at hm⟩
  | refy j => intro x n; exact ⟨by simp [bld, onames], fun i o hm => by simp [bld] at hm⟩
  | keep k j => intro x n; exact ⟨by simp [bld, onames], fun i o hm => by simp [bld] at hm⟩
  | nil => intro x n; exact ⟨by simp [bld, onames], fun i o hm => by simp [bld] at hm⟩
  | own e t => intro x n; exact ⟨by simp [bld, onames], fun i o hm => by simp only [bld, List.mem_singleton] at hm; cases hm; exact ⟨n, Nat.le_refl _, by simp [bld], rfl⟩⟩
  | arr e t m => intro x n; exact ⟨by simp [bld, onames], fun i o hm => by simp only [bld, List.mem_singleton] at hm; cases hm; exact ⟨n, Nat.le_refl _, by simp [bld], rfl⟩⟩
  | rown e t => intro x n; exact ⟨by simp [bld, onames], fun i o hm => by simp only [bld, List.mem_singleton] at hm; cases hm; exact ⟨n, Nat.le_refl _, by simp [bld], rfl⟩⟩
  | updr j e t => intro x n; exact ⟨by simp [bld, onames], fun i o hm => by simp only [bld, List.mem_singleton] at hm; cases hm; exact ⟨n, Nat.le_refl _, by simp [bld], rfl⟩⟩
  | box t cs ih =>
    intro x n
    obtain ⟨h1, h2⟩ := ih x (n + 1)
    refine ⟨by simp only [bld, onames, List.length_cons]; rw [h1]; omega, fun i o hm => ?_⟩
    simp only [bld] at hm ⊢
    rcases List.mem_cons.1 hm with e | hm
    · cases e; exact ⟨n, Nat.le_refl _, by rw [h1]; omega, rfl⟩
    · obtain ⟨k, g1, g2, g3⟩ := h2 i o hm; exact ⟨k, by omega, g2, g3⟩
  | rbox t cs ih =>
    intro x n
    obtain ⟨h1, h2⟩ := ih x (n + 1)
    refine ⟨by simp only [bld, onames, List.length_cons]; rw [h1]; omega, fun i o hm => ?_⟩
    simp only [bld] at hm ⊢
    rcases List.mem_cons.1 hm with e | hm
    · cases e; exact ⟨n, Nat.le_refl _, by rw [h1]; omega, rfl⟩
    · obtain ⟨k, g1, g2, g3⟩ := h2 i o hm; exact ⟨k, by omega, g2, g3⟩
  | upd j t cs ih =>
    intro x n
    obtain ⟨h1, h2⟩ := ih x (n + 1)
    refine ⟨by simp only [bld, onames, List.length_cons]; rw [h1]; omega, fun i o hm => ?_⟩
    simp only [bld] at hm ⊢
    rcases List.mem_cons.1 hm with e | hm
    · cases e; exact ⟨n, Nat.le_refl _, by rw [h1]; omega, rfl⟩
    · obtain ⟨k, g1, g2, g3⟩ := h2 i o hm; exact ⟨k, by omega, g2, g3⟩
  | fn f cs ih => intro x n; simpa only [bld, onames] using ih x n
  | agg cs ih => intro x n; simpa only [bld, onames] using ih x n
  | els sz k cs ih => intro x n; simpa only [bld, onames] using ih x n
  | cons a r iha ihr =>
    intro x n
    obtain ⟨h1, h2⟩ := iha x.1 n
    obtain ⟨h3, h4⟩ := ihr x.2 (bld nm a x.1 n).2.2
    rw [h1] at h3
    refine ⟨by simp only [bld, onames, List.length_append]; rw [h1, h3]; omega, fun i o hm => ?_⟩
    simp only [bld] at hm ⊢
    rcases List.mem_append.1 hm with hm | hm
    · obtain ⟨k, g1, g2, g3⟩ := h2 i o hm; exact ⟨k, g1, by rw [h1] at g2 ⊢; omega, g3⟩
    · obtain ⟨k, g1, g2, g3⟩ := h4 i o hm; exact ⟨k, by omega, g2, g3⟩

/-- Objects that are not taken stay. -/
theorem xt_rest [Sites] : ∀ (sh : Sh) (as : List AV) (z : Tk) (x : sh.den) (rest : List AV) (z' : Tk), xt sh as z = some (x, rest, z') →
    z.tk <+: z'.tk ∧ (∀ i ∈ z.fz, i ∈ z'.fz) ∧ ∀ i : Nat, i ∉ z'.fz → (∀ p ∈ z'.tk, p.1 ≠ some i) → look z'.obs i = look z.obs i := by
  intro sh
  have leaf : ∀ {z : Tk} {id : Nat} {o : Ob}, z.tk <+: z.tk ++ [(some id, o)] ∧ (∀ i ∈ z.fz, i ∈ z.fz) ∧ ∀ i : Nat, i ∉ z.fz → (∀ p ∈ z.tk ++ [(some id, o)], p.1 ≠ some i) → look (put z.obs id .dead) i = look z.obs i := by
    intro z id o
    refine ⟨List.prefix_append _ _, fun _ h => h, fun i _ hp => ?_⟩
    rw [look_put, if_neg (fun e => hp (some id, o) (by simp) (by simp [e]))]
  have leafn : ∀ {z : Tk} {o : Ob}, z.tk <+: z.tk ++ [((none : Option Nat), o)] ∧ (∀ i ∈ z.fz, i ∈ z.fz) ∧ ∀ i : Nat, i ∉ z.fz → (∀ p ∈ z.tk ++ [((none : Option Nat), o)], p.1 ≠ some i) → look z.obs i = look z.obs i := by
    intro z o
    exact ⟨List.prefix_append _ _, fun _ h => h, fun _ _ _ => rfl⟩
  have head : ∀ {z z' : Tk} {id : Nat} {o : Ob}, ((z.tk ++ [(some id, o)]) <+: z'.tk ∧ (∀ i ∈ z.fz, i ∈ z'.fz) ∧ ∀ i : Nat, i ∉ z'.fz → (∀ p ∈ z'.tk, p.1 ≠ some i) → look z'.obs i = look (put z.obs id .dead) i) →
      z.tk <+: z'.tk ∧ (∀ i ∈ z.fz, i ∈ z'.fz) ∧ ∀ i : Nat, i ∉ z'.fz → (∀ p ∈ z'.tk, p.1 ≠ some i) → look z'.obs i = look z.obs i := by
    rintro z z' id o ⟨h1, h2, h3⟩
    refine ⟨(List.prefix_append _ _).trans h1, h2, fun i hi hp => ?_⟩
    rw [h3 i hi hp, look_put, if_neg (fun e => hp (some id, o) (h1.subset (by simp)) (by simp [e]))]
  induction sh with
  | val t =>
    intro as z x rest z' h
    simp only [xt] at h
    split at h
    · rename_i v r
      split at h
      · simp only [Option.some.injEq, Prod.mk.injEq] at h
        rw [← h.2.2]
        refine ⟨List.prefix_refl _, fun i hi => List.mem_append_right _ hi, fun i hi _ => ?_⟩
        simp only [List.mem_append, not_or] at hi
        exact frz_look fun y hy hm => hi.1 (cells_ids hy hm)
      · cases h
    · cases h
  | own e t =>
    intro as z x rest z' h
    simp only [xt] at h
    split at h
    · cases hmt : isMapTy e with
      | true => simp [hmt] at h
      | false =>
        simp only [hmt, cond_false, Option.some.injEq, Prod.mk.injEq] at h
        rw [← h.2.2]
        exact leafn
    · split at h
      · split at h
        · split at h
          · simp only [Option.some.injEq, Prod.mk.injEq] at h
            rw [← h.2.2]
            exact leaf
          · cases h
        · cases h
      · cases h
    · cases h
  | rown e t =>
    intro as z x rest z' h
    simp only [xt] at h
    split at h
    · cases hmt : isMapTy e with
      | true => simp [hmt] at h
      | false =>
        simp only [hmt, cond_false, Option.some.injEq, Prod.mk.injEq] at h
        rw [← h.2.2]
        exact leafn
    · split at h
      · split at h
        · split at h
          · simp only [Option.some.injEq, Prod.mk.injEq] at h
            rw [← h.2.2]
            exact leaf
          · cases h
        · split at h
          · simp only [Option.some.injEq, Prod.mk.injEq] at h
            rw [← h.2.2]
            exact leaf
          · cases h
        · cases h
      · cases h
    · cases h
  | box t cs ih =>
    intro as z x rest z' h
    simp only [xt] at h
    split at h
    · split at h
      · split at h
        · split at h
          · rename_i x' z1 hb hx
            simp only [Option.some.injEq, Prod.mk.injEq] at h
            rw [← h.2.2]; exact head (ih _ _ _ _ _ hx)
          · cases h
        · cases h
      · cases h
    · cases h
  | rbox t cs ih =>
    intro as z x rest z' h
    simp only [xt] at h
    split at h
    · split at h
      · split at h
        · rename_i x' z1 hb hx
          simp only [Option.some.injEq, Prod.mk.injEq] at h
          rw [← h.2.2]; exact head (ih _ _ _ _ _ hx)
        · cases h
      · split at h
        · rename_i x' z1 hb hx
          simp only [Option.some.injEq, Prod.mk.injEq] at h
          rw [← h.2.2]; exact head (ih _ _ _ _ _ hx)
        · cases h
      · cases h
    · cases h
  | upd i t cs ih =>
    intro as z x rest z' h
    simp only [xt] at h
    split at h
    · split at h
      · rename_i x' z1 hb hx
        simp only [Option.some.injEq, Prod.mk.injEq] at h
        rw [← h.2.2]; exact head (ih _ _ _ _ _ hx)
      · cases h
    · cases h
  | updr i e t =>
    intro as z x rest z' h
    simp only [xt] at h
    split at h
    · split at h
      · simp only [Option.some.injEq, Prod.mk.injEq] at h
        rw [← h.2.2]; exact leaf
      · cases h
    · cases h
  | fn f cap ih =>
    intro as z x rest z' h
    simp only [xt] at h
    split at h
    · split at h
      · rename_i x' z1 hb hx
        simp only [Option.some.injEq, Prod.mk.injEq] at h
        rw [← h.2.2]; exact ih _ _ _ _ _ hx
      · cases h
    · cases h
  | els sz n cs ih =>
    intro as z x rest z' h
    simp only [xt] at h
    split at h
    · split at h
      · rename_i x' z1 _ hx
        simp only [Option.some.injEq, Prod.mk.injEq] at h
        rw [← h.2.2]; exact ih _ _ _ _ _ hx
      · cases h
    · cases h
  | agg cs ih =>
    intro as z x rest z' h
    simp only [xt] at h
    split at h
    · split at h
      · rename_i x' z1 hx
        simp only [Option.some.injEq, Prod.mk.injEq] at h
        rw [← h.2.2]; exact ih _ _ _ _ _ hx
      · cases h
    · cases h
  | ref i =>
    intro as z x rest z' h
    simp only [xt] at h
    split at h
    · split at h
      · split at h
        · simp only [Option.some.injEq, Prod.mk.injEq] at h
          rw [← h.2.2]; exact ⟨List.prefix_refl _, fun _ h => h, fun _ _ _ => rfl⟩
        · cases h
      · cases h
    · cases h
  | refr i =>
    intro as z x rest z' h
    simp only [xt] at h
    split at h
    · split at h
      · split at h
        · simp only [Option.some.injEq, Prod.mk.injEq] at h
          rw [← h.2.2]; exact ⟨List.prefix_refl _, fun _ h => h, fun _ _ _ => rfl⟩
        · cases h
      · cases h
    · cases h
  | nils =>
    intro as z x rest z' h
    simp only [xt] at h
    split at h
    · simp only [Option.some.injEq, Prod.mk.injEq] at h
      rw [← h.2.2]; exact ⟨List.prefix_refl _, fun _ h => h, fun _ _ _ => rfl⟩
    · cases h
  | nilp =>
    intro as z x rest z' h
    simp only [xt] at h
    split at h
    · simp only [Option.some.injEq, Prod.mk.injEq] at h
      rw [← h.2.2]; exact ⟨List.prefix_refl _, fun _ h => h, fun _ _ _ => rfl⟩
    · cases h
  | junk =>
    intro as z x rest z' h
    simp only [xt] at h
    split at h
    · simp only [Option.some.injEq, Prod.mk.injEq] at h
      rw [← h.2.2]; exact ⟨List.prefix_refl _, fun _ h => h, fun _ _ _ => rfl⟩
    · cases h
  | refy i =>
    intro as z x rest z' h
    simp only [xt] at h
    split at h
    · split at h
      · split at h
        · simp only [Option.some.injEq, Prod.mk.injEq] at h
          rw [← h.2.2]; exact ⟨List.prefix_refl _, fun _ h => h, fun _ _ _ => rfl⟩
        · cases h
      · cases h
    · cases h
  | arr e t n =>
    intro as z x rest z' h
    simp only [xt] at h
    split at h
    · split at h
      · split at h
        · simp only [Option.some.injEq, Prod.mk.injEq] at h
          rw [← h.2.2]; exact leaf
        · cases h
      · cases h
    · cases h
  | keep k i =>
    intro as z x rest z' h
    simp only [xt] at h
    split at h
    · split at h
      · simp only [Option.some.injEq, Prod.mk.injEq] at h
        rw [← h.2.2]; exact ⟨List.prefix_refl _, fun _ h => h, fun _ _ _ => rfl⟩
      · cases h
    · cases h
  | nil =>
    intro as z x rest z' h
    simp only [xt, Option.some.injEq, Prod.mk.injEq] at h
    rw [← h.2.2]; exact ⟨List.prefix_refl _, fun _ h => h, fun _ _ _ => rfl⟩
  | cons a r iha ihr =>
    intro as z x rest z' h
    simp only [xt] at h
    split at h
    · rename_i x1 bs z1 h1
      split at h
      · rename_i y1 cs z2 h2
        simp only [Option.some.injEq, Prod.mk.injEq] at h
        rw [← h.2.2]
        obtain ⟨p1, p2, p3⟩ := iha _ _ _ _ _ h1
        obtain ⟨q1, q2, q3⟩ := ihr _ _ _ _ _ h2
        exact ⟨p1.trans q1, fun i hi => q2 i (p2 i hi), fun i hi hp => (q3 i hi hp).trans (p3 i (fun h => hi (q2 i h)) fun p hm => hp p (q1.subset hm))⟩
      · cases h
    · cases h

theorem putAll_look {i : Nat} : ∀ {os : List (Nat × Ob)} {s : Obs}, (∀ o, (i, o) ∉ os) → look (putAll s os) i = look s i
  | [], s, _ => rfl
  | (m, p) :: r, s, h => by
    simp only [putAll]
    rw [putAll_look fun o hm => h o (List.mem_cons_of_mem _ hm), look_put, if_neg (fun e => h p (by simp [e]))]
theorem restore_look {s0 : Obs} {i : Nat} : ∀ {tk : List (Option Nat × Ob)} {k : Nat} {t : Obs}, (∀ p ∈ tk, p.1 ≠ some i) → look (restore s0 tk k t) i = look t i
  | [], k, t, _ => rfl
  | (some id, p) :: r, k, t, h => by
    simp only [restore]
    rw [restore_look fun q hq => h q (List.mem_cons_of_mem _ hq)]
    cases roAt s0 k with
    | false => rfl
    | true =>
      simp only [cond_true]
      rw [look_put, if_neg (fun e => h (some id, p) (by simp) (by simp [e]))]
  | (none, p) :: r, k, t, h => by
    simp only [restore]
    exact restore_look fun q hq => h q (List.mem_cons_of_mem _ hq)

/-- What is handed back changes no other object. -/
theorem back_look [Sites] {ins outs : Sh} {args : List AV} {x : ins.den} {y : outs.den} {z : Tk} {nx : Nat} (hx : xt ins args ⟨s, [], []⟩ = some (x, [], z)) {s0 : Obs} {i : Nat} (hi : i ∉ tkNames z.tk ++ (z.fz ++ onames (nameAt z.tk) nx outs 0)) (hle : (onames (nameAt z.tk) nx outs 0).length ≤ 1000000) :
    look (putAll (restore s0 z.tk 0 z.obs) (bld (outNm z.tk (onames (nameAt z.tk) nx outs 0)) outs y 0).2.1) i = look s i := by
  simp only [List.mem_append, not_or] at hi
  obtain ⟨h1, h2, h3⟩ := hi
  have htk : ∀ p ∈ z.tk, p.1 ≠ some i := fun p hp e => h1 (by
    unfold tkNames
    exact List.mem_filterMap.2 ⟨p, hp, e⟩)
  obtain ⟨c1, c2⟩ := bld_count (nameAt z.tk) nx (outNm z.tk (onames (nameAt z.tk) nx outs 0)) outs y 0
  rw [putAll_look, restore_look htk, (xt_rest ins args _ x [] z hx).2.2 i h2 htk]
  intro o hm
  obtain ⟨k, _, g2, g3⟩ := c2 i o hm
  rw [c1, Nat.zero_add] at g2
  apply h3
  rw [g3, outNm_lt (by omega)]
  simp only [List.getD_eq_getElem?_getD, List.getElem?_eq_getElem g2, Option.getD_some]
  exact List.getElem_mem _

/-- A block that is nobody's is written. -/
theorem Rel.other [Sites] (h : Rel B c s w) {m : Nat} {x : Obj} (hm : m < w.heap.size) (hno : ∀ i o, look s i = some o → ¬ Own c i o m) (hI : ¬ c.I m) (hB : B.w.heap.size ≤ m) : Rel B c s (w.putObj m x) ∧ Ext c w c (w.putObj m x) := by
  have hE : Ext c w c (w.putObj m x) := ⟨fun _ _ h => h, fun _ h => h, fun b hb => World.putObj_heap_other fun e => hI (e ▸ hb)⟩
  refine ⟨⟨fun i o ho => (h.ob i o ho).ext hE fun b hb => World.putObj_heap_other fun e => hno i o ho (e ▸ hb), h.dom, h.sep, h.imm, fun b hb => by rw [World.putObj_size]; exact h.lo b hb, fun b hb hM => ?_, h.mine, h.ro, h.sub, h.new, h.os, h.tape, h.output, by rw [World.putObj_size]; exact h.size⟩, hE⟩
  rw [World.putObj_heap_other (by omega)]
  exact h.keep b hb hM

/-- What a function owes at its end is paid. -/
theorem Marks.pay [Sites] {fn : Func} {tmps : Array Value} {R : Ending → World → Prop} : ∀ {ds : List Deferred} {w : World} {fl : Nat}, Rel B c s w → Marks fl c w ds → B.w.heap.size ≤ fl →
    ∃ w2, Rel B c s w2 ∧ Ext c w c w2 ∧ (LeavesInM Fence.wide 0 P fn tmps R [] .returning w2 → LeavesInM Fence.wide 0 P fn tmps R ds .returning w)
  | [], w, fl, h, hm, hB => ⟨w, h, Ext.refl c w, fun h => h⟩
  | d :: ds, w, fl, h, hm, hB => by
    obtain ⟨m, h1, h2, h3, h4⟩ := hm.all d (List.mem_cons_self ..)
    have hlt : m < w.heap.size := (Array.getElem?_eq_some_iff.1 h2).1
    obtain ⟨k1, k2⟩ := h.other (x := .deferred none) hlt (fun i o ho hb => (h.ob i o ho).not_deferred hb _ h2) h4 (by omega)
    have hnd := hm.nodup
    simp only [List.map_cons, List.pairwise_cons] at hnd
    have hm' : Marks fl c (w.putObj m (.deferred none)) ds := by
      refine ⟨fun d' hd' => ?_, hnd.2⟩
      obtain ⟨m', g1, g2, g3, g4⟩ := hm.all d' (List.mem_cons_of_mem _ hd')
      refine ⟨m', g1, ?_, g3, g4⟩
      rw [World.putObj_heap_other fun e => ?_]
      · exact g2
      · have := hnd.1 d'.target (List.mem_map.2 ⟨d', hd', rfl⟩) m (by rw [h1])
        rw [g1, e] at this
        exact this rfl
    obtain ⟨w2, q1, q2, q3⟩ := Marks.pay (fn := fn) (tmps := tmps) (R := R) k1 hm' hB
    refine ⟨w2, q1, k2.trans q2, fun hh => ⟨fun e => (by cases e), .inl ⟨m, _, by rw [h1], run_takeDeferred h2, q3 hh⟩⟩⟩

/-- A function that is proved alone meets its contract wherever it is called. -/
theorem fn_ok [Sites] {f : FuncId} {fn : Func} {code : Code} (hf : P.funcs[f]? = some fn) (hname : (fn.name == "runtime.NumGoroutine") = false) (hb : fn.body = some code) (hmix : P.follows .mixedOrders = true)
    {C : Ctx} (hC : C.Ok P) (hmay : ∀ t, C.may t = true) {F : Fs} (hnt : ∀ x, (bld (fun k => k) F.ins x 0).1.length + (fn.ntmps - (bld (fun k => k) F.ins x 0).1.length) = C.nt) {Λ : Pcs} (hΛ : Λ.Ok P C code) {n0 : Nat} {fix : List Tmp}
    (hev : ∀ x y, F.fn x = some y → evC C code Λ ⟨envOf 0 (bld (fun k => k) F.ins x 0).1, (bld (fun k => k) F.ins x 0).2.1, n0⟩ (endF C.U F.outs fn.results.toList fix) = some y) (hni : updIx F.ins = [] := by rfl) : F.con.Ok P f where
  enters args w := MuLone.run_callFunc_enter hf hname hb args w
  runs := by
    intro args s nx (x : F.ins.den) (y : F.outs.den) v s1 n1 W hpre hfn hpost B c w vals hR hv
    simp only [Fs.con] at hpre hpost
    split at hpre
    · rename_i x' z hx
      cases hbk : backOk F.outs z nx with
      | false => simp [hbk] at hpre
      | true =>
        simp only [hbk, cond_true] at hpre
        obtain rfl : x' = x := Option.some.inj hpre
        rw [hx] at hpost
        simp only [Option.some.injEq, Prod.mk.injEq] at hpost
        obtain ⟨rfl, rfl, _⟩ := hpost
        simp only [backOk, Bool.and_eq_true] at hbk
        obtain ⟨⟨b1, b2⟩, b3, b4, b5⟩ := hbk
        obtain ⟨vs, I1, hH, hv0⟩ := handed hR hv hx hni
        refine callsIn_wide.1 (callsIn_of_wp_marks (n := 0) (F := Fence.wide) hf hb trivial ?_)
        have hlen := hv0.length
        have hsim : Sim (bs0 none w.heap.size w vs I1 (bld (fun k => k) F.ins x' 0).2.1) C (fun _ => none) (cf0 vs I1) ⟨envOf 0 (bld (fun k => k) F.ins x' 0).1, (bld (fun k => k) F.ins x' 0).2.1, n0⟩ w
            { tmps := vals.toArray ++ Array.replicate (fn.ntmps - vals.toArray.size) undef, defers := [] } := by
          refine ⟨hH.rel hR, ⟨?_, fun k y hk => ?_, fun k v hk => (by cases hk)⟩, .nil, ⟨Nat.le_refl _, fun l hl => by cases hl⟩⟩
          · simp only [Array.size_append, List.size_toArray, Array.size_replicate]
            rw [← hnt x', hlen]
          · obtain ⟨_, hk⟩ := look_envOf _ _ _ _ hk
            simp only [Nat.sub_zero] at hk
            obtain ⟨u, hu, hvu⟩ := hv0.get hk
            have hlt : k < vals.length := (List.getElem?_eq_some_iff.1 hu).1
            have : (vals.toArray ++ Array.replicate (fn.ntmps - vals.toArray.size) undef).getD k undef = u := by
              rw [Array.getD_eq_getD_getElem?, Array.getElem?_append_left (by simpa using hlt)]
              simp [hu]
            rw [this]
            exact hvu
        refine evC_ok hC hmix (fun t ht => rfl) code Λ _ _ (hev x' y hfn) hΛ _ w _ _ hsim fun ctl st0 c10 w1 a1 hK hs10 hE10 => ?_
        obtain ⟨c1, hs1, hE11⟩ := settleAll_ok fix hs10
        have hE1 := hE10.trans hE11
        generalize hst : settleAll fix st0 = st at hs1
        have hctl : (ctl = .normal ∨ ctl = .ret) ∧ ∃ rs z1, resVs C.U st fn.results.toList = some rs ∧ xt F.outs rs ⟨st.obs, [], []⟩ = some (y, [], z1) := by
          unfold endF endK at hK
          rw [hst] at hK
          split at hK
          · cases hK
          · rename_i hne
            refine ⟨?_, ?_⟩
            · cases ctl with
              | normal => exact .inl rfl
              | ret => exact .inr rfl
              | exit id => exact absurd rfl (hne id)
            · split at hK
              · rename_i rs hrs
                split at hK
                · rename_i y' z1 hx1
                  simp only [Option.some.injEq] at hK
                  subst hK
                  exact ⟨rs, z1, hrs, hx1⟩
                · cases hK
              · cases hK
        obtain ⟨hctl, rs, z1, hrs, hx1⟩ := hctl
        obtain ⟨w2, r1, r2, r3⟩ := Marks.pay (P := P) (fn := fn) (tmps := a1.tmps) (R := fun e w' => ∃ c' u, e = .returned u ∧ Rel B c' (putAll (restore (bld (fun k => k) F.ins x' 0).2.1 z.tk 0 z.obs) (bld (outNm z.tk (onames (nameAt z.tk) nx F.outs 0)) F.outs y 0).2.1) w' ∧
            VR c' w' (oneOrTuple (bld (outNm z.tk (onames (nameAt z.tk) nx F.outs 0)) F.outs y 0).1) u ∧ Ext c w c' w') hs1.rel hs1.marks (Nat.le_refl _)
        have hs2 : Sim (bs0 none w.heap.size w vs I1 (bld (fun k => k) F.ins x' 0).2.1) C (fun _ => none) c1 st w2 { a1 with defers := [] } :=
          ⟨r1, ⟨(hs1.tmps.ext r2).size, (hs1.tmps.ext r2).env, (hs1.tmps.ext r2).frame⟩, .nil, hs1.base⟩
        have hE2 := hE1.trans r2
        obtain ⟨us, hrun, hvr⟩ := results_ok (P := P) hC.U hs2 hrs
        obtain ⟨c2, g1, g2, g3, _⟩ := hH.give hR hs2.rel hE2.lasts (fun i _ v hi => hE2.nm i v hi) hvr hx1 b1 b2 rfl (Nat.le_of_ble_eq_true b5) b3 b4
        have hpost := r3 ⟨_, hrun, c2, _, rfl, g1, one_or_tuple g2, g3⟩
        rcases hctl with rfl | rfl
        · exact hpost
        · exact hpost
    · cases hpre
  wrote := by
    intro args s nx (x : F.ins.den) (y : F.outs.den) v s1 n1 W hpre hpost i hi
    simp only [Fs.con] at hpre hpost
    split at hpost
    · rename_i x' z hx
      simp only [Option.some.injEq, Prod.mk.injEq] at hpost
      obtain ⟨_, rfl, _, rfl⟩ := hpost
      rw [hx] at hpre
      simp only at hpre
      cases hbk : backOk F.outs z nx with
      | false => simp [hbk] at hpre
      | true =>
        simp only [backOk, Bool.and_eq_true] at hbk
        exact back_look hx hi (Nat.le_of_ble_eq_true hbk.2.2.2)
    · cases hpost
end
end Go.Hay
