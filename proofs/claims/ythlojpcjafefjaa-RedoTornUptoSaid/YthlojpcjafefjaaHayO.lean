/- Statements whose order is open: whatever order is drawn, they end where the order of the text ends. -/
import Derived.Test.YthlojpcjafefjaaHayN
import Derived.Orders
set_option linter.unusedVariables false
set_option linter.unusedSimpArgs false
namespace Go.Hay
open Go.RowKit

/-- What one operation comes to. -/
inductive Did (C : Ctx) (o : Op) (ρ : Operand → Option AV) (s : Obs) (nx : Nat) : AV → Obs → Nat → Lg → Prop where
  | quiet (v : AV) : evalV C.U ρ (rdk s) o = some (v, true) → Did C o ρ s nx v s nx (.rd (foot ρ o))
  | eff (v : AV) (s1 : Obs) (n1 : Nat) : evalV C.U ρ (rdk s) o = none → evalE C.U ρ s nx o = some (v, s1, n1, true) → Did C o ρ s nx v s1 n1 (.wr (wrE ρ nx o))
  | call (f : FuncId) (args : List AV) (K : Con) (x : K.X) (y : K.Y x) (v : AV) (s1 : Obs) (n1 : Nat) (W : List Nat) : evalV C.U ρ (rdk s) o = none → evalE C.U ρ s nx o = none → callee ρ o = some (f, args) → C.Γ f = some K → K.pre args s nx = some x →
      K.fn x = some y → K.post args s nx x y = some (v, s1, n1, W) → Did C o ρ s nx v s1 n1 (.wr W)
  | round (id : Nat) (args : List AV) (t : TypeId) (cs : List AV) (q : Yc) (v : AV) (s1 : Obs) (n1 : Nat) (W : List Nat) : evalV C.U ρ (rdk s) o = none → evalE C.U ρ s nx o = none → callee ρ o = none → yieldee ρ o = some (id, args) → look s id = some (.box t cs) → C.Y t = some q →
      q.run args id t cs s nx (fun v s1 n1 W => some (v, s1, n1, W)) = some (v, s1, n1, W) → Did C o ρ s nx v s1 n1 (.wr W)

/-- What one operation with its guard comes to. -/
inductive Done (C : Ctx) (ops : Array Oper) (o : Oper) (ρ : Operand → Option AV) (s : Obs) (nx : Nat) : AV → Obs → Nat → Lg → Prop where
  | run (v : AV) (s1 : Obs) (n1 : Nat) (lg : Lg) : (∀ g want, o.guard = some (g, want) → ∃ t, guardTmp ops g = some t ∧ ρ (.tmp t) = some (.bool want)) → Did C o.op ρ s nx v s1 n1 lg → Done C ops o ρ s nx v s1 n1 lg
  | skip (g : Nat) (want : Bool) (t : Tmp) : o.guard = some (g, want) → guardTmp ops g = some t → ρ (.tmp t) = some (.bool (!want)) → Done C ops o ρ s nx (.tup []) s nx (.rd [])
  | skipu (g : Nat) (want : Bool) (t : Tmp) : o.guard = some (g, want) → guardTmp ops g = some t → ρ (.tmp t) = some (.tup []) → Done C ops o ρ s nx (.tup []) s nx (.rd [])

section
variable {P : Program} {B : Bs} {c : Cf} {w : World} {fr : Nat → Option Value} {a : Act} {C : Ctx}

theorem evOp_did {Ω : Type} {o : Op} {s : St} {K : AV → Obs → Nat → Lg → Option Ω} {out : Ω} (h : evOp C o s K = some out) :
    ∃ v s1 n1 lg, K v s1 n1 lg = some out ∧ Did C o (evO s.env) s.obs s.nx v s1 n1 lg := by
  unfold evOp at h
  split at h
  · rename_i v b hv
    cases b with
    | false => simp at h
    | true => exact ⟨v, _, _, _, by simpa using h, .quiet v hv⟩
  · rename_i hv
    split at h
    · rename_i v s1 n1 b he
      cases b with
      | false => simp at h
      | true => exact ⟨v, _, _, _, by simpa using h, .eff v s1 n1 hv he⟩
    · rename_i he
      split at h
      · rename_i f args hcal
        split at h
        · rename_i K' hK
          split at h
          · rename_i x hx
            unfold obind at h
            split at h
            · rename_i y hy
              have h := K'.spl_ok _ _ _ _ h
              split at h
              · rename_i v s1 n1 W hpost
                exact ⟨v, _, _, _, h, .call f args K' x y v s1 n1 W hv he hcal hK hx hy hpost⟩
              · cases h
            · cases h
          · cases h
        · cases h
      · rename_i hcal
        split at h
        · rename_i id args hy
          split at h
          · rename_i t cs hl
            split at h
            · rename_i q hq
              obtain ⟨v, s1, n1, W, h1, h2⟩ := q.nat _ _ _ _ _ _ _ _ h
              exact ⟨v, _, _, _, h2, .round id args t cs q v s1 n1 W hv he hcal hy hl hq h1⟩
            · cases h
          · cases h
        · cases h

theorem Did.ends [Sites] (hC : C.Ok P) {o : Oper} {ρ : Operand → Option AV} {s : Obs} {nx : Nat} {v : AV} {s1 : Obs} {n1 : Nat} {lg : Lg} (h : Did C o.op ρ s nx v s1 n1 lg)
    {Q : Exit → Act → World → Prop} (hR : Rel B c s w) (hM : Marks B.fl c w a.defers) (hρ : Ops.Ok c w ρ a.eval) : Ends P B c w a o Q v s1 := by
  intro next hn
  cases h with
  | quiet _ hv =>
    obtain ⟨u, hrun, hvr⟩ := evalV_ok (P := P) hC.U hv hρ hR.rdk
    refine wpIn_of (no_defer_v hv) ?_
    rw [hrun]
    exact hn c w u hR hM hvr (Ext.refl c w)
  | eff _ _ _ hv he =>
    obtain ⟨c', w', u, hrun, h1, h2, h3⟩ := evalE_ok (P := P) hC.U he hR.rebase hρ
    refine wpIn_of (no_defer_e he) ?_
    rcases hrun with hrun | ⟨hrun, rfl⟩
    · rw [hrun]; exact hn c' w' u (hR.trans h1) (hM.step hR h1) h2 h3
    · rw [hrun]; exact hn c' w' undef (hR.trans h1) (hM.step hR h1) h2 h3
  | call f args K x y _ _ _ W hv he hcal hK hx hy hpost =>
    have hc := hC.Γ f K hK
    obtain ⟨vals, hvals, hrun⟩ := callee_ok (P := P) hρ hcal
    refine wpIn_of (no_defer_c hcal) ?_
    rw [hrun, hc.enters, Oper.uponIn_enter]
    refine ⟨fun h => (by cases h), callsIn_WF ((hc.runs args s nx x y v s1 n1 W hx hy hpost (here B c s w) c w vals hR.rebase hvals).mono ?_)⟩
    rintro e' w' ⟨c', u, rfl, h1, h2, h3⟩
    exact hn c' w' u (hR.trans h1) (hM.step hR h1) h2 h3
  | round id args t cs q _ _ _ W hv he hcal hy hl hq h1 =>
    obtain ⟨vals, b, hvals, hnm, hrun⟩ := yieldee_ok (P := P) hρ hy
    obtain ⟨r, hr, hsz, hround⟩ := (hC.Y t q hq).runs args id cs s nx v s1 n1 W h1 hl (here B c s w) c w vals b hR.rebase hvals hnm
    refine wpIn_of (no_defer_y hy) ?_
    rw [hrun, run_yield hr (by simpa using hsz), Oper.uponIn_round]
    refine ⟨fun h => (by cases h), RoundIn.mono (hround : RoundIn (WF B.rd) 0 P b r.fn _ r.assign r.body w _) ?_⟩
    rintro e' w' ⟨c', u, rfl, h1, h2, h3⟩
    exact hn c' w' u (hR.trans h1) (hM.step hR h1) h2 h3

/-- An operation with its guard: where it ends. -/
theorem Done.goes [Sites] (hC : C.Ok P) {ops : Array Oper} {o : Oper} {ρ : Operand → Option AV} {s : Obs} {nx : Nat} {v : AV} {s1 : Obs} {n1 : Nat} {lg : Lg} (h : Done C ops o ρ s nx v s1 n1 lg)
    {Q : Exit → Act → World → Prop} (hR : Rel B c s w) (hM : Marks B.fl c w a.defers) (hρ : Ops.Ok c w ρ a.eval) {next : Act → World → Prop} (hn : ∀ c' w' u, Rel B c' s1 w' → Marks B.fl c' w' a.defers → VR c' w' v u → Ext c w c' w' → next (a.put o.dst u) w') :
    (if Region.wanted o (yielded ops a.tmps) then o.wpIn (WF B.rd) 0 P a w next Q else (∀ f, o.about P w a.eval = some f → (WF B.rd).fn f) ∧ next (a.put o.dst undef) w) := by
  have hy : ∀ g t b, guardTmp ops g = some t → ρ (.tmp t) = some (.bool b) → yielded ops a.tmps g = some b := by
    intro g t b ht hb
    have hv := hρ _ _ hb
    simp only [VR, Act.eval] at hv
    unfold guardTmp at ht
    unfold yielded
    rw [ht]
    have : a.tmps[t]? = some (.bool b) := by
      cases ha : a.tmps[t]? with
      | none => simp [ha] at hv; exact absurd hv (by simp [undef])
      | some z => simp [ha] at hv; rw [hv]
    simp [this]
  cases h with
  | run _ _ _ _ hg hd =>
    have hw : Region.wanted o (yielded ops a.tmps) = true := by
      cases hgd : o.guard with
      | none => exact wanted_none hgd _
      | some gw =>
        obtain ⟨g, want⟩ := gw
        obtain ⟨t, ht, hb⟩ := hg g want hgd
        simp [Region.wanted, hgd, hy g t want ht hb]
    rw [if_pos hw]
    exact hd.ends hC hR hM hρ next hn
  | skip g want t hgd ht hb =>
    have := hy g t _ ht hb
    rw [if_neg (by simp [Region.wanted, hgd, this])]
    exact ⟨fun _ _ => trivial, hn c w _ hR hM undef_VR (Ext.refl c w)⟩
  | skipu g want t hgd ht hb =>
    have hv := VR_undef (hρ _ _ hb)
    have hy : yielded ops a.tmps g = none := by
      simp only [Act.eval] at hv
      unfold guardTmp at ht
      unfold yielded
      rw [ht]
      cases ha : a.tmps[t]? with
      | none => simp [ha]
      | some z => simp [ha] at hv; simp [ha, hv, undef]
    rw [if_neg (by simp [Region.wanted, hgd, hy])]
    exact ⟨fun _ _ => trivial, hn c w _ hR hM undef_VR (Ext.refl c w)⟩

/-- The states along the text. -/
structure Along (C : Ctx) (ops : Array Oper) (i : Nat) (o : Oper) (s s1 : St) (v : AV) (lg : Lg) : Prop where
  may : mayDst C o.dst = true
  done : Done C ops o (evO s.env) s.obs s.nx v s1.obs s1.nx lg
  env : ∀ k, look s1.env k = if o.dst = some k then some v else look s.env k

theorem look_setT (env : Env) (d : Option Tmp) (v : AV) (k : Nat) : look (setT env d v) k = if d = some k then some v else look env k := by
  cases d with
  | none => simp [setT]
  | some t => simp only [setT, look_put, Option.some.injEq]

theorem look_same {env : Env} {t : Nat} {x : AV} (h : look env t = some x) (k : Nat) : look (put env t x) k = look env k := by
  rw [look_put]
  split
  · rename_i e; rw [← e, h]
  · rfl

theorem evO_same {env env' : Env} (h : ∀ k, look env k = look env' k) : evO env = evO env' := by
  funext o
  cases o <;> simp [evO, h]

theorem evGuard_along [Sites] {Ω : Type} {ops : Array Oper} {o : Oper} {i : Nat} {s : St} {K : St → Lg → Option Ω} {out : Ω} (h : evGuard C ops o s K = some out) :
    ∃ s1 v lg, K s1 lg = some out ∧ Along C ops i o s s1 v lg := by
  unfold evGuard at h
  split at h
  · rename_i hm
    split at h
    · rename_i hg
      obtain ⟨v, s1, n1, lg, hk, hd⟩ := evOp_did h
      exact ⟨_, v, lg, hk, hm, .run v s1 n1 lg (fun g want hgw => by rw [hg] at hgw; cases hgw) hd, fun k => look_setT _ _ _ _⟩
    · rename_i g want hg
      split at h
      · rename_i t ht
        split at h
        · rename_i b hb
          have he : evO (put s.env t (.bool b)) = evO s.env := evO_same (look_same hb)
          have hρ : evO s.env (.tmp t) = some (.bool b) := hb
          cases b with
          | true =>
            simp only [cond_true] at h
            cases want with
            | true =>
              obtain ⟨v, s1, n1, lg, hk, hd⟩ := evOp_did h
              simp only [he] at hd
              exact ⟨_, v, lg, hk, hm, .run v s1 n1 lg (fun g' want' hgw => by rw [hg] at hgw; cases hgw; exact ⟨t, ht, hρ⟩) hd, fun k => by rw [look_setT, look_same hb]⟩
            | false => exact ⟨_, .tup [], _, h, hm, .skip g false t hg ht hρ, fun k => by rw [look_setT, look_same hb]⟩
          | false =>
            simp only [cond_false] at h
            cases want with
            | false =>
              obtain ⟨v, s1, n1, lg, hk, hd⟩ := evOp_did h
              simp only [he] at hd
              exact ⟨_, v, lg, hk, hm, .run v s1 n1 lg (fun g' want' hgw => by rw [hg] at hgw; cases hgw; exact ⟨t, ht, hρ⟩) hd, fun k => by rw [look_setT, look_same hb]⟩
            | true => exact ⟨_, .tup [], _, h, hm, .skip g true t hg ht hρ, fun k => by rw [look_setT, look_same hb]⟩
        · rename_i hb
          exact ⟨_, .tup [], _, h, hm, .skipu g want t hg ht hb, fun k => look_setT _ _ _ _⟩
        · cases h
      · cases h
  · cases h

def Lg.isWr : Lg → Bool | .wr _ => true | _ => false
def apartL : List Nat → List Nat → Bool
  | [], _ => true
  | i :: r, l => !l.any (Nat.beq i) && apartL r l
/-- May two operations stand in either order? -/
def Lg.free : Lg → Lg → Bool
  | .rd _, .rd _ => true
  | .rd a, .wr b => apartL a b
  | .wr a, .rd b => apartL b a
  | .wr _, .wr _ => false

theorem apartL_mem {a b : List Nat} (h : apartL a b = true) {i : Nat} (ha : i ∈ a) (hb : i ∈ b) : False := by
  induction a with
  | nil => cases ha
  | cons x r ih =>
    simp only [apartL, Bool.and_eq_true, Bool.not_eq_true', List.any_eq_false] at h
    rcases List.mem_cons.1 ha with rfl | ha
    · exact absurd (Nat.beq_refl i) (by simpa using h.1 i hb)
    · exact ih h.2 ha

/-- Does an operation wait for another one? -/
def waits (bs : Array Nat) (i j : Nat) : Bool := (bs.getD i 0).testBit j

/-- The temporaries that an operation looks at. -/
def tmpsOf (ops : Array Oper) (o : Oper) : List Tmp :=
  (o.op.operands.toList.filterMap fun | .tmp t => some t | _ => none) ++ (match o.guard with | some (g, _) => (guardTmp ops g).toList | none => [])

def isDst (o : Oper) (t : Tmp) : Bool := match o.dst with | some d => Nat.beq d t | none => false

/-- Does an operation make a box of zeros, whatever else there is? -/
def mkOf (U : TEnv) (o : Oper) : Option TypeId :=
  match o.guard, o.op with
  | none, .alloc t => match (U t).k with
    | .array _ _ => none
    | _ => some t
  | _, _ => none
def isMk (U : TEnv) (ops : Array Oper) (i : Nat) : Bool := match ops[i]? with | some o => (mkOf U o).isSome | none => false
def looksAt (ops : Array Oper) (i k : Nat) : Bool := match ops[i]?, ops[k]? with | some x, some y => (tmpsOf ops x).any (isDst y) | _, _ => true
/-- Was there, ahead of an operation, one that writes and is not waited for? -/
def lateIn (bs : Array Nat) (k : Nat) (r : List (Nat × Lg)) : Bool := r.any fun p => p.2.isWr && !waits bs k p.1
def allWait (bs : Array Nat) (i : Nat) (r : List (Nat × Lg)) : Bool := r.all fun p => !p.2.isWr || waits bs i p.1

/-- May an operation stand where it stands? One that makes a box may be carried out ahead of what writes before it, if all that looks at the box waits for that. -/
def logOk (U : TEnv) (ops : Array Oper) (bs : Array Nat) (i : Nat) (lg : Lg) : List (Nat × Lg) → Bool
  | [] => true
  | (j, l) :: r => (((waits bs i j || l.free lg) || (isMk U ops i && l.isWr)) && (!(isMk U ops j && lateIn bs j r) || (((l.free lg || isMk U ops i) && !looksAt ops i j) || (waits bs i j && allWait bs i r)))) && logOk U ops bs i lg r

/-- Operations in the order of the text, with what they read and write. -/
def evLog {Ω : Type} (C : Ctx) (ops : Array Oper) (bs : Array Nat) : List Oper → Nat → List (Nat × Lg) → St → (St → Option Ω) → Option Ω
  | [], _, _, s, K => K s
  | o :: r, i, log, s, K => evGuard C ops o s fun s1 lg => match logOk C.U ops bs i lg log with
    | true => evLog C ops bs r (i + 1) ((i, lg) :: log) s1 K
    | false => none

def pairOk (ops : Array Oper) (bs : Array Nat) (i j : Nat) : Bool :=
  match ops[i]?, ops[j]? with
  | some x, some y => (waits bs i j || waits bs j i) || (!(tmpsOf ops x).any (isDst y) && (!(tmpsOf ops y).any (isDst x) && !(match x.dst with | some d => isDst y d | none => false)))
  | _, _ => true
def dstsOk (ops : Array Oper) (i j : Nat) : Bool :=
  match ops[i]?, ops[j]? with
  | some x, some y => !(match x.dst with | some d => isDst y d | none => false)
  | _, _ => true
def allBelow (n : Nat) (p : Nat → Bool) : Bool := Nat.rec true (fun k r => p k && r) n
def edgesOk (ops : Array Oper) (i : Nat) : Bool := match ops[i]? with | some o => o.after.all fun e => !Region.binds .any e || Nat.blt e.on i | none => true
/-- May the operations of a statement be drawn in any order that waits for what must be waited for? -/
def drawOk (ops : Array Oper) (bs : Array Nat) : Bool :=
  allBelow ops.size fun i => edgesOk ops i && allBelow i fun j => pairOk ops bs i j && dstsOk ops i j

theorem allBelow_get {n : Nat} {p : Nat → Bool} (h : allBelow n p = true) {k : Nat} (hk : k < n) : p k = true := by
  induction n with
  | zero => omega
  | succ n ih =>
    have h' : (p n && allBelow n p) = true := h
    simp only [Bool.and_eq_true] at h'
    rcases Nat.lt_succ_iff_lt_or_eq.1 hk with hk | rfl
    · exact ih h'.2 hk
    · exact h'.1
end
end Go.Hay
