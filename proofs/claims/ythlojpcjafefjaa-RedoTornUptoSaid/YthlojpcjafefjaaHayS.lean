/- The evaluator of code. -/
import Derived.Test.YthlojpcjafefjaaHayR
import Derived.Scope
set_option linter.unusedVariables false
set_option linter.unusedSimpArgs false
namespace Go.Hay
open Go.RowKit

/-- What a piece of code does, seen from the code around it: it goes on with what stands behind it. -/
structure Pc where
  run : {Ω : Type} → St → (Ctl → St → Option Ω) → Option Ω

def Pc.Ok [Sites] (P : Program) (C : Ctx) (code : Code) (q : Pc) : Prop :=
  ∀ {Ω : Type} (s : St) (K : Ctl → St → Option Ω) (out : Ω), q.run s K = some out →
    ∀ (B : Bs) (fr : Nat → Option Value) (c : Cf) (w : World) (a : Act) (Q : Exit → Act → World → Prop), (∀ t, C.may t = true → fr t = none) → Sim B C fr c s w a →
      (∀ ctl s1 c' w' a', K ctl s1 = some out → Sim B C fr c' s1 w' a' → Ext c w c' w' → Q ctl.out a' w') → code.wpIn (WF B.rd) 0 P Q a w

def evPc {Ω : Type} (q : Pc) (s : St) (K : Ctl → St → Option Ω) : Option Ω := q.run s K

abbrev Pcs := List Bool → Option Pc
def Pcs.l (Λ : Pcs) : Pcs := fun p => Λ (false :: p)
def Pcs.r (Λ : Pcs) : Pcs := fun p => Λ (true :: p)

noncomputable def evC {Ω : Type} (C : Ctx) : Code → Pcs → St → (Ctl → St → Option Ω) → Option Ω
  | .skip, _, s, K => K .normal s
  | .label _, _, s, K => K .normal s
  | .exit id, _, s, K => K (.exit id) s
  | .ret, _, s, K => K .ret s
  | .region _ ops d, Λ, s, K => match Λ [] with
    | some q => evPc q s K
    | none => match d with
      | false => evOps C ops ops.toList s (K .normal)
      | true => match drawOk ops (Region.before ops) with
        | true => evLog C ops (Region.before ops) ops.toList 0 [] s (K .normal)
        | false => none
  | .seq a b, Λ, s, K => match Λ [] with
    | some q => evPc q s K
    | none => evC C a Λ.l s fun ctl s1 => match ctl with
      | .normal => evC C b Λ.r s1 K
      | .ret => K .ret s1
      | .exit id => K (.exit id) s1
  | .cond c a b, Λ, s, K => match Λ [] with
    | some q => evPc q s K
    | none => match evO s.env c with
      | some (.bool t) => bif t then evC C a Λ.l s K else evC C b Λ.r s K
      | _ => none
  | .block id b, Λ, s, K => match Λ [] with
    | some q => evPc q s K
    | none => evC C b Λ.l s fun ctl s1 => match ctl with
      | .normal => K .normal s1
      | .ret => K .ret s1
      | .exit j => bif Nat.beq j id then K .normal s1 else K (.exit j) s1
  | .scope b, Λ, s, K => match Λ [] with
    | some q => evPc q s K
    | none => evC C b Λ.l s K
  | .loop _, Λ, s, K => match Λ [] with
    | some q => evPc q s K
    | none => none
  | .rangeFunc _ _ _ _, Λ, s, K => match Λ [] with
    | some q => evPc q s K
    | none => none
  | _, _, _, _ => none

def sub : Code → List Bool → Option Code
  | c, [] => some c
  | .seq a _, false :: p => sub a p
  | .seq _ b, true :: p => sub b p
  | .cond _ a _, false :: p => sub a p
  | .cond _ _ b, true :: p => sub b p
  | .block _ b, false :: p => sub b p
  | .scope b, false :: p => sub b p
  | _, _ :: _ => none

def Pcs.Ok [Sites] (P : Program) (C : Ctx) (code : Code) (Λ : Pcs) : Prop := ∀ p q code', Λ p = some q → sub code p = some code' → q.Ok P C code'

section
variable {P : Program} {B : Bs} {fr : Nat → Option Value} {C : Ctx}

theorem stepR_scope {c : Code} {b : Frame} {a : Act} {k : List Item} {cs : List Frame} {w : World} :
    step P (lone (b.atR a (.code (.scope c) :: k)) cs w) = .next (lone (b.atR a (.code c :: .inScope c :: k)) cs w) := step_lone_go (by simp [stepG, stepG.exec, Frame.atR])
theorem stepR_inScope {c : Code} {b : Frame} {a : Act} {k : List Item} {cs : List Frame} {w : World} :
    step P (lone (b.atR a (.inScope c :: k)) cs w) = .next (lone (b.atR a k) cs w) := step_lone_go (by simp [stepG, stepG.exec, Frame.atR])
theorem wpIn_scope {F : Fence} {n : Nat} {Q : Exit → Act → World → Prop} {a : Act} {w : World} {c : Code} (h : c.wpIn F n P (Exit.noGoto Q) a w) : (Code.scope c).wpIn F n P Q a w := by
  intro b k cs hro hb hr
  have h0 : (lone (b.atR a (.code (.scope c) :: k)) cs w).fenced P F := fenced_calm hb hr rfl
  obtain ⟨e, a₁, w₁, hq, harr⟩ := h b (.inScope c :: k) cs hro hb hr
  cases e with
  | normal => exact ⟨.normal, a₁, w₁, hq, .head h0 stepR_scope (StepsIn.trans harr (.one (fenced_calm hb hr rfl) stepR_inScope))⟩
  | exit id =>
    have hx : exitTo id (.inScope c :: k) = exitTo id k := by simp [exitTo]
    exact ⟨.exit id, a₁, w₁, hq, fun k' hk => .head h0 stepR_scope (harr.1 k' (by rw [hx]; exact hk)),
      fun hr' hk => let ⟨k₁, h1, h2⟩ := harr.2 hr' (by rw [hx]; exact hk); ⟨k₁, h1, .head h0 stepR_scope h2⟩⟩
  | goto l => exact hq.elim
  | ret => exact ⟨_, a₁, w₁, hq, .of_steps (.one h0 stepR_scope) harr⟩
  | panic ch => exact ⟨_, a₁, w₁, hq, .of_steps (.one h0 stepR_scope) harr⟩
  | outgrown => exact ⟨_, a₁, w₁, hq, .of_steps (.one h0 stepR_scope) harr⟩

theorem evPc_ok [Sites] {Ω : Type} {code : Code} {q : Pc} (hq : q.Ok P C code) {s : St} {K : Ctl → St → Option Ω} {out : Ω} (h : evPc q s K = some out) {c : Cf} {w : World} {a : Act} {Q : Exit → Act → World → Prop}
    (hfr : ∀ t, C.may t = true → fr t = none) (hs : Sim B C fr c s w a) (hK : ∀ ctl s1 c' w' a', K ctl s1 = some out → Sim B C fr c' s1 w' a' → Ext c w c' w' → Q ctl.out a' w') : code.wpIn (WF B.rd) 0 P Q a w :=
  hq s K out h B fr c w a Q hfr hs hK

theorem evC_ok [Sites] {Ω : Type} (hC : C.Ok P) (hmix : P.follows .mixedOrders = true) (hfr : ∀ t, C.may t = true → fr t = none) {out : Ω} :
    ∀ (code : Code) (Λ : Pcs) (s : St) (K : Ctl → St → Option Ω), evC C code Λ s K = some out → Λ.Ok P C code →
      ∀ (c : Cf) (w : World) (a : Act) (Q : Exit → Act → World → Prop), Sim B C fr c s w a → (∀ ctl s1 c' w' a', K ctl s1 = some out → Sim B C fr c' s1 w' a' → Ext c w c' w' → Q ctl.out a' w') → code.wpIn (WF B.rd) 0 P Q a w := by
  intro code
  induction code with
  | skip => intro Λ s K h hΛ c w a Q hs hK; exact wpIn_skip (hK .normal s c w a h hs (Ext.refl c w))
  | label l => intro Λ s K h hΛ c w a Q hs hK; exact wpIn_label (hK .normal s c w a h hs (Ext.refl c w))
  | exit id => intro Λ s K h hΛ c w a Q hs hK; exact wpIn_exit (hK (.exit id) s c w a h hs (Ext.refl c w))
  | ret => intro Λ s K h hΛ c w a Q hs hK; exact wpIn_ret (hK .ret s c w a h hs (Ext.refl c w))
  | region id ops d =>
    intro Λ s K h hΛ c w a Q hs hK
    simp only [evC] at h
    split at h
    · rename_i q hq
      exact evPc_ok (hΛ [] q _ hq (by simp [sub])) h hfr hs hK
    cases d with
    | false => exact wpIn_region (evOps_ok hC hfr 0 s c w a h (Nat.zero_le _) hs fun s1 c' w' a' h1 h2 h3 => hK .normal s1 c' w' a' h1 h2 h3)
    | true =>
      simp only at h
      split at h
      · rename_i hd
        exact evLog_ok hC hmix hfr hd h hs fun s1 c' w' a' h1 h2 h3 => hK .normal s1 c' w' a' h1 h2 h3
      · cases h
  | seq x y ihx ihy =>
    intro Λ s K h hΛ c w a Q hs hK
    simp only [evC] at h
    split at h
    · rename_i q hq
      exact evPc_ok (hΛ [] q _ hq (by simp [sub])) h hfr hs hK
    · refine wpIn_seq (ihx Λ.l s _ h (fun p q code' h1 h2 => hΛ (false :: p) q code' h1 (by simpa [sub] using h2)) c w a _ hs fun ctl s1 c' w' a' h1 h2 h3 => ?_)
      cases ctl with
      | normal => exact ihy Λ.r s1 K h1 (fun p q code' h1 h2 => hΛ (true :: p) q code' h1 (by simpa [sub] using h2)) c' w' a' Q h2 fun ctl s2 c2 w2 a2 h4 h5 h6 => hK ctl s2 c2 w2 a2 h4 h5 (h3.trans h6)
      | ret => exact hK .ret s1 c' w' a' h1 h2 h3
      | exit id => exact hK (.exit id) s1 c' w' a' h1 h2 h3
  | cond o x y ihx ihy =>
    intro Λ s K h hΛ c w a Q hs hK
    simp only [evC] at h
    split at h
    · rename_i q hq
      exact evPc_ok (hΛ [] q _ hq (by simp [sub])) h hfr hs hK
    · split at h
      · rename_i t ht
        have hv := hs.ops _ _ ht
        simp only [VR] at hv
        refine wpIn_cond hv ?_
        cases t with
        | true => exact ihx Λ.l s K h (fun p q code' h1 h2 => hΛ (false :: p) q code' h1 (by simpa [sub] using h2)) c w a Q hs hK
        | false => exact ihy Λ.r s K h (fun p q code' h1 h2 => hΛ (true :: p) q code' h1 (by simpa [sub] using h2)) c w a Q hs hK
      · cases h
  | block id x ih =>
    intro Λ s K h hΛ c w a Q hs hK
    simp only [evC] at h
    split at h
    · rename_i q hq
      exact evPc_ok (hΛ [] q _ hq (by simp [sub])) h hfr hs hK
    · refine wpIn_block (ih Λ.l s _ h (fun p q code' h1 h2 => hΛ (false :: p) q code' h1 (by simpa [sub] using h2)) c w a _ hs fun ctl s1 c' w' a' h1 h2 h3 => ?_)
      cases ctl with
      | normal => exact hK .normal s1 c' w' a' h1 h2 h3
      | ret => exact hK .ret s1 c' w' a' h1 h2 h3
      | exit j =>
        simp only at h1
        simp only [Ctl.out, Exit.inBlock]
        by_cases e : j = id
        · subst e
          rw [if_pos rfl]
          rw [show Nat.beq j j = true from Nat.beq_refl j] at h1
          exact hK .normal s1 c' w' a' (by simpa using h1) h2 h3
        · rw [if_neg e]
          rw [beq_no e] at h1
          exact hK (.exit j) s1 c' w' a' (by simpa using h1) h2 h3
  | scope x ih =>
    intro Λ s K h hΛ c w a Q hs hK
    simp only [evC] at h
    split at h
    · rename_i q hq
      exact evPc_ok (hΛ [] q _ hq (by simp [sub])) h hfr hs hK
    · refine wpIn_scope (ih Λ.l s _ h (fun p q code' h1 h2 => hΛ (false :: p) q code' h1 (by simpa [sub] using h2)) c w a _ hs fun ctl s1 c' w' a' h1 h2 h3 => ?_)
      have := hK ctl s1 c' w' a' h1 h2 h3
      cases ctl <;> exact this
  | loop x ih =>
    intro Λ s K h hΛ c w a Q hs hK
    simp only [evC] at h
    split at h
    · rename_i q hq
      exact evPc_ok (hΛ [] q _ hq (by simp [sub])) h hfr hs hK
    · cases h
  | rangeFunc f ps x y ihx ihy =>
    intro Λ s K h hΛ c w a Q hs hK
    simp only [evC] at h
    split at h
    · rename_i q hq
      exact evPc_ok (hΛ [] q _ hq (by simp [sub])) h hfr hs hK
    · cases h
  | _ => intro Λ s K h; simp [evC] at h
end
end Go.Hay
