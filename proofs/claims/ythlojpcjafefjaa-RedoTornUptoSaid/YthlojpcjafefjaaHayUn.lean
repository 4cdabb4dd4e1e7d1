/- Loops that are gone through round by round: no more than a number of rounds that is known. Conditions: none. -/
import Derived.Test.YthlojpcjafefjaaHayZa
set_option linter.unusedVariables false
set_option linter.unusedSimpArgs false
namespace Go.Hay
open Go.RowKit

noncomputable def unrollRun {Ω : Type} (C : Ctx) (body : Code) (Λ : Pcs) : Nat → St → (Ctl → St → Option Ω) → Option Ω
  | 0, _, _ => none
  | n + 1, s, K => evC C body Λ s fun ctl s1 => match ctl with
    | .normal => unrollRun C body Λ n s1 K
    | .ret => K .ret s1
    | .exit id => K (.exit id) s1
noncomputable def Pc.unroll (C : Ctx) (body : Code) (Λ : Pcs) (n : Nat) : Pc := ⟨fun s K => unrollRun C body Λ n s K⟩

theorem unroll_ok [Sites] {P : Program} {C : Ctx} (hC : C.Ok P) (hmix : P.follows .mixedOrders = true) {body : Code} {Λ : Pcs} (hΛ : Λ.Ok P C body) (n : Nat) : (Pc.unroll C body Λ n).Ok P C (.loop body) := by
  intro Ω s K out h B fr c w a Q hfr hs hK
  refine wpIn_loop_rounds n ?_
  have key : ∀ (n : Nat) (s : St) (c1 : Cf) (w1 : World) (a1 : Act), unrollRun C body Λ n s K = some out → Sim B C fr c1 s w1 a1 → Ext c w c1 w1 → Code.roundsIn (WF B.rd) 0 P body Q n a1 w1 := by
    intro n
    induction n with
    | zero => intro s c1 w1 a1 h; cases h
    | succ n ih =>
      intro s c1 w1 a1 h hs1 hE
      rw [roundsIn_succ]
      refine evC_ok hC hmix hfr body Λ s _ h hΛ c1 w1 a1 _ hs1 fun ctl s2 c2 w2 a2 h1 h2 h3 => ?_
      cases ctl with
      | normal => exact ih s2 c2 w2 a2 h1 h2 (hE.trans h3)
      | ret => exact hK .ret s2 c2 w2 a2 h1 h2 (hE.trans h3)
      | exit id => exact hK (.exit id) s2 c2 w2 a2 h1 h2 (hE.trans h3)
  exact key n s c w a h hs (Ext.refl c w)
end Go.Hay
