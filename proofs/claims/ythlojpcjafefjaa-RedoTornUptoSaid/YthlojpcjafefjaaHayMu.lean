/- Functions that end in several ways, of different shapes. Conditions: none. -/
import Derived.Test.YthlojpcjafefjaaHayLd
set_option linter.unusedVariables false
set_option linter.unusedSimpArgs false
namespace Go.Hay
open Go.RowKit

@[reducible] def shsDen : List Sh → Type
  | [] => Empty
  | [a] => a.den
  | a :: b :: r => a.den ⊕ shsDen (b :: r)

/-- Results taken by the first shape that fits. -/
def shsTake : (l : List Sh) → List AV → Obs → Option (shsDen l)
  | [], _, _ => none
  | [a], vs, s => match xt a vs ⟨s, [], []⟩ with
    | some (y, [], _) => some y
    | _ => none
  | a :: b :: r, vs, s => match xt a vs ⟨s, [], []⟩ with
    | some (y, [], _) => some (.inl y)
    | _ => match shsTake (b :: r) vs s with
      | some y => some (.inr y)
      | none => none

def shsCase {Ω : Type} : (l : List Sh) → shsDen l → ((o : Sh) → o.den → Option Ω) → Option Ω
  | [], y, _ => nomatch y
  | [a], y, k => k a y
  | a :: b :: r, y, k => match y with
    | .inl y => k a y
    | .inr y => shsCase (b :: r) y k

def shsSpl {Ω : Type} : (l : List Sh) → (y : shsDen l) → (shsDen l → Option Ω) → Option Ω
  | [], y, K => K y
  | [a], y, K => K y
  | a :: b :: r, y, K => match y with
    | .inl y => K (.inl y)
    | .inr y => shsSpl (b :: r) y fun y => K (.inr y)

theorem shsSpl_ok {Ω : Type} : ∀ (l : List Sh) (y : shsDen l) (K : shsDen l → Option Ω) (out : Ω), shsSpl l y K = some out → K y = some out
  | [], y, K, out, h => h
  | [a], y, K, out, h => h
  | a :: b :: r, .inl y, K, out, h => h
  | a :: b :: r, .inr y, K, out, h => shsSpl_ok (b :: r) y (fun y => K (.inr y)) out h

theorem shsCase_ok : ∀ (l : List Sh) (y : shsDen l), ∃ (o : Sh) (u : o.den), o ∈ l ∧ ∀ {Ω : Type} (k : (o : Sh) → o.den → Option Ω), shsCase l y k = k o u
  | [], y => nomatch y
  | [a], y => ⟨a, y, by simp, fun k => rfl⟩
  | a :: b :: r, .inl y => ⟨a, y, by simp, fun k => rfl⟩
  | a :: b :: r, .inr y => by
    obtain ⟨o, u, h1, h2⟩ := shsCase_ok (b :: r) y
    exact ⟨o, u, List.mem_cons_of_mem _ h1, fun k => by simp only [shsCase]; exact h2 k⟩

theorem shsTake_ok : ∀ {l : List Sh} {vs : List AV} {s : Obs} {y : shsDen l}, shsTake l vs s = some y →
    ∃ (o : Sh) (u : o.den) (z : Tk), o ∈ l ∧ xt o vs ⟨s, [], []⟩ = some (u, [], z) ∧ ∀ {Ω : Type} (k : (o : Sh) → o.den → Option Ω), shsCase l y k = k o u
  | [], vs, s, y, h => by cases h
  | [a], vs, s, y, h => by
    simp only [shsTake] at h
    split at h
    · rename_i y' z hx
      simp only [Option.some.injEq] at h
      subst h
      exact ⟨a, y', z, by simp, hx, fun k => rfl⟩
    · cases h
  | a :: b :: r, vs, s, y, h => by
    simp only [shsTake] at h
    split at h
    · rename_i y' z hx
      simp only [Option.some.injEq] at h
      subst h
      exact ⟨a, y', z, by simp, hx, fun k => rfl⟩
    · split at h
      · rename_i y' hy
        simp only [Option.some.injEq] at h
        subst h
        obtain ⟨o, u, z, h1, h2, h3⟩ := shsTake_ok hy
        exact ⟨o, u, z, List.mem_cons_of_mem _ h1, h2, fun k => by simp only [shsCase]; exact h3 k⟩
      · cases h

/-- A function: its input's shape, the shapes of what it may give back, what it computes. -/
structure Fm where
  ins : Sh
  outs : List Sh
  fn : ins.den → Option (shsDen outs)

def Fm.con (F : Fm) : Con where
  X := F.ins.den
  Y := fun _ => shsDen F.outs
  pre args s nx := match xt F.ins args ⟨s, [], []⟩ with
    | some (x, [], z) => bif F.outs.all fun o => backOk o z nx then some x else none
    | _ => none
  fn := F.fn
  post args s nx x y := match xt F.ins args ⟨s, [], []⟩ with
    | some (x', [], z) => shsCase F.outs y fun o y => some (oneOrTuple (bld (outNm z.tk (onames (nameAt z.tk) nx o 0)) o y 0).1,
        putAll (restore (bld (fun k => k) F.ins x' 0).2.1 z.tk 0 z.obs) (bld (outNm z.tk (onames (nameAt z.tk) nx o 0)) o y 0).2.1,
        nx + (onames (nameAt z.tk) nx o 0).length, tkNames z.tk ++ (z.fz ++ onames (nameAt z.tk) nx o 0))
    | _ => none
  spl _ y K := shsSpl F.outs y K
  spl_ok _ y K out h := shsSpl_ok F.outs y K out h

def endN (U : TEnv) (outs : List Sh) (rs : List ResultVar) (ctl : Ctl) (s : St) : Option (shsDen outs) :=
  match ctl with
  | .exit _ => none
  | _ => match resVs U s rs with
    | some vs => shsTake outs vs s.obs
    | none => none
def endM (U : TEnv) (outs : List Sh) (rs : List ResultVar) (fix : List Tmp) (ctl : Ctl) (s : St) : Option (shsDen outs) := endN U outs rs ctl (settleAll fix s)

section
variable {P : Program} {B : Bs} {c : Cf} {w : World} {s : Obs}
theorem fm_ok [Sites] {f : FuncId} {fn : Func} {code : Code} (hf : P.funcs[f]? = some fn) (hname : (fn.name == "runtime.NumGoroutine") = false) (hb : fn.body = some code) (hmix : P.follows .mixedOrders = true)
    {C : Ctx} (hC : C.Ok P) (hmay : ∀ t, C.may t = true) {F : Fm} (hnt : ∀ x, (bld (fun k => k) F.ins x 0).1.length + (fn.ntmps - (bld (fun k => k) F.ins x 0).1.length) = C.nt) {Λ : Pcs} (hΛ : Λ.Ok P C code) {n0 : Nat} {fix : List Tmp}
    (hev : ∀ x y, F.fn x = some y → evC C code Λ ⟨envOf 0 (bld (fun k => k) F.ins x 0).1, (bld (fun k => k) F.ins x 0).2.1, n0⟩ (endM C.U F.outs fn.results.toList fix) = some y) (hni : updIx F.ins = [] := by rfl) : F.con.Ok P f where
  enters args w := MuLone.run_callFunc_enter hf hname hb args w
  runs := by
    intro args s nx (x : F.ins.den) (y : shsDen F.outs) v s1 n1 W hpre hfn hpost B c w vals hR hv
    simp only [Fm.con] at hpre hpost
    split at hpre
    · rename_i x' z hx
      cases hbk : (F.outs.all fun o => backOk o z nx) with
      | false => simp [hbk] at hpre
      | true =>
        simp only [hbk, cond_true] at hpre
        obtain rfl : x' = x := Option.some.inj hpre
        rw [hx] at hpost
        simp only at hpost
        obtain ⟨vs, I1, hH, hv0⟩ := handed hR hv hx hni
        refine callsIn_wide.1 (callsIn_of_wp_marks (n := 0) (F := Fence.wide) hf hb trivial ?_)
        have hlen := hv0.length
        have hsim : Sim (bs0 none w.heap.size w vs I1 (bld (fun k => k) F.ins x' 0).2.1) C (fun _ => none) (cf0 vs I1) ⟨envOf 0 (bld (fun k => k) F.ins x' 0).1, (bld (fun k => k) F.ins x' 0).2.1, n0⟩ w
            { tmps := vals.toArray ++ Array.replicate (fn.ntmps - vals.toArray.size) undef, defers := [] } := by
          refine ⟨hH.rel hR, ⟨?_, fun k y hk => ?_, fun k v hk => (by cases hk)⟩, .nil, ⟨Nat.le_refl _, fun l hl => by cases hl⟩⟩
          · simp only [Array.size_append, List.size_toArray, Array.size_replicate]
            rw [← hnt x', hlen]
          · obtain ⟨_, hk⟩ := look_envOf _ _ _ _ hk
            simp only [Nat.sub_zero] at hk
            obtain ⟨u, hu, hvu⟩ := hv0.get hk
            have hlt : k < vals.length := (List.getElem?_eq_some_iff.1 hu).1
            have : (vals.toArray ++ Array.replicate (fn.ntmps - vals.toArray.size) undef).getD k undef = u := by
              rw [Array.getD_eq_getD_getElem?, Array.getElem?_append_left (by simpa using hlt)]
              simp [hu]
            rw [this]
            exact hvu
        refine evC_ok hC hmix (fun t ht => rfl) code Λ _ _ (hev x' y hfn) hΛ _ w _ _ hsim fun ctl st0 c10 w1 a1 hK hs10 hE10 => ?_
        obtain ⟨c1, hs1, hE11⟩ := settleAll_ok fix hs10
        have hE1 := hE10.trans hE11
        generalize hst : settleAll fix st0 = st at hs1
        have hctl : (ctl = .normal ∨ ctl = .ret) ∧ ∃ rs o u z1, o ∈ F.outs ∧ resVs C.U st fn.results.toList = some rs ∧ xt o rs ⟨st.obs, [], []⟩ = some (u, [], z1) ∧ ∀ {Ω : Type} (k : (o : Sh) → o.den → Option Ω), shsCase F.outs y k = k o u := by
          unfold endM endN at hK
          rw [hst] at hK
          split at hK
          · cases hK
          · rename_i hne
            refine ⟨?_, ?_⟩
            · cases ctl with
              | normal => exact .inl rfl
              | ret => exact .inr rfl
              | exit id => exact absurd rfl (hne id)
            · split at hK
              · rename_i rs hrs
                obtain ⟨o, u, z1, g1, g2, g3⟩ := shsTake_ok hK
                exact ⟨rs, o, u, z1, g1, hrs, g2, @g3⟩
              · cases hK
        obtain ⟨hctl, rs, o, y1, z1, ho, hrs, hx1, hcase⟩ := hctl
        have hbk := List.all_eq_true.1 hbk o ho
        simp only [backOk, Bool.and_eq_true] at hbk
        obtain ⟨⟨b1, b2⟩, b3, b4, b5⟩ := hbk
        rw [hcase] at hpost
        simp only [Option.some.injEq, Prod.mk.injEq] at hpost
        obtain ⟨rfl, rfl, _⟩ := hpost
        obtain ⟨w2, r1, r2, r3⟩ := Marks.pay (P := P) (fn := fn) (tmps := a1.tmps) (R := fun e w' => ∃ c' u, e = .returned u ∧ Rel B c' (putAll (restore (bld (fun k => k) F.ins x' 0).2.1 z.tk 0 z.obs) (bld (outNm z.tk (onames (nameAt z.tk) nx o 0)) o y1 0).2.1) w' ∧
            VR c' w' (oneOrTuple (bld (outNm z.tk (onames (nameAt z.tk) nx o 0)) o y1 0).1) u ∧ Ext c w c' w') hs1.rel hs1.marks (Nat.le_refl _)
        have hs2 : Sim (bs0 none w.heap.size w vs I1 (bld (fun k => k) F.ins x' 0).2.1) C (fun _ => none) c1 st w2 { a1 with defers := [] } :=
          ⟨r1, ⟨(hs1.tmps.ext r2).size, (hs1.tmps.ext r2).env, (hs1.tmps.ext r2).frame⟩, .nil, hs1.base⟩
        have hE2 := hE1.trans r2
        obtain ⟨us, hrun, hvr⟩ := results_ok (P := P) hC.U hs2 hrs
        obtain ⟨c2, g1, g2, g3, _⟩ := hH.give hR hs2.rel hE2.lasts (fun i _ v hi => hE2.nm i v hi) hvr hx1 b1 b2 rfl (Nat.le_of_ble_eq_true b5) b3 b4
        have hpost := r3 ⟨_, hrun, c2, _, rfl, g1, one_or_tuple g2, g3⟩
        rcases hctl with rfl | rfl
        · exact hpost
        · exact hpost
    · cases hpre
  wrote := by
    intro args s nx (x : F.ins.den) (y : shsDen F.outs) v s1 n1 W hpre hpost i hi
    simp only [Fm.con] at hpre hpost
    split at hpost
    · rename_i x' z hx
      obtain ⟨o, u, ho, hcase⟩ := shsCase_ok F.outs y
      rw [hcase] at hpost
      simp only [Option.some.injEq, Prod.mk.injEq] at hpost
      obtain ⟨_, rfl, _, rfl⟩ := hpost
      rw [hx] at hpre
      simp only at hpre
      cases hbk : (F.outs.all fun o => backOk o z nx) with
      | false => simp [hbk] at hpre
      | true =>
        have hbk := List.all_eq_true.1 hbk o ho
        simp only [backOk, Bool.and_eq_true] at hbk
        exact back_look hx hi (Nat.le_of_ble_eq_true hbk.2.2.2)
    · cases hpost
end
end Go.Hay
