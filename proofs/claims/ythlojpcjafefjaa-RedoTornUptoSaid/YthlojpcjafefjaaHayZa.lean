/- Lists of contracts and of pieces. -/
import Derived.Test.YthlojpcjafefjaaHayZ
import Derived.KernelRfl
set_option linter.unusedVariables false
set_option linter.unusedSimpArgs false
namespace Go.Hay
open Go.RowKit

/-- Contracts, by their functions' numbers. -/
def gam : List (FuncId × Con) → FuncId → Option Con
  | [], _ => none
  | (g, c) :: r, f => bif Nat.beq g f then some c else gam r f

/-- Rounds, by their records' numbers. -/
def gamY : List (TypeId × Yc) → TypeId → Option Yc
  | [], _ => none
  | (g, c) :: r, f => bif Nat.beq g f then some c else gamY r f

def pcs : List (List Bool × Pc) → Pcs
  | [], _ => none
  | (p, q) :: r, p' => bif pathEq p p' then some q else pcs r p'
  where pathEq : List Bool → List Bool → Bool
  | [], [] => true
  | a :: as, b :: bs => (a == b) && pathEq as bs
  | _, _ => false

def loopBody : Option Code → Code
  | some (.loop b) => b
  | _ => .skip

/-- Two contracts of one function: the first that fits. -/
def Con.or (c d : Con) : Con where
  X := c.X ⊕ d.X
  Y := fun x => match x with | .inl x => c.Y x | .inr x => d.Y x
  pre a s n := match c.pre a s n with
    | some x => some (.inl x)
    | none => match d.pre a s n with
      | some x => some (.inr x)
      | none => none
  fn := fun x => match x with | .inl x => c.fn x | .inr x => d.fn x
  post a s n := fun x => match x with | .inl x => fun y => c.post a s n x y | .inr x => fun y => d.post a s n x y
  spl := fun x => match x with | .inl x => c.spl x | .inr x => d.spl x
  spl_ok := fun x => match x with | .inl x => c.spl_ok x | .inr x => d.spl_ok x

section
variable {P : Program}

def GamOk [Sites] (P : Program) (l : List (FuncId × Con)) : Prop := ∀ f c, gam l f = some c → c.Ok P f
theorem GamOk.nil [Sites] : GamOk P [] := fun f c h => by cases h
theorem GamOk.cons [Sites] {f : FuncId} {c : Con} {r : List (FuncId × Con)} (h : c.Ok P f) (hr : GamOk P r) : GamOk P ((f, c) :: r) := by
  intro g d hg
  simp only [gam] at hg
  cases hb : Nat.beq f g with
  | true =>
    rw [hb] at hg
    simp only [cond_true, Option.some.injEq] at hg
    have := Nat.eq_of_beq_eq_true hb
    subst this
    subst hg
    exact h
  | false =>
    rw [hb] at hg
    exact hr g d hg

def GamYOk [Sites] (P : Program) (l : List (TypeId × Yc)) : Prop := ∀ f c, gamY l f = some c → c.Ok P f
theorem GamYOk.nil [Sites] : GamYOk P [] := fun f c h => by cases h
theorem GamYOk.cons [Sites] {f : TypeId} {c : Yc} {r : List (TypeId × Yc)} (h : c.Ok P f) (hr : GamYOk P r) : GamYOk P ((f, c) :: r) := by
  intro g d hg
  simp only [gamY] at hg
  cases hb : Nat.beq f g with
  | true =>
    rw [hb] at hg
    simp only [cond_true, Option.some.injEq] at hg
    have := Nat.eq_of_beq_eq_true hb
    subst this
    subst hg
    exact h
  | false =>
    rw [hb] at hg
    exact hr g d hg

theorem pathEq_ok : ∀ {a b : List Bool}, pcs.pathEq a b = true → a = b
  | [], [], _ => rfl
  | a :: as, b :: bs, h => by
    simp only [pcs.pathEq, Bool.and_eq_true, beq_iff_eq] at h
    rw [h.1, pathEq_ok h.2]
  | [], _ :: _, h => by cases h
  | _ :: _, [], h => by cases h

theorem pcsOk_nil [Sites] {C : Ctx} {code : Code} : (pcs []).Ok P C code := fun p q code' h => by cases h
theorem pcsOk_cons [Sites] {C : Ctx} {code : Code} {p : List Bool} {q : Pc} {r : List (List Bool × Pc)} {c1 : Code} (hs : sub code p = some c1) (hq : q.Ok P C c1) (hr : (pcs r).Ok P C code) : (pcs ((p, q) :: r)).Ok P C code := by
  intro p' q' code' h1 h2
  simp only [pcs] at h1
  cases hb : pcs.pathEq p p' with
  | true =>
    rw [hb] at h1
    simp only [cond_true, Option.some.injEq] at h1
    have := pathEq_ok hb
    subst this
    subst h1
    rw [hs] at h2
    cases h2
    exact @hq
  | false =>
    rw [hb] at h1
    exact hr p' q' code' h1 h2

def TD.no : TD := ⟨.none, 0, 0, [], none, false⟩
def TD.Holds (P : Program) (t : TypeId) (d : TD) : Prop := TD.kindOk P t d ∧ TD.infoOk P t d ∧ TD.eqOk P t d
def Tab (P : Program) (l : List TD) (i : Nat) : Prop := ∀ j d, l[j]? = some d → d.k ≠ .none → TD.Holds P (i + j) d
theorem Tab.nil {i : Nat} : Tab P [] i := fun j d h => by simp at h
theorem Tab.cons {d : TD} {r : List TD} {i : Nat} (h : TD.Holds P i d) (hr : Tab P r (i + 1)) : Tab P (d :: r) i := by
  intro j d' hj hk
  cases j with
  | zero => simp only [List.getElem?_cons_zero, Option.some.injEq] at hj; subst hj; exact h
  | succ j =>
    simp only [List.getElem?_cons_succ] at hj
    have := hr j d' hj hk
    rwa [show i + 1 + j = i + (j + 1) by omega] at this
theorem Tab.skip {r : List TD} {i : Nat} (hr : Tab P r (i + 1)) : Tab P (TD.no :: r) i := by
  intro j d' hj hk
  cases j with
  | zero => simp only [List.getElem?_cons_zero, Option.some.injEq] at hj; subst hj; exact absurd rfl hk
  | succ j =>
    simp only [List.getElem?_cons_succ] at hj
    have := hr j d' hj hk
    rwa [show i + 1 + j = i + (j + 1) by omega] at this
theorem Tab.ok {l : List TD} (h : Tab P l 0) : TEnv.Ok P (fun t => l.getD t TD.no) := by
  intro t ht
  cases hl : l[t]? with
  | none => simp [List.getD, hl, TD.no] at ht
  | some d =>
    have hd : l.getD t TD.no = d := by simp [List.getD, hl]
    simp only [hd] at ht ⊢
    have := h t d hl ht
    rw [Nat.zero_add] at this
    exact this
theorem Con.or_ok [Sites] {f : FuncId} {c d : Con} (hc : c.Ok P f) (hd : d.Ok P f) : (c.or d).Ok P f where
  enters := hc.enters
  runs := by
    intro args s nx x y v s1 n1 W hpre hfn hpost
    cases x with
    | inl x =>
      refine hc.runs args s nx x y v s1 n1 W ?_ hfn hpost
      simp only [Con.or] at hpre
      split at hpre
      · rename_i x' hx
        simp only [Option.some.injEq] at hpre
        cases hpre
        exact hx
      · split at hpre <;> cases hpre
    | inr x =>
      refine hd.runs args s nx x y v s1 n1 W ?_ hfn hpost
      simp only [Con.or] at hpre
      split at hpre
      · cases hpre
      · split at hpre
        · rename_i x' hx
          simp only [Option.some.injEq] at hpre
          cases hpre
          exact hx
        · cases hpre
  wrote := by
    intro args s nx x y v s1 n1 W hpre hpost
    cases x with
    | inl x =>
      refine hc.wrote args s nx x y v s1 n1 W ?_ hpost
      simp only [Con.or] at hpre
      split at hpre
      · rename_i x' hx
        simp only [Option.some.injEq] at hpre
        cases hpre
        exact hx
      · split at hpre <;> cases hpre
    | inr x =>
      refine hd.wrote args s nx x y v s1 n1 W ?_ hpost
      simp only [Con.or] at hpre
      split at hpre
      · cases hpre
      · split at hpre
        · rename_i x' hx
          simp only [Option.some.injEq] at hpre
          cases hpre
          exact hx
        · cases hpre
end
end Go.Hay
