/- Types of plain data, what their values are in Lean, and what it means that such a value lies in memory that nobody writes. Conditions: none. -/
import Derived.Below
import Derived.Maps.AppendAt
import Derived.Laws.Rows
import Derived.Laws.CopyRow
import Derived.Lib.SliceRun
import Derived.WideLaws
import Derived.Tactics
import Derived.KernelRfl
set_option linter.unusedVariables false
set_option linter.unusedSimpArgs false
namespace Go.Hay
open Go.RowKit

/-- Is a number one of a kind? -/
def fits : IntKind → Int → Bool
  | .i8, n => decide (-128 ≤ n) && decide (n < 128)
  | .i16, n => decide (-32768 ≤ n) && decide (n < 32768)
  | .i32, n => decide (-2147483648 ≤ n) && decide (n < 2147483648)
  | .i64, n => decide (-9223372036854775808 ≤ n) && decide (n < 9223372036854775808)
  | .u8, n => decide (0 ≤ n) && decide (n < 256)
  | .u16, n => decide (0 ≤ n) && decide (n < 65536)
  | .u32, n => decide (0 ≤ n) && decide (n < 4294967296)
  | .u64, n => decide (0 ≤ n) && decide (n < 18446744073709551616)

/-- Types of plain data. A struct is pairs of pairs. -/
inductive Ty where
  | byte | int (k : IntKind) | bool | str | slice (t : Ty) | pair (a b : Ty) | unit
  deriving DecidableEq

/-- What the values of a type are. -/
@[reducible] def Ty.den : Ty → Type
  | .byte => UInt8
  | .int _ => Int
  | .bool => Bool
  | .str => List UInt8
  | .slice t => List t.den
  | .pair a b => a.den × b.den
  | .unit => Unit

/-- How many cells a value has. -/
def Ty.size : Ty → Nat
  | .pair a b => a.size + b.size
  | .unit => 0
  | _ => 1

/-- Lists of cells one behind the other. -/
def Cat {α : Type} (R : α → List Value → Prop) : List α → List Value → Prop
  | [], us => us = []
  | x :: l, us => ∃ a b, us = a ++ b ∧ R x a ∧ Cat R l b

def CellsAt (w : World) (b o : Nat) (us : List Value) : Prop := ∀ j u, us[j]? = some u → w.cell? ⟨b, o + j, none⟩ = some u

/-- A slice value over memory that nobody writes. -/
def SliceAt {α : Type} (I : Nat → Prop) (w : World) (R : α → List Value → Prop) (l : List α) (u : Value) : Prop :=
  ∃ A c, u = .slice A l.length c ∧ l.length ≤ c ∧ c ≤ maxLen ∧ (A = none → l.length = 0) ∧
    ∀ ad, A = some ad → 0 < l.length → ad.spot = none ∧ I ad.block ∧ ∃ us, Cat R l us ∧ CellsAt w ad.block ad.off us

/-- A value of plain data as cells. I: the blocks that nobody writes. -/
def TR (I : Nat → Prop) (w : World) : (t : Ty) → t.den → List Value → Prop
  | .byte, x, us => us = [.int .u8 (x.toNat : Int)]
  | .int k, x, us => us = [.int k x] ∧ fits k x = true
  | .bool, x, us => us = [.bool x]
  | .str, x, us => us = [.string ⟨x.toArray⟩] ∧ x.length ≤ maxLen
  | .slice t, l, us => ∃ u, us = [u] ∧ SliceAt I w (TR I w t) l u
  | .pair a b, x, us => ∃ u v, us = u ++ v ∧ TR I w a x.1 u ∧ TR I w b x.2 v
  | .unit, _, us => us = []

section
variable {α : Type} {R R' : α → List Value → Prop}

theorem Cat.mono (h : ∀ x us, R x us → R' x us) : ∀ {l : List α} {us : List Value}, Cat R l us → Cat R' l us
  | [], us, hc => hc
  | x :: l, us, ⟨a, b, e, h1, h2⟩ => ⟨a, b, e, h _ _ h1, Cat.mono h h2⟩

theorem Cat.append : ∀ {l m : List α} {us vs : List Value}, Cat R l us → Cat R m vs → Cat R (l ++ m) (us ++ vs)
  | [], m, us, vs, h1, h2 => by simp only [Cat] at h1; subst h1; simpa using h2
  | x :: l, m, us, vs, ⟨a, b, e, h1, h3⟩, h2 => ⟨a, b ++ vs, by rw [e, List.append_assoc], h1, Cat.append h3 h2⟩

theorem Cat.length {sz : Nat} (hs : ∀ x us, R x us → us.length = sz) : ∀ {l : List α} {us : List Value}, Cat R l us → us.length = l.length * sz
  | [], us, hc => by simp only [Cat] at hc; simp [hc]
  | x :: l, us, ⟨a, b, e, h1, h2⟩ => by
    rw [e, List.length_append, hs _ _ h1, Cat.length hs h2, List.length_cons, Nat.add_mul]; omega

theorem Cat.drop {sz : Nat} (hs : ∀ x us, R x us → us.length = sz) : ∀ (n : Nat) {l : List α} {us : List Value}, Cat R l us → Cat R (l.drop n) (us.drop (n * sz))
  | 0, l, us, hc => by simpa using hc
  | n + 1, [], us, hc => by simp only [Cat] at hc; subst hc; simp [Cat]
  | n + 1, x :: l, us, ⟨a, b, e, h1, h2⟩ => by
    have hl := hs _ _ h1
    have e2 : (n + 1) * sz = a.length + n * sz := by rw [hl, Nat.add_mul]; omega
    rw [List.drop_succ_cons, e, e2, List.drop_append, List.drop_of_length_le (show a.length ≤ a.length + n * sz by omega), List.nil_append, Nat.add_sub_cancel_left]
    exact Cat.drop hs n h2

theorem Cat.take {sz : Nat} (hs : ∀ x us, R x us → us.length = sz) : ∀ (n : Nat) {l : List α} {us : List Value}, Cat R l us → Cat R (l.take n) (us.take (n * sz))
  | 0, l, us, hc => by simp [Cat]
  | n + 1, [], us, hc => by simp only [Cat] at hc; subst hc; simp [Cat]
  | n + 1, x :: l, us, ⟨a, b, e, h1, h2⟩ => by
    rw [List.take_succ_cons, e]
    refine ⟨a, b.take (n * sz), ?_, h1, Cat.take hs n h2⟩
    have hl := hs _ _ h1
    rw [List.take_append, List.take_of_length_le (by rw [hl, Nat.add_mul]; omega), hl, Nat.add_mul, Nat.one_mul, Nat.add_sub_cancel]

theorem Cat.get {sz : Nat} (hs : ∀ x us, R x us → us.length = sz) {l : List α} {us : List Value} (hc : Cat R l us) {i : Nat} {x : α} (hx : l[i]? = some x) :
    R x ((us.drop (i * sz)).take sz) := by
  have h1 := Cat.drop hs i hc
  rw [List.drop_eq_getElem_cons (List.getElem?_eq_some_iff.1 hx).1] at h1
  obtain ⟨a, b, e, h2, h3⟩ := h1
  rw [(List.getElem?_eq_some_iff.1 hx).2] at h2
  rw [e, ← hs _ _ h2, List.take_left]
  exact h2

theorem Cat.set {sz : Nat} (hs : ∀ x us, R x us → us.length = sz) {l : List α} {us vs : List Value} (hc : Cat R l us) {i : Nat} (hi : i < l.length) {x : α} (hx : R x vs) :
    Cat R (l.set i x) (us.take (i * sz) ++ vs ++ us.drop ((i + 1) * sz)) := by
  have h1 := Cat.take hs i hc
  have h2 := Cat.drop hs (i + 1) hc
  rw [List.set_eq_take_append_cons_drop, if_pos hi, List.append_assoc]
  exact h1.append ⟨vs, _, rfl, hx, h2⟩
end

theorem TR.len {I : Nat → Prop} {w : World} : ∀ {t : Ty} {x : t.den} {us : List Value}, TR I w t x us → us.length = t.size
  | .byte, x, us, h => by simp only [TR] at h; subst h; rfl
  | .int k, x, us, h => by simp only [TR] at h; rw [h.1]; rfl
  | .bool, x, us, h => by simp only [TR] at h; subst h; rfl
  | .str, x, us, h => by simp only [TR] at h; rw [h.1]; rfl
  | .slice t, x, us, h => by simp only [TR] at h; obtain ⟨u, rfl, _⟩ := h; rfl
  | .pair a b, x, us, h => by
    simp only [TR] at h
    obtain ⟨u, v, rfl, h1, h2⟩ := h
    rw [List.length_append, TR.len h1, TR.len h2]; rfl
  | .unit, x, us, h => by simp only [TR] at h; subst h; rfl

theorem TR.one {I : Nat → Prop} {w : World} : ∀ {t : Ty} {x : t.den} {us : List Value}, TR I w t x us → ∀ u ∈ us, u.oneCell' = true
  | .byte, x, us, h => by simp only [TR] at h; subst h; simp [Value.oneCell']
  | .int k, x, us, h => by simp only [TR] at h; rw [h.1]; simp [Value.oneCell']
  | .bool, x, us, h => by simp only [TR] at h; subst h; simp [Value.oneCell']
  | .str, x, us, h => by simp only [TR] at h; rw [h.1]; simp [Value.oneCell']
  | .slice t, x, us, h => by simp only [TR] at h; obtain ⟨u, rfl, A, c, rfl, _⟩ := h; simp [Value.oneCell']
  | .pair a b, x, us, h => by
    simp only [TR] at h
    obtain ⟨u, v, rfl, h1, h2⟩ := h
    intro y hy
    rcases List.mem_append.1 hy with hy | hy
    · exact TR.one h1 y hy
    · exact TR.one h2 y hy
  | .unit, x, us, h => by simp only [TR] at h; subst h; simp

theorem Cat.one {I : Nat → Prop} {w : World} {t : Ty} : ∀ {l : List t.den} {us : List Value}, Cat (TR I w t) l us → ∀ u ∈ us, u.oneCell' = true
  | [], us, h => by simp only [Cat] at h; subst h; simp
  | x :: l, us, ⟨a, b, e, h1, h2⟩ => by
    subst e
    intro y hy
    rcases List.mem_append.1 hy with hy | hy
    · exact TR.one h1 y hy
    · exact Cat.one h2 y hy

/-- What nobody writes lasts. -/
structure Lasts (I I' : Nat → Prop) (w w' : World) : Prop where
  sub : ∀ b, I b → I' b
  heap : ∀ b, I b → w'.heap[b]? = w.heap[b]?

theorem Lasts.refl (I : Nat → Prop) (w : World) : Lasts I I w w := ⟨fun _ h => h, fun _ _ => rfl⟩
theorem Lasts.trans {I I' I'' : Nat → Prop} {w w' w'' : World} (h : Lasts I I' w w') (k : Lasts I' I'' w' w'') : Lasts I I'' w w'' :=
  ⟨fun b hb => k.sub b (h.sub b hb), fun b hb => (k.heap b (h.sub b hb)).trans (h.heap b hb)⟩

theorem CellsAt.lasts {I I' : Nat → Prop} {w w' : World} (h : Lasts I I' w w') {b o : Nat} (hb : I b) {us : List Value} (hc : CellsAt w b o us) : CellsAt w' b o us :=
  fun j u hj => (World.cell?_of_block (w := w) (a := ⟨b, o + j, none⟩) (h.heap b hb)).trans (hc j u hj)

theorem TR.lasts {I I' : Nat → Prop} {w w' : World} (h : Lasts I I' w w') : ∀ {t : Ty} {x : t.den} {us : List Value}, TR I w t x us → TR I' w' t x us
  | .byte, x, us, hx => hx
  | .int k, x, us, hx => hx
  | .bool, x, us, hx => hx
  | .str, x, us, hx => hx
  | .slice t, l, us, hx => by
    simp only [TR] at hx ⊢
    obtain ⟨u, e, A, c, e1, hn, hm, h0, hc⟩ := hx
    refine ⟨u, e, A, c, e1, hn, hm, h0, fun ad ha hpos => ?_⟩
    obtain ⟨hs, hI, us', h1, h2⟩ := hc ad ha hpos
    exact ⟨hs, h.sub _ hI, us', Cat.mono (fun x us hh => TR.lasts h hh) h1, h2.lasts h hI⟩
  | .pair a b, x, us, hx => by
    simp only [TR] at hx ⊢
    obtain ⟨u, v, e, h1, h2⟩ := hx
    exact ⟨u, v, e, TR.lasts h h1, TR.lasts h h2⟩
  | .unit, x, us, hx => hx

theorem Cat.lasts {I I' : Nat → Prop} {w w' : World} (h : Lasts I I' w w') {t : Ty} {l : List t.den} {us : List Value} (hc : Cat (TR I w t) l us) : Cat (TR I' w' t) l us :=
  Cat.mono (fun _ _ hh => TR.lasts h hh) hc

theorem CellsAt.drop {w : World} {b o n : Nat} {us : List Value} (h : CellsAt w b o us) : CellsAt w b (o + n) (us.drop n) := fun j u hj => by
  rw [List.getElem?_drop] at hj
  have := h _ _ hj
  rwa [Nat.add_assoc]
theorem CellsAt.take {w : World} {b o n : Nat} {us : List Value} (h : CellsAt w b o us) : CellsAt w b o (us.take n) := fun j u hj => by
  rw [List.getElem?_take] at hj
  split at hj
  · exact h _ _ hj
  · cases hj

theorem addr_add (b o j : Nat) : (⟨b, o, none⟩ : Addr).add j = ⟨b, o + j, none⟩ := by
  unfold Addr.add
  split <;> simp_all

/-- A part of a slice that nobody writes. -/
theorem SliceAt.part {α : Type} {I : Nat → Prop} {w : World} {R : α → List Value → Prop} {sz : Nat} (hs : ∀ x us, R x us → us.length = sz) {l : List α} {A : Option Addr} {n c lo hi : Nat}
    (h : SliceAt I w R l (.slice A n c)) (h1 : lo ≤ hi) (h2 : hi ≤ l.length) : SliceAt I w R ((l.take hi).drop lo) (.slice (if c = lo then A else A.map (·.add (lo * sz))) (hi - lo) (c - lo)) := by
  obtain ⟨A', c', e, hn, hm, h0, hc⟩ := h
  simp only [Value.slice.injEq] at e
  obtain ⟨rfl, rfl, rfl⟩ := e
  have hlen : ((l.take hi).drop lo).length = hi - lo := by simp; omega
  refine ⟨_, _, by rw [hlen], by rw [hlen]; omega, by omega, ?_, ?_⟩
  · rw [hlen]
    intro hA
    have : A = none := by
      split at hA
      · exact hA
      · simpa using hA
    have := h0 this
    omega
  · rw [hlen]
    intro ad ha hpos
    have hne : ¬ c = lo := by omega
    rw [if_neg hne] at ha
    cases A with
    | none => simp at ha
    | some ad0 =>
      simp only [Option.map_some, Option.some.injEq] at ha
      obtain ⟨hsp, hI, us, hcat, hcell⟩ := hc ad0 rfl (by omega)
      obtain ⟨b, o, sp⟩ := ad0
      simp only at hsp hI hcell
      subst hsp
      rw [addr_add] at ha
      subst ha
      exact ⟨rfl, hI, (us.take (hi * sz)).drop (lo * sz), Cat.drop hs lo (Cat.take hs hi hcat), (hcell.take (n := hi * sz)).drop (n := lo * sz)⟩
end Go.Hay
