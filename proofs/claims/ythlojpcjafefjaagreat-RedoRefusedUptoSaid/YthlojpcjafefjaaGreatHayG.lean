/- Types of plain data, what their values are in Lean, and what it means that such a value lies in memory that nobody writes. Conditions: none. -/
import Derived.Below
import Derived.Maps.AppendAt
import Derived.Laws.Rows
import Derived.Laws.CopyRow
import Derived.Lib.SliceRun
import Derived.WideLaws
import Derived.Tactics
import Derived.KernelRfl
import Derived.MapKept
import Derived.Laws.StructEq
import Derived.Laws.BytesString
import Derived.Laws.Strings
set_option linter.unusedVariables false
set_option linter.unusedSimpArgs false
namespace Go.Hay
open Go.RowKit

def fits : IntKind → Int → Bool
  | .i8, n => decide (-128 ≤ n) && decide (n < 128)
  | .i16, n => decide (-32768 ≤ n) && decide (n < 32768)
  | .i32, n => decide (-2147483648 ≤ n) && decide (n < 2147483648)
  | .i64, n => decide (-9223372036854775808 ≤ n) && decide (n < 9223372036854775808)
  | .u8, n => decide (0 ≤ n) && decide (n < 256)
  | .u16, n => decide (0 ≤ n) && decide (n < 65536)
  | .u32, n => decide (0 ≤ n) && decide (n < 4294967296)
  | .u64, n => decide (0 ≤ n) && decide (n < 18446744073709551616)

inductive Ty where
  | byte | int (k : IntKind) | bool | str | slice (t : Ty) | pair (a b : Ty) | unit
  deriving DecidableEq

@[reducible] def Ty.den : Ty → Type
  | .byte => UInt8
  | .int _ => Int
  | .bool => Bool
  | .str => List UInt8
  | .slice t => List t.den
  | .pair a b => a.den × b.den
  | .unit => Unit

def Ty.size : Ty → Nat
  | .pair a b => a.size + b.size
  | .unit => 0
  | _ => 1

def Cat {α : Type} (R : α → List Value → Prop) : List α → List Value → Prop
  | [], us => us = []
  | x :: l, us => ∃ a b, us = a ++ b ∧ R x a ∧ Cat R l b

def CellsAt (w : World) (b o : Nat) (us : List Value) : Prop := ∀ j u, us[j]? = some u → w.cell? ⟨b, o + j, none⟩ = some u

def SliceAt {α : Type} (I : Nat → Prop) (w : World) (R : α → List Value → Prop) (l : List α) (u : Value) : Prop :=
  ∃ A c, u = .slice A l.length c ∧ l.length ≤ c ∧ c ≤ maxLen ∧ (A = none → l.length = 0) ∧
    ∀ ad, A = some ad → 0 < l.length → ad.spot = none ∧ I ad.block ∧ ∃ us, Cat R l us ∧ CellsAt w ad.block ad.off us

def TR (I : Nat → Prop) (w : World) : (t : Ty) → t.den → List Value → Prop
  | .byte, x, us => us = [.int .u8 (x.toNat : Int)]
  | .int k, x, us => us = [.int k x] ∧ fits k x = true
  | .bool, x, us => us = [.bool x]
  | .str, x, us => us = [.string ⟨x.toArray⟩] ∧ x.length ≤ maxLen
  | .slice t, l, us => ∃ u, us = [u] ∧ SliceAt I w (TR I w t) l u
  | .pair a b, x, us => ∃ u v, us = u ++ v ∧ TR I w a x.1 u ∧ TR I w b x.2 v
  | .unit, _, us => us = []

section
variable {α : Type} {R R' : α → List Value → Prop}

theorem Cat.mono (h : ∀ x us, R x us → R' x us) : ∀ {l : List α} {us : List Value}, Cat R l us → Cat R' l us
  | [], us, hc => hc
  | x :: l, us, ⟨a, b, e, h1, h2⟩ => ⟨a, b, e, h _ _ h1, Cat.mono h h2⟩

theorem Cat.append : ∀ {l m : List α} {us vs : List Value}, Cat R l us → Cat R m vs → Cat R (l ++ m) (us ++ vs)
  | [], m, us, vs, h1, h2 => by simp only [Cat] at h1; subst h1; simpa using h2
  | x :: l, m, us, vs, ⟨a, b, e, h1, h3⟩, h2 => ⟨a, b ++ vs, by rw [e, List.append_assoc], h1, Cat.append h3 h2⟩

theorem Cat.length {sz : Nat} (hs : ∀ x us, R x us → us.length = sz) : ∀ {l : List α} {us : List Value}, Cat R l us → us.length = l.length * sz
  | [], us, hc => by simp only [Cat] at hc; simp [hc]
  | x :: l, us, ⟨a, b, e, h1, h2⟩ => by
    rw [e, List.length_append, hs _ _ h1, Cat.length hs h2, List.length_cons, Nat.add_mul]; omega

theorem Cat.drop {sz : Nat} (hs : ∀ x us, R x us → us.length = sz) : ∀ (n : Nat) {l : List α} {us : List Value}, Cat R l us → Cat R (l.drop n) (us.drop (n * sz))
  | 0, l, us, hc => by simpa using hc
  | n + 1, [], us, hc => by simp only [Cat] at hc; subst hc; simp [Cat]
  | n + 1, x :: l, us, ⟨a, b, e, h1, h2⟩ => by
    have hl := hs _ _ h1
    have e2 : (n + 1) * sz = a.length + n * sz := by rw [hl, Nat.add_mul]; omega
    rw [List.drop_succ_cons, e, e2, List.drop_append, List.drop_of_length_le (show a.length ≤ a.length + n * sz by omega), List.nil_append, Nat.add_sub_cancel_left]
    exact Cat.drop hs n h2

theorem Cat.take {sz : Nat} (hs : ∀ x us, R x us → us.length = sz) : ∀ (n : Nat) {l : List α} {us : List Value}, Cat R l us → Cat R (l.take n) (us.take (n * sz))
  | 0, l, us, hc => by simp [Cat]
  | n + 1, [], us, hc => by simp only [Cat] at hc; subst hc; simp [Cat]
  | n + 1, x :: l, us, ⟨a, b, e, h1, h2⟩ => by
    rw [List.take_succ_cons, e]
    refine ⟨a, b.take (n * sz), ?_, h1, Cat.take hs n h2⟩
    have hl := hs _ _ h1
    rw [List.take_append, List.take_of_length_le (by rw [hl, Nat.add_mul]; omega), hl, Nat.add_mul, Nat.one_mul, Nat.add_sub_cancel]

theorem Cat.get {sz : Nat} (hs : ∀ x us, R x us → us.length = sz) {l : List α} {us : List Value} (hc : Cat R l us) {i : Nat} {x : α} (hx : l[i]? = some x) :
    R x ((us.drop (i * sz)).take sz) := by
  have h1 := Cat.drop hs i hc
  rw [List.drop_eq_getElem_cons (List.getElem?_eq_some_iff.1 hx).1] at h1
  obtain ⟨a, b, e, h2, h3⟩ := h1
  rw [(List.getElem?_eq_some_iff.1 hx).2] at h2
  rw [e, ← hs _ _ h2, List.take_left]
  exact h2

theorem Cat.set {sz : Nat} (hs : ∀ x us, R x us → us.length = sz) {l : List α} {us vs : List Value} (hc : Cat R l us) {i : Nat} (hi : i < l.length) {x : α} (hx : R x vs) :
    Cat R (l.set i x) (us.take (i * sz) ++ vs ++ us.drop ((i + 1) * sz)) := by
  have h1 := Cat.take hs i hc
  have h2 := Cat.drop hs (i + 1) hc
  rw [List.set_eq_take_append_cons_drop, if_pos hi, List.append_assoc]
  exact h1.append ⟨vs, _, rfl, hx, h2⟩
end

theorem TR.len {I : Nat → Prop} {w : World} : ∀ {t : Ty} {x : t.den} {us : List Value}, TR I w t x us → us.length = t.size
  | .byte, x, us, h => by simp only [TR] at h; subst h; rfl
  | .int k, x, us, h => by simp only [TR] at h; rw [h.1]; rfl
  | .bool, x, us, h => by simp only [TR] at h; subst h; rfl
  | .str, x, us, h => by simp only [TR] at h; rw [h.1]; rfl
  | .slice t, x, us, h => by simp only [TR] at h; obtain ⟨u, rfl, _⟩ := h; rfl
  | .pair a b, x, us, h => by
    simp only [TR] at h
    obtain ⟨u, v, rfl, h1, h2⟩ := h
    rw [List.length_append, TR.len h1, TR.len h2]; rfl
  | .unit, x, us, h => by simp only [TR] at h; subst h; rfl

theorem TR.one {I : Nat → Prop} {w : World} : ∀ {t : Ty} {x : t.den} {us : List Value}, TR I w t x us → ∀ u ∈ us, u.oneCell' = true
  | .byte, x, us, h => by simp only [TR] at h; subst h; simp [Value.oneCell']
  | .int k, x, us, h => by simp only [TR] at h; rw [h.1]; simp [Value.oneCell']
  | .bool, x, us, h => by simp only [TR] at h; subst h; simp [Value.oneCell']
  | .str, x, us, h => by simp only [TR] at h; rw [h.1]; simp [Value.oneCell']
  | .slice t, x, us, h => by simp only [TR] at h; obtain ⟨u, rfl, A, c, rfl, _⟩ := h; simp [Value.oneCell']
  | .pair a b, x, us, h => by
    simp only [TR] at h
    obtain ⟨u, v, rfl, h1, h2⟩ := h
    intro y hy
    rcases List.mem_append.1 hy with hy | hy
    · exact TR.one h1 y hy
    · exact TR.one h2 y hy
  | .unit, x, us, h => by simp only [TR] at h; subst h; simp

theorem Cat.one {I : Nat → Prop} {w : World} {t : Ty} : ∀ {l : List t.den} {us : List Value}, Cat (TR I w t) l us → ∀ u ∈ us, u.oneCell' = true
  | [], us, h => by simp only [Cat] at h; subst h; simp
  | x :: l, us, ⟨a, b, e, h1, h2⟩ => by
    subst e
    intro y hy
    rcases List.mem_append.1 hy with hy | hy
    · exact TR.one h1 y hy
    · exact Cat.one h2 y hy

structure Lasts (I I' : Nat → Prop) (w w' : World) : Prop where
  sub : ∀ b, I b → I' b
  heap : ∀ b, I b → w'.heap[b]? = w.heap[b]?

theorem Lasts.refl (I : Nat → Prop) (w : World) : Lasts I I w w := ⟨fun _ h => h, fun _ _ => rfl⟩
theorem Lasts.trans {I I' I'' : Nat → Prop} {w w' w'' : World} (h : Lasts I I' w w') (k : Lasts I' I'' w' w'') : Lasts I I'' w w'' :=
  ⟨fun b hb => k.sub b (h.sub b hb), fun b hb => (k.heap b (h.sub b hb)).trans (h.heap b hb)⟩

theorem CellsAt.lasts {I I' : Nat → Prop} {w w' : World} (h : Lasts I I' w w') {b o : Nat} (hb : I b) {us : List Value} (hc : CellsAt w b o us) : CellsAt w' b o us :=
  fun j u hj => (World.cell?_of_block (w := w) (a := ⟨b, o + j, none⟩) (h.heap b hb)).trans (hc j u hj)

theorem TR.lasts {I I' : Nat → Prop} {w w' : World} (h : Lasts I I' w w') : ∀ {t : Ty} {x : t.den} {us : List Value}, TR I w t x us → TR I' w' t x us
  | .byte, x, us, hx => hx
  | .int k, x, us, hx => hx
  | .bool, x, us, hx => hx
  | .str, x, us, hx => hx
  | .slice t, l, us, hx => by
    simp only [TR] at hx ⊢
    obtain ⟨u, e, A, c, e1, hn, hm, h0, hc⟩ := hx
    refine ⟨u, e, A, c, e1, hn, hm, h0, fun ad ha hpos => ?_⟩
    obtain ⟨hs, hI, us', h1, h2⟩ := hc ad ha hpos
    exact ⟨hs, h.sub _ hI, us', Cat.mono (fun x us hh => TR.lasts h hh) h1, h2.lasts h hI⟩
  | .pair a b, x, us, hx => by
    simp only [TR] at hx ⊢
    obtain ⟨u, v, e, h1, h2⟩ := hx
    exact ⟨u, v, e, TR.lasts h h1, TR.lasts h h2⟩
  | .unit, x, us, hx => hx

theorem Cat.lasts {I I' : Nat → Prop} {w w' : World} (h : Lasts I I' w w') {t : Ty} {l : List t.den} {us : List Value} (hc : Cat (TR I w t) l us) : Cat (TR I' w' t) l us :=
  Cat.mono (fun _ _ hh => TR.lasts h hh) hc

theorem CellsAt.drop {w : World} {b o n : Nat} {us : List Value} (h : CellsAt w b o us) : CellsAt w b (o + n) (us.drop n) := fun j u hj => by
  rw [List.getElem?_drop] at hj
  have := h _ _ hj
  rwa [Nat.add_assoc]
theorem CellsAt.take {w : World} {b o n : Nat} {us : List Value} (h : CellsAt w b o us) : CellsAt w b o (us.take n) := fun j u hj => by
  rw [List.getElem?_take] at hj
  split at hj
  · exact h _ _ hj
  · cases hj

theorem addr_add (b o j : Nat) : (⟨b, o, none⟩ : Addr).add j = ⟨b, o + j, none⟩ := by
  unfold Addr.add
  split <;> simp_all

theorem SliceAt.part {α : Type} {I : Nat → Prop} {w : World} {R : α → List Value → Prop} {sz : Nat} (hs : ∀ x us, R x us → us.length = sz) {l : List α} {A : Option Addr} {n c lo hi : Nat}
    (h : SliceAt I w R l (.slice A n c)) (h1 : lo ≤ hi) (h2 : hi ≤ l.length) : SliceAt I w R ((l.take hi).drop lo) (.slice (if c = lo then A else A.map (·.add (lo * sz))) (hi - lo) (c - lo)) := by
  obtain ⟨A', c', e, hn, hm, h0, hc⟩ := h
  simp only [Value.slice.injEq] at e
  obtain ⟨rfl, rfl, rfl⟩ := e
  have hlen : ((l.take hi).drop lo).length = hi - lo := by simp; omega
  refine ⟨_, _, by rw [hlen], by rw [hlen]; omega, by omega, ?_, ?_⟩
  · rw [hlen]
    intro hA
    have : A = none := by
      split at hA
      · exact hA
      · simpa using hA
    have := h0 this
    omega
  · rw [hlen]
    intro ad ha hpos
    have hne : ¬ c = lo := by omega
    rw [if_neg hne] at ha
    cases A with
    | none => simp at ha
    | some ad0 =>
      simp only [Option.map_some, Option.some.injEq] at ha
      obtain ⟨hsp, hI, us, hcat, hcell⟩ := hc ad0 rfl (by omega)
      obtain ⟨b, o, sp⟩ := ad0
      simp only at hsp hI hcell
      subst hsp
      rw [addr_add] at ha
      subst ha
      exact ⟨rfl, hI, (us.take (hi * sz)).drop (lo * sz), Cat.drop hs lo (Cat.take hs hi hcat), (hcell.take (n := hi * sz)).drop (n := lo * sz)⟩
end Go.Hay
/- Symbolic values and states, and what they say of a world. Conditions: none. -/
set_option linter.unusedVariables false
set_option linter.unusedSimpArgs false
namespace Go.Hay
open Go.RowKit

inductive AV where
  | int (k : IntKind) (n : Int)
  | bool (b : Bool)
  | str (s : List UInt8)
  | list (t : Ty) (l : List t.den)
  | nils
  | own (id : Nat)
  | view (id sz lo n : Nat)
  | ptr (id off : Nat)
  | rptr (id sz i k : Nat)
  | aptr (id n : Nat)
  | eptr (cs : List AV)
  | elist (sz n : Nat) (cs : List AV)
  | nilp
  | agg (cs : List AV)
  | tup (cs : List AV)
  | fn (f : Fn) (first cap : List AV)
  | raw (v : Value)
  | junk
  | yld (id : Nat)
  | mp (id : Nat)
  | any

structure Cf where
  nm : Nat → Option Value
  I : Nat → Prop

def isSlice : Value → Bool | .slice _ _ _ => true | _ => false

mutual
def VR (c : Cf) (w : World) : AV → Value → Prop
  | .int k n, u => u = .int k n ∧ fits k n = true
  | .bool b, u => u = .bool b
  | .str s, u => u = .string ⟨s.toArray⟩ ∧ s.length ≤ maxLen
  | .list t l, u => SliceAt c.I w (TR c.I w t) l u
  | .nils, u => ∃ A, u = .slice A 0 0
  | .own id, u => c.nm id = some u ∧ isSlice u = true
  | .view id sz lo n, u => ∃ A n0 cap, c.nm id = some (.slice A n0 cap) ∧ lo + n ≤ n0 ∧ n0 ≤ maxLen ∧ u = .slice (if cap = lo then A else A.map (·.add (lo * sz))) n (cap - lo)
  | .ptr id off, u => ∃ b, c.nm id = some (.pointer (some ⟨b, 0, none⟩)) ∧ u = .pointer (some ⟨b, off, none⟩)
  | .rptr id sz i k, u => ∃ b n cap, c.nm id = some (.slice (some ⟨b, 0, none⟩) n cap) ∧ u = .pointer (some ⟨b, i * sz + k, none⟩)
  | .aptr id n, u => ∃ b, c.nm id = some (.slice (some ⟨b, 0, none⟩) n n) ∧ n ≤ maxLen ∧ u = .pointer (some ⟨b, 0, none⟩)
  | .eptr cs, u => ∃ b o us, u = .pointer (some ⟨b, o, none⟩) ∧ (0 < cs.length → c.I b) ∧ VRs c w cs us ∧ CellsAt w b o us
  | .elist sz n cs, u => ∃ b us, u = .slice (some ⟨b, 0, none⟩) n n ∧ (0 < n ∧ n ≤ maxLen ∧ cs.length = n * sz) ∧ c.I b ∧ VRs c w cs us ∧ CellsAt w b 0 us
  | .nilp, u => u = .pointer none
  | .agg cs, u => ∃ us : List Value, u = .agg us.toArray ∧ VRs c w cs us
  | .tup cs, u => ∃ us : List Value, u = .tuple us.toArray ∧ VRs c w cs us
  | .fn f first cap, u => ∃ us vs : List Value, u = .func f us.toArray vs.toArray ∧ VRs c w first us ∧ VRs c w cap vs
  | .raw v, u => u = v
  | .junk, _ => True
  | .yld id, u => ∃ b, c.nm id = some (.pointer (some ⟨b, 0, none⟩)) ∧ u = .func (.yield b) #[] #[]
  | .mp id, u => ∃ b, c.nm id = some (.map (some b)) ∧ u = .map (some b)
  | .any, u => u.oneCell' = true
def VRs (c : Cf) (w : World) : List AV → List Value → Prop
  | [], us => us = []
  | x :: xs, us => ∃ u us', us = u :: us' ∧ VR c w x u ∧ VRs c w xs us'
end

structure Ext (c : Cf) (w : World) (c' : Cf) (w' : World) : Prop where
  nm : ∀ i v, c.nm i = some v → c'.nm i = some v
  lasts : Lasts c.I c'.I w w'

theorem Ext.refl (c : Cf) (w : World) : Ext c w c w := ⟨fun _ _ h => h, Lasts.refl _ _⟩
theorem Ext.trans {c c' c'' : Cf} {w w' w'' : World} (h : Ext c w c' w') (k : Ext c' w' c'' w'') : Ext c w c'' w'' :=
  ⟨fun i v hv => k.nm i v (h.nm i v hv), h.lasts.trans k.lasts⟩

theorem SliceAt.lasts {I I' : Nat → Prop} {w w' : World} (h : Lasts I I' w w') {t : Ty} {l : List t.den} {u : Value} (hx : SliceAt I w (TR I w t) l u) : SliceAt I' w' (TR I' w' t) l u := by
  have h1 : TR I w (.slice t) l [u] := ⟨u, rfl, hx⟩
  obtain ⟨u', e, h2⟩ := TR.lasts h h1
  simp only [List.cons.injEq, and_true] at e
  subst e
  exact h2

mutual
theorem VR.ext {c c' : Cf} {w w' : World} (h : Ext c w c' w') : ∀ (x : AV) (u : Value), VR c w x u → VR c' w' x u
  | .int k n, u, hx => by unfold VR at hx ⊢; exact hx
  | .bool b, u, hx => by unfold VR at hx ⊢; exact hx
  | .str s, u, hx => by unfold VR at hx ⊢; exact hx
  | .list t l, u, hx => by unfold VR at hx ⊢; exact hx.lasts h.lasts
  | .nils, u, hx => by unfold VR at hx ⊢; exact hx
  | .own id, u, hx => by unfold VR at hx ⊢; exact ⟨h.nm _ _ hx.1, hx.2⟩
  | .view id sz lo n, u, hx => by
    unfold VR at hx ⊢
    obtain ⟨A, n0, cap, h1, h2⟩ := hx
    exact ⟨A, n0, cap, h.nm _ _ h1, h2⟩
  | .ptr id off, u, hx => by
    unfold VR at hx ⊢
    obtain ⟨b, h1, h2⟩ := hx
    exact ⟨b, h.nm _ _ h1, h2⟩
  | .rptr id sz i k, u, hx => by
    unfold VR at hx ⊢
    obtain ⟨b, n, cap, h1, h2⟩ := hx
    exact ⟨b, n, cap, h.nm _ _ h1, h2⟩
  | .aptr id n, u, hx => by
    unfold VR at hx ⊢
    obtain ⟨b, h1, h2⟩ := hx
    exact ⟨b, h.nm _ _ h1, h2⟩
  | .eptr cs, u, hx => by
    unfold VR at hx ⊢
    obtain ⟨b, o, us, e, hI, hp, hc⟩ := hx
    refine ⟨b, o, us, e, fun hl => h.lasts.sub _ (hI hl), VRs.ext h cs us hp, ?_⟩
    cases cs with
    | nil =>
      unfold VRs at hp
      subst hp
      intro j u hj
      simp at hj
    | cons x xs => exact hc.lasts h.lasts (hI (by simp))
  | .elist sz n cs, u, hx => by
    unfold VR at hx ⊢
    obtain ⟨b, us, e, hn, hI, hp, hc⟩ := hx
    exact ⟨b, us, e, hn, h.lasts.sub _ hI, VRs.ext h cs us hp, hc.lasts h.lasts hI⟩
  | .nilp, u, hx => by unfold VR at hx ⊢; exact hx
  | .agg cs, u, hx => by
    unfold VR at hx ⊢
    obtain ⟨us, e, hc⟩ := hx
    exact ⟨us, e, VRs.ext h cs us hc⟩
  | .tup cs, u, hx => by
    unfold VR at hx ⊢
    obtain ⟨us, e, hc⟩ := hx
    exact ⟨us, e, VRs.ext h cs us hc⟩
  | .fn f first cap, u, hx => by
    unfold VR at hx ⊢
    obtain ⟨us, vs, e, h1, h2⟩ := hx
    exact ⟨us, vs, e, VRs.ext h first us h1, VRs.ext h cap vs h2⟩
  | .raw v, u, hx => by unfold VR at hx ⊢; exact hx
  | .junk, u, hx => by unfold VR; trivial
  | .yld id, u, hx => by
    unfold VR at hx ⊢
    obtain ⟨b, h1, h2⟩ := hx
    exact ⟨b, h.nm _ _ h1, h2⟩
  | .mp id, u, hx => by
    unfold VR at hx ⊢
    obtain ⟨b, h1, h2⟩ := hx
    exact ⟨b, h.nm _ _ h1, h2⟩
  | .any, u, hx => by unfold VR at hx ⊢; exact hx
theorem VRs.ext {c c' : Cf} {w w' : World} (h : Ext c w c' w') : ∀ (xs : List AV) (us : List Value), VRs c w xs us → VRs c' w' xs us
  | [], us, hx => by unfold VRs at hx ⊢; exact hx
  | x :: xs, us, hx => by
    unfold VRs at hx ⊢
    obtain ⟨u, us', e, h1, h2⟩ := hx
    exact ⟨u, us', e, VR.ext h x u h1, VRs.ext h xs us' h2⟩
end

section
variable {c : Cf} {w : World}
theorem VRs.length {xs : List AV} : ∀ {us : List Value}, VRs c w xs us → us.length = xs.length := by
  induction xs with
  | nil => intro us h; simp only [VRs] at h; simp [h]
  | cons x xs ih =>
    intro us h
    simp only [VRs] at h
    obtain ⟨u, us', rfl, _, h2⟩ := h
    simp [ih h2]
theorem VRs.drop {xs : List AV} : ∀ {us : List Value} (n : Nat), VRs c w xs us → VRs c w (xs.drop n) (us.drop n) := by
  induction xs with
  | nil => intro us n h; simp only [VRs] at h; subst h; simp [VRs]
  | cons x xs ih =>
    intro us n h
    cases n with
    | zero => simpa using h
    | succ n =>
      simp only [VRs] at h
      obtain ⟨u, us', rfl, _, h2⟩ := h
      simpa using ih n h2
theorem VRs.take {xs : List AV} : ∀ {us : List Value} (n : Nat), VRs c w xs us → VRs c w (xs.take n) (us.take n) := by
  induction xs with
  | nil => intro us n h; simp only [VRs] at h; subst h; simp [VRs]
  | cons x xs ih =>
    intro us n h
    cases n with
    | zero => simp [VRs]
    | succ n =>
      simp only [VRs] at h
      obtain ⟨u, us', rfl, h1, h2⟩ := h
      simp only [List.take_succ_cons, VRs]
      exact ⟨u, us'.take n, rfl, h1, ih n h2⟩
theorem VRs.append {xs ys : List AV} {us vs : List Value} (h1 : VRs c w xs us) (h2 : VRs c w ys vs) : VRs c w (xs ++ ys) (us ++ vs) := by
  induction xs generalizing us with
  | nil => simp only [VRs] at h1; subst h1; simpa using h2
  | cons x xs ih =>
    simp only [VRs] at h1
    obtain ⟨u, us', rfl, h3, h4⟩ := h1
    simp only [List.cons_append, VRs]
    exact ⟨u, us' ++ vs, rfl, h3, ih h4⟩
theorem VRs.get {xs : List AV} : ∀ {us : List Value} {i : Nat} {x : AV}, VRs c w xs us → xs[i]? = some x → ∃ u, us[i]? = some u ∧ VR c w x u := by
  induction xs with
  | nil => intro us i x h hx; simp at hx
  | cons y xs ih =>
    intro us i x h hx
    simp only [VRs] at h
    obtain ⟨u, us', rfl, h1, h2⟩ := h
    cases i with
    | zero => simp at hx; subst hx; exact ⟨u, rfl, h1⟩
    | succ i => simpa using ih h2 (by simpa using hx)
end

def cellsOf : (t : Ty) → t.den → List AV
  | .byte, x => [.int .u8 (x.toNat : Int)]
  | .int k, x => [.int k x]
  | .bool, x => [.bool x]
  | .str, x => [.str x]
  | .slice t, l => [.list t l]
  | .pair a b, x => cellsOf a x.1 ++ cellsOf b x.2
  | .unit, _ => []

theorem fits_byte (x : UInt8) : fits .u8 (x.toNat : Int) = true := by
  have := x.toNat_lt
  simp [fits]; omega

theorem cellsOf_ok {c : Cf} {w : World} : ∀ {t : Ty} {x : t.den} {us : List Value}, TR c.I w t x us → VRs c w (cellsOf t x) us
  | .byte, x, us, h => by simp only [TR] at h; subst h; simp [cellsOf, VRs, VR, fits_byte]
  | .int k, x, us, h => by simp only [TR] at h; rw [h.1]; simp [cellsOf, VRs, VR, h.2]
  | .bool, x, us, h => by simp only [TR] at h; subst h; simp [cellsOf, VRs, VR]
  | .str, x, us, h => by simp only [TR] at h; rw [h.1]; simp [cellsOf, VRs, VR, h.2]
  | .slice t, x, us, h => by simp only [TR] at h; obtain ⟨u, rfl, h1⟩ := h; simpa [cellsOf, VRs, VR] using h1
  | .pair a b, x, us, h => by
    simp only [TR] at h
    obtain ⟨u, v, rfl, h1, h2⟩ := h
    exact (cellsOf_ok h1).append (cellsOf_ok h2)
  | .unit, x, us, h => by simp only [TR] at h; subst h; simp [cellsOf, VRs]

inductive Ob where
  | box (t : TypeId) (cs : List AV)
  | row (e : TypeId) (t : Ty) (l : List t.den)
  | rbox (t : TypeId) (cs : List AV)
  | rrow (e : TypeId) (t : Ty) (l : List t.den)
  | frow (t : Ty) (l : List t.den)
  | dead

def look {α : Type} : List (Nat × α) → Nat → Option α
  | [], _ => none
  | (k, v) :: r, i => bif Nat.beq k i then some v else look r i
def put {α : Type} : List (Nat × α) → Nat → α → List (Nat × α)
  | [], i, x => [(i, x)]
  | (k, v) :: r, i, x => bif Nat.beq k i then (k, x) :: r else (k, v) :: put r i x

theorem beq_no {i j : Nat} (h : i ≠ j) : Nat.beq i j = false := by
  cases hb : Nat.beq i j with
  | false => rfl
  | true => exact absurd (Nat.eq_of_beq_eq_true hb) h
theorem look_put {α : Type} (l : List (Nat × α)) (i j : Nat) (x : α) : look (put l i x) j = if i = j then some x else look l j := by
  induction l with
  | nil =>
    by_cases h : i = j
    · subst h; simp [put, look]
    · have := beq_no h
      simp [put, look, h, this]
  | cons p r ih =>
    obtain ⟨k, v⟩ := p
    unfold put
    by_cases hk : k = i
    · subst hk
      by_cases h : k = j
      · subst h; simp [look]
      · have := beq_no h
        simp [look, h, this]
    · have h1 := beq_no hk
      simp only [h1, cond_false, look]
      by_cases h : k = j
      · subst h
        have : ¬ i = k := fun e => hk e.symm
        simp [this]
      · have h2 := beq_no h
        simp only [h2, cond_false, ih]
theorem look_cons {α : Type} (k : Nat) (v : α) (r : List (Nat × α)) (i : Nat) : look ((k, v) :: r) i = if k = i then some v else look r i := by
  by_cases h : k = i
  · subst h; simp [look]
  · simp [look, beq_no h, h]

abbrev Env := List (Nat × AV)
abbrev Obs := List (Nat × Ob)

def isRo : Ob → Bool | .rbox _ _ | .rrow _ _ _ => true | _ => false

def blockOf : Value → Option Nat
  | .pointer (some a) => some a.block
  | .slice (some a) _ cap => if cap = 0 then none else some a.block
  | .map (some b) => some b
  | _ => none

def isMapTy (e : TypeId) : Bool := Nat.ble 2000000 e
def mapAgg (e : TypeId) : Bool := Nat.ble 3000000 e
def isAggV : Value → Bool | .agg _ => true | _ => false

structure EntsAt (e : TypeId) (sz : Nat) (es : Array MapEntry) (clock : Nat) (us : List Value) : Prop where
  cells : us = es.toList.flatMap fun x => x.key :: x.val.cells.toList
  len : ∀ x ∈ es.toList, x.val.cells.size + 1 = sz
  agg : ∀ x ∈ es.toList, isAggV x.val = mapAgg e
  stamped : MapKept.Stamped es clock

def RowAt (w : World) (e : TypeId) (sz : Nat) (v : Value) (n : Nat) (us : List Value) : Prop :=
  us.length = n * sz ∧ ((n = 0 ∧ ∃ A, v = .slice A 0 0) ∨
    (∃ b cap cur, v = .slice (some ⟨b, 0, none⟩) n cap ∧ 0 < cap ∧ n ≤ cap ∧ cap ≤ maxLen ∧ w.heap[b]? = some (.cells cur e (0, 0)) ∧ cur.size = cap * sz ∧ cur.toList.take (n * sz) = us) ∨
    ∃ b es clock, v = .map (some b) ∧ w.heap[b]? = some (.map es clock) ∧ es.size = n ∧ EntsAt e sz es clock us ∧ isMapTy e = true)

def Own (c : Cf) (id : Nat) : Ob → Nat → Prop
  | .box _ _, b | .row _ _ _, b | .rbox _ _, b | .rrow _ _ _, b => ∃ v, c.nm id = some v ∧ blockOf v = some b
  | _, _ => False

class Sites where
  obj : Nat → List Value → Obj
  ne : ∀ k us ds, obj k us ≠ .deferred ds

def isBig (t : TypeId) : Bool := Nat.ble 1000000 t
def boxObj [Sites] (t : TypeId) (us : List Value) : Obj := bif isBig t then Sites.obj (t - 1000000) us else .cells us.toArray t (0, 0)


theorem boxObj_small [Sites] {t : TypeId} (h : isBig t = false) (us : List Value) : boxObj t us = .cells us.toArray t (0, 0) := by simp [boxObj, h]
theorem boxObj_ne [Sites] (t : TypeId) (us : List Value) (ds : Option (List Deferred)) : boxObj t us ≠ .deferred ds := by
  unfold boxObj
  cases isBig t with
  | true => exact Sites.ne _ _ _
  | false => exact fun h => by cases h

def ObR [Sites] (c : Cf) (w : World) (id : Nat) : Ob → Prop
  | .box t cs | .rbox t cs => ∃ b us, c.nm id = some (.pointer (some ⟨b, 0, none⟩)) ∧ w.heap[b]? = some (boxObj t us) ∧ VRs c w cs us
  | .row e t l | .rrow e t l => ∃ v us, c.nm id = some v ∧ RowAt w e t.size v l.length us ∧ Cat (TR c.I w t) l us
  | .frow t l => ∃ v, c.nm id = some v ∧ SliceAt c.I w (TR c.I w t) l v
  | .dead => True

structure Bs where
  w : World
  I : Nat → Prop
  M : Nat → Prop
  R : Nat → Prop
  rd : Option Nat
  fl : Nat

structure Rel [Sites] (B : Bs) (c : Cf) (s : Obs) (w : World) : Prop where
  ob : ∀ id o, look s id = some o → ObR c w id o
  dom : ∀ id, look s id = none → c.nm id = none
  sep : ∀ i j oi oj b, look s i = some oi → look s j = some oj → Own c i oi b → Own c j oj b → i = j
  imm : ∀ id o b, look s id = some o → Own c id o b → ¬ c.I b
  lo : ∀ b, c.I b → b < w.heap.size
  keep : ∀ b, b < B.w.heap.size → ¬ B.M b → w.heap[b]? = B.w.heap[b]?
  mine : ∀ id o b, look s id = some o → isRo o = false → Own c id o b → B.M b ∨ B.w.heap.size ≤ b
  ro : ∀ id o b, look s id = some o → Own c id o b → B.R b ∨ B.M b ∨ B.w.heap.size ≤ b
  sub : ∀ b, B.I b → c.I b
  new : ∀ b, c.I b → B.I b ∨ B.M b ∨ B.w.heap.size ≤ b
  os : w.os = B.w.os
  tape : w.tape = B.w.tape
  output : w.output = B.w.output
  size : B.w.heap.size ≤ w.heap.size

theorem RowAt.lt {w : World} {e : TypeId} {sz n : Nat} {v : Value} {us : List Value} (h : RowAt w e sz v n us) {b : Nat} (hb : blockOf v = some b) : b < w.heap.size := by
  rcases h.2 with ⟨_, A, rfl⟩ | ⟨g, cap, cur, rfl, h0, _, _, hg, _⟩ | ⟨g, es, k, rfl, hg, _⟩
  · cases A <;> simp [blockOf] at hb
  · simp [blockOf] at hb
    rw [← hb.2]
    exact (Array.getElem?_eq_some_iff.1 hg).1
  · simp [blockOf] at hb
    rw [← hb]
    exact (Array.getElem?_eq_some_iff.1 hg).1

def rd : Ob → Ob
  | .rbox t cs => .box t cs
  | .rrow e t l => .row e t l
  | o => o
theorem rd_obr [Sites] {c : Cf} {w : World} {id : Nat} {o : Ob} : ObR c w id (rd o) ↔ ObR c w id o := by cases o <;> exact Iff.rfl
theorem rd_own {c : Cf} {id b : Nat} {o : Ob} : Own c id (rd o) b ↔ Own c id o b := by cases o <;> exact Iff.rfl
theorem rd_cases (o : Ob) : (∃ t cs, rd o = .box t cs) ∨ (∃ e t l, rd o = .row e t l) ∨ (∃ t l, rd o = .frow t l) ∨ rd o = .dead := by
  cases o
  · exact .inl ⟨_, _, rfl⟩
  · exact .inr (.inl ⟨_, _, _, rfl⟩)
  · exact .inl ⟨_, _, rfl⟩
  · exact .inr (.inl ⟨_, _, _, rfl⟩)
  · exact .inr (.inr (.inl ⟨_, _, rfl⟩))
  · exact .inr (.inr (.inr rfl))

theorem ObR.lt [Sites] {c : Cf} {w : World} {id : Nat} {o : Ob} (h : ObR c w id o) {b : Nat} (ho : Own c id o b) : b < w.heap.size := by
  rw [← rd_obr] at h
  rw [← rd_own] at ho
  rcases rd_cases o with ⟨t, cs, e⟩ | ⟨e', t, l, e⟩ | ⟨t, l, e⟩ | e <;> rw [e] at h ho
  · obtain ⟨b', us, h1, h2, _⟩ := h
    obtain ⟨v, h3, h4⟩ := ho
    rw [h1] at h3
    simp only [Option.some.injEq] at h3
    subst h3
    simp only [blockOf, Option.some.injEq] at h4
    subst h4
    exact (Array.getElem?_eq_some_iff.1 h2).1
  · obtain ⟨v, us, h1, h2, _⟩ := h
    obtain ⟨v', h3, h4⟩ := ho
    rw [h1] at h3
    simp only [Option.some.injEq] at h3
    subst h3
    exact h2.lt h4
  · exact ho.elim
  · exact ho.elim

theorem RowAt.keep {w w' : World} {e : TypeId} {sz n : Nat} {v : Value} {us : List Value} (h : RowAt w e sz v n us) (hw : ∀ b, blockOf v = some b → w'.heap[b]? = w.heap[b]?) : RowAt w' e sz v n us := by
  refine ⟨h.1, ?_⟩
  rcases h.2 with h2 | ⟨g, cap, cur, hv, h0, h1, h2, hg, r⟩ | ⟨g, es, k, hv, hg, r⟩
  · exact .inl h2
  · exact .inr (.inl ⟨g, cap, cur, hv, h0, h1, h2, by rw [hw g (by rw [hv]; simp [blockOf]; omega)]; exact hg, r⟩)
  · exact .inr (.inr ⟨g, es, k, hv, by rw [hw g (by rw [hv]; simp [blockOf])]; exact hg, r⟩)

theorem ObR.ext [Sites] {c c' : Cf} {w w' : World} (h : Ext c w c' w') {id : Nat} {o : Ob} (ho : ObR c w id o) (hw : ∀ b, Own c id o b → w'.heap[b]? = w.heap[b]?) : ObR c' w' id o := by
  rw [← rd_obr] at ho ⊢
  have hw : ∀ b, Own c id (rd o) b → w'.heap[b]? = w.heap[b]? := fun b hb => hw b (rd_own.1 hb)
  rcases rd_cases o with ⟨t, cs, e⟩ | ⟨e', t, l, e⟩ | ⟨t, l, e⟩ | e <;> rw [e] at ho hw ⊢
  · obtain ⟨b, us, h1, h2, h3⟩ := ho
    exact ⟨b, us, h.nm _ _ h1, by rw [hw b ⟨_, h1, rfl⟩]; exact h2, VRs.ext h _ _ h3⟩
  · obtain ⟨v, us, h1, h2, h3⟩ := ho
    exact ⟨v, us, h.nm _ _ h1, h2.keep fun g hg => hw g ⟨v, h1, hg⟩, Cat.lasts h.lasts h3⟩
  · obtain ⟨v, h1, h2⟩ := ho
    exact ⟨v, h.nm _ _ h1, h2.lasts h.lasts⟩
  · trivial

def Free (B : Bs) (c : Cf) (s : Obs) (id b : Nat) : Prop :=
  (∀ j oj, j ≠ id → look s j = some oj → ¬ Own c j oj b) ∧ ¬ c.I b ∧ (B.M b ∨ B.w.heap.size ≤ b)

theorem Rel.free [Sites] {B : Bs} {c : Cf} {s : Obs} {w : World} (h : Rel B c s w) {id : Nat} {o : Ob} (ho : look s id = some o) {b : Nat} (hb : Own c id o b) (hr : isRo o = false := by rfl) : Free B c s id b :=
  ⟨fun j oj hj hl hc => hj (h.sep j id oj o b hl ho hc hb), h.imm id o b ho hb, h.mine id o b ho hr hb⟩

def here (B : Bs) (c : Cf) (s : Obs) (w : World) : Bs :=
  ⟨w, c.I, fun b => ∃ i o, look s i = some o ∧ isRo o = false ∧ Own c i o b, fun b => ∃ i o, look s i = some o ∧ isRo o = true ∧ Own c i o b, B.rd, B.fl⟩

theorem Rel.rebase [Sites] {B : Bs} {c : Cf} {s : Obs} {w : World} (h : Rel B c s w) : Rel (here B c s w) c s w where
  ob := h.ob
  dom := h.dom
  sep := h.sep
  imm := h.imm
  lo := h.lo
  keep b _ _ := rfl
  mine i o b hl hr ho := .inl ⟨i, o, hl, hr, ho⟩
  ro i o b hl ho := by
    cases hr : isRo o with
    | true => exact .inl ⟨i, o, hl, hr, ho⟩
    | false => exact .inr (.inl ⟨i, o, hl, hr, ho⟩)
  sub b hb := hb
  new b hb := .inl hb
  os := rfl
  tape := rfl
  output := rfl
  size := Nat.le_refl _

theorem Rel.trans [Sites] {B : Bs} {c c' : Cf} {s s' : Obs} {w w' : World} (h : Rel B c s w) (k : Rel (here B c s w) c' s' w') : Rel B c' s' w' where
  ob := k.ob
  dom := k.dom
  sep := k.sep
  imm := k.imm
  lo := k.lo
  keep b hb hm := (k.keep b (Nat.lt_of_lt_of_le hb h.size) fun ⟨i, o, h1, h2, h3⟩ => by
    rcases h.mine i o b h1 h2 h3 with h4 | h4
    · exact hm h4
    · omega).trans (h.keep b hb hm)
  mine i o b hl hr ho := by
    rcases k.mine i o b hl hr ho with ⟨j, oj, h1, h2, h3⟩ | h1
    · exact h.mine j oj b h1 h2 h3
    · exact .inr (Nat.le_trans h.size h1)
  ro i o b hl ho := by
    rcases k.ro i o b hl ho with ⟨j, oj, h1, h2, h3⟩ | ⟨j, oj, h1, h2, h3⟩ | h1
    · exact h.ro j oj b h1 h3
    · exact h.ro j oj b h1 h3
    · exact .inr (.inr (Nat.le_trans h.size h1))
  sub b hb := k.sub b (h.sub b hb)
  new b hb := by
    rcases k.new b hb with h1 | ⟨j, oj, h1, h2, h3⟩ | h1
    · exact h.new b h1
    · exact .inr (h.mine j oj b h1 h2 h3)
    · exact .inr (.inr (Nat.le_trans h.size h1))
  os := k.os.trans h.os
  tape := k.tape.trans h.tape
  output := k.output.trans h.output
  size := Nat.le_trans h.size k.size

structure Marks (fl : Nat) (c : Cf) (w : World) (ds : List Deferred) : Prop where
  all : ∀ d ∈ ds, ∃ m, d = { target := .collected m, args := #[] } ∧ w.heap[m]? = some (.deferred (some [])) ∧ fl ≤ m ∧ ¬ c.I m
  nodup : (ds.map (·.target)).Pairwise (fun x y => ∀ m, x = .collected m → y ≠ .collected m)

theorem Marks.nil {fl : Nat} {c : Cf} {w : World} : Marks fl c w [] := ⟨fun d h => (by cases h), .nil⟩

theorem ObR.not_deferred [Sites] {c : Cf} {w : World} {id : Nat} {o : Ob} (h : ObR c w id o) {b : Nat} (ho : Own c id o b) (ds : Option (List Deferred)) : w.heap[b]? ≠ some (.deferred ds) := by
  rw [← rd_obr] at h
  rw [← rd_own] at ho
  intro e0
  rcases rd_cases o with ⟨t, cs, e⟩ | ⟨e', t, l, e⟩ | ⟨t, l, e⟩ | e <;> rw [e] at h ho
  · obtain ⟨b', us, h1, h2, _⟩ := h
    obtain ⟨v, h3, h4⟩ := ho
    rw [h1] at h3
    simp only [Option.some.injEq] at h3
    subst h3
    simp only [blockOf, Option.some.injEq] at h4
    subst h4
    rw [e0] at h2
    exact boxObj_ne t us ds (Option.some.inj h2).symm
  · obtain ⟨v, us, h1, h2, _⟩ := h
    obtain ⟨v', h3, h4⟩ := ho
    rw [h1] at h3
    simp only [Option.some.injEq] at h3
    subst h3
    rcases h2.2 with ⟨_, A, rfl⟩ | ⟨g, cap, cur, rfl, h0, _, _, hg, _⟩ | ⟨g, es, k, rfl, hg, _⟩
    · cases A <;> simp [blockOf] at h4
    · simp [blockOf] at h4
      rw [h4.2, e0] at hg
      cases hg
    · simp [blockOf] at h4
      rw [h4, e0] at hg
      cases hg
  · exact ho.elim
  · exact ho.elim

theorem Marks.step [Sites] {B : Bs} {c c' : Cf} {s s' : Obs} {w w' : World} {ds : List Deferred} {fl : Nat} (hm : Marks fl c w ds) (h : Rel B c s w) (k : Rel (here B c s w) c' s' w') : Marks fl c' w' ds := by
  refine ⟨fun d hd => ?_, hm.nodup⟩
  obtain ⟨m, h1, h2, h3, h4⟩ := hm.all d hd
  have hlt : m < w.heap.size := (Array.getElem?_eq_some_iff.1 h2).1
  have hno : ¬ (here B c s w).M m := fun ⟨i, o, g1, _, g3⟩ => (h.ob i o g1).not_deferred g3 _ h2
  refine ⟨m, h1, (k.keep m hlt hno).trans h2, h3, fun hI => ?_⟩
  rcases k.new m hI with g | g | g
  · exact h4 g
  · exact hno g
  · exact absurd hlt (Nat.not_lt.2 g)

theorem Rel.upd [Sites] {B : Bs} {c c' : Cf} {s : Obs} {w w' : World} (h : Rel B c s w) (id : Nat) (o' : Ob) (W : Nat → Prop)
    (hnm : ∀ i v, c.nm i = some v → c'.nm i = some v) (hother : ∀ i, i ≠ id → c'.nm i = c.nm i) (hI : ∀ b, c.I b → c'.I b)
    (hI' : ∀ b, c'.I b → c.I b ∨ ((W b ∨ w.heap.size ≤ b) ∧ ¬ Own c' id o' b ∧ b < w'.heap.size))
    (hheap : ∀ b, b < w.heap.size → ¬ W b → w'.heap[b]? = w.heap[b]?) (hW : ∀ b, W b → Free B c s id b)
    (hob : Ext c w c' w' → ObR c' w' id o') (hown : ∀ b, Own c' id o' b → W b ∨ w.heap.size ≤ b)
    (hos : w'.os = w.os) (htape : w'.tape = w.tape) (hout : w'.output = w.output) (hsize : w.heap.size ≤ w'.heap.size) :
    Rel B c' (put s id o') w' ∧ Ext c w c' w' := by
  have hE : Ext c w c' w' := ⟨hnm, hI, fun b hb => hheap b (h.lo b hb) fun hw => (hW b hw).2.1 hb⟩
  have hself := hob hE
  have hlk : ∀ j oj, look (put s id o') j = some oj → (j = id ∧ oj = o') ∨ (j ≠ id ∧ look s j = some oj) := by
    intro j oj hj
    rw [look_put] at hj
    split at hj
    · rename_i e; simp only [Option.some.injEq] at hj; exact .inl ⟨e.symm, hj.symm⟩
    · rename_i e; exact .inr ⟨fun e' => e e'.symm, hj⟩
  have hoo : ∀ j oj b, j ≠ id → Own c' j oj b → Own c j oj b := by
    intro j oj b hj ho
    rw [← rd_own] at ho ⊢
    rcases rd_cases oj with ⟨t, cs, e⟩ | ⟨e', t, l, e⟩ | ⟨t, l, e⟩ | e <;> rw [e] at ho ⊢
    · obtain ⟨v, h1, h2⟩ := ho; rw [hother j hj] at h1; exact ⟨v, h1, h2⟩
    · obtain ⟨v, h1, h2⟩ := ho; rw [hother j hj] at h1; exact ⟨v, h1, h2⟩
    · exact ho
    · exact ho
  have hfr : ∀ b, W b ∨ w.heap.size ≤ b → ∀ j oj, j ≠ id → look s j = some oj → ¬ Own c j oj b := by
    intro b hb j oj hj hl ho
    rcases hb with hb | hb
    · exact (hW b hb).1 j oj hj hl ho
    · have := (h.ob j oj hl).lt ho; omega
  refine ⟨⟨?_, ?_, ?_, ?_, ?_, ?_, ?_, ?_, fun b hb => hI b (h.sub b hb), ?_, hos.trans h.os, htape.trans h.tape, hout.trans h.output, Nat.le_trans h.size hsize⟩, hE⟩
  · intro j oj hj
    rcases hlk j oj hj with ⟨rfl, rfl⟩ | ⟨hne, hl⟩
    · exact hself
    · exact (h.ob j oj hl).ext hE fun b ho => hheap b ((h.ob j oj hl).lt ho) fun hw => (hW b hw).1 j oj hne hl ho
  · intro j hj
    rw [look_put] at hj
    split at hj
    · cases hj
    · rename_i e
      rw [hother j (fun e' => e e'.symm)]
      exact h.dom j hj
  · intro i j oi oj b hi hj hbi hbj
    rcases hlk i oi hi with ⟨rfl, rfl⟩ | ⟨hni, hli⟩ <;> rcases hlk j oj hj with ⟨rfl, rfl⟩ | ⟨hnj, hlj⟩
    · rfl
    · exact (hfr b (hown b hbi) j oj hnj hlj (hoo j oj b hnj hbj)).elim
    · exact (hfr b (hown b hbj) i oi hni hli (hoo i oi b hni hbi)).elim
    · exact h.sep i j oi oj b hli hlj (hoo i oi b hni hbi) (hoo j oj b hnj hbj)
  · intro j oj b hj hb hIb
    rcases hlk j oj hj with ⟨rfl, rfl⟩ | ⟨hnj, hlj⟩
    · rcases hI' b hIb with hi | ⟨_, hi, _⟩
      · rcases hown b hb with hw | hw
        · exact (hW b hw).2.1 hi
        · have := h.lo b hi; omega
      · exact hi hb
    · have ho := hoo j oj b hnj hb
      rcases hI' b hIb with hi | ⟨hi, _, _⟩
      · exact h.imm j oj b hlj ho hi
      · exact hfr b hi j oj hnj hlj ho
  · intro b hb
    rcases hI' b hb with hi | ⟨_, _, hi⟩
    · exact Nat.lt_of_lt_of_le (h.lo b hi) hsize
    · exact hi
  · intro b hb hm
    refine (hheap b (Nat.lt_of_lt_of_le hb h.size) fun hw => ?_).trans (h.keep b hb hm)
    rcases (hW b hw).2.2 with h1 | h1
    · exact hm h1
    · omega
  · intro j oj b hj hr hb
    rcases hlk j oj hj with ⟨rfl, rfl⟩ | ⟨hnj, hlj⟩
    · rcases hown b hb with hw | hw
      · exact (hW b hw).2.2
      · exact .inr (Nat.le_trans h.size hw)
    · exact h.mine j oj b hlj hr (hoo j oj b hnj hb)
  · intro j oj b hj hb
    rcases hlk j oj hj with ⟨rfl, rfl⟩ | ⟨hnj, hlj⟩
    · rcases hown b hb with hw | hw
      · exact .inr (hW b hw).2.2
      · exact .inr (.inr (Nat.le_trans h.size hw))
    · exact h.ro j oj b hlj (hoo j oj b hnj hb)
  · intro b hb
    rcases hI' b hb with hi | ⟨hi | hi, _, _⟩
    · exact h.new b hi
    · rcases (hW b hi).2.2 with h1 | h1
      · exact .inr (.inl h1)
      · exact .inr (.inr h1)
    · exact .inr (.inr (Nat.le_trans h.size hi))

structure Tmps (nt : Nat) (fr : Nat → Option Value) (c : Cf) (w : World) (env : Env) (a : Act) : Prop where
  size : a.tmps.size = nt
  env : ∀ k x, look env k = some x → VR c w x (a.tmps.getD k undef)
  frame : ∀ k v, fr k = some v → a.tmps.getD k undef = v

theorem Tmps.ext {nt : Nat} {fr : Nat → Option Value} {c c' : Cf} {w w' : World} {env : Env} {a : Act} (h : Tmps nt fr c w env a) (he : Ext c w c' w') : Tmps nt fr c' w' env a :=
  ⟨h.size, fun k x hx => VR.ext he _ _ (h.env k x hx), h.frame⟩

def setT (env : Env) (d : Option Tmp) (v : AV) : Env :=
  match d with
  | none => env
  | some t => put env t v

def mayD (nt : Nat) (fr : Nat → Option Value) (d : Option Tmp) : Prop := ∀ t, d = some t → t < nt ∧ fr t = none

theorem Tmps.put {nt : Nat} {fr : Nat → Option Value} {c : Cf} {w : World} {env : Env} {a : Act} (h : Tmps nt fr c w env a) {d : Option Tmp} {v : AV} {u : Value} (hd : mayD nt fr d) (hv : VR c w v u) :
    Tmps nt fr c w (setT env d v) (a.put d u) := by
  cases d with
  | none => exact h
  | some t =>
    obtain ⟨hlt, hfr⟩ := hd t rfl
    have hlt' : t < a.tmps.size := by rw [h.size]; exact hlt
    refine ⟨by simp [Act.put, h.size], fun k x hx => ?_, fun k v hk => ?_⟩
    · simp only [setT, look_put] at hx
      split at hx
      · rename_i e
        subst e
        simp only [Option.some.injEq] at hx
        subst hx
        simpa [Act.put, hlt'] using hv
      · rename_i hne
        have := h.env k x hx
        simpa [Act.put, Array.getElem?_setIfInBounds_ne hne] using this
    · have hne : t ≠ k := fun e => by subst e; rw [hfr] at hk; cases hk
      have := h.frame k v hk
      simpa [Act.put, Array.getElem?_setIfInBounds_ne hne] using this

def constAV : Value → AV
  | .int k n => bif fits k n then .int k n else .junk
  | .bool b => .bool b
  | .string s => bif Nat.ble s.data.toList.length 1000000 then .str s.data.toList else .junk
  | .slice none 0 0 => .nils
  | .pointer none => .nilp
  | v => .raw v

def evO (env : Env) : Operand → Option AV
  | .tmp t => look env t
  | .const v => some (constAV v)
  | .func f => some (.fn (.func f) [] [])
  | .global _ => none

theorem constAV_ok {c : Cf} {w : World} (v : Value) : VR c w (constAV v) v := by
  unfold constAV
  split
  · rename_i k n
    cases hf : fits k n <;> simp [VR, hf]
  · simp [VR]
  · rename_i s
    cases hb : Nat.ble s.data.toList.length 1000000 with
    | false => simp [VR]
    | true =>
      have := Nat.le_of_ble_eq_true hb
      simp only [cond_true, VR]
      exact ⟨trivial, by unfold maxLen; omega⟩
  · simp [VR]
  · simp [VR]
  · simp [VR]

def rdk (s : Obs) (i : Nat) : Option Ob := match look s i with | some o => some (rd o) | none => none

theorem evO_ok [Sites] {nt : Nat} {fr : Nat → Option Value} {c : Cf} {w : World} {env : Env} {a : Act} (h : Tmps nt fr c w env a) {o : Operand} {x : AV} (hx : evO env o = some x) : VR c w x (a.eval o) := by
  cases o with
  | tmp t => exact h.env t x hx
  | const v =>
    simp only [evO, Option.some.injEq] at hx
    subst hx
    simpa [Act.eval] using constAV_ok (c := c) (w := w) v
  | func f =>
    simp only [evO, Option.some.injEq] at hx
    subst hx
    simp only [VR, Act.eval]
    exact ⟨[], [], rfl, by simp [VRs], by simp [VRs]⟩
  | global g => simp [evO] at hx
end Go.Hay
/- Operations that only read: what they come to. -/
set_option linter.unusedVariables false
set_option linter.unusedSimpArgs false
namespace Go.Hay
open Go.RowKit

inductive TK where
  | none | int (k : IntKind) | bool | string | ptr (e : TypeId) | slice (e : TypeId) | struct (fs : List (TypeId × Nat)) | array (n : Nat) (e : TypeId) | func | map (k e : TypeId) (agg : Bool) | other

structure TD where
  k : TK
  size : Nat
  bytes : Nat
  zero : List Value      -- the cells of the zero value
  ty : Option Ty         -- its values as plain data
  eq : Bool              -- a struct that == compares field by field

abbrev TEnv := TypeId → TD

def TD.isAgg (d : TD) : Bool := match d.k with | .struct _ | .array _ _ => true | _ => false

def fieldsOf : TypeDesc → Option (List (TypeId × Nat))
  | .struct fs => some (fs.toList.map fun f => (f.type, f.offset))
  | _ => .none
def aggDesc : TypeDesc → Bool
  | .struct _ | .array _ _ => true
  | _ => false

def funcDesc : TypeDesc → Bool
  | .func _ _ _ => true
  | _ => false
def TD.kindOk (P : Program) (t : TypeId) (d : TD) : Prop :=
  match d.k with
  | .none => True
  | .int k => P.underlying t = some (.int k)
  | .bool => P.underlying t = some .bool
  | .string => P.underlying t = some .string
  | .ptr e => P.underlying t = some (.pointer e)
  | .slice e => P.underlying t = some (.slice e)
  | .struct fs => (P.underlying t).bind fieldsOf = some fs
  | .array n e => P.underlying t = some (.array n e)
  | .func => (P.underlying t).map funcDesc = some true
  | .map k e agg => P.underlying t = some (.map k e) ∧ ((P.info? e).bind (·.zero)).map isAggV = some agg
  | .other => (P.underlying t).map aggDesc = some false
def TD.infoOk (P : Program) (t : TypeId) (d : TD) : Prop :=
  (P.info? t).map (fun i => (i.size, i.bytes, i.zero.map fun z => z.cells.toList)) = some (d.size, d.bytes, some d.zero)
def TD.eqOk (P : Program) (t : TypeId) (d : TD) : Prop :=
  d.eq = true → P.stoodInHeld t = false ∧ P.eqGuardType P.depth t = false ∧ (P.fieldsOf t).toList.all (fun f => f.name != "_") = true
def TEnv.Ok (P : Program) (U : TEnv) : Prop := ∀ t, (U t).k ≠ .none → TD.kindOk P t (U t) ∧ TD.infoOk P t (U t) ∧ TD.eqOk P t (U t)

def ikEq (a b : IntKind) : Bool := Nat.beq a.ctorIdx b.ctorIdx

def isZero : Ty → List Value → Option (List Value)
  | .byte, .int .u8 0 :: r => some r
  | .int k, .int k' 0 :: r => bif ikEq k k' then some r else none
  | .bool, .bool false :: r => some r
  | .str, .string s :: r => bif Nat.beq s.data.toList.length 0 then some r else none
  | .slice _, .slice none 0 0 :: r => some r
  | .pair a b, r => match isZero a r with
    | some r' => isZero b r'
    | none => none
  | .unit, r => some r
  | _, _ => none
def areZero (t : Ty) : Nat → List Value → Bool
  | 0, [] => true
  | 0, _ => false
  | n + 1, r => match isZero t r with
    | some r' => areZero t n r'
    | none => false

def Ty.isAgg : Ty → Bool | .pair _ _ | .unit => true | _ => false
def valOf (t : Ty) (x : t.den) : AV := match t.isAgg with | true => .agg (cellsOf t x) | false => match cellsOf t x with | [v] => v | _ => .junk
def aggOk (t : Ty) (v : AV) : Bool := match v with | .agg _ => t.isAgg | _ => !t.isAgg

def mapHas {β : Type} (l : List (List UInt8 × β)) (k : List UInt8) : Bool := l.any fun p => decide (p.1 = k)
def mapGet {β : Type} (l : List (List UInt8 × β)) (k : List UInt8) (d : β) : β := match l.find? fun p => decide (p.1 = k) with | some p => p.2 | none => d
def mapPut {β : Type} : List (List UInt8 × β) → List UInt8 → β → List (List UInt8 × β)
  | [], k, v => [(k, v)]
  | p :: r, k, v => bif decide (p.1 = k) then (k, v) :: r else p :: mapPut r k v
def mapDel {β : Type} : List (List UInt8 × β) → List UInt8 → List (List UInt8 × β)
  | [], _ => []
  | p :: r, k => bif decide (p.1 = k) then r else p :: mapDel r k

def TD.real (d : TD) : Bool := match d.k with | .none => false | _ => Nat.blt 0 d.size && Nat.beq d.zero.length d.size

def Ty.dflt : (t : Ty) → t.den
  | .byte => 0
  | .int _ => 0
  | .bool => false
  | .str => []
  | .slice _ => []
  | .pair a b => (a.dflt, b.dflt)
  | .unit => ()

def castL (t t' : Ty) (l : List t'.den) : Option (List t.den) := if h : t' = t then some (h ▸ l) else none

abbrev Lk := Nat → Option Ob

def listOf (lk : Lk) (t : Ty) (x : AV) : Option (List t.den) :=
  match x with
  | .list t' l => castL t t' l
  | .nils => some []
  | .own id => match lk id with
    | some (.row _ t' l) => castL t t' l
    | some (.frow t' l) => castL t t' l
    | _ => none
  | .view id sz lo n => match lk id with
    | some (.row _ t' l) => bif Nat.beq sz t'.size then castL t t' ((l.drop lo).take n) else none
    | some (.frow t' l) => bif Nat.beq sz t'.size then castL t t' ((l.drop lo).take n) else none
    | _ => none
  | _ => none

def lenOf (lk : Lk) (x : AV) : Option Nat :=
  match x with
  | .list t' l => some l.length
  | .nils => some 0
  | .own id => match lk id with
    | some (.row _ t' l) => some l.length
    | some (.frow t' l) => some l.length
    | _ => none
  | .view id sz lo n => some n
  | .elist sz n cs => some n
  | _ => none

def TD.pack (d : TD) (cs : List AV) : Option AV :=
  match d.isAgg with
  | true => some (.agg cs)
  | false => match cs with | [x] => some x | _ => .none

abbrev Val := Option (AV × Bool)
def ok (v : AV) : Val := some (v, true)

def vMove (x : Option AV) : Val := match x with | some a => ok a | .none => .none

def vPick (c a b : Option AV) : Val :=
  match c with
  | some (.bool t) =>
    match a, b with
    | some (.bool x), some (.bool y) => ok (.bool (bif t then x else y))
    | _, _ => match t with | true => vMove a | false => vMove b
  | _ => .none

def vbits (op : BinOp) (k : IntKind) (a b : Int) : Option Int :=
  match op with
  | .and => some (k.wrap ((BitVec.ofInt k.bits a &&& BitVec.ofInt k.bits b).toNat : Int))
  | .or => some (k.wrap ((BitVec.ofInt k.bits a ||| BitVec.ofInt k.bits b).toNat : Int))
  | .xor => some (k.wrap ((BitVec.ofInt k.bits a ^^^ BitVec.ofInt k.bits b).toNat : Int))
  | .andNot => some (k.wrap ((BitVec.ofInt k.bits a &&& ~~~BitVec.ofInt k.bits b).toNat : Int))
  | _ => none


def vInt (op : BinOp) (k : IntKind) (a : Int) (k' : IntKind) (b : Int) : Val :=
  match op with
  | .shl => some (.int k (k.wrap (a * 2 ^ (min b.toNat k.bits))), decide (0 ≤ b))
  | .shr => some (.int k (a.fdiv (2 ^ (min b.toNat k.bits))), decide (0 ≤ b))
  | _ => bif ikEq k k' then
    match op with
    | .add => ok (.int k (k.wrap (a + b)))
    | .sub => ok (.int k (k.wrap (a - b)))
    | .mul => ok (.int k (k.wrap (a * b)))
    | .quo => some (.int k (k.wrap (a.tdiv b)), !decide (b = 0))
    | .rem => some (.int k (a.tmod b), !decide (b = 0))
    | .eql => ok (.bool (decide (a = b)))
    | .neq => ok (.bool (!decide (a = b)))
    | .lss => ok (.bool (decide (a < b)))
    | .leq => ok (.bool (decide (a ≤ b)))
    | .gtr => ok (.bool (decide (a > b)))
    | .geq => ok (.bool (decide (a ≥ b)))
    | op => match vbits op k a b with | some r => ok (.int k r) | .none => .none
    else .none

def vStr (op : BinOp) (a b : List UInt8) : Val :=
  match op with
  | .add => some (.str (a ++ b), decide (a.length + b.length ≤ 9223372036854775807))
  | .eql => ok (.bool (decide (a = b)))
  | .neq => ok (.bool (!decide (a = b)))
  | .lss => ok (.bool (Op.bytesLess a b))
  | .leq => ok (.bool (Op.bytesLess a b || decide (a = b)))
  | .gtr => ok (.bool (!(Op.bytesLess a b || decide (a = b))))
  | .geq => ok (.bool (!Op.bytesLess a b))
  | _ => .none

def eqCell (k : TK) (x y : AV) : Option Bool :=
  match k, x, y with
  | .int _, .int k a, .int k' b => bif ikEq k k' then some (decide (a = b)) else .none
  | .bool, .bool a, .bool b => some (a == b)
  | .string, .str a, .str b => some (decide (a = b))
  | _, _, _ => .none

def eqFs (U : TEnv) (E : TypeId → List AV → List AV → Option Bool) : Nat → List (TypeId × Nat) → List AV → List AV → Option Bool
  | _, [], [], [] => some true
  | i, d :: r, xs, ys => bif Nat.beq d.2 i && (Nat.ble (U d.1).size xs.length && Nat.ble (U d.1).size ys.length) then match E d.1 (xs.take (U d.1).size) (ys.take (U d.1).size), eqFs U E (i + (U d.1).size) r (xs.drop (U d.1).size) (ys.drop (U d.1).size) with
    | some b, some r => some (b && r)
    | _, _ => .none
    else .none
  | _, _, _, _ => .none
def eqOne (k : TK) (xs ys : List AV) : Option Bool := match xs, ys with
  | [x], [y] => eqCell k x y
  | _, _ => .none
def eqT (U : TEnv) : Nat → TypeId → List AV → List AV → Option Bool
  | 0, t, xs, ys => eqOne (U t).k xs ys
  | d + 1, t, xs, ys => match (U t).k with
    | .struct fs => bif (U t).eq && Nat.ble 1 (U t).size then eqFs U (eqT U d) 0 fs xs ys else .none
    | k => eqOne k xs ys

def vSame (U : TEnv) (d : TD) (x y : AV) : Option Bool :=
  match d.k with
  | .bool => match x, y with | .bool a, .bool b => some (a == b) | _, _ => .none
  | .ptr _ => match x, y with
    | .ptr _ _, .nilp => some false
    | .nilp, .nilp => some true
    | _, _ => .none
  | .struct fs => match x, y with
    | .agg xs, .agg ys => bif d.eq then eqFs U (eqT U 4) 0 fs xs ys else .none
    | _, _ => .none
  | .func => match x, y with
    | .fn _ _ _, .raw .nilFunc => some false
    | _, _ => .none
  | _ => .none

def vBin (U : TEnv) (op : BinOp) (t : TypeId) (x y : Option AV) : Val :=
  match x, y with
  | some (.int k a), some (.int k' b) => vInt op k a k' b
  | some (.str a), some (.str b) => vStr op a b
  | some x, some y => match op with
    | .eql => match vSame U (U t) x y with | some b => ok (.bool b) | .none => .none
    | .neq => match vSame U (U t) x y with | some b => ok (.bool (!b)) | .none => .none
    | _ => .none
  | _, _ => .none

def vUn (op : UnOp) (x : Option AV) : Val :=
  match op, x with
  | .neg, some (.int k n) => ok (.int k (k.wrap (0 - n)))
  | .xor, some (.int k n) => match vbits .xor k (if k.signed then -1 else k.max) n with | some r => ok (.int k r) | .none => .none
  | .not, some (.bool b) => ok (.bool (!b))
  | _, _ => .none

def vConv (U : TEnv) (lk : Lk) (src dst : TD) (x : Option AV) : Val :=
  match src.k, dst.k, x with
  | .int _, .int k, some (.int _ n) => ok (.int k (k.wrap n))
  | .string, .string, some (.str b) => ok (.str b)
  | .slice e, .string, some x => match (U e).k with
    | .int .u8 => match listOf lk .byte x with | some l => ok (.str l) | .none => .none
    | _ => .none
  | _, _, _ => .none

def vNil (x : Option AV) : Val :=
  match x with
  | some (.ptr i j) => ok (.ptr i j)
  | some (.eptr cs) => ok (.eptr cs)
  | some (.rptr a b i j) => ok (.rptr a b i j)
  | some (.aptr a b) => ok (.aptr a b)
  | some (.fn (.func f) a b) => ok (.fn (.func f) a b)
  | _ => .none

def vFieldAddr (U : TEnv) (d : TD) (x : Option AV) (f : Nat) : Val :=
  match d.k with
  | .struct fs => match fs[f]? with
    | some d => match (U d.1).real with
      | true => match x with
        | some (.ptr i j) => ok (.ptr i (j + d.2))
        | some (.rptr a b i j) => ok (.rptr a b i (j + d.2))
        | some (.eptr cs) => ok (.eptr (cs.drop d.2))
        | _ => .none
      | false => .none
    | .none => .none
  | _ => .none

def vField (U : TEnv) (d : TD) (x : Option AV) (f : Nat) : Val :=
  match d.k with
  | .struct fs => match fs[f]? with
    | some d => match (U d.1).real, x with
      | true, some (.agg cs) => match (U d.1).pack ((cs.drop d.2).take (U d.1).size) with
        | some v => match Nat.beq ((cs.drop d.2).take (U d.1).size).length (U d.1).size with
          | true => ok v
          | false => .none
        | .none => .none
      | _, _ => .none
    | .none => .none
  | _ => .none

def inB (k : Int) (n : Nat) : Bool := decide (0 ≤ k) && decide (k < (n : Int))

def vIndexAddr (U : TEnv) (lk : Lk) (d : TD) (x i : Option AV) : Val :=
  match d.k with
  | .slice e => match (U e).real, i with
    | true, some (.int _ k) => match x with
      | some (.list t l) => match Nat.beq t.size (U e).size with
        | true => some (.eptr (cellsOf t (l.getD k.toNat t.dflt)), inB k l.length)
        | false => .none
      | some (.elist sz n cs) => match Nat.beq sz (U e).size with
        | true => some (.eptr (cs.drop (k.toNat * sz)), inB k n)
        | false => .none
      | some (.own id) => match lk id with
        | some (.row _ t l) => match Nat.beq t.size (U e).size with
          | true => some (.rptr id t.size k.toNat 0, inB k l.length)
          | false => .none
        | some (.frow t l) => match Nat.beq t.size (U e).size with
          | true => some (.eptr (cellsOf t (l.getD k.toNat t.dflt)), inB k l.length)
          | false => .none
        | _ => .none
      | _ => .none
    | _, _ => .none
  | .array n e => match (U e).real, i with
    | true, some (.int _ k) => match x with
      | some (.aptr id n') => match lk id with
        | some (.row _ t l) => match Nat.beq t.size (U e).size && Nat.beq n' n with
          | true => some (.rptr id t.size k.toNat 0, inB k n)
          | false => .none
        | _ => .none
      | _ => .none
    | _, _ => .none
  | _ => .none

def vIndex (d : TD) (x i : Option AV) : Val :=
  match d.k with
  | .string => match x, i with
    | some (.str b), some (.int _ k) => some (.int .u8 ((b.getD k.toNat 0).toNat : Int), inB k b.length)
    | _, _ => .none
  | _ => .none

def beqB (a b : Bool) : Bool := bif a then b else !b
theorem beqB_eq {a b : Bool} (h : beqB a b = true) : a = b := by cases a <;> cases b <;> simp_all [beqB]
def vLookup (U : TEnv) (lk : Lk) (d : TD) (x k : Option AV) (commaOk : Bool) : Val :=
  match d.k with
  | .map kt et agg => match (U kt).k, x, k with
    | .string, some (.mp id), some (.str s) => match lk id with
      | some (.row e (.pair .str E) l) => match (((U et).real && Nat.beq E.size (U et).size) && (isMapTy e && beqB (mapAgg e) agg)) && (beqB E.isAgg agg && areZero E 1 (U et).zero) with
        | true => match commaOk with
          | true => ok (.tup [valOf E (mapGet l s E.dflt), .bool (mapHas l s)])
          | false => ok (valOf E (mapGet l s E.dflt))
        | false => .none
      | _ => .none
    | _, _, _ => .none
  | _ => .none

def loadCs (d : TD) (cs : List AV) : Option AV :=
  match d.pack (cs.take d.size) with
  | some v => match Nat.beq (cs.take d.size).length d.size with
    | true => some v
    | false => .none
  | .none => .none

def vLoad (lk : Lk) (d : TD) (x : Option AV) : Val :=
  match d.real with
  | true => match x with
    | some (.ptr i j) => match lk i with
      | some (.box bt cs) => match isBig bt with
        | false => match loadCs d (cs.drop j) with | some v => ok v | .none => .none
        | true => .none
      | _ => .none
    | some (.eptr cs) => match loadCs d cs with | some v => ok v | .none => .none
    | some (.rptr id sz i j) => match lk id with
      | some (.row _ t l) => match Nat.beq sz t.size with
        | true => match loadCs d ((cellsOf t (l.getD i t.dflt)).drop j) with | some v => some (v, decide (i < l.length)) | .none => .none
        | false => .none
      | _ => .none
    | _ => .none
  | false => .none

def vExtract (x : Option AV) (i : Nat) : Val :=
  match x with
  | some (.tup cs) => vMove cs[i]?
  | _ => .none

def vLen (lk : Lk) (d : TD) (x : Option AV) : Val :=
  match d.k with
  | .slice _ => match x with
    | some x => match lenOf lk x with | some n => ok (.int .i64 n) | .none => .none
    | _ => .none
  | .string => match x with
    | some (.str b) => ok (.int .i64 b.length)
    | _ => .none
  | _ => .none

def vMinMax (mx : Bool) (x y : Option AV) : Val :=
  match x, y with
  | some (.int .i64 a), some (.int .i64 b) => ok (.int .i64 (bif mx then max a b else min a b))
  | _, _ => .none

def vCap (d : TD) (x : Option AV) : Val :=
  match d.k, x with
  | .slice _, some .nils => ok (.int .i64 ((0 : Nat) : Int))
  | _, _ => .none

def vBuiltin (U : TEnv) (ρ : Operand → Option AV) (lk : Lk) (b : Builtin) (args : List Operand) (ts : List TypeId) : Val :=
  match b, args, ts with
  | .len, [x], t :: _ => vLen lk (U t) (ρ x)
  | .cap, [x], t :: _ => vCap (U t) (ρ x)
  | .max, [x, y], _ => vMinMax true (ρ x) (ρ y)
  | .min, [x, y], _ => vMinMax false (ρ x) (ρ y)
  | _, _, _ => .none

def loOf (lo : Option (Option AV)) : Option Int := match lo with | .none => some 0 | some (some (.int _ k)) => some k | _ => .none
def hiOf (n : Nat) (hi : Option (Option AV)) : Option Int := match hi with | .none => some n | some (some (.int _ k)) => some k | _ => .none
def okB (lo hi : Int) (n : Nat) : Bool := decide (0 ≤ lo) && (decide (lo ≤ hi) && decide (hi ≤ (n : Int)))
def partL {α : Type} (lo hi : Option (Option AV)) (l : List α) (a b : Int) : List α :=
  match lo, hi with
  | .none, .none => l
  | .none, some _ => l.take b.toNat
  | some _, .none => l.drop a.toNat
  | some _, some _ => (l.take b.toNat).drop a.toNat

def obOf (lk : Lk) (x : Option AV) : Option Ob := match x with | some (.own id) => lk id | some (.aptr id _) => lk id | _ => .none

def vSlice (U : TEnv) (ob : Option Ob) (d : TD) (x : Option AV) (lo hi mx : Option (Option AV)) : Val :=
  match d.k with
  | .string => match x with
    | some (.str l) => match loOf lo, hiOf l.length hi, mx with
      | some a, some b, .none => some (.str (partL lo hi l a b), okB a b l.length)
      | _, _, _ => .none
    | _ => .none
  | .slice e => match (U e).real with
    | true => match mx with
      | .none => match x with
        | some (.list t l) => match loOf lo, hiOf l.length hi, Nat.beq t.size (U e).size with
          | some a, some b, true => some (.list t (partL lo hi l a b), okB a b l.length)
          | _, _, _ => .none
        | some .nils => match loOf lo, hiOf 0 hi with
          | some a, some b => some (.nils, okB a b 0)
          | _, _ => .none
        | some (.own id) => match ob with
          | some (.row _ t l) => match loOf lo, hiOf l.length hi, Nat.beq t.size (U e).size with
            | some a, some b, true => some (.view id t.size a.toNat (b - a).toNat, okB a b l.length)
            | _, _, _ => .none
          | some (.frow t l) => match loOf lo, hiOf l.length hi, Nat.beq t.size (U e).size with
            | some a, some b, true => some (.list t (partL lo hi l a b), okB a b l.length)
            | _, _, _ => .none
          | _ => .none
        | _ => .none
      | some (some (.int _ 0)) => match loOf lo, hi with
        | some 0, some (some (.int _ 0)) => match x with
          | some (.list _ _) => ok .nils
          | some .nils => ok .nils
          | some (.own id) => match ob with
            | some (.row _ _ _) => ok .nils
            | some (.frow _ _) => ok .nils
            | _ => .none
          | some (.view _ _ _ _) => ok .nils
          | _ => .none
        | _, _ => .none
      | _ => .none
    | false => .none
  | .array n e => match (U e).real, x, loOf lo, hiOf n hi, mx with
    | true, some (.aptr id n'), some a, some b, .none => match ob with
      | some (.row _ t l) => match Nat.beq t.size (U e).size && Nat.beq n' n with
        | true => some (.view id t.size a.toNat (b - a).toNat, okB a b n)
        | false => .none
      | _ => .none
    | _, _, _, _, _ => .none
  | _ => .none

def AV.cells : AV → List AV
  | .agg cs => cs
  | x => [x]
def AV.one : AV → Bool
  | .agg _ | .tup _ | .junk => false
  | .raw v => v.oneCell'
  | _ => true
def allOne : List AV → Bool
  | [] => true
  | x :: r => x.one && allOne r
def AV.plain : AV → Bool
  | .agg _ => true
  | x => x.one

def fillIn (place : Nat → Option (Nat × Nat)) : List AV → List (Nat × Option AV) → Option (List AV)
  | cs, [] => some cs
  | cs, (i, x) :: r => match place i, x with
    | some (off, size), some v => match (Nat.beq v.cells.length size && Nat.ble (off + size) cs.length) && v.plain with
      | true => fillIn place (cs.take off ++ v.cells ++ cs.drop (off + size)) r
      | false => .none
    | _, _ => .none
def placeOf (U : TEnv) (fs : List (TypeId × Nat)) (i : Nat) : Option (Nat × Nat) :=
  match fs[i]? with
  | some d => match (U d.1).real with
    | true => some (d.2, (U d.1).size)
    | false => .none
  | .none => .none
def allReal (U : TEnv) : List (TypeId × Nat) → Bool
  | [] => true
  | d :: r => (U d.1).real && allReal U r
def atoms (l : List Value) : List AV := l.map constAV
def vBuild (U : TEnv) (d : TD) (parts : List (Nat × Option AV)) : Val :=
  match d.real, d.k with
  | true, .struct fs => match allReal U fs with
    | true => match fillIn (placeOf U fs) (atoms d.zero) parts with
      | some cs => ok (.agg cs)
      | .none => .none
    | false => .none
  | _, _ => .none
def evParts (ρ : Operand → Option AV) (l : List (Nat × Operand)) : List (Nat × Option AV) := l.map fun p => (p.1, ρ p.2)

def allSome : List (Option AV) → Option (List AV)
  | [] => some []
  | some x :: r => match allSome r with | some l => some (x :: l) | .none => .none
  | .none :: _ => .none

def vMakeFunc (fn : Fn) (first cap : List (Option AV)) : Val :=
  match allSome first, allSome cap with
  | some a, some b => ok (.fn fn a b)
  | _, _ => .none

def evalV (U : TEnv) (ρ : Operand → Option AV) (lk : Lk) (o : Op) : Val :=
  match o with
  | .move x | .assign x => vMove (ρ x)
  | .pick c a b => vPick (ρ c) (ρ a) (ρ b)
  | .binOp op t x y _ => vBin U op t (ρ x) (ρ y)
  | .unOp op _ x => vUn op (ρ x)
  | .convert src dst x => vConv U lk (U src) (U dst) (ρ x)
  | .nilCheck x => vNil (ρ x)
  | .fieldAddr t x f => vFieldAddr U (U t) (ρ x) f
  | .field t x f => vField U (U t) (ρ x) f
  | .indexAddr t x i => vIndexAddr U lk (U t) (ρ x) (ρ i)
  | .index t x i => vIndex (U t) (ρ x) (ρ i)
  | .load t x => vLoad lk (U t) (ρ x)
  | .lookup t x k commaOk => vLookup U lk (U t) (ρ x) (ρ k) commaOk
  | .extract x i => vExtract (ρ x) i
  | .slice t x lo hi mx => vSlice U (obOf lk (ρ x)) (U t) (ρ x) (lo.map ρ) (hi.map ρ) (mx.map ρ)
  | .build t parts => vBuild U (U t) (evParts ρ parts.toList)
  | .makeFunc fn first cap => vMakeFunc fn (first.toList.map ρ) (cap.toList.map ρ)
  | .call { callee := .builtin b, args := args, argTypes := ts } => vBuiltin U ρ lk b args.toList ts.toList
  | _ => .none
end Go.Hay
/- The evaluator of reading operations is right, first part. -/
set_option linter.unusedVariables false
set_option linter.unusedSimpArgs false
namespace Go.Hay
open Go.RowKit

def Obs.Ok [Sites] (c : Cf) (w : World) (lk : Lk) : Prop := ∀ id o, lk id = some o → ObR c w id o
def Ops.Ok (c : Cf) (w : World) (ρ : Operand → Option AV) (e : Operand → Value) : Prop := ∀ o x, ρ o = some x → VR c w x (e o)
def Reads (P : Program) (c : Cf) (w : World) (s : Sem Next) (v : AV) : Prop := ∃ u, s.run P w = .ok (.value u) w ∧ VR c w v u

theorem wrap_fits (k : IntKind) (n : Int) : fits k (k.wrap n) = true := by
  cases k <;> simp [fits, IntKind.wrap, IntKind.bits, IntKind.signed] <;> omega

theorem ikEq_eq {a b : IntKind} (h : ikEq a b = true) : a = b := by
  cases a <;> cases b <;> first | rfl | (exact absurd h (by decide))

section
variable {P : Program} {U : TEnv} {c : Cf} {w : World} {lk : Lk} {ρ : Operand → Option AV} {e : Operand → Value}

theorem ok_some {v : AV} {v' : AV} {b : Bool} (h : ok v = some (v', b)) : v' = v ∧ b = true := by
  simp only [ok, Option.some.injEq, Prod.mk.injEq] at h
  exact ⟨h.1.symm, h.2.symm⟩

theorem vMove_some [Sites] {x : Option AV} {v : AV} {b : Bool} (h : vMove x = some (v, b)) : x = some v := by
  cases x with
  | none => simp [vMove] at h
  | some x => simp only [vMove] at h; rw [(ok_some h).1]

theorem vPick_ok [Sites] {ca aa ba : Option AV} {v : AV} {vc va vb : Value} {q : Bool} (h : vPick ca aa ba = some (v, q))
    (h1 : ∀ x, ca = some x → VR c w x vc) (h2 : ∀ x, aa = some x → VR c w x va) (h3 : ∀ x, ba = some x → VR c w x vb) :
    ∃ t, vc = .bool t ∧ VR c w v (if t then va else vb) := by
  unfold vPick at h
  split at h
  · rename_i t
    have hc := h1 _ rfl
    simp only [VR] at hc
    refine ⟨t, hc, ?_⟩
    split at h
    · rename_i x y
      have ha := h2 _ rfl
      have hb := h3 _ rfl
      simp only [VR] at ha hb
      rw [(ok_some h).1, ha, hb]
      cases t <;> simp [VR]
    · split at h
      · exact h2 _ (vMove_some h)
      · exact h3 _ (vMove_some h)
  · cases h

theorem eqGuard_int {op : BinOp} {t : TypeId} {x y : Operand} {k k' : IntKind} {m n : Int} : (eqGuard op t x y (.int k m) (.int k' n)).run P w = .ok () w := by
  cases op <;> rfl
theorem eqGuard_string {op : BinOp} {t : TypeId} {x y : Operand} {m n : ByteArray} : (eqGuard op t x y (.string m) (.string n)).run P w = .ok () w := by
  cases op <;> rfl
theorem binOp_string {op : BinOp} {t : TypeId} {m n : ByteArray} : binOp op t (.string m) (.string n) = Op.stringOp op m n := by
  cases op <;> rfl

theorem vbits_ok [Sites] {op : BinOp} {k : IntKind} {a b r : Int} (h : vbits op k a b = some r) : Op.intBits op k a b = .pure (.int k r) ∧ fits k r = true := by
  cases op <;> simp only [vbits, Option.some.injEq, reduceCtorEq] at h <;> subst h <;> exact ⟨rfl, wrap_fits _ _⟩

theorem fdiv_fits {k : IntKind} {a : Int} (n : Nat) (h : fits k a = true) : fits k (a.fdiv (2 ^ n)) = true := by
  have hp : (0 : Int) < 2 ^ n := Int.pow_pos (by decide)
  rw [Int.fdiv_eq_ediv_of_nonneg _ (Int.le_of_lt hp)]
  have h1 : 0 ≤ a → 0 ≤ a / 2 ^ n ∧ a / 2 ^ n ≤ a := fun ha => ⟨Int.ediv_nonneg ha (Int.le_of_lt hp), Int.ediv_le_self _ ha⟩
  have h2 : a < 0 → a ≤ a / 2 ^ n ∧ a / 2 ^ n < 0 := fun ha => by
    refine ⟨?_, Int.ediv_neg_of_neg_of_pos ha hp⟩
    have hh := Int.ediv_mul_le a (Int.ne_of_gt hp)
    have hq := Int.ediv_neg_of_neg_of_pos ha hp
    have h3 := Int.lt_ediv_add_one_mul_self a hp
    rw [Int.le_ediv_iff_mul_le hp]
    have : a * 2 ^ n ≤ a * 1 := Int.mul_le_mul_of_nonpos_left (Int.le_of_lt ha) (by omega)
    omega
  generalize a / 2 ^ n = q at *
  cases k <;> simp [fits] at h ⊢ <;> (rcases Int.lt_or_le a 0 with ha | ha <;> first | (have := h2 ha; omega) | (have := h1 ha; omega))

theorem tmod_fits {k : IntKind} {a b : Int} (h : fits k a = true) : fits k (a.tmod b) = true := by
  have h1 : 0 ≤ a → 0 ≤ a.tmod b ∧ a.tmod b ≤ a := fun ha => by
    refine ⟨Int.tmod_nonneg _ ha, ?_⟩
    obtain ⟨n, rfl⟩ := Int.eq_ofNat_of_zero_le ha
    rcases Int.natAbs_eq b with e | e <;> rw [e]
    · rw [← Int.ofNat_tmod]; exact Int.ofNat_le.2 (Nat.mod_le _ _)
    · rw [Int.tmod_neg, ← Int.ofNat_tmod]; exact Int.ofNat_le.2 (Nat.mod_le _ _)
  have h2 : a < 0 → a ≤ a.tmod b ∧ a.tmod b ≤ 0 := fun ha => by
    obtain ⟨n, e⟩ := Int.eq_ofNat_of_zero_le (show 0 ≤ -a by omega)
    have ea : a = -(n : Int) := by omega
    rw [ea, Int.neg_tmod]
    rcases Int.natAbs_eq b with e | e <;> rw [e]
    · rw [← Int.ofNat_tmod]
      have := Nat.mod_le n b.natAbs
      omega
    · rw [Int.tmod_neg, ← Int.ofNat_tmod]
      have := Nat.mod_le n b.natAbs
      omega
  generalize a.tmod b = q at *
  cases k <;> simp [fits] at h ⊢ <;> (rcases Int.lt_or_le a 0 with ha | ha <;> first | (have := h2 ha; omega) | (have := h1 ha; omega))

theorem vInt_ok [Sites] {op : BinOp} {t : TypeId} {k k' : IntKind} {a b : Int} {v : AV} (h : vInt op k a k' b = some (v, true)) (hf : fits k a = true) :
    ∃ u, (binOp op t (.int k a) (.int k' b)).run P w = .ok u w ∧ VR c w v u := by
  unfold vInt at h
  split at h
  · simp only [Option.some.injEq, Prod.mk.injEq, decide_eq_true_eq] at h
    obtain ⟨rfl, h0⟩ := h
    have : ¬ b < 0 := by omega
    exact ⟨_, by simp [binOp, Op.shift, this, Sem.run]; rfl, by simp [VR, wrap_fits]⟩
  · simp only [Option.some.injEq, Prod.mk.injEq, decide_eq_true_eq] at h
    obtain ⟨rfl, h0⟩ := h
    have : ¬ b < 0 := by omega
    exact ⟨_, by simp [binOp, Op.shift, this, Sem.run]; rfl, by simp [VR, fdiv_fits _ hf]⟩
  · rename_i n1 n2
    cases hk : ikEq k k' with
    | false => simp [hk] at h
    | true =>
      have := ikEq_eq hk
      subst this
      simp only [hk, cond_true] at h
      split at h
      · rw [(ok_some h).1]; exact ⟨_, by simp [binOp, Op.intArith, Sem.run]; rfl, by simp [VR, wrap_fits]⟩
      · rw [(ok_some h).1]; exact ⟨_, by simp [binOp, Op.intArith, Sem.run]; rfl, by simp [VR, wrap_fits]⟩
      · rw [(ok_some h).1]; exact ⟨_, by simp [binOp, Op.intArith, Sem.run]; rfl, by simp [VR, wrap_fits]⟩
      · simp only [Option.some.injEq, Prod.mk.injEq, Bool.not_eq_true', decide_eq_false_iff_not] at h
        obtain ⟨rfl, h0⟩ := h
        exact ⟨_, by simp [binOp, Op.intDiv, h0, Sem.run]; rfl, by simp [VR, wrap_fits]⟩
      · simp only [Option.some.injEq, Prod.mk.injEq, Bool.not_eq_true', decide_eq_false_iff_not] at h
        obtain ⟨rfl, h0⟩ := h
        exact ⟨_, by simp [binOp, Op.intDiv, h0, Sem.run]; rfl, by simp [VR, tmod_fits hf]⟩
      · rw [(ok_some h).1]; refine ⟨.bool (a == b), by simp [binOp, Op.intCmp, Sem.run], ?_⟩; simp only [VR]; by_cases e : a = b <;> simp [e]
      · rw [(ok_some h).1]; refine ⟨.bool (a != b), by simp [binOp, Op.intCmp, Sem.run], ?_⟩; simp only [VR]; by_cases e : a = b <;> simp [e]
      · rw [(ok_some h).1]; exact ⟨_, by simp [binOp, Op.intCmp, Sem.run]; rfl, by simp [VR]⟩
      · rw [(ok_some h).1]; exact ⟨_, by simp [binOp, Op.intCmp, Sem.run]; rfl, by simp [VR]⟩
      · rw [(ok_some h).1]; exact ⟨_, by simp [binOp, Op.intCmp, Sem.run]; rfl, by simp [VR]⟩
      · rw [(ok_some h).1]; exact ⟨_, by simp [binOp, Op.intCmp, Sem.run]; rfl, by simp [VR]⟩
      · cases hb : vbits op k a b with
        | none => simp [hb] at h
        | some r =>
          simp only [hb] at h
          obtain ⟨h1, h2⟩ := vbits_ok hb
          rw [(ok_some h).1]
          refine ⟨_, ?_, by simp only [VR]; exact ⟨rfl, h2⟩⟩
          have : binOp op t (.int k a) (.int k b) = Op.intBits op k a b := by
            cases op <;> simp [vbits] at hb <;> simp [binOp]
          rw [this, h1]; rfl

theorem bytes_list (a : List UInt8) : (⟨a.toArray⟩ : ByteArray).toList = a := by rw [ByteArray.toList_eq]

theorem vStr_ok [Sites] {op : BinOp} {a b : List UInt8} {v : AV} (h : vStr op a b = some (v, true)) (ha : a.length ≤ maxLen) (hb : b.length ≤ maxLen) :
    ∃ u, (Op.stringOp op ⟨a.toArray⟩ ⟨b.toArray⟩).run P w = .ok u w ∧ VR c w v u := by
  unfold vStr at h
  split at h
  · simp only [Option.some.injEq, Prod.mk.injEq, decide_eq_true_eq] at h
    obtain ⟨rfl, h0⟩ := h
    have h1 : ¬ (((⟨a.toArray⟩ : ByteArray).size + (⟨b.toArray⟩ : ByteArray).size : Nat) : Int) > IntKind.i64.max := by
      have e1 : (⟨a.toArray⟩ : ByteArray).size = a.length := by simp [ByteArray.size]
      have e2 : (⟨b.toArray⟩ : ByteArray).size = b.length := by simp [ByteArray.size]
      have e3 : IntKind.i64.max = 9223372036854775807 := by rfl
      rw [e1, e2, e3]; omega
    refine ⟨.string ⟨(a ++ b).toArray⟩, ?_, by simp only [VR]; refine ⟨trivial, by simp [maxLen]; omega⟩⟩
    simp only [Op.stringOp, h1, if_false]
    have : (⟨a.toArray⟩ : ByteArray) ++ ⟨b.toArray⟩ = ⟨(a ++ b).toArray⟩ := by
      apply ByteArray.ext
      simp
    rw [this]; rfl
  · rw [(ok_some h).1]; refine ⟨_, rfl, ?_⟩; simp only [VR, bytes_list]; by_cases e : a = b <;> simp [e]
  · rw [(ok_some h).1]; refine ⟨_, rfl, ?_⟩; simp only [VR, bytes_list]; by_cases e : a = b <;> simp [e]
  · rw [(ok_some h).1]; refine ⟨_, rfl, ?_⟩; simp only [VR, bytes_list]
  · rw [(ok_some h).1]; refine ⟨_, rfl, ?_⟩; simp only [VR, bytes_list]; by_cases e : a = b <;> simp [e]
  · rw [(ok_some h).1]; refine ⟨_, rfl, ?_⟩; simp only [VR, bytes_list]; by_cases e : a = b <;> simp [e]
  · rw [(ok_some h).1]; refine ⟨_, rfl, ?_⟩; simp only [VR, bytes_list]
  · cases h

theorem vUn_ok [Sites] {o : Oper} {op : UnOp} {t : TypeId} {x : Operand} (ho : o.op = .unOp op t x) {v : AV} {q : Bool} (h : vUn op (ρ x) = some (v, q)) (hρ : Ops.Ok c w ρ e) : Reads P c w (execOp e o) v := by
  unfold vUn at h
  split at h
  · rename_i k n hx
    have h1 := hρ _ _ hx
    simp only [VR] at h1
    rw [(ok_some h).1]
    exact ⟨_, by simp [execOp, ho, h1.1, Op.unary, Op.intArith, Sem.run]; rfl, by simp [VR, wrap_fits]⟩
  · rename_i k n hx
    have h1 := hρ _ _ hx
    simp only [VR] at h1
    cases hb : vbits .xor k (if k.signed then -1 else k.max) n with
    | none => simp [hb] at h
    | some r =>
      simp only [hb] at h
      obtain ⟨h2, h3⟩ := vbits_ok hb
      rw [(ok_some h).1]
      exact ⟨.int k r, by simp [execOp, ho, h1.1, Op.unary, h2, Sem.run], by simp [VR, h3]⟩
  · rename_i b hx
    have h1 := hρ _ _ hx
    simp only [VR] at h1
    rw [(ok_some h).1]
    exact ⟨_, by simp [execOp, ho, h1, Op.unary, Sem.run]; rfl, by simp [VR]⟩
  · cases h

def SeqAt (c : Cf) (w : World) (t : Ty) (l : List t.den) (u : Value) : Prop :=
  ∃ A cap us, u = .slice A l.length cap ∧ l.length ≤ cap ∧ cap ≤ maxLen ∧ (A = none → l.length = 0) ∧ Cat (TR c.I w t) l us ∧
    ∀ ad, A = some ad → 0 < l.length → ad.spot = none ∧ CellsAt w ad.block ad.off us

theorem SliceAt.seq {t : Ty} {l : List t.den} {u : Value} (h : SliceAt c.I w (TR c.I w t) l u) : SeqAt c w t l u := by
  obtain ⟨A, cap, e, h1, h2, h3, h4⟩ := h
  cases A with
  | none =>
    have : l = [] := List.eq_nil_of_length_eq_zero (h3 rfl)
    subst this
    exact ⟨none, cap, [], e, h1, h2, h3, rfl, fun ad ha => by cases ha⟩
  | some ad =>
    rcases Nat.eq_zero_or_pos l.length with h0 | h0
    · have : l = [] := List.eq_nil_of_length_eq_zero h0
      subst this
      exact ⟨some ad, cap, [], e, h1, h2, h3, rfl, fun ad' ha hp => by simp at hp⟩
    · obtain ⟨hs, _, us, hc, hcell⟩ := h4 ad rfl h0
      exact ⟨some ad, cap, us, e, h1, h2, h3, hc, fun ad' ha _ => by cases ha; exact ⟨hs, hcell⟩⟩

theorem castL_some {t t' : Ty} {l : List t'.den} {m : List t.den} (h : castL t t' l = some m) : ∃ e : t' = t, m = e ▸ l := by
  unfold castL at h
  split at h
  · rename_i e
    simp only [Option.some.injEq] at h
    exact ⟨e, h.symm⟩
  · cases h

theorem RowAt.cells {e : TypeId} {sz n : Nat} {v : Value} {us : List Value} (h : RowAt w e sz v n us) (hsl : isSlice v = true) :
    ∃ A cap, v = .slice A n cap ∧ n ≤ cap ∧ cap ≤ maxLen ∧ (A = none → n = 0) ∧ ∀ ad, A = some ad → 0 < n → ad.spot = none ∧ CellsAt w ad.block ad.off us := by
  rcases h.2 with ⟨rfl, A, rfl⟩ | ⟨b, cap, cur, rfl, h0, h1, h2, hg, hs, ht⟩ | ⟨b, es, k, rfl, _⟩
  rotate_left 2
  · simp [isSlice] at hsl
  · exact ⟨A, 0, rfl, Nat.le_refl _, Nat.zero_le _, fun _ => rfl, fun ad _ hp => by omega⟩
  · refine ⟨some ⟨b, 0, none⟩, cap, rfl, h1, h2, (fun e => by cases e), fun ad ha _ => ?_⟩
    cases ha
    refine ⟨rfl, fun j u hj => ?_⟩
    rw [cell_of_row w b (0 + j) cur e (0, 0) hg, Nat.zero_add]
    rw [← ht, List.getElem?_take] at hj
    split at hj
    · simpa using hj
    · cases hj

theorem RowAt.seq [Sites] {e : TypeId} {t : Ty} {l : List t.den} {v : Value} {us : List Value} (h : RowAt w e t.size v l.length us) (hsl : isSlice v = true) (hc : Cat (TR c.I w t) l us) : SeqAt c w t l v := by
  obtain ⟨A, cap, h1, h2, h3, h4, h5⟩ := h.cells hsl
  exact ⟨A, cap, us, h1, h2, h3, h4, hc, h5⟩

theorem TR_len_fun {I : Nat → Prop} {t : Ty} : ∀ (x : t.den) (us : List Value), TR I w t x us → us.length = t.size := fun _ _ h => TR.len h

theorem SeqAt.part [Sites] {t : Ty} {l : List t.den} {A : Option Addr} {n cap lo m : Nat} (h : SeqAt c w t l (.slice A n cap)) (hm : lo + m ≤ l.length) :
    SeqAt c w t ((l.drop lo).take m) (.slice (if cap = lo then A else A.map (·.add (lo * t.size))) m (cap - lo)) := by
  obtain ⟨A', cap', us, e, h1, h2, h3, hc, hcell⟩ := h
  simp only [Value.slice.injEq] at e
  obtain ⟨rfl, rfl, rfl⟩ := e
  have hlen : ((l.drop lo).take m).length = m := by simp; omega
  refine ⟨_, _, (us.drop (lo * t.size)).take (m * t.size), by rw [hlen], by rw [hlen]; omega, by omega, ?_, Cat.take TR_len_fun m (Cat.drop TR_len_fun lo hc), ?_⟩
  · rw [hlen]
    intro hA
    have : A = none := by
      split at hA
      · exact hA
      · simpa using hA
    have := h3 this
    omega
  · rw [hlen]
    intro ad ha hpos
    rw [if_neg (by omega)] at ha
    cases A with
    | none => simp at ha
    | some ad0 =>
      simp only [Option.map_some, Option.some.injEq] at ha
      obtain ⟨hsp, hcl⟩ := hcell ad0 rfl (by omega)
      obtain ⟨b, o, sp⟩ := ad0
      simp only at hsp hcl
      subst hsp
      rw [addr_add] at ha
      subst ha
      exact ⟨rfl, (hcl.drop (n := lo * t.size)).take⟩

theorem view_ok [Sites] {id sz lo n : Nat} {u : Value} (hv : VR c w (.view id sz lo n) u) {t : Ty} {l : List t.den} (hs : sz = t.size) (hrow : ∃ v, c.nm id = some v ∧ SeqAt c w t l v) :
    SeqAt c w t ((l.drop lo).take n) u := by
  simp only [VR] at hv
  obtain ⟨A, n0, cap, h1, h2, _, rfl⟩ := hv
  obtain ⟨v, h3, h4⟩ := hrow
  rw [h1] at h3
  simp only [Option.some.injEq] at h3
  subst h3
  subst hs
  refine h4.part ?_
  obtain ⟨_, _, _, e, _⟩ := h4
  simp only [Value.slice.injEq] at e
  omega

theorem row_seq [Sites] (hk : Obs.Ok c w lk) {id : Nat} {u : Value} (hnm : c.nm id = some u) (hsl : isSlice u = true) : (∀ e t l, lk id = some (.row e t l) → ∃ v, c.nm id = some v ∧ SeqAt c w t l v) ∧ (∀ t l, lk id = some (.frow t l) → ∃ v, c.nm id = some v ∧ SeqAt c w t l v) := by
  refine ⟨fun e t l h => ?_, fun t l h => ?_⟩
  · obtain ⟨v, us, h1, h2, h3⟩ := hk _ _ h
    rw [hnm] at h1
    simp only [Option.some.injEq] at h1
    subst h1
    exact ⟨_, hnm, h2.seq hsl h3⟩
  · obtain ⟨v, h1, h2⟩ := hk _ _ h
    exact ⟨v, h1, h2.seq⟩

theorem listOf_ok [Sites] (hk : Obs.Ok c w lk) {t : Ty} {x : AV} {l : List t.den} (h : listOf lk t x = some l) {u : Value} (hv : VR c w x u) : SeqAt c w t l u := by
  unfold listOf at h
  split at h
  · obtain ⟨rfl, rfl⟩ := castL_some h
    simp only [VR] at hv
    exact hv.seq
  · simp only [Option.some.injEq] at h
    subst h
    simp only [VR] at hv
    obtain ⟨A, rfl⟩ := hv
    exact ⟨A, 0, [], rfl, Nat.le_refl _, Nat.zero_le _, fun _ => rfl, rfl, fun _ _ hp => by simp at hp⟩
  · rename_i id
    simp only [VR] at hv
    split at h
    · rename_i e t' l' hl
      obtain ⟨rfl, rfl⟩ := castL_some h
      obtain ⟨v, h1, h2⟩ := (row_seq hk hv.1 hv.2).1 _ _ _ hl
      rw [hv.1] at h1; simp only [Option.some.injEq] at h1; subst h1
      exact h2
    · rename_i t' l' hl
      obtain ⟨rfl, rfl⟩ := castL_some h
      obtain ⟨v, h1, h2⟩ := (row_seq hk hv.1 hv.2).2 _ _ hl
      rw [hv.1] at h1; simp only [Option.some.injEq] at h1; subst h1
      exact h2
    · cases h
  · rename_i id sz lo n
    split at h
    · rename_i e t' l' hl
      cases hb : Nat.beq sz t'.size with
      | false => simp [hb] at h
      | true =>
        simp only [hb, cond_true] at h
        obtain ⟨rfl, rfl⟩ := castL_some h
        obtain ⟨A, n0, cap, g1, _⟩ := (by simpa only [VR] using hv : ∃ A n0 cap, c.nm id = some (.slice A n0 cap) ∧ _)
        exact view_ok hv (Nat.eq_of_beq_eq_true hb) ((row_seq hk g1 rfl).1 _ _ _ hl)
    · rename_i t' l' hl
      cases hb : Nat.beq sz t'.size with
      | false => simp [hb] at h
      | true =>
        simp only [hb, cond_true] at h
        obtain ⟨rfl, rfl⟩ := castL_some h
        obtain ⟨A, n0, cap, g1, _⟩ := (by simpa only [VR] using hv : ∃ A n0 cap, c.nm id = some (.slice A n0 cap) ∧ _)
        exact view_ok hv (Nat.eq_of_beq_eq_true hb) ((row_seq hk g1 rfl).2 _ _ hl)
    · cases h
  · cases h

theorem byte_cells {I : Nat → Prop} : ∀ {l : List UInt8} {us : List Value}, Cat (TR I w .byte) l us → us = (l.map fun x => (x.toNat : Int)).map (Value.int .u8)
  | [], us, h => by simpa [Cat] using h
  | x :: l, us, ⟨a, b, e, h1, h2⟩ => by
    simp only [TR] at h1
    rw [e, h1, byte_cells h2]; rfl

theorem push_list (l : List UInt8) : ∀ (s : ByteArray), ((l.map fun x => (x.toNat : Int)).foldl (fun r n => r.push (UInt8.ofNat n.toNat)) s) = ⟨(s.data.toList ++ l).toArray⟩ := by
  induction l with
  | nil => intro s; simp
  | cons x l ih =>
    intro s
    simp only [List.map_cons, List.foldl_cons]
    rw [ih]
    apply ByteArray.ext
    simp [ByteArray.push]

theorem run_load_seq {t : Ty} {l : List t.den} {A : Option Addr} {n cap : Nat} {us : List Value} {ad : Addr} (hcell : ad.spot = none ∧ CellsAt w ad.block ad.off us) : (loadCells ad us.length).run P w = .ok us.toArray w := by
  refine run_loadCells_list (P := P) w ad us fun j v hj => ?_
  obtain ⟨b, o, sp⟩ := ad
  simp only at hcell
  obtain ⟨rfl, h⟩ := hcell
  rw [addr_add]
  exact h j v hj

theorem vConv_ok [Sites] (hU : U.Ok P) {o : Oper} {src dst : TypeId} {x : Operand} (ho : o.op = .convert src dst x) {v : AV} {q : Bool} (h : vConv U lk (U src) (U dst) (ρ x) = some (v, q)) (hρ : Ops.Ok c w ρ e) (hk : Obs.Ok c w lk) : Reads P c w (execOp e o) v := by
  unfold vConv at h
  split at h
  · rename_i k1 k k' n hs hd hx
    have h1 := hρ _ _ hx
    simp only [VR] at h1
    have u1 := (hU src (by simp [hs])).1
    have u2 := (hU dst (by simp [hd])).1
    simp only [TD.kindOk, hs] at u1
    simp only [TD.kindOk, hd] at u2
    rw [(ok_some h).1]
    exact ⟨.int k (k.wrap n), by simp [execOp, ho, h1.1, convert, run_underlying u1, run_underlying u2, Conv.intToInt], by simp [VR, wrap_fits]⟩
  · rename_i b hs hd hx
    have h1 := hρ _ _ hx
    have h1' := h1
    simp only [VR] at h1
    have u1 := (hU src (by simp [hs])).1
    have u2 := (hU dst (by simp [hd])).1
    simp only [TD.kindOk, hs] at u1
    simp only [TD.kindOk, hd] at u2
    rw [(ok_some h).1]
    exact ⟨e x, by simp [execOp, ho, h1.1, convert, run_underlying u1, run_underlying u2], h1'⟩
  · rename_i el x' hs hd hx
    split at h
    · rename_i he
      split at h
      · rename_i l hl
        have u1 := (hU src (by simp [hs])).1
        have u2 := (hU dst (by simp [hd])).1
        have u3 := (hU el (by simp [he])).1
        simp only [TD.kindOk, hs] at u1
        simp only [TD.kindOk, hd] at u2
        simp only [TD.kindOk, he] at u3
        rw [(ok_some h).1]
        obtain ⟨A, cap, us, ex, h1, h2, h3, hc, hcell⟩ := listOf_ok hk hl (hρ _ _ hx)
        refine ⟨.string ⟨l.toArray⟩, ?_, by simp only [VR]; exact ⟨trivial, by omega⟩⟩
        have hconv := run_convert_bytes_string (P := P) w src dst el A l.length cap u1 u3 u2
        have hrun : (Conv.bytesToString (.slice A l.length cap)).run P w = .ok (.string ⟨l.toArray⟩) w := by
          have hus := byte_cells hc
          cases A with
          | none =>
            have : l = [] := List.eq_nil_of_length_eq_zero (h3 rfl)
            subst this
            simp [Conv.bytesToString, Sem.run_pure]; rfl
          | some ad =>
            have hul : us.length = l.length := by rw [hus]; simp
            rcases Nat.eq_zero_or_pos l.length with h0 | h0
            · have : l = [] := List.eq_nil_of_length_eq_zero h0
              subst this
              have := run_bytesToString (P := P) w ad 0 cap [] (by simp [loadCells, loadCellsFrom, Sem.run])
              exact this
            · have hld := run_load_seq (P := P) (t := .byte) (l := l) (A := some ad) (n := 0) (cap := 0) (hcell ad rfl h0)
              rw [hul] at hld
              rw [run_bytesToString (P := P) w ad l.length cap (l.map fun x => (x.toNat : Int)) (by rw [hld, hus]), push_list]
              rfl
        simp only [execOp, ho, ex, Sem.run_bind, hconv, hrun]
        rfl
      · cases h
    · cases h
  · cases h
end
end Go.Hay
/- The evaluator of reading operations is right, second part: memory. -/
set_option linter.unusedVariables false
set_option linter.unusedSimpArgs false
namespace Go.Hay
open Go.RowKit
section
variable {P : Program} {U : TEnv} {c : Cf} {w : World} {lk : Lk} {ρ : Operand → Option AV} {e : Operand → Value}

theorem real_zero {d : TD} (h : d.real = true) : 0 < d.size ∧ d.zero.length = d.size := by
  unfold TD.real at h
  split at h
  · cases h
  · simp only [Bool.and_eq_true, Nat.blt_eq] at h
    exact ⟨h.1, Nat.eq_of_beq_eq_true h.2⟩

theorem real_ok [Sites] (hU : U.Ok P) {t : TypeId} (h : (U t).real = true) : TD.kindOk P t (U t) ∧ TD.infoOk P t (U t) ∧ 0 < (U t).size := by
  have hk : (U t).k ≠ .none := by
    intro e
    simp [TD.real, e] at h
  exact ⟨(hU t hk).1, (hU t hk).2.1, (real_zero h).1⟩

theorem run_sizeOf_of {t : TypeId} {d : TD} (h : TD.infoOk P t d) : (sizeOf t).run P w = .ok d.size w := by
  unfold TD.infoOk at h
  cases hi : P.info? t with
  | none => simp [hi] at h
  | some i =>
    simp only [hi, Option.map_some, Option.some.injEq, Prod.mk.injEq] at h
    simp [sizeOf, typeInfo, hi, h.1]

theorem run_isAgg_of {t : TypeId} (h : TD.kindOk P t (U t)) (hr : (U t).real = true) : (isAgg t).run P w = .ok (U t).isAgg w := by
  unfold TD.kindOk at h
  unfold TD.isAgg
  cases hk : (U t).k with
  | none => simp [TD.real, hk] at hr
  | struct fs =>
    rw [hk] at h
    cases hd : P.underlying t with
    | none => simp [hd] at h
    | some d =>
      simp only [hd, Option.bind_some] at h
      cases d <;> simp [fieldsOf] at h
      simp [isAgg, run_underlying hd]
  | other =>
    rw [hk] at h
    cases hd : P.underlying t with
    | none => simp [hd] at h
    | some d =>
      simp only [hd, Option.map_some] at h
      cases d <;> simp [aggDesc] at h <;> simp [isAgg, run_underlying hd]
  | func =>
    rw [hk] at h
    cases hd : P.underlying t with
    | none => simp [hd] at h
    | some d =>
      simp only [hd, Option.map_some] at h
      cases d <;> simp [funcDesc] at h <;> simp [isAgg, run_underlying hd]
  | map k e agg =>
    rw [hk] at h
    simp [isAgg, run_underlying h.1]
  | _ =>
    rw [hk] at h
    simp [isAgg, run_underlying h]

theorem pack_ok {d : TD} {cs : List AV} {us : List Value} {v : AV} (h : d.pack cs = some v) (hv : VRs c w cs us) :
    (d.isAgg = true ∧ VR c w v (.agg us.toArray)) ∨ (d.isAgg = false ∧ ∃ u, us = [u] ∧ VR c w v u) := by
  unfold TD.pack at h
  split at h
  · rename_i ha
    left
    simp only [Option.some.injEq] at h
    subst h
    exact ⟨ha, by simp only [VR]; exact ⟨us, rfl, hv⟩⟩
  · rename_i ha
    right
    refine ⟨ha, ?_⟩
    split at h
    · rename_i x
      simp only [Option.some.injEq] at h
      subst h
      simp only [VRs] at hv
      obtain ⟨u, us', rfl, h1, rfl⟩ := hv
      exact ⟨u, rfl, h1⟩
    · cases h

theorem run_load_of [Sites] (hU : U.Ok P) {t : TypeId} (hr : (U t).real = true) {b o : Nat} {us : List Value} (hl : us.length = (U t).size) (hc : CellsAt w b o us)
    {u : Value} (hu : ((U t).isAgg = true ∧ u = .agg us.toArray) ∨ ((U t).isAgg = false ∧ us = [u])) : (loadVar t ⟨b, o, none⟩).run P w = .ok u w := by
  obtain ⟨hk, hi, hs⟩ := real_ok hU hr
  rcases hu with ⟨ha, rfl⟩ | ⟨ha, rfl⟩
  · have hlc : (loadCells ⟨b, o, none⟩ us.length).run P w = .ok us.toArray w := run_loadCells_list (P := P) w ⟨b, o, none⟩ us fun j v hj => by
      rw [addr_add]; exact hc j v hj
    simp [loadVar, run_isAgg_of hk hr, ha, run_sizeOf_of hi, ← hl, hlc]
  · have h0 := hc 0 u rfl
    simp at h0
    simp [loadVar, run_isAgg_of hk hr, ha, load, Sem.run, h0]

theorem loadCs_ok [Sites] (hU : U.Ok P) {t : TypeId} (hr : (U t).real = true) {cs : List AV} {v : AV} (h : loadCs (U t) cs = some v) {us : List Value} (hv : VRs c w cs us) {b o : Nat} (hc : CellsAt w b o us) :
    ∃ u, (loadVar t ⟨b, o, none⟩).run P w = .ok u w ∧ VR c w v u := by
  unfold loadCs at h
  split at h
  · rename_i v' hp
    split at h
    · rename_i hlen
      simp only [Option.some.injEq] at h
      subst h
      have hlen := Nat.eq_of_beq_eq_true hlen
      have hvd := hv.take (U t).size
      have hl2 := hvd.length
      rw [hlen] at hl2
      rcases pack_ok hp hvd with ⟨ha, hv'⟩ | ⟨ha, u, hu', hv'⟩
      · exact ⟨_, run_load_of hU hr hl2 hc.take (.inl ⟨ha, rfl⟩), hv'⟩
      · exact ⟨u, run_load_of hU hr hl2 hc.take (.inr ⟨ha, hu'⟩), hv'⟩
    · cases h
  · cases h

theorem inB_iff {k : Int} {n : Nat} : inB k n = true ↔ 0 ≤ k ∧ k < (n : Int) := by simp [inB]

theorem SeqAt.elem [Sites] {t : Ty} {l : List t.den} {A : Option Addr} {n cap : Nat} (h : SeqAt c w t l (.slice A n cap)) {i : Nat} (hi : i < l.length) :
    ∃ b o, A = some ⟨b, o, none⟩ ∧ ∃ us, TR c.I w t (l.getD i t.dflt) us ∧ CellsAt w b (o + i * t.size) us := by
  obtain ⟨A', cap', us, e, h1, h2, h3, hc, hcell⟩ := h
  simp only [Value.slice.injEq] at e
  obtain ⟨rfl, rfl, rfl⟩ := e
  cases A with
  | none => have := h3 rfl; omega
  | some ad =>
    obtain ⟨hs, hcl⟩ := hcell ad rfl (by omega)
    obtain ⟨b, o, sp⟩ := ad
    simp only at hs hcl
    subst hs
    refine ⟨b, o, rfl, _, Cat.get TR_len_fun hc (x := l.getD i t.dflt) (by simp [List.getElem?_eq_getElem hi]), (hcl.drop (n := i * t.size)).take⟩

theorem SliceAt.elem [Sites] {t : Ty} {l : List t.den} {A : Option Addr} {n cap : Nat} (h : SliceAt c.I w (TR c.I w t) l (.slice A n cap)) {i : Nat} (hi : i < l.length) :
    ∃ b o, A = some ⟨b, o, none⟩ ∧ c.I b ∧ ∃ us, TR c.I w t (l.getD i t.dflt) us ∧ CellsAt w b (o + i * t.size) us := by
  obtain ⟨b, o, rfl, us, h1, h2⟩ := (SliceAt.seq h).elem hi
  obtain ⟨A', cap', e, _, _, _, h4⟩ := h
  simp only [Value.slice.injEq] at e
  obtain ⟨rfl, rfl, rfl⟩ := e
  exact ⟨b, o, rfl, (h4 _ rfl (by omega)).2.1, us, h1, h2⟩

theorem run_index_slice [Sites] (hU : U.Ok P) {t el : TypeId} (hk : (U t).k = .slice el) (hr : (U el).real = true) {b o n cap : Nat} {k : Int} {kk : IntKind} (h : 0 ≤ k ∧ k < (n : Int)) :
    (Instr.indexAt t (.slice (some ⟨b, o, none⟩) n cap) (.int kk k)).run P w = .ok (.pointer (some ⟨b, o + k.toNat * (U el).size, none⟩)) w := by
  have hu := (hU t (by simp [hk])).1
  simp only [TD.kindOk, hk] at hu
  obtain ⟨_, hinfo, _⟩ := real_ok hU hr
  simp [Instr.indexAt, asIntOf, run_underlying hu, h.1, h.2, run_sizeOf_of hinfo, addr_add]

theorem eptr_elem {t : Ty} {x : t.den} {us : List Value} {b o : Nat} (hI : c.I b) (h1 : TR c.I w t x us) (h2 : CellsAt w b o us) : VR c w (.eptr (cellsOf t x)) (.pointer (some ⟨b, o, none⟩)) := by
  simp only [VR]
  exact ⟨b, o, us, rfl, fun _ => hI, cellsOf_ok h1, h2⟩

theorem vIndexAddr_ok [Sites] (hU : U.Ok P) {o : Oper} {t : TypeId} {x i : Operand} (ho : o.op = .indexAddr t x i) {v : AV} (h : vIndexAddr U lk (U t) (ρ x) (ρ i) = some (v, true)) (hρ : Ops.Ok c w ρ e) (hk : Obs.Ok c w lk) : Reads P c w (execOp e o) v := by
  unfold vIndexAddr at h
  split at h
  · rename_i el hkk
    split at h
    · rename_i ik k hr hi
      have hi' := hρ _ _ hi
      simp only [VR] at hi'
      split at h
      · rename_i t' l hx
        split at h
        · rename_i hb
          have hb := Nat.eq_of_beq_eq_true hb
          simp only [Option.some.injEq, Prod.mk.injEq] at h
          obtain ⟨rfl, hq⟩ := h
          have hq := inB_iff.1 hq
          have hx' := hρ _ _ hx
          simp only [VR] at hx'
          have hx2 := hx'
          obtain ⟨A, cap, ex, _⟩ := hx2
          rw [ex] at hx'
          obtain ⟨b, q, rfl, hI, us, h1, h2⟩ := hx'.elem (i := k.toNat) (by omega)
          exact ⟨_, by simp [execOp, ho, ex, hi'.1, run_index_slice hU hkk hr hq]; rfl, by rw [← hb]; exact eptr_elem hI h1 h2⟩
        · cases h
      · rename_i sz n cs hx
        split at h
        · rename_i hb
          have hb := Nat.eq_of_beq_eq_true hb
          simp only [Option.some.injEq, Prod.mk.injEq] at h
          obtain ⟨rfl, hq⟩ := h
          have hq := inB_iff.1 hq
          have hx' := hρ _ _ hx
          simp only [VR] at hx'
          obtain ⟨b, us, ex, hn, hI, hp, hc⟩ := hx'
          refine ⟨_, by simp [execOp, ho, ex, hi'.1, run_index_slice hU hkk hr hq]; rfl, ?_⟩
          simp only [VR]
          refine ⟨b, k.toNat * sz, us.drop (k.toNat * sz), by rw [hb], fun _ => hI, hp.drop _, fun j u hj => ?_⟩
          rw [List.getElem?_drop] at hj
          have := hc _ u hj
          rwa [Nat.zero_add] at this
        · cases h
      · rename_i id hx
        have hx' := hρ _ _ hx
        simp only [VR] at hx'
        split at h
        · rename_i e' t' l hl
          split at h
          · rename_i hb
            have hb := Nat.eq_of_beq_eq_true hb
            simp only [Option.some.injEq, Prod.mk.injEq] at h
            obtain ⟨rfl, hq⟩ := h
            have hq := inB_iff.1 hq
            obtain ⟨v, us, h1, h2, h3⟩ := hk _ _ hl
            rw [hx'.1] at h1
            simp only [Option.some.injEq] at h1
            rcases h2.2 with ⟨h0, _⟩ | ⟨b, cap, cur, ev, _⟩ | ⟨b, es, q, ev, _⟩
            rotate_left 2
            · have h4 := hx'.2
              rw [h1, ev] at h4
              cases h4
            · omega
            · rw [ev] at h1
              refine ⟨_, by simp [execOp, ho, h1, hi'.1, run_index_slice hU hkk hr hq]; rfl, ?_⟩
              simp only [VR]
              exact ⟨b, l.length, cap, by rw [hx'.1, h1], by rw [← hb]; simp⟩
          · cases h
        · rename_i t' l hl
          split at h
          · rename_i hb
            have hb := Nat.eq_of_beq_eq_true hb
            simp only [Option.some.injEq, Prod.mk.injEq] at h
            obtain ⟨rfl, hq⟩ := h
            have hq := inB_iff.1 hq
            obtain ⟨v, h1, h2⟩ := hk _ _ hl
            rw [hx'.1] at h1
            simp only [Option.some.injEq] at h1
            have hx2 := h2
            obtain ⟨A, cap, ex, _⟩ := hx2
            rw [ex] at h2
            obtain ⟨b, q, rfl, hI, us, h3, h4⟩ := h2.elem (i := k.toNat) (by omega)
            exact ⟨_, by simp [execOp, ho, h1, ex, hi'.1, run_index_slice hU hkk hr hq]; rfl, by rw [← hb]; exact eptr_elem hI h3 h4⟩
          · cases h
        · cases h
      · cases h
    · cases h
  · rename_i n el hkk
    split at h
    · rename_i ik k hr hi
      have hi' := hρ _ _ hi
      simp only [VR] at hi'
      split at h
      · rename_i id n' hx
        have hx' := hρ _ _ hx
        simp only [VR] at hx'
        split at h
        · rename_i e' t' l hl
          split at h
          · rename_i hb
            simp only [Bool.and_eq_true] at hb
            have hb1 := Nat.eq_of_beq_eq_true hb.1
            have hb2 := Nat.eq_of_beq_eq_true hb.2
            simp only [Option.some.injEq, Prod.mk.injEq] at h
            obtain ⟨rfl, hq⟩ := h
            have hq := inB_iff.1 hq
            subst hb2
            obtain ⟨b, h1, _, h2⟩ := hx'
            have hu := (hU t (by simp [hkk])).1
            simp only [TD.kindOk, hkk] at hu
            obtain ⟨_, hinfo, _⟩ := real_ok hU hr
            refine ⟨.pointer (some ⟨b, k.toNat * (U el).size, none⟩), ?_, ?_⟩
            · simp [execOp, ho, h2, hi'.1, Instr.indexAt, asIntOf, run_underlying hu, Instr.sureAddr, hq.1, hq.2, run_sizeOf_of hinfo, addr_add]
            · simp only [VR]
              exact ⟨b, n', n', h1, by rw [hb1]; simp⟩
          · cases h
        · cases h
      · cases h
    · cases h
  · cases h

theorem vNil_ok [Sites] {o : Oper} {x : Operand} (ho : o.op = .nilCheck x) {v : AV} {q : Bool} (h : vNil (ρ x) = some (v, q)) (hρ : Ops.Ok c w ρ e) : Reads P c w (execOp e o) v := by
  unfold vNil at h
  split at h
  · rename_i i j hx
    have h1 := hρ _ _ hx
    have h1' := h1
    simp only [VR] at h1
    obtain ⟨b, _, e1⟩ := h1
    rw [(ok_some h).1]
    exact ⟨e x, by simp [execOp, ho, e1], h1'⟩
  · rename_i cs hx
    have h1 := hρ _ _ hx
    have h1' := h1
    simp only [VR] at h1
    obtain ⟨b, q, us, e1, _⟩ := h1
    rw [(ok_some h).1]
    exact ⟨e x, by simp [execOp, ho, e1], h1'⟩
  · rename_i i1 i2 i j hx
    have h1 := hρ _ _ hx
    have h1' := h1
    simp only [VR] at h1
    obtain ⟨b, n, m, _, e1⟩ := h1
    rw [(ok_some h).1]
    exact ⟨e x, by simp [execOp, ho, e1], h1'⟩
  · rename_i i j hx
    have h1 := hρ _ _ hx
    have h1' := h1
    simp only [VR] at h1
    obtain ⟨b, _, _, e1⟩ := h1
    rw [(ok_some h).1]
    exact ⟨e x, by simp [execOp, ho, e1], h1'⟩
  · rename_i f a b hx
    have h1 := hρ _ _ hx
    have h1' := h1
    simp only [VR] at h1
    obtain ⟨us, vs, e1, _⟩ := h1
    rw [(ok_some h).1]
    exact ⟨e x, by simp [execOp, ho, e1], h1'⟩
  · cases h

theorem fields_at {t : TypeId} {fs : List (TypeId × Nat)} (h : (P.underlying t).bind fieldsOf = some fs) {f : Nat} {d : TypeId × Nat} (hd : fs[f]? = some d) :
    ∃ Fs F, P.underlying t = some (.struct Fs) ∧ Fs[f]? = some F ∧ F.type = d.1 ∧ F.offset = d.2 := by
  cases hu : P.underlying t with
  | none => simp [hu] at h
  | some D =>
    simp only [hu, Option.bind_some] at h
    cases D <;> simp [fieldsOf] at h
    rename_i Fs
    subst h
    simp only [List.getElem?_map, Array.getElem?_toList, Option.map_eq_some_iff] at hd
    obtain ⟨F, hF, rfl⟩ := hd
    exact ⟨Fs, F, rfl, hF, rfl, rfl⟩

theorem vFieldAddr_ok [Sites] (hU : U.Ok P) {o : Oper} {t : TypeId} {x : Operand} {f : Nat} (ho : o.op = .fieldAddr t x f) {v : AV} {q : Bool} (h : vFieldAddr U (U t) (ρ x) f = some (v, q)) (hρ : Ops.Ok c w ρ e) : Reads P c w (execOp e o) v := by
  unfold vFieldAddr at h
  split at h
  · rename_i fs hk
    have hu := (hU t (by simp [hk])).1
    simp only [TD.kindOk, hk] at hu
    split at h
    · rename_i d hd
      obtain ⟨Fs, F, hP, hF, e1, e2⟩ := fields_at hu hd
      split at h
      · rename_i hr
        obtain ⟨_, hi, hs⟩ := real_ok hU hr
        rw [← e1] at hi
        have hsz : (sizeOf F.type).run P w = .ok (U F.type).size w := run_sizeOf_of (by rw [← e1] at *; exact hi)
        have hne : (U F.type).size ≠ 0 := by rw [e1]; omega
        split at h
        · rename_i i j hx
          have h1 := hρ _ _ hx
          simp only [VR] at h1
          obtain ⟨b, h1, h2⟩ := h1
          rw [(ok_some h).1]
          refine ⟨.pointer (some ⟨b, j + d.2, none⟩), ?_, by simp only [VR]; exact ⟨b, h1, rfl⟩⟩
          simp [execOp, ho, h2, Instr.fieldAt, run_underlying hP, hF, Instr.sureAddr, fieldPlace, hsz, hne, e2, addr_add]
        · rename_i i1 i2 i j hx
          have h1 := hρ _ _ hx
          simp only [VR] at h1
          obtain ⟨b, n, cap, h1, h2⟩ := h1
          rw [(ok_some h).1]
          refine ⟨.pointer (some ⟨b, i * i2 + j + d.2, none⟩), ?_, by simp only [VR]; exact ⟨b, n, cap, h1, by rw [Nat.add_assoc]⟩⟩
          simp [execOp, ho, h2, Instr.fieldAt, run_underlying hP, hF, Instr.sureAddr, fieldPlace, hsz, hne, e2, addr_add]
        · rename_i cs hx
          have h1 := hρ _ _ hx
          simp only [VR] at h1
          obtain ⟨b, q, us, e3, hI, hp, hc⟩ := h1
          rw [(ok_some h).1]
          refine ⟨.pointer (some ⟨b, q + d.2, none⟩), ?_, by simp only [VR]; exact ⟨b, q + d.2, us.drop d.2, rfl, fun hl => hI (by simp at hl; omega), hp.drop _, hc.drop⟩⟩
          simp [execOp, ho, e3, Instr.fieldAt, run_underlying hP, hF, Instr.sureAddr, fieldPlace, hsz, hne, e2, addr_add]
        · cases h
      · cases h
    · cases h
  · cases h

theorem vField_ok [Sites] (hU : U.Ok P) {o : Oper} {t : TypeId} {x : Operand} {f : Nat} (ho : o.op = .field t x f) {v : AV} {q : Bool} (h : vField U (U t) (ρ x) f = some (v, q)) (hρ : Ops.Ok c w ρ e) : Reads P c w (execOp e o) v := by
  unfold vField at h
  split at h
  · rename_i fs hk
    have hu := (hU t (by simp [hk])).1
    simp only [TD.kindOk, hk] at hu
    split at h
    · rename_i d hd
      obtain ⟨Fs, F, hP, hF, e1, e2⟩ := fields_at hu hd
      split at h
      · rename_i cs hr hx
        obtain ⟨hkd, hi, hs⟩ := real_ok hU hr
        have h1 := hρ _ _ hx
        simp only [VR] at h1
        obtain ⟨us, e3, hv⟩ := h1
        split at h
        · rename_i v' hp
          split at h
          · rename_i hb
            rw [(ok_some h).1]
            have hlen := Nat.eq_of_beq_eq_true hb
            have hvd : VRs c w ((cs.drop d.2).take (U d.1).size) ((us.drop d.2).take (U d.1).size) := (hv.drop _).take _
            have hl2 := hvd.length
            rw [hlen] at hl2
            have hg : (isAgg F.type).run P w = .ok (U F.type).isAgg w := by rw [e1]; exact run_isAgg_of hkd hr
            have hz : (sizeOf F.type).run P w = .ok (U F.type).size w := by rw [e1]; exact run_sizeOf_of hi
            rcases pack_ok hp hvd with ⟨ha, hv'⟩ | ⟨ha, u, hu', hv'⟩
            · refine ⟨_, ?_, hv'⟩
              have hg' : (isAgg F.type).run P w = .ok true w := by rw [hg, e1, ha]
              have : us.toArray.extract d.2 (d.2 + (U d.1).size) = ((us.drop d.2).take (U d.1).size).toArray := by
                simp [List.extract_toArray, List.extract_eq_drop_take']
              rw [e1] at hg' hz
              simp [execOp, ho, e3, Instr.field, run_underlying hP, hF, part, hg', hz, asAgg, e1, e2, List.extract_eq_drop_take']
            · refine ⟨u, ?_, hv'⟩
              have hg' : (isAgg F.type).run P w = .ok false w := by rw [hg, e1, ha]
              have hget : us[d.2]? = some u := by
                have h0 : ((us.drop d.2).take (U d.1).size)[0]? = some u := by rw [hu']; rfl
                rw [List.getElem?_take, if_pos hs, List.getElem?_drop] at h0
                simpa using h0
              simp [execOp, ho, e3, Instr.field, run_underlying hP, hF, part, hg', asAgg, e2, hget]
          · cases h
        · cases h
      · cases h
    · cases h
  · cases h

theorem vIndex_ok [Sites] (hU : U.Ok P) {o : Oper} {t : TypeId} {x i : Operand} (ho : o.op = .index t x i) {v : AV} (h : vIndex (U t) (ρ x) (ρ i) = some (v, true)) (hρ : Ops.Ok c w ρ e) : Reads P c w (execOp e o) v := by
  unfold vIndex at h
  split at h
  · rename_i hk
    have hu := (hU t (by simp [hk])).1
    simp only [TD.kindOk, hk] at hu
    split at h
    · rename_i b kk k hx hi
      simp only [Option.some.injEq, Prod.mk.injEq] at h
      obtain ⟨rfl, hq⟩ := h
      have hq := inB_iff.1 hq
      have hi' := hρ _ _ hi
      have hx' := hρ _ _ hx
      simp only [VR] at hi' hx'
      have hlt : k.toNat < b.length := by omega
      refine ⟨.int .u8 ((b.getD k.toNat 0).toNat : Int), ?_, by simp only [VR]; exact ⟨trivial, fits_byte _⟩⟩
      have hg : (⟨b.toArray⟩ : ByteArray)[k.toNat]? = some (b.getD k.toNat 0) := by
        have h0 : k.toNat < (⟨b.toArray⟩ : ByteArray).size := by simpa [ByteArray.size] using hlt
        have h1 : (⟨b.toArray⟩ : ByteArray)[k.toNat]? = some (⟨b.toArray⟩ : ByteArray)[k.toNat] := by simp [h0]
        rw [h1]
        simp [hlt, ByteArray.getElem_eq_getElem_data]
      simp only [execOp, ho, hx'.1, hi'.1, Instr.index, asIntOf, Sem.run_bind, Sem.run_pure, Result.andThen_ok, run_underlying hu, hq.1, if_true, hg]
    · cases h
  · cases h

theorem vLoad_ok [Sites] (hU : U.Ok P) {o : Oper} {t : TypeId} {x : Operand} (ho : o.op = .load t x) {v : AV} (h : vLoad lk (U t) (ρ x) = some (v, true)) (hρ : Ops.Ok c w ρ e) (hk : Obs.Ok c w lk) : Reads P c w (execOp e o) v := by
  unfold vLoad at h
  split at h
  · rename_i hr
    split at h
    · rename_i i j hx
      have h1 := hρ _ _ hx
      simp only [VR] at h1
      obtain ⟨b, h1, h2⟩ := h1
      split at h
      · rename_i bt cs hb
        split at h
        rotate_left
        · cases h
        rename_i hbig
        split at h
        · rename_i v' hl
          rw [(ok_some h).1]
          obtain ⟨b', us, h3, h4, h5⟩ := hk _ _ hb
          rw [boxObj_small hbig] at h4
          rw [h1] at h3
          simp only [Option.some.injEq, Value.pointer.injEq, Addr.mk.injEq, and_true] at h3
          subst h3
          have hc0 : CellsAt w b 0 us := fun k u hk => by
            rw [cell_of_row w b (0 + k) us.toArray bt (0, 0) h4]
            simpa using hk
          have hc := hc0.drop (n := j)
          rw [Nat.zero_add] at hc
          obtain ⟨u, hu, hv⟩ := loadCs_ok (P := P) hU hr hl (h5.drop j) hc
          exact ⟨u, by simp [execOp, ho, h2, Instr.loadAt, Instr.sureAddr, hu], hv⟩
        · cases h
      · cases h
    · rename_i cs hx
      have h1 := hρ _ _ hx
      simp only [VR] at h1
      obtain ⟨b, q, us, e3, hI, hp', hc⟩ := h1
      split at h
      · rename_i v' hl
        rw [(ok_some h).1]
        obtain ⟨u, hu, hv⟩ := loadCs_ok (P := P) hU hr hl hp' hc
        exact ⟨u, by simp [execOp, ho, e3, Instr.loadAt, Instr.sureAddr, hu], hv⟩
      · cases h
    · rename_i id sz i j hx
      have h1 := hρ _ _ hx
      simp only [VR] at h1
      obtain ⟨b, n, cap, h1, h2⟩ := h1
      split at h
      · rename_i e' t' l hl
        split at h
        · rename_i hb
          have hb := Nat.eq_of_beq_eq_true hb
          split at h
          · rename_i v' hv'
            simp only [Option.some.injEq, Prod.mk.injEq, decide_eq_true_eq] at h
            obtain ⟨rfl, hlt⟩ := h
            obtain ⟨v, us, h3, h4, h5⟩ := hk _ _ hl
            rw [h1] at h3
            simp only [Option.some.injEq] at h3
            have hseq := h4.seq (by rw [← h3]; rfl) h5
            rw [← h3] at hseq
            obtain ⟨b', o', e4, us', h6, h7⟩ := hseq.elem hlt
            simp only [Option.some.injEq, Addr.mk.injEq, and_true] at e4
            obtain ⟨rfl, rfl⟩ := e4
            rw [Nat.zero_add, ← hb] at h7
            obtain ⟨u, hu, hv⟩ := loadCs_ok (P := P) hU hr hv' ((cellsOf_ok h6).drop j) (h7.drop (n := j))
            exact ⟨u, by simp [execOp, ho, h2, Instr.loadAt, Instr.sureAddr, hu], hv⟩
          · cases h
        · cases h
      · cases h
    · cases h
  · cases h

theorem vExtract_ok [Sites] {o : Oper} {x : Operand} {i : Nat} (ho : o.op = .extract x i) {v : AV} {q : Bool} (h : vExtract (ρ x) i = some (v, q)) (hρ : Ops.Ok c w ρ e) : Reads P c w (execOp e o) v := by
  unfold vExtract at h
  split at h
  · rename_i cs hx
    have h1 := hρ _ _ hx
    simp only [VR] at h1
    obtain ⟨us, e3, hv⟩ := h1
    obtain ⟨u, hu, hvu⟩ := hv.get (vMove_some h)
    exact ⟨u, by simp [execOp, ho, e3, Instr.extract, hu], hvu⟩
  · cases h
end
end Go.Hay
/- The evaluator of reading operations is right, third part. -/
set_option linter.unusedVariables false
set_option linter.unusedSimpArgs false
namespace Go.Hay
open Go.RowKit
section
variable {P : Program} {U : TEnv} {c : Cf} {w : World} {lk : Lk} {ρ : Operand → Option AV} {e : Operand → Value}

theorem equal_of {t : TypeId} {u v : Value} {b : Bool} (h : ∀ d, (Op.equalIn (d + 2) t u v).run P w = .ok b w) : (Op.equal t u v).run P w = .ok b w := h 9998

def SameRun (P : Program) (w : World) (t : TypeId) (u v : Value) (b : Bool) : Prop :=
  (∀ op x y, (eqGuard op t x y u v).run P w = .ok () w) ∧ (Op.equal t u v).run P w = .ok b w ∧ (∀ op, op = .eql → binOp op t u v = (do pure (.bool (← Op.equal t u v)))) ∧ (∀ op, op = .neq → binOp op t u v = (do pure (.bool (!(← Op.equal t u v)))))

theorem eqCell_ok [Sites] (hU : U.Ok P) {t : TypeId} {x y : AV} {u v : Value} {b : Bool} (h : eqCell (U t).k x y = some b) (hx : VR c w x u) (hy : VR c w y v) (d : Nat) :
    (isAgg t).run P w = .ok false w ∧ (Op.equalIn (d + 1) t u v).run P w = .ok b w := by
  unfold eqCell at h
  split at h
  · rename_i k' k a k2 b' hk
    have hu := (hU t (by simp [hk])).1
    simp only [TD.kindOk, hk] at hu
    simp only [VR] at hx hy
    cases hik : ikEq k k2 with
    | false => simp [hik] at h
    | true =>
      have := ikEq_eq hik
      subst this
      simp only [hik, cond_true, Option.some.injEq] at h
      refine ⟨by simp [isAgg, run_underlying hu], ?_⟩
      rw [hx.1, hy.1, run_equalIn_int (P := P) w d t k k' a b' hu, ← h]
      by_cases e : a = b' <;> simp [e]
  · rename_i a b' hk
    have hu := (hU t (by simp [hk])).1
    simp only [TD.kindOk, hk] at hu
    simp only [VR] at hx hy
    simp only [Option.some.injEq] at h
    exact ⟨by simp [isAgg, run_underlying hu], by rw [hx, hy, run_equalIn_bool' (P := P) w d t a b' hu, h]⟩
  · rename_i a b' hk
    have hu := (hU t (by simp [hk])).1
    simp only [TD.kindOk, hk] at hu
    simp only [VR] at hx hy
    simp only [Option.some.injEq] at h
    refine ⟨by simp [isAgg, run_underlying hu], ?_⟩
    rw [hx.1, hy.1, run_equalIn_string (P := P) w d t _ _ hu, bytes_list, bytes_list, ← h]
    by_cases e : a = b' <;> simp [e]
  · cases h

def EqOk [Sites] (P : Program) (U : TEnv) (c : Cf) (w : World) (E : TypeId → List AV → List AV → Option Bool) (n : Nat) : Prop :=
  ∀ (t : TypeId) (xs ys : List AV) (us vs : List Value) (b : Bool), E t xs ys = some b → VRs c w xs us → VRs c w ys vs → us.length = (U t).size → vs.length = (U t).size →
    ∀ pre post pre' post' : List Value, ∃ a a', (part t (pre ++ (us ++ post)).toArray pre.length).run P w = .ok a w ∧ (part t (pre' ++ (vs ++ post')).toArray pre'.length).run P w = .ok a' w ∧
      (Op.equalIn n t a a').run P w = .ok b w

theorem eqOne_ok [Sites] (hU : U.Ok P) (d : Nat) {t : TypeId} {xs ys : List AV} {us vs : List Value} {b : Bool} (h : eqOne (U t).k xs ys = some b) (hx : VRs c w xs us) (hy : VRs c w ys vs) (pre post pre' post' : List Value) :
    ∃ a a', (part t (pre ++ (us ++ post)).toArray pre.length).run P w = .ok a w ∧ (part t (pre' ++ (vs ++ post')).toArray pre'.length).run P w = .ok a' w ∧ (Op.equalIn (d + 1) t a a').run P w = .ok b w := by
  unfold eqOne at h
  split at h
  · rename_i x y
    simp only [VRs] at hx hy
    obtain ⟨u, us', rfl, hx1, rfl⟩ := hx
    obtain ⟨v, vs', rfl, hy1, rfl⟩ := hy
    obtain ⟨hagg, heq⟩ := eqCell_ok (P := P) (c := c) (w := w) hU h hx1 hy1 d
    exact ⟨u, v, by simp [part, hagg], by simp [part, hagg], heq⟩
  · cases h

theorem eqFs_ok [Sites] {E : TypeId → List AV → List AV → Option Bool} {n : Nat} (hE : EqOk P U c w E n) : ∀ (Fs : List Field) (i : Nat) (xs ys : List AV) (us vs pre pre' : List Value) (b : Bool), pre.length = i → pre'.length = i →
    Fs.all (fun f => f.name != "_") = true → eqFs U E i (Fs.map fun f => (f.type, f.offset)) xs ys = some b → VRs c w xs us → VRs c w ys vs →
    (Op.eqFields n (pre ++ us).toArray (pre' ++ vs).toArray Fs).run P w = .ok b w
  | [], i, xs, ys, us, vs, pre, pre', b, h1, h2, hn, he, hx, hy => by
    cases xs <;> cases ys <;> simp only [List.map_nil, eqFs, Option.some.injEq, reduceCtorEq] at he
    subst he
    simp [Op.eqFields]
  | F :: Fs, i, xs, ys, us, vs, pre, pre', b, h1, h2, hn, he, hx, hy => by
    simp only [List.all_cons, Bool.and_eq_true, bne_iff_ne, ne_eq] at hn
    simp only [List.map_cons, eqFs] at he
    cases hb : Nat.beq F.offset i && (Nat.ble (U F.type).size xs.length && Nat.ble (U F.type).size ys.length) with
    | false => simp [hb] at he
    | true =>
      simp only [hb, cond_true] at he
      simp only [Bool.and_eq_true] at hb
      have hoff := Nat.eq_of_beq_eq_true hb.1
      have hlx := Nat.le_of_ble_eq_true hb.2.1
      have hly := Nat.le_of_ble_eq_true hb.2.2
      split at he
      · rename_i b1 b2 e1 e2
        simp only [Option.some.injEq] at he
        subst he
        have l1 : (us.take (U F.type).size).length = (U F.type).size := by rw [List.length_take, hx.length]; omega
        have l2 : (vs.take (U F.type).size).length = (U F.type).size := by rw [List.length_take, hy.length]; omega
        obtain ⟨a, a', p1, p2, heq⟩ := hE F.type _ _ _ _ b1 e1 (hx.take (U F.type).size) (hy.take (U F.type).size) l1 l2 pre (us.drop (U F.type).size) pre' (vs.drop (U F.type).size)
        rw [List.take_append_drop] at p1 p2
        have ih := eqFs_ok hE Fs (i + (U F.type).size) _ _ _ _ (pre ++ us.take (U F.type).size) (pre' ++ vs.take (U F.type).size) b2 (by rw [List.length_append, l1, h1]) (by rw [List.length_append, l2, h2]) hn.2 e2 (hx.drop (U F.type).size) (hy.drop (U F.type).size)
        rw [List.append_assoc, List.append_assoc, List.take_append_drop, List.take_append_drop] at ih
        have hne : ¬ (F.name = "_") := hn.1
        have q1 : pre.length = F.offset := by rw [h1, hoff]
        have q2 : pre'.length = F.offset := by rw [h2, hoff]
        rw [q1] at p1
        rw [q2] at p2
        simp only [Op.eqFields, ne_eq, hne, not_false_eq_true, if_true, Sem.run_bind, p1, p2, Result.andThen_ok, heq]
        cases b1 with
        | false => simp
        | true => simpa using ih
      · cases he

theorem fields_of {t : TypeId} {fs : List (TypeId × Nat)} (h : (P.underlying t).bind fieldsOf = some fs) :
    P.underlying t = some (.struct (P.fieldsOf t)) ∧ fs = (P.fieldsOf t).toList.map fun f => (f.type, f.offset) := by
  cases hu : P.underlying t with
  | none => simp [hu] at h
  | some D =>
    simp only [hu, Option.bind_some] at h
    cases D <;> simp [fieldsOf] at h
    subst h
    simp [Program.fieldsOf, hu]

theorem eqT_ok [Sites] (hU : U.Ok P) : ∀ (d m : Nat), EqOk P U c w (eqT U d) (m + d + 1)
  | 0, m => fun t xs ys us vs b h hx hy _ _ pre post pre' post' => eqOne_ok hU m h hx hy pre post pre' post'
  | d + 1, m => fun t xs ys us vs b h hx hy lx ly pre post pre' post' => by
    simp only [eqT] at h
    split at h
    · rename_i fs hk
      cases hc : (U t).eq && Nat.ble 1 (U t).size with
      | false => simp [hc] at h
      | true =>
        simp only [hc, cond_true] at h
        simp only [Bool.and_eq_true] at hc
        have hu := hU t (by simp [hk])
        obtain ⟨g1, g2, g3⟩ := hu.2.2 hc.1
        have hu1 := hu.1
        simp only [TD.kindOk, hk] at hu1
        obtain ⟨hF, rfl⟩ := fields_of hu1
        have hz : (sizeOf t).run P w = .ok (U t).size w := run_sizeOf_of hu.2.1
        have hg : (isAgg t).run P w = .ok true w := by simp [isAgg, run_underlying hF]
        refine ⟨.agg us.toArray, .agg vs.toArray, ?_, ?_, ?_⟩
        · simp [part, hg, hz, List.extract_eq_drop_take', ← lx]
        · simp [part, hg, hz, List.extract_eq_drop_take', ← ly]
        · rw [run_equalIn_struct (P := P) w (m + (d + 1)) t _ _ hF g1]
          have := eqFs_ok (eqT_ok hU d m) (P.fieldsOf t).toList 0 xs ys us vs [] [] b rfl rfl g3 h hx hy
          rw [show m + (d + 1) = m + d + 1 from rfl]
          simpa using this
    · exact eqOne_ok hU (m + d + 1) h hx hy pre post pre' post'

theorem vSame_ok [Sites] (hU : U.Ok P) {t : TypeId} {x y : AV} {b : Bool} {u v : Value} (h : vSame U (U t) x y = some b) (h1 : VR c w x u) (h2 : VR c w y v) : SameRun P w t u v b := by
  unfold vSame at h
  split at h
  · rename_i hk
    have hu := (hU t (by simp [hk])).1
    simp only [TD.kindOk, hk] at hu
    split at h
    · rename_i m n
      simp only [VR] at h1 h2
      subst h1; subst h2
      simp only [Option.some.injEq] at h
      subst h
      exact ⟨fun op x y => by cases op <;> rfl, equal_of fun d => by simp [Op.equalIn, run_underlying hu], fun op e => by subst e; rfl, fun op e => by subst e; rfl⟩
    · cases h
  · rename_i el hk
    have hu := (hU t (by simp [hk])).1
    simp only [TD.kindOk, hk] at hu
    split at h
    · rename_i i j
      simp only [VR] at h1 h2
      obtain ⟨bb, _, rfl⟩ := h1
      subst h2
      simp only [Option.some.injEq] at h
      subst h
      exact ⟨fun op x y => by cases op <;> rfl, equal_of fun d => by simp [Op.equalIn, run_underlying hu], fun op e => by subst e; rfl, fun op e => by subst e; rfl⟩
    · simp only [VR] at h1 h2
      subst h1; subst h2
      simp only [Option.some.injEq] at h
      subst h
      exact ⟨fun op x y => by cases op <;> rfl, equal_of fun d => by simp [Op.equalIn, run_underlying hu], fun op e => by subst e; rfl, fun op e => by subst e; rfl⟩
    · cases h
  · rename_i fs hk
    have hu := (hU t (by simp [hk]))
    have hu1 := hu.1
    simp only [TD.kindOk, hk] at hu1
    obtain ⟨hF, rfl⟩ := fields_of hu1
    split at h
    · rename_i xs ys
      simp only [VR] at h1 h2
      obtain ⟨us, rfl, h1⟩ := h1
      obtain ⟨vs, rfl, h2⟩ := h2
      cases hc : (U t).eq with
      | false => simp [hc] at h
      | true =>
        simp only [hc, cond_true] at h
        obtain ⟨g1, g2, g3⟩ := hu.2.2 hc
        refine ⟨fun op x y => run_eqGuard_agg w op t x y _ _ g2, ?_, fun op e => by subst e; rfl, fun op e => by subst e; rfl⟩
        show (Op.equalIn (9994 + 5 + 1) t _ _).run P w = _
        rw [run_equalIn_struct (P := P) w (9994 + 5) t _ _ hF g1]
        have := eqFs_ok (eqT_ok (P := P) (c := c) (w := w) hU 4 9994) (P.fieldsOf t).toList 0 xs ys us vs [] [] b rfl rfl g3 h h1 h2
        simpa using this
    · cases h
  · rename_i hk
    have hu := (hU t (by simp [hk])).1
    simp only [TD.kindOk, hk] at hu
    split at h
    · simp only [VR] at h1 h2
      obtain ⟨us, vs, rfl, _⟩ := h1
      subst h2
      simp only [Option.some.injEq] at h
      subst h
      cases hd : P.underlying t with
      | none => simp [hd] at hu
      | some D =>
        cases D <;> simp [hd, funcDesc] at hu
        exact ⟨fun op x y => by cases op <;> rfl, equal_of fun d => by simp [Op.equalIn, run_underlying hd], fun op e => by subst e; rfl, fun op e => by subst e; rfl⟩
    · cases h
  · cases h

theorem vBin_ok [Sites] (hU : U.Ok P) {o : Oper} {op : BinOp} {t yt : TypeId} {x y : Operand} (ho : o.op = .binOp op t x y yt) {v : AV}
    (h : vBin U op t (ρ x) (ρ y) = some (v, true)) (hρ : Ops.Ok c w ρ e) : Reads P c w (execOp e o) v := by
  unfold vBin at h
  split at h
  · rename_i k m k' n hx hy
    have h1 := hρ _ _ hx
    have h2 := hρ _ _ hy
    simp only [VR] at h1 h2
    obtain ⟨u, hr, hv⟩ := vInt_ok (P := P) (c := c) (w := w) (t := t) h h1.2
    exact ⟨u, by simp [execOp, ho, h1.1, h2.1, eqGuard_int, hr], hv⟩
  · rename_i m n hx hy
    have h1 := hρ _ _ hx
    have h2 := hρ _ _ hy
    simp only [VR] at h1 h2
    obtain ⟨u, hr, hv⟩ := vStr_ok (P := P) (c := c) (w := w) h h1.2 h2.2
    exact ⟨u, by simp [execOp, ho, h1.1, h2.1, eqGuard_string, binOp_string, hr], hv⟩
  · rename_i x' y' _ _ hx hy
    split at h
    · split at h
      · rename_i b hb
        obtain ⟨hg, he, hq, _⟩ := vSame_ok (c := c) (w := w) hU hb (hρ _ _ hx) (hρ _ _ hy)
        rw [(ok_some h).1]
        exact ⟨.bool b, by simp [execOp, ho, hg, hq _ rfl, he], by simp [VR]⟩
      · cases h
    · split at h
      · rename_i b hb
        obtain ⟨hg, he, _, hq⟩ := vSame_ok (c := c) (w := w) hU hb (hρ _ _ hx) (hρ _ _ hy)
        rw [(ok_some h).1]
        exact ⟨.bool (!b), by simp [execOp, ho, hg, hq _ rfl, he], by simp [VR]⟩
      · cases h
    · cases h
  · cases h

theorem args_one {args : Array Operand} {x : Operand} (h : args.toList = [x]) : args = #[x] := by
  apply Array.toList_inj.1
  simpa using h
theorem args_two {args : Array Operand} {x y : Operand} (h : args.toList = [x, y]) : args = #[x, y] := by
  apply Array.toList_inj.1
  simpa using h

theorem lenOf_ok [Sites] (hk : Obs.Ok c w lk) {x : AV} {n : Nat} (h : lenOf lk x = some n) {u : Value} (hv : VR c w x u) : ∃ A cap, u = .slice A n cap ∧ n ≤ maxLen := by
  have key : ∀ {t : Ty} {l : List t.den} {v : Value}, SeqAt c w t l v → ∃ A cap, v = .slice A l.length cap ∧ l.length ≤ maxLen := by
    rintro t l v ⟨A, cap, us, e, h1, h2, _⟩
    exact ⟨A, cap, e, Nat.le_trans h1 h2⟩
  unfold lenOf at h
  split at h
  · simp only [Option.some.injEq] at h
    subst h
    simp only [VR] at hv
    exact key hv.seq
  · simp only [Option.some.injEq] at h
    subst h
    simp only [VR] at hv
    obtain ⟨A, rfl⟩ := hv
    exact ⟨A, 0, rfl, Nat.zero_le _⟩
  · rename_i id
    simp only [VR] at hv
    split at h
    · rename_i e t' l' hl
      simp only [Option.some.injEq] at h
      subst h
      obtain ⟨v, h1, h2⟩ := (row_seq hk hv.1 hv.2).1 _ _ _ hl
      rw [hv.1] at h1; simp only [Option.some.injEq] at h1; subst h1
      exact key h2
    · rename_i t' l' hl
      simp only [Option.some.injEq] at h
      subst h
      obtain ⟨v, h1, h2⟩ := (row_seq hk hv.1 hv.2).2 _ _ hl
      rw [hv.1] at h1; simp only [Option.some.injEq] at h1; subst h1
      exact key h2
    · cases h
  · rename_i id sz lo n'
    simp only [VR] at hv
    obtain ⟨A, n0, cap, h1, h2, h3, rfl⟩ := hv
    cases h
    exact ⟨_, _, rfl, by omega⟩
  · simp only [VR] at hv
    obtain ⟨b, us, rfl, h1, _⟩ := hv
    cases h
    exact ⟨_, _, rfl, h1.2.1⟩
  · cases h

theorem len_fits {n : Nat} (h : n ≤ maxLen) : fits .i64 (n : Int) = true := by
  unfold maxLen at h
  simp [fits]; omega

theorem vBuiltin_ok [Sites] (hU : U.Ok P) {o : Oper} {b : Builtin} {args : Array Operand} {ts : Array TypeId} (ho : o.op = .call { callee := .builtin b, args := args, argTypes := ts }) {v : AV}
    (h : vBuiltin U ρ lk b args.toList ts.toList = some (v, true)) (hρ : Ops.Ok c w ρ e) (hk : Obs.Ok c w lk) : Reads P c w (execOp e o) v := by
  generalize htl : args.toList = l at h
  generalize hts : ts.toList = tl at h
  unfold vBuiltin at h
  split at h
  · rename_i x t r
    have := args_one htl
    subst this
    have ht : ts[0]? = some t := by rw [← Array.getElem?_toList, hts]; rfl
    unfold vLen at h
    split at h
    · rename_i e' hkk
      have hu := (hU t (by simp [hkk])).1
      simp only [TD.kindOk, hkk] at hu
      split at h
      · rename_i x' hx
        split at h
        · rename_i n hn
          obtain ⟨A, cap, ex, hm⟩ := lenOf_ok hk hn (hρ _ _ hx)
          rw [(ok_some h).1]
          exact ⟨.int .i64 n, by simp [execOp, ho, resolve, invoke, builtin, ex, Builtin.len_, ht, run_underlying hu, goInt], by simp only [VR]; exact ⟨trivial, len_fits hm⟩⟩
        · cases h
      · cases h
    · rename_i hkk
      have hu := (hU t (by simp [hkk])).1
      simp only [TD.kindOk, hkk] at hu
      split at h
      · rename_i b hx
        have h1 := hρ _ _ hx
        simp only [VR] at h1
        rw [(ok_some h).1]
        exact ⟨.int .i64 b.length, by
          have hsz : (⟨b.toArray⟩ : ByteArray).size = b.length := by simp [ByteArray.size]
          simp [execOp, ho, resolve, invoke, builtin, h1.1, Builtin.len_, ht, run_underlying hu, goInt]
          exact congrArg Int.ofNat hsz, by simp only [VR]; exact ⟨trivial, len_fits h1.2⟩⟩
      · cases h
    · cases h
  · rename_i x t r
    have := args_one htl
    subst this
    have ht : ts[0]? = some t := by rw [← Array.getElem?_toList, hts]; rfl
    unfold vCap at h
    split at h
    · rename_i e' hkk hx
      have hu := (hU t (by simp [hkk])).1
      simp only [TD.kindOk, hkk] at hu
      have h1 := hρ _ _ hx
      simp only [VR] at h1
      obtain ⟨A, ex⟩ := h1
      rw [(ok_some h).1]
      exact ⟨.int .i64 0, by simp [execOp, ho, resolve, invoke, builtin, ex, Builtin.cap_, ht, run_underlying hu, goInt], by simp only [VR]; exact ⟨rfl, by decide⟩⟩
    · cases h
  · rename_i x y _
    have := args_two htl
    subst this
    unfold vMinMax at h
    split at h
    · rename_i m n hx hy
      have h1 := hρ _ _ hx
      have h2 := hρ _ _ hy
      simp only [VR] at h1 h2
      rw [(ok_some h).1]
      refine ⟨.int .i64 (if n > m then n else m), by simp [execOp, ho, resolve, invoke, builtin, h1.1, h2.1, Builtin.max_, Builtin.max2], ?_⟩
      simp only [cond_true, VR]
      refine ⟨by congr 1; omega, ?_⟩
      rcases Int.le_total m n with hh | hh
      · rw [Int.max_eq_right hh]; exact h2.2
      · rw [Int.max_eq_left hh]; exact h1.2
    · cases h
  · rename_i x y _
    have := args_two htl
    subst this
    unfold vMinMax at h
    split at h
    · rename_i m n hx hy
      have h1 := hρ _ _ hx
      have h2 := hρ _ _ hy
      simp only [VR] at h1 h2
      rw [(ok_some h).1]
      refine ⟨.int .i64 (if n < m then n else m), by simp [execOp, ho, resolve, invoke, builtin, h1.1, h2.1, Builtin.min_, Builtin.min2], ?_⟩
      simp only [cond_false, VR]
      refine ⟨by congr 1; omega, ?_⟩
      rcases Int.le_total m n with hh | hh
      · rw [Int.min_eq_left hh]; exact h1.2
      · rw [Int.min_eq_right hh]; exact h2.2
    · cases h
  · cases h

theorem partL_eq {α : Type} {lo hi : Option (Option AV)} {l : List α} {a b : Int} (h1 : loOf lo = some a) (h2 : hiOf l.length hi = some b) : partL lo hi l a b = (l.take b.toNat).drop a.toNat := by
  unfold partL
  split
  · simp only [loOf, hiOf, Option.some.injEq] at h1 h2
    subst h1; subst h2
    simp
  · simp only [loOf, Option.some.injEq] at h1
    subst h1
    simp
  · simp only [hiOf, Option.some.injEq] at h2
    subst h2
    simp
  · rfl

theorem okB_iff {a b : Int} {n : Nat} : okB a b n = true ↔ 0 ≤ a ∧ a ≤ b ∧ b ≤ (n : Int) := by simp [okB]

theorem run_bounds (hρ : Ops.Ok c w ρ e) {lo hi : Option Operand} {a b : Int} {n cap : Nat} (h1 : loOf (lo.map ρ) = some a) (h2 : hiOf n (hi.map ρ) = some b) (hb : 0 ≤ a ∧ a ≤ b ∧ b ≤ (n : Int)) (hc : n ≤ cap) (isSl : Bool) :
    (Instr.sliceBounds isSl n cap (lo.map e) (hi.map e) none).run P w = .ok (a.toNat, b.toNat, cap) w := by
  have hhi : hi = none ∧ b = n ∨ ∃ k, hi.map e = some (.int k b) := by
    cases hi with
    | none => simp only [Option.map_none, hiOf, Option.some.injEq] at h2; exact .inl ⟨rfl, h2.symm⟩
    | some y =>
      right
      simp only [Option.map_some] at h2 ⊢
      unfold hiOf at h2
      split at h2
      · rename_i hh; cases hh
      · rename_i k q hh
        simp only [Option.some.injEq] at h2 hh
        have := hρ _ _ hh
        simp only [VR] at this
        rw [this.1, h2]
        exact ⟨k, rfl⟩
      · cases h2
  have hlo : lo = none ∧ a = 0 ∨ ∃ k, lo.map e = some (.int k a) := by
    cases lo with
    | none => simp only [Option.map_none, loOf, Option.some.injEq] at h1; exact .inl ⟨rfl, h1.symm⟩
    | some y =>
      right
      simp only [Option.map_some] at h1 ⊢
      unfold loOf at h1
      split at h1
      · rename_i hh; cases hh
      · rename_i k q hh
        simp only [Option.some.injEq] at h1 hh
        have := hρ _ _ hh
        simp only [VR] at this
        rw [this.1, h1]
        exact ⟨k, rfl⟩
      · cases h1
  have hbc : 0 ≤ b ∧ b ≤ (cap : Int) := by omega
  have hab : 0 ≤ a ∧ a ≤ (b.toNat : Int) := by omega
  have han : a ≤ (n : Int) := by omega
  rcases hhi with ⟨rfl, rfl⟩ | ⟨k, hh⟩ <;> rcases hlo with ⟨rfl, rfl⟩ | ⟨k', hl⟩
  · simp [Instr.sliceBounds]
  · rw [hl]; simp [Instr.sliceBounds, Instr.sliceBound, asIntOf, hab.1, han]
  · rw [hh]; simp [Instr.sliceBounds, Instr.sliceBound, asIntOf, hbc.1, hbc.2]
  · rw [hh, hl]; simp only [Instr.sliceBounds, Instr.sliceBound, asIntOf, Sem.run_bind, Sem.run_pure, Result.andThen_ok, hbc, and_self, if_true, hab]

theorem run_slice_of [Sites] (hU : U.Ok P) {t el : TypeId} (hk : (U t).k = .slice el) (hr : (U el).real = true) (hρ : Ops.Ok c w ρ e) {lo hi : Option Operand} {a b : Int} {A : Option Addr} {n cap : Nat}
    (h1 : loOf (lo.map ρ) = some a) (h2 : hiOf n (hi.map ρ) = some b) (hb : 0 ≤ a ∧ a ≤ b ∧ b ≤ (n : Int)) (hc : n ≤ cap) :
    (Instr.sliceAt t (.slice A n cap) (lo.map e) (hi.map e) none).run P w = .ok (.slice (if cap = a.toNat then A else A.map (·.add (a.toNat * (U el).size))) (b.toNat - a.toNat) (cap - a.toNat)) w := by
  have hu := (hU t (by simp [hk])).1
  simp only [TD.kindOk, hk] at hu
  obtain ⟨_, hinfo, _⟩ := real_ok hU hr
  simp [Instr.sliceAt, Instr.slice, run_underlying hu, run_bounds (P := P) hρ h1 h2 hb hc true, run_sizeOf_of hinfo]
end
end Go.Hay
/- The evaluator of reading operations is right, last part: slices, composites; all operations. -/
set_option linter.unusedVariables false
set_option linter.unusedSimpArgs false
namespace Go.Hay
open Go.RowKit
section
variable {P : Program} {U : TEnv} {c : Cf} {w : World} {lk : Lk} {ρ : Operand → Option AV} {e : Operand → Value}

theorem list_part [Sites] {t : Ty} {l : List t.den} {A : Option Addr} {n cap : Nat} (h : SliceAt c.I w (TR c.I w t) l (.slice A n cap)) {lo hi : Option (Option AV)} {a b : Int} (h1 : loOf lo = some a) (h2 : hiOf l.length hi = some b) (hb : 0 ≤ a ∧ a ≤ b ∧ b ≤ (l.length : Int)) :
    VR c w (.list t (partL lo hi l a b)) (.slice (if cap = a.toNat then A else A.map (·.add (a.toNat * t.size))) (b.toNat - a.toNat) (cap - a.toNat)) := by
  simp only [VR]
  rw [partL_eq h1 h2]
  exact h.part TR_len_fun (by omega) (by omega)

theorem row_part {id : Nat} {A : Option Addr} {n cap sz : Nat} (h : c.nm id = some (.slice A n cap)) (hn : n ≤ maxLen) {a b : Int} (hb : 0 ≤ a ∧ a ≤ b ∧ b ≤ (n : Int)) :
    VR c w (.view id sz a.toNat (b - a).toNat) (.slice (if cap = a.toNat then A else A.map (·.add (a.toNat * sz))) (b.toNat - a.toNat) (cap - a.toNat)) := by
  simp only [VR]
  refine ⟨A, n, cap, h, by omega, hn, ?_⟩
  congr 1
  omega

theorem run_slice_zero [Sites] (hU : U.Ok P) {t el : TypeId} (hk : (U t).k = .slice el) (hr : (U el).real = true) (hρ : Ops.Ok c w ρ e) {lo : Option Operand} {y z : Operand} {k k' : IntKind}
    (h1 : loOf (lo.map ρ) = some 0) (h2 : ρ y = some (.int k 0)) (h3 : ρ z = some (.int k' 0)) (A : Option Addr) (n cap : Nat) :
    (Instr.sliceAt t (.slice A n cap) (lo.map e) (some (e y)) (some (e z))).run P w = .ok (.slice A 0 0) w := by
  have hu := (hU t (by simp [hk])).1
  simp only [TD.kindOk, hk] at hu
  obtain ⟨_, hinfo, _⟩ := real_ok hU hr
  have hy := hρ _ _ h2
  have hz := hρ _ _ h3
  simp only [VR] at hy hz
  have hlo : lo = none ∨ ∃ k, lo.map e = some (.int k 0) := by
    cases lo with
    | none => exact .inl rfl
    | some y =>
      right
      simp only [Option.map_some] at h1 ⊢
      unfold loOf at h1
      split at h1
      · rename_i hh; cases hh
      · rename_i k q hh
        simp only [Option.some.injEq] at h1 hh
        have := hρ _ _ hh
        simp only [VR] at this
        rw [this.1, h1]
        exact ⟨k, rfl⟩
      · cases h1
  rw [hy.1, hz.1]
  rcases hlo with rfl | ⟨k, hl⟩
  · simp [Instr.sliceAt, Instr.slice, run_underlying hu, Instr.sliceBounds, Instr.sliceBound, asIntOf, run_sizeOf_of hinfo]
  · rw [hl]
    simp [Instr.sliceAt, Instr.slice, run_underlying hu, Instr.sliceBounds, Instr.sliceBound, asIntOf, run_sizeOf_of hinfo]

theorem map_some_op {lo : Option Operand} {k : IntKind} {z : Int} (h : lo.map ρ = some (some (.int k z))) : ∃ y, lo = some y ∧ ρ y = some (.int k z) := by
  cases lo with
  | none => simp at h
  | some y => simp only [Option.map_some, Option.some.injEq] at h; exact ⟨y, rfl, h⟩

theorem vSlice_ok [Sites] (hU : U.Ok P) {o : Oper} {t : TypeId} {x : Operand} {lo hi mx : Option Operand} (ho : o.op = .slice t x lo hi mx) {v : AV}
    (h : vSlice U (obOf lk (ρ x)) (U t) (ρ x) (lo.map ρ) (hi.map ρ) (mx.map ρ) = some (v, true)) (hρ : Ops.Ok c w ρ e) (hk : Obs.Ok c w lk) : Reads P c w (execOp e o) v := by
  have hzero : ∀ {el : TypeId} {k k' : IntKind}, (U t).k = .slice el → (U el).real = true → (mx.map ρ = some (some (.int k 0))) → (hi.map ρ = some (some (.int k' 0))) → loOf (lo.map ρ) = some 0 →
      (∃ A n cap, e x = .slice A n cap) → Reads P c w (execOp e o) .nils := by
    intro el k k' hkk hr hm hh hl ⟨A, n, cap, ex⟩
    obtain ⟨y, rfl, hy⟩ := map_some_op hm
    obtain ⟨z, rfl, hz⟩ := map_some_op hh
    have := run_slice_zero (P := P) hU hkk hr hρ hl hz hy A n cap
    exact ⟨.slice A 0 0, by simp [execOp, ho, ex, this], by simp only [VR]; exact ⟨A, rfl⟩⟩
  unfold vSlice at h
  split at h
  · rename_i hkk
    have hu := (hU t (by simp [hkk])).1
    simp only [TD.kindOk, hkk] at hu
    split at h
    · rename_i l hx
      have hx' := hρ _ _ hx
      simp only [VR] at hx'
      split at h
      · rename_i a b h1 h2 h3
        simp only [Option.some.injEq, Prod.mk.injEq] at h
        obtain ⟨rfl, hq⟩ := h
        have hq := okB_iff.1 hq
        have hm : mx = none := by cases mx with | none => rfl | some y => simp at h3
        subst hm
        have hsz : (⟨l.toArray⟩ : ByteArray).size = l.length := by simp [ByteArray.size]
        have hbd := run_bounds (P := P) (w := w) hρ h1 h2 hq (Nat.le_refl _) false
        refine ⟨.string ⟨(partL (lo.map ρ) (hi.map ρ) l a b).toArray⟩, ?_, ?_⟩
        · have hext : (⟨l.toArray⟩ : ByteArray).extract a.toNat b.toNat = ⟨(partL (lo.map ρ) (hi.map ρ) l a b).toArray⟩ := by
            apply ByteArray.ext
            rw [partL_eq h1 h2]
            rw [List.drop_take]
            simp [List.extract_eq_drop_take']
            try omega
          simp only [execOp, ho, hx'.1, Option.map_none, Instr.sliceAt, Instr.slice, run_underlying hu, Sem.run_bind, Result.andThen_ok, hsz, hbd, Option.isSome_none, Bool.false_eq_true, if_false, Sem.run_pure, hext]
        · simp only [VR]
          refine ⟨trivial, ?_⟩
          rw [partL_eq h1 h2]
          simp
          omega
      · cases h
    · cases h
  · rename_i el hkk
    split at h
    · rename_i hr
      split at h
      · rename_i hmx
        have hm : mx = none := by cases mx with | none => rfl | some y => simp at hmx
        subst hm
        split at h
        · rename_i t' l hx
          have hx' := hρ _ _ hx
          simp only [VR] at hx'
          split at h
          · rename_i a b h1 h2 h3
            simp only [Option.some.injEq, Prod.mk.injEq] at h
            obtain ⟨rfl, hq⟩ := h
            have hq := okB_iff.1 hq
            have hb := Nat.eq_of_beq_eq_true h3
            have hx2 := hx'
            obtain ⟨A, cap, ex, hn, _⟩ := hx2
            rw [ex] at hx'
            refine ⟨_, ?_, list_part hx' h1 h2 hq⟩
            rw [hb]
            simp only [execOp, ho, ex, Option.map_none, run_slice_of (P := P) hU hkk hr hρ h1 h2 hq hn, Sem.run_bind, Result.andThen_ok, Sem.run_pure]
          · cases h
        · rename_i hx
          have hx' := hρ _ _ hx
          simp only [VR] at hx'
          obtain ⟨A, ex⟩ := hx'
          split at h
          · rename_i a b h1 h2
            simp only [Option.some.injEq, Prod.mk.injEq] at h
            obtain ⟨rfl, hq⟩ := h
            have hq := okB_iff.1 hq
            have e1 : a.toNat = 0 := by omega
            have e2 : b.toNat = 0 := by omega
            refine ⟨.slice A 0 0, ?_, by simp only [VR]; exact ⟨A, rfl⟩⟩
            have := run_slice_of (P := P) (A := A) (cap := 0) hU hkk hr hρ h1 h2 hq (Nat.le_refl _)
            rw [e1, e2] at this
            simp only [execOp, ho, ex, Option.map_none, this, Sem.run_bind, Result.andThen_ok, Sem.run_pure]
            simp
          · cases h
        · rename_i id hx
          have hx' := hρ _ _ hx
          simp only [VR] at hx'
          split at h
          · rename_i e' t' l hl
            rw [hx] at hl
            have hl : lk id = _ := hl
            split at h
            · rename_i a b h1 h2 h3
              simp only [Option.some.injEq, Prod.mk.injEq] at h
              obtain ⟨rfl, hq⟩ := h
              have hq := okB_iff.1 hq
              have hb := Nat.eq_of_beq_eq_true h3
              obtain ⟨v, us, g1, g2, g3⟩ := hk _ _ hl
              obtain ⟨A, cap, ex, hn, hm, _⟩ := g2.cells (by have h9 := hx'.2; rw [hx'.1] at g1; simp only [Option.some.injEq] at g1; rw [← g1]; exact h9)
              rw [hx'.1] at g1
              simp only [Option.some.injEq] at g1
              rw [ex] at g1
              refine ⟨_, ?_, row_part (by rw [hx'.1, g1]) (by omega) hq⟩
              rw [hb]
              simp only [execOp, ho, g1, Option.map_none, run_slice_of (P := P) hU hkk hr hρ h1 h2 hq hn, Sem.run_bind, Result.andThen_ok, Sem.run_pure]
            · cases h
          · rename_i t' l hl
            rw [hx] at hl
            have hl : lk id = _ := hl
            split at h
            · rename_i a b h1 h2 h3
              simp only [Option.some.injEq, Prod.mk.injEq] at h
              obtain ⟨rfl, hq⟩ := h
              have hq := okB_iff.1 hq
              have hb := Nat.eq_of_beq_eq_true h3
              obtain ⟨v, g1, g2⟩ := hk _ _ hl
              rw [hx'.1] at g1
              simp only [Option.some.injEq] at g1
              have hx2 := g2
              obtain ⟨A, cap, ex, hn, _⟩ := hx2
              rw [ex] at g2 g1
              refine ⟨_, ?_, list_part g2 h1 h2 hq⟩
              rw [hb]
              simp only [execOp, ho, g1, Option.map_none, run_slice_of (P := P) hU hkk hr hρ h1 h2 hq hn, Sem.run_bind, Result.andThen_ok, Sem.run_pure]
            · cases h
          · cases h
        · cases h
      · rename_i k hm
        split at h
        · rename_i k' hl hh
          have hz := @hzero el k k' hkk hr hm hh hl
          split at h
          · rename_i t' l hx
            have hx' := hρ _ _ hx
            simp only [VR] at hx'
            obtain ⟨A, cap, ex, _⟩ := hx'
            rw [(ok_some h).1]
            exact hz ⟨_, _, _, ex⟩
          · rename_i hx
            have hx' := hρ _ _ hx
            simp only [VR] at hx'
            obtain ⟨A, ex⟩ := hx'
            rw [(ok_some h).1]
            exact hz ⟨_, _, _, ex⟩
          · rename_i id hx
            have hx' := hρ _ _ hx
            simp only [VR] at hx'
            split at h
            · rename_i e' t' l hl
              rw [hx] at hl
              have hl : lk id = _ := hl
              obtain ⟨v, us, g1, g2, g3⟩ := hk _ _ hl
              obtain ⟨A, cap, ex, _⟩ := g2.cells (by have h9 := hx'.2; rw [hx'.1] at g1; simp only [Option.some.injEq] at g1; rw [← g1]; exact h9)
              rw [hx'.1] at g1
              simp only [Option.some.injEq] at g1
              rw [(ok_some h).1]
              exact hz ⟨_, _, _, g1.trans ex⟩
            · rename_i t' l hl
              rw [hx] at hl
              have hl : lk id = _ := hl
              obtain ⟨v, g1, g2⟩ := hk _ _ hl
              rw [hx'.1] at g1
              simp only [Option.some.injEq] at g1
              obtain ⟨A, cap, ex, hn, _⟩ := g2
              rw [(ok_some h).1]
              exact hz ⟨_, _, _, g1.trans ex⟩
            · cases h
          · rename_i hx
            have hx' := hρ _ _ hx
            simp only [VR] at hx'
            obtain ⟨A, n0, cap, _, _, _, ex⟩ := hx'
            rw [(ok_some h).1]
            exact hz ⟨_, _, _, ex⟩
          · cases h
        · cases h
      · cases h
    · cases h
  · rename_i n el hkk
    have hu := (hU t (by simp [hkk])).1
    simp only [TD.kindOk, hkk] at hu
    split at h
    · rename_i id n' a b hr hx h1 h2 h3
      have hm : mx = none := by cases mx with | none => rfl | some y => simp at h3
      subst hm
      have hx' := hρ _ _ hx
      simp only [VR] at hx'
      obtain ⟨bb, g1, g3, g2⟩ := hx'
      split at h
      · rename_i e' t' l hl
        split at h
        · rename_i hb
          simp only [Bool.and_eq_true] at hb
          simp only [Option.some.injEq, Prod.mk.injEq] at h
          obtain ⟨rfl, hq⟩ := h
          have hq := okB_iff.1 hq
          have hb1 := Nat.eq_of_beq_eq_true hb.1
          have hb2 := Nat.eq_of_beq_eq_true hb.2
          subst hb2
          have hbd := run_bounds (P := P) (w := w) hρ h1 h2 hq (Nat.le_refl _) false
          obtain ⟨_, hinfo, _⟩ := real_ok hU hr
          refine ⟨_, ?_, row_part g1 g3 hq⟩
          rw [hb1]
          simp only [execOp, ho, g2, Option.map_none, Instr.sliceAt, run_underlying hu, Sem.run_bind, Result.andThen_ok, Instr.sureAddr, hbd, run_sizeOf_of hinfo, Sem.run_pure]
          congr 3
          split <;> rfl
        · cases h
      · cases h
    · cases h
  · cases h
end
end Go.Hay
