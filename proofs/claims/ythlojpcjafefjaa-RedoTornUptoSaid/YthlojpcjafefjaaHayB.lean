/- Symbolic values and states, and what they say of a world. Conditions: none. -/
import Derived.Test.YthlojpcjafefjaaHayA
import Derived.MapKept
set_option linter.unusedVariables false
set_option linter.unusedSimpArgs false
namespace Go.Hay
open Go.RowKit

/-- Symbolic values. 'own id': the slice value of a row with that name; 'view': a part of it; 'ptr id off': a cell of a box; 'rptr id sz i k': cell k of element i of a row; 'aptr id n': a pointer to an array of ours; 'eptr cs': a pointer to cells that nobody writes; 'elist sz n cs': a slice of n elements, in cells that nobody writes; 'yld id': the function that gives a range over a function its next values, its record being box id; 'mp id': a map, its entries being row id. -/
inductive AV where
  | int (k : IntKind) (n : Int)
  | bool (b : Bool)
  | str (s : List UInt8)
  | list (t : Ty) (l : List t.den)
  | nils
  | own (id : Nat)
  | view (id sz lo n : Nat)
  | ptr (id off : Nat)
  | rptr (id sz i k : Nat)
  | aptr (id n : Nat)
  | eptr (cs : List AV)
  | elist (sz n : Nat) (cs : List AV)
  | nilp
  | agg (cs : List AV)
  | tup (cs : List AV)
  | fn (f : Fn) (first cap : List AV)
  | raw (v : Value)
  | junk
  | yld (id : Nat)
  | mp (id : Nat)

/-- What a name stands for, and which blocks nobody writes. -/
structure Cf where
  nm : Nat → Option Value
  I : Nat → Prop

def isSlice : Value → Bool | .slice _ _ _ => true | _ => false

mutual
def VR (c : Cf) (w : World) : AV → Value → Prop
  | .int k n, u => u = .int k n ∧ fits k n = true
  | .bool b, u => u = .bool b
  | .str s, u => u = .string ⟨s.toArray⟩ ∧ s.length ≤ maxLen
  | .list t l, u => SliceAt c.I w (TR c.I w t) l u
  | .nils, u => ∃ A, u = .slice A 0 0
  | .own id, u => c.nm id = some u ∧ isSlice u = true
  | .view id sz lo n, u => ∃ A n0 cap, c.nm id = some (.slice A n0 cap) ∧ lo + n ≤ n0 ∧ n0 ≤ maxLen ∧ u = .slice (if cap = lo then A else A.map (·.add (lo * sz))) n (cap - lo)
  | .ptr id off, u => ∃ b, c.nm id = some (.pointer (some ⟨b, 0, none⟩)) ∧ u = .pointer (some ⟨b, off, none⟩)
  | .rptr id sz i k, u => ∃ b n cap, c.nm id = some (.slice (some ⟨b, 0, none⟩) n cap) ∧ u = .pointer (some ⟨b, i * sz + k, none⟩)
  | .aptr id n, u => ∃ b, c.nm id = some (.slice (some ⟨b, 0, none⟩) n n) ∧ n ≤ maxLen ∧ u = .pointer (some ⟨b, 0, none⟩)
  | .eptr cs, u => ∃ b o us, u = .pointer (some ⟨b, o, none⟩) ∧ (0 < cs.length → c.I b) ∧ VRs c w cs us ∧ CellsAt w b o us
  | .elist sz n cs, u => ∃ b us, u = .slice (some ⟨b, 0, none⟩) n n ∧ (0 < n ∧ n ≤ maxLen ∧ cs.length = n * sz) ∧ c.I b ∧ VRs c w cs us ∧ CellsAt w b 0 us
  | .nilp, u => u = .pointer none
  | .agg cs, u => ∃ us : List Value, u = .agg us.toArray ∧ VRs c w cs us
  | .tup cs, u => ∃ us : List Value, u = .tuple us.toArray ∧ VRs c w cs us
  | .fn f first cap, u => ∃ us vs : List Value, u = .func f us.toArray vs.toArray ∧ VRs c w first us ∧ VRs c w cap vs
  | .raw v, u => u = v
  | .junk, _ => True
  | .yld id, u => ∃ b, c.nm id = some (.pointer (some ⟨b, 0, none⟩)) ∧ u = .func (.yield b) #[] #[]
  | .mp id, u => ∃ b, c.nm id = some (.map (some b)) ∧ u = .map (some b)
def VRs (c : Cf) (w : World) : List AV → List Value → Prop
  | [], us => us = []
  | x :: xs, us => ∃ u us', us = u :: us' ∧ VR c w x u ∧ VRs c w xs us'
end

/-- Names stand for what they stood for, and what nobody writes lasts. -/
structure Ext (c : Cf) (w : World) (c' : Cf) (w' : World) : Prop where
  nm : ∀ i v, c.nm i = some v → c'.nm i = some v
  lasts : Lasts c.I c'.I w w'

theorem Ext.refl (c : Cf) (w : World) : Ext c w c w := ⟨fun _ _ h => h, Lasts.refl _ _⟩
theorem Ext.trans {c c' c'' : Cf} {w w' w'' : World} (h : Ext c w c' w') (k : Ext c' w' c'' w'') : Ext c w c'' w'' :=
  ⟨fun i v hv => k.nm i v (h.nm i v hv), h.lasts.trans k.lasts⟩

theorem SliceAt.lasts {I I' : Nat → Prop} {w w' : World} (h : Lasts I I' w w') {t : Ty} {l : List t.den} {u : Value} (hx : SliceAt I w (TR I w t) l u) : SliceAt I' w' (TR I' w' t) l u := by
  have h1 : TR I w (.slice t) l [u] := ⟨u, rfl, hx⟩
  obtain ⟨u', e, h2⟩ := TR.lasts h h1
  simp only [List.cons.injEq, and_true] at e
  subst e
  exact h2

mutual
theorem VR.ext {c c' : Cf} {w w' : World} (h : Ext c w c' w') : ∀ (x : AV) (u : Value), VR c w x u → VR c' w' x u
  | .int k n, u, hx => by unfold VR at hx ⊢; exact hx
  | .bool b, u, hx => by unfold VR at hx ⊢; exact hx
  | .str s, u, hx => by unfold VR at hx ⊢; exact hx
  | .list t l, u, hx => by unfold VR at hx ⊢; exact hx.lasts h.lasts
  | .nils, u, hx => by unfold VR at hx ⊢; exact hx
  | .own id, u, hx => by unfold VR at hx ⊢; exact ⟨h.nm _ _ hx.1, hx.2⟩
  | .view id sz lo n, u, hx => by
    unfold VR at hx ⊢
    obtain ⟨A, n0, cap, h1, h2⟩ := hx
    exact ⟨A, n0, cap, h.nm _ _ h1, h2⟩
  | .ptr id off, u, hx => by
    unfold VR at hx ⊢
    obtain ⟨b, h1, h2⟩ := hx
    exact ⟨b, h.nm _ _ h1, h2⟩
  | .rptr id sz i k, u, hx => by
    unfold VR at hx ⊢
    obtain ⟨b, n, cap, h1, h2⟩ := hx
    exact ⟨b, n, cap, h.nm _ _ h1, h2⟩
  | .aptr id n, u, hx => by
    unfold VR at hx ⊢
    obtain ⟨b, h1, h2⟩ := hx
    exact ⟨b, h.nm _ _ h1, h2⟩
  | .eptr cs, u, hx => by
    unfold VR at hx ⊢
    obtain ⟨b, o, us, e, hI, hp, hc⟩ := hx
    refine ⟨b, o, us, e, fun hl => h.lasts.sub _ (hI hl), VRs.ext h cs us hp, ?_⟩
    cases cs with
    | nil =>
      unfold VRs at hp
      subst hp
      intro j u hj
      simp at hj
    | cons x xs => exact hc.lasts h.lasts (hI (by simp))
  | .elist sz n cs, u, hx => by
    unfold VR at hx ⊢
    obtain ⟨b, us, e, hn, hI, hp, hc⟩ := hx
    exact ⟨b, us, e, hn, h.lasts.sub _ hI, VRs.ext h cs us hp, hc.lasts h.lasts hI⟩
  | .nilp, u, hx => by unfold VR at hx ⊢; exact hx
  | .agg cs, u, hx => by
    unfold VR at hx ⊢
    obtain ⟨us, e, hc⟩ := hx
    exact ⟨us, e, VRs.ext h cs us hc⟩
  | .tup cs, u, hx => by
    unfold VR at hx ⊢
    obtain ⟨us, e, hc⟩ := hx
    exact ⟨us, e, VRs.ext h cs us hc⟩
  | .fn f first cap, u, hx => by
    unfold VR at hx ⊢
    obtain ⟨us, vs, e, h1, h2⟩ := hx
    exact ⟨us, vs, e, VRs.ext h first us h1, VRs.ext h cap vs h2⟩
  | .raw v, u, hx => by unfold VR at hx ⊢; exact hx
  | .junk, u, hx => by unfold VR; trivial
  | .yld id, u, hx => by
    unfold VR at hx ⊢
    obtain ⟨b, h1, h2⟩ := hx
    exact ⟨b, h.nm _ _ h1, h2⟩
  | .mp id, u, hx => by
    unfold VR at hx ⊢
    obtain ⟨b, h1, h2⟩ := hx
    exact ⟨b, h.nm _ _ h1, h2⟩
theorem VRs.ext {c c' : Cf} {w w' : World} (h : Ext c w c' w') : ∀ (xs : List AV) (us : List Value), VRs c w xs us → VRs c' w' xs us
  | [], us, hx => by unfold VRs at hx ⊢; exact hx
  | x :: xs, us, hx => by
    unfold VRs at hx ⊢
    obtain ⟨u, us', e, h1, h2⟩ := hx
    exact ⟨u, us', e, VR.ext h x u h1, VRs.ext h xs us' h2⟩
end

section
variable {c : Cf} {w : World}
theorem VRs.length {xs : List AV} : ∀ {us : List Value}, VRs c w xs us → us.length = xs.length := by
  induction xs with
  | nil => intro us h; simp only [VRs] at h; simp [h]
  | cons x xs ih =>
    intro us h
    simp only [VRs] at h
    obtain ⟨u, us', rfl, _, h2⟩ := h
    simp [ih h2]
theorem VRs.drop {xs : List AV} : ∀ {us : List Value} (n : Nat), VRs c w xs us → VRs c w (xs.drop n) (us.drop n) := by
  induction xs with
  | nil => intro us n h; simp only [VRs] at h; subst h; simp [VRs]
  | cons x xs ih =>
    intro us n h
    cases n with
    | zero => simpa using h
    | succ n =>
      simp only [VRs] at h
      obtain ⟨u, us', rfl, _, h2⟩ := h
      simpa using ih n h2
theorem VRs.take {xs : List AV} : ∀ {us : List Value} (n : Nat), VRs c w xs us → VRs c w (xs.take n) (us.take n) := by
  induction xs with
  | nil => intro us n h; simp only [VRs] at h; subst h; simp [VRs]
  | cons x xs ih =>
    intro us n h
    cases n with
    | zero => simp [VRs]
    | succ n =>
      simp only [VRs] at h
      obtain ⟨u, us', rfl, h1, h2⟩ := h
      simp only [List.take_succ_cons, VRs]
      exact ⟨u, us'.take n, rfl, h1, ih n h2⟩
theorem VRs.append {xs ys : List AV} {us vs : List Value} (h1 : VRs c w xs us) (h2 : VRs c w ys vs) : VRs c w (xs ++ ys) (us ++ vs) := by
  induction xs generalizing us with
  | nil => simp only [VRs] at h1; subst h1; simpa using h2
  | cons x xs ih =>
    simp only [VRs] at h1
    obtain ⟨u, us', rfl, h3, h4⟩ := h1
    simp only [List.cons_append, VRs]
    exact ⟨u, us' ++ vs, rfl, h3, ih h4⟩
theorem VRs.get {xs : List AV} : ∀ {us : List Value} {i : Nat} {x : AV}, VRs c w xs us → xs[i]? = some x → ∃ u, us[i]? = some u ∧ VR c w x u := by
  induction xs with
  | nil => intro us i x h hx; simp at hx
  | cons y xs ih =>
    intro us i x h hx
    simp only [VRs] at h
    obtain ⟨u, us', rfl, h1, h2⟩ := h
    cases i with
    | zero => simp at hx; subst hx; exact ⟨u, rfl, h1⟩
    | succ i => simpa using ih h2 (by simpa using hx)
end

/-- Plain data as symbolic cells. -/
def cellsOf : (t : Ty) → t.den → List AV
  | .byte, x => [.int .u8 (x.toNat : Int)]
  | .int k, x => [.int k x]
  | .bool, x => [.bool x]
  | .str, x => [.str x]
  | .slice t, l => [.list t l]
  | .pair a b, x => cellsOf a x.1 ++ cellsOf b x.2
  | .unit, _ => []

theorem fits_byte (x : UInt8) : fits .u8 (x.toNat : Int) = true := by
  have := x.toNat_lt
  simp [fits]; omega

theorem cellsOf_ok {c : Cf} {w : World} : ∀ {t : Ty} {x : t.den} {us : List Value}, TR c.I w t x us → VRs c w (cellsOf t x) us
  | .byte, x, us, h => by simp only [TR] at h; subst h; simp [cellsOf, VRs, VR, fits_byte]
  | .int k, x, us, h => by simp only [TR] at h; rw [h.1]; simp [cellsOf, VRs, VR, h.2]
  | .bool, x, us, h => by simp only [TR] at h; subst h; simp [cellsOf, VRs, VR]
  | .str, x, us, h => by simp only [TR] at h; rw [h.1]; simp [cellsOf, VRs, VR, h.2]
  | .slice t, x, us, h => by simp only [TR] at h; obtain ⟨u, rfl, h1⟩ := h; simpa [cellsOf, VRs, VR] using h1
  | .pair a b, x, us, h => by
    simp only [TR] at h
    obtain ⟨u, v, rfl, h1, h2⟩ := h
    exact (cellsOf_ok h1).append (cellsOf_ok h2)
  | .unit, x, us, h => by simp only [TR] at h; subst h; simp [cellsOf, VRs]

theorem cellsOf_len : ∀ (t : Ty) (x : t.den), (cellsOf t x).length = t.size
  | .byte, x => rfl
  | .int k, x => rfl
  | .bool, x => rfl
  | .str, x => rfl
  | .slice t, x => rfl
  | .pair a b, x => by simp [cellsOf, Ty.size, cellsOf_len a, cellsOf_len b]
  | .unit, x => rfl

/-- Objects: boxes and rows; those that are only read here (rbox, rrow); rows that nobody writes any more; names without an object. -/
inductive Ob where
  | box (t : TypeId) (cs : List AV)
  | row (e : TypeId) (t : Ty) (l : List t.den)
  | rbox (t : TypeId) (cs : List AV)
  | rrow (e : TypeId) (t : Ty) (l : List t.den)
  | frow (t : Ty) (l : List t.den)
  | dead

def look {α : Type} : List (Nat × α) → Nat → Option α
  | [], _ => none
  | (k, v) :: r, i => bif Nat.beq k i then some v else look r i
def put {α : Type} : List (Nat × α) → Nat → α → List (Nat × α)
  | [], i, x => [(i, x)]
  | (k, v) :: r, i, x => bif Nat.beq k i then (k, x) :: r else (k, v) :: put r i x

theorem beq_no {i j : Nat} (h : i ≠ j) : Nat.beq i j = false := by
  cases hb : Nat.beq i j with
  | false => rfl
  | true => exact absurd (Nat.eq_of_beq_eq_true hb) h
theorem look_put {α : Type} (l : List (Nat × α)) (i j : Nat) (x : α) : look (put l i x) j = if i = j then some x else look l j := by
  induction l with
  | nil =>
    by_cases h : i = j
    · subst h; simp [put, look]
    · have := beq_no h
      simp [put, look, h, this]
  | cons p r ih =>
    obtain ⟨k, v⟩ := p
    unfold put
    by_cases hk : k = i
    · subst hk
      by_cases h : k = j
      · subst h; simp [look]
      · have := beq_no h
        simp [look, h, this]
    · have h1 := beq_no hk
      simp only [h1, cond_false, look]
      by_cases h : k = j
      · subst h
        have : ¬ i = k := fun e => hk e.symm
        simp [this]
      · have h2 := beq_no h
        simp only [h2, cond_false, ih]
theorem look_cons {α : Type} (k : Nat) (v : α) (r : List (Nat × α)) (i : Nat) : look ((k, v) :: r) i = if k = i then some v else look r i := by
  by_cases h : k = i
  · subst h; simp [look]
  · simp [look, beq_no h, h]

abbrev Env := List (Nat × AV)
abbrev Obs := List (Nat × Ob)

/-- Objects that are only read here. -/
def isRo : Ob → Bool | .rbox _ _ | .rrow _ _ _ => true | _ => false

def blockOf : Value → Option Nat
  | .pointer (some a) => some a.block
  | .slice (some a) _ cap => if cap = 0 then none else some a.block
  | .map (some b) => some b
  | _ => none

/-- Rows of these numbers are the entries of maps: keys, and elements behind them; from the second number on the elements are structs. -/
def isMapTy (e : TypeId) : Bool := Nat.ble 2000000 e
def mapAgg (e : TypeId) : Bool := Nat.ble 3000000 e
def isAggV : Value → Bool | .agg _ => true | _ => false

/-- The entries of a map as cells. -/
structure EntsAt (e : TypeId) (sz : Nat) (es : Array MapEntry) (clock : Nat) (us : List Value) : Prop where
  cells : us = es.toList.flatMap fun x => x.key :: x.val.cells.toList
  len : ∀ x ∈ es.toList, x.val.cells.size + 1 = sz
  agg : ∀ x ∈ es.toList, isAggV x.val = mapAgg e
  stamped : MapKept.Stamped es clock

/-- A slice value with a block of its own, or with no room at all; or a map. -/
def RowAt (w : World) (e : TypeId) (sz : Nat) (v : Value) (n : Nat) (us : List Value) : Prop :=
  us.length = n * sz ∧ ((n = 0 ∧ ∃ A, v = .slice A 0 0) ∨
    (∃ b cap cur, v = .slice (some ⟨b, 0, none⟩) n cap ∧ 0 < cap ∧ n ≤ cap ∧ cap ≤ maxLen ∧ w.heap[b]? = some (.cells cur e (0, 0)) ∧ cur.size = cap * sz ∧ cur.toList.take (n * sz) = us) ∨
    ∃ b es clock, v = .map (some b) ∧ w.heap[b]? = some (.map es clock) ∧ es.size = n ∧ EntsAt e sz es clock us ∧ isMapTy e = true)

/-- An object owns a block. -/
def Own (c : Cf) (id : Nat) : Ob → Nat → Prop
  | .box _ _, b | .row _ _ _, b | .rbox _ _, b | .rrow _ _ _, b => ∃ v, c.nm id = some v ∧ blockOf v = some b
  | _, _ => False

/-- Objects of other kinds than cells: what they are, by a number, out of values. -/
class Sites where
  obj : Nat → List Value → Obj
  ne : ∀ k us ds, obj k us ≠ .deferred ds

/-- Numbers of types from which on a box is an object of another kind. -/
def isBig (t : TypeId) : Bool := Nat.ble 1000000 t
def boxObj [Sites] (t : TypeId) (us : List Value) : Obj := bif isBig t then Sites.obj (t - 1000000) us else .cells us.toArray t (0, 0)


theorem boxObj_small [Sites] {t : TypeId} (h : isBig t = false) (us : List Value) : boxObj t us = .cells us.toArray t (0, 0) := by simp [boxObj, h]
theorem boxObj_ne [Sites] (t : TypeId) (us : List Value) (ds : Option (List Deferred)) : boxObj t us ≠ .deferred ds := by
  unfold boxObj
  cases isBig t with
  | true => exact Sites.ne _ _ _
  | false => exact fun h => by cases h

def ObR [Sites] (c : Cf) (w : World) (id : Nat) : Ob → Prop
  | .box t cs | .rbox t cs => ∃ b us, c.nm id = some (.pointer (some ⟨b, 0, none⟩)) ∧ w.heap[b]? = some (boxObj t us) ∧ VRs c w cs us
  | .row e t l | .rrow e t l => ∃ v us, c.nm id = some v ∧ RowAt w e t.size v l.length us ∧ Cat (TR c.I w t) l us
  | .frow t l => ∃ v, c.nm id = some v ∧ SliceAt c.I w (TR c.I w t) l v
  | .dead => True

/-- Where a piece of code began: the world, what nobody wrote, what was ours, what was only read; in which round of which range over a function; from which block on is what its function made. -/
structure Bs where
  w : World
  I : Nat → Prop
  M : Nat → Prop
  R : Nat → Prop
  rd : Option Nat
  fl : Nat

structure Rel [Sites] (B : Bs) (c : Cf) (s : Obs) (w : World) : Prop where
  ob : ∀ id o, look s id = some o → ObR c w id o
  dom : ∀ id, look s id = none → c.nm id = none
  sep : ∀ i j oi oj b, look s i = some oi → look s j = some oj → Own c i oi b → Own c j oj b → i = j
  imm : ∀ id o b, look s id = some o → Own c id o b → ¬ c.I b
  lo : ∀ b, c.I b → b < w.heap.size
  keep : ∀ b, b < B.w.heap.size → ¬ B.M b → w.heap[b]? = B.w.heap[b]?
  mine : ∀ id o b, look s id = some o → isRo o = false → Own c id o b → B.M b ∨ B.w.heap.size ≤ b
  ro : ∀ id o b, look s id = some o → Own c id o b → B.R b ∨ B.M b ∨ B.w.heap.size ≤ b
  sub : ∀ b, B.I b → c.I b
  new : ∀ b, c.I b → B.I b ∨ B.M b ∨ B.w.heap.size ≤ b
  os : w.os = B.w.os
  tape : w.tape = B.w.tape
  output : w.output = B.w.output
  size : B.w.heap.size ≤ w.heap.size

theorem RowAt.lt {w : World} {e : TypeId} {sz n : Nat} {v : Value} {us : List Value} (h : RowAt w e sz v n us) {b : Nat} (hb : blockOf v = some b) : b < w.heap.size := by
  rcases h.2 with ⟨_, A, rfl⟩ | ⟨g, cap, cur, rfl, h0, _, _, hg, _⟩ | ⟨g, es, k, rfl, hg, _⟩
  · cases A <;> simp [blockOf] at hb
  · simp [blockOf] at hb
    rw [← hb.2]
    exact (Array.getElem?_eq_some_iff.1 hg).1
  · simp [blockOf] at hb
    rw [← hb]
    exact (Array.getElem?_eq_some_iff.1 hg).1

/-- How an object reads. -/
def rd : Ob → Ob
  | .rbox t cs => .box t cs
  | .rrow e t l => .row e t l
  | o => o
theorem rd_obr [Sites] {c : Cf} {w : World} {id : Nat} {o : Ob} : ObR c w id (rd o) ↔ ObR c w id o := by cases o <;> exact Iff.rfl
theorem rd_own {c : Cf} {id b : Nat} {o : Ob} : Own c id (rd o) b ↔ Own c id o b := by cases o <;> exact Iff.rfl
theorem rd_cases (o : Ob) : (∃ t cs, rd o = .box t cs) ∨ (∃ e t l, rd o = .row e t l) ∨ (∃ t l, rd o = .frow t l) ∨ rd o = .dead := by
  cases o
  · exact .inl ⟨_, _, rfl⟩
  · exact .inr (.inl ⟨_, _, _, rfl⟩)
  · exact .inl ⟨_, _, rfl⟩
  · exact .inr (.inl ⟨_, _, _, rfl⟩)
  · exact .inr (.inr (.inl ⟨_, _, rfl⟩))
  · exact .inr (.inr (.inr rfl))

theorem ObR.lt [Sites] {c : Cf} {w : World} {id : Nat} {o : Ob} (h : ObR c w id o) {b : Nat} (ho : Own c id o b) : b < w.heap.size := by
  rw [← rd_obr] at h
  rw [← rd_own] at ho
  rcases rd_cases o with ⟨t, cs, e⟩ | ⟨e', t, l, e⟩ | ⟨t, l, e⟩ | e <;> rw [e] at h ho
  · obtain ⟨b', us, h1, h2, _⟩ := h
    obtain ⟨v, h3, h4⟩ := ho
    rw [h1] at h3
    simp only [Option.some.injEq] at h3
    subst h3
    simp only [blockOf, Option.some.injEq] at h4
    subst h4
    exact (Array.getElem?_eq_some_iff.1 h2).1
  · obtain ⟨v, us, h1, h2, _⟩ := h
    obtain ⟨v', h3, h4⟩ := ho
    rw [h1] at h3
    simp only [Option.some.injEq] at h3
    subst h3
    exact h2.lt h4
  · exact ho.elim
  · exact ho.elim

theorem RowAt.keep {w w' : World} {e : TypeId} {sz n : Nat} {v : Value} {us : List Value} (h : RowAt w e sz v n us) (hw : ∀ b, blockOf v = some b → w'.heap[b]? = w.heap[b]?) : RowAt w' e sz v n us := by
  refine ⟨h.1, ?_⟩
  rcases h.2 with h2 | ⟨g, cap, cur, hv, h0, h1, h2, hg, r⟩ | ⟨g, es, k, hv, hg, r⟩
  · exact .inl h2
  · exact .inr (.inl ⟨g, cap, cur, hv, h0, h1, h2, by rw [hw g (by rw [hv]; simp [blockOf]; omega)]; exact hg, r⟩)
  · exact .inr (.inr ⟨g, es, k, hv, by rw [hw g (by rw [hv]; simp [blockOf])]; exact hg, r⟩)

theorem ObR.ext [Sites] {c c' : Cf} {w w' : World} (h : Ext c w c' w') {id : Nat} {o : Ob} (ho : ObR c w id o) (hw : ∀ b, Own c id o b → w'.heap[b]? = w.heap[b]?) : ObR c' w' id o := by
  rw [← rd_obr] at ho ⊢
  have hw : ∀ b, Own c id (rd o) b → w'.heap[b]? = w.heap[b]? := fun b hb => hw b (rd_own.1 hb)
  rcases rd_cases o with ⟨t, cs, e⟩ | ⟨e', t, l, e⟩ | ⟨t, l, e⟩ | e <;> rw [e] at ho hw ⊢
  · obtain ⟨b, us, h1, h2, h3⟩ := ho
    exact ⟨b, us, h.nm _ _ h1, by rw [hw b ⟨_, h1, rfl⟩]; exact h2, VRs.ext h _ _ h3⟩
  · obtain ⟨v, us, h1, h2, h3⟩ := ho
    exact ⟨v, us, h.nm _ _ h1, h2.keep fun g hg => hw g ⟨v, h1, hg⟩, Cat.lasts h.lasts h3⟩
  · obtain ⟨v, h1, h2⟩ := ho
    exact ⟨v, h.nm _ _ h1, h2.lasts h.lasts⟩
  · trivial

/-- Nobody but 'id' needs the block. -/
def Free (B : Bs) (c : Cf) (s : Obs) (id b : Nat) : Prop :=
  (∀ j oj, j ≠ id → look s j = some oj → ¬ Own c j oj b) ∧ ¬ c.I b ∧ (B.M b ∨ B.w.heap.size ≤ b)

theorem Rel.free [Sites] {B : Bs} {c : Cf} {s : Obs} {w : World} (h : Rel B c s w) {id : Nat} {o : Ob} (ho : look s id = some o) {b : Nat} (hb : Own c id o b) (hr : isRo o = false := by rfl) : Free B c s id b :=
  ⟨fun j oj hj hl hc => hj (h.sep j id oj o b hl ho hc hb), h.imm id o b ho hb, h.mine id o b ho hr hb⟩

/-- The same world, as a beginning. -/
def here (B : Bs) (c : Cf) (s : Obs) (w : World) : Bs :=
  ⟨w, c.I, fun b => ∃ i o, look s i = some o ∧ isRo o = false ∧ Own c i o b, fun b => ∃ i o, look s i = some o ∧ isRo o = true ∧ Own c i o b, B.rd, B.fl⟩

theorem Rel.rebase [Sites] {B : Bs} {c : Cf} {s : Obs} {w : World} (h : Rel B c s w) : Rel (here B c s w) c s w where
  ob := h.ob
  dom := h.dom
  sep := h.sep
  imm := h.imm
  lo := h.lo
  keep b _ _ := rfl
  mine i o b hl hr ho := .inl ⟨i, o, hl, hr, ho⟩
  ro i o b hl ho := by
    cases hr : isRo o with
    | true => exact .inl ⟨i, o, hl, hr, ho⟩
    | false => exact .inr (.inl ⟨i, o, hl, hr, ho⟩)
  sub b hb := hb
  new b hb := .inl hb
  os := rfl
  tape := rfl
  output := rfl
  size := Nat.le_refl _

theorem Rel.trans [Sites] {B : Bs} {c c' : Cf} {s s' : Obs} {w w' : World} (h : Rel B c s w) (k : Rel (here B c s w) c' s' w') : Rel B c' s' w' where
  ob := k.ob
  dom := k.dom
  sep := k.sep
  imm := k.imm
  lo := k.lo
  keep b hb hm := (k.keep b (Nat.lt_of_lt_of_le hb h.size) fun ⟨i, o, h1, h2, h3⟩ => by
    rcases h.mine i o b h1 h2 h3 with h4 | h4
    · exact hm h4
    · omega).trans (h.keep b hb hm)
  mine i o b hl hr ho := by
    rcases k.mine i o b hl hr ho with ⟨j, oj, h1, h2, h3⟩ | h1
    · exact h.mine j oj b h1 h2 h3
    · exact .inr (Nat.le_trans h.size h1)
  ro i o b hl ho := by
    rcases k.ro i o b hl ho with ⟨j, oj, h1, h2, h3⟩ | ⟨j, oj, h1, h2, h3⟩ | h1
    · exact h.ro j oj b h1 h3
    · exact h.ro j oj b h1 h3
    · exact .inr (.inr (Nat.le_trans h.size h1))
  sub b hb := k.sub b (h.sub b hb)
  new b hb := by
    rcases k.new b hb with h1 | ⟨j, oj, h1, h2, h3⟩ | h1
    · exact h.new b h1
    · exact .inr (h.mine j oj b h1 h2 h3)
    · exact .inr (.inr (Nat.le_trans h.size h1))
  os := k.os.trans h.os
  tape := k.tape.trans h.tape
  output := k.output.trans h.output
  size := Nat.le_trans h.size k.size

/-- What a function still owes when it ends: for each range over a function that it has gone through, a block that is to be closed. -/
structure Marks (fl : Nat) (c : Cf) (w : World) (ds : List Deferred) : Prop where
  all : ∀ d ∈ ds, ∃ m, d = { target := .collected m, args := #[] } ∧ w.heap[m]? = some (.deferred (some [])) ∧ fl ≤ m ∧ ¬ c.I m
  nodup : (ds.map (·.target)).Pairwise (fun x y => ∀ m, x = .collected m → y ≠ .collected m)

theorem Marks.nil {fl : Nat} {c : Cf} {w : World} : Marks fl c w [] := ⟨fun d h => (by cases h), .nil⟩

theorem ObR.not_deferred [Sites] {c : Cf} {w : World} {id : Nat} {o : Ob} (h : ObR c w id o) {b : Nat} (ho : Own c id o b) (ds : Option (List Deferred)) : w.heap[b]? ≠ some (.deferred ds) := by
  rw [← rd_obr] at h
  rw [← rd_own] at ho
  intro e0
  rcases rd_cases o with ⟨t, cs, e⟩ | ⟨e', t, l, e⟩ | ⟨t, l, e⟩ | e <;> rw [e] at h ho
  · obtain ⟨b', us, h1, h2, _⟩ := h
    obtain ⟨v, h3, h4⟩ := ho
    rw [h1] at h3
    simp only [Option.some.injEq] at h3
    subst h3
    simp only [blockOf, Option.some.injEq] at h4
    subst h4
    rw [e0] at h2
    exact boxObj_ne t us ds (Option.some.inj h2).symm
  · obtain ⟨v, us, h1, h2, _⟩ := h
    obtain ⟨v', h3, h4⟩ := ho
    rw [h1] at h3
    simp only [Option.some.injEq] at h3
    subst h3
    rcases h2.2 with ⟨_, A, rfl⟩ | ⟨g, cap, cur, rfl, h0, _, _, hg, _⟩ | ⟨g, es, k, rfl, hg, _⟩
    · cases A <;> simp [blockOf] at h4
    · simp [blockOf] at h4
      rw [h4.2, e0] at hg
      cases hg
    · simp [blockOf] at h4
      rw [h4, e0] at hg
      cases hg
  · exact ho.elim
  · exact ho.elim

/-- A step keeps what is owed. -/
theorem Marks.step [Sites] {B : Bs} {c c' : Cf} {s s' : Obs} {w w' : World} {ds : List Deferred} {fl : Nat} (hm : Marks fl c w ds) (h : Rel B c s w) (k : Rel (here B c s w) c' s' w') : Marks fl c' w' ds := by
  refine ⟨fun d hd => ?_, hm.nodup⟩
  obtain ⟨m, h1, h2, h3, h4⟩ := hm.all d hd
  have hlt : m < w.heap.size := (Array.getElem?_eq_some_iff.1 h2).1
  have hno : ¬ (here B c s w).M m := fun ⟨i, o, g1, _, g3⟩ => (h.ob i o g1).not_deferred g3 _ h2
  refine ⟨m, h1, (k.keep m hlt hno).trans h2, h3, fun hI => ?_⟩
  rcases k.new m hI with g | g | g
  · exact h4 g
  · exact hno g
  · exact absurd hlt (Nat.not_lt.2 g)

/-- One object is made, or turned. -/
theorem Rel.upd [Sites] {B : Bs} {c c' : Cf} {s : Obs} {w w' : World} (h : Rel B c s w) (id : Nat) (o' : Ob) (W : Nat → Prop)
    (hnm : ∀ i v, c.nm i = some v → c'.nm i = some v) (hother : ∀ i, i ≠ id → c'.nm i = c.nm i) (hI : ∀ b, c.I b → c'.I b)
    (hI' : ∀ b, c'.I b → c.I b ∨ ((W b ∨ w.heap.size ≤ b) ∧ ¬ Own c' id o' b ∧ b < w'.heap.size))
    (hheap : ∀ b, b < w.heap.size → ¬ W b → w'.heap[b]? = w.heap[b]?) (hW : ∀ b, W b → Free B c s id b)
    (hob : Ext c w c' w' → ObR c' w' id o') (hown : ∀ b, Own c' id o' b → W b ∨ w.heap.size ≤ b)
    (hos : w'.os = w.os) (htape : w'.tape = w.tape) (hout : w'.output = w.output) (hsize : w.heap.size ≤ w'.heap.size) :
    Rel B c' (put s id o') w' ∧ Ext c w c' w' := by
  have hE : Ext c w c' w' := ⟨hnm, hI, fun b hb => hheap b (h.lo b hb) fun hw => (hW b hw).2.1 hb⟩
  have hself := hob hE
  have hlk : ∀ j oj, look (put s id o') j = some oj → (j = id ∧ oj = o') ∨ (j ≠ id ∧ look s j = some oj) := by
    intro j oj hj
    rw [look_put] at hj
    split at hj
    · rename_i e; simp only [Option.some.injEq] at hj; exact .inl ⟨e.symm, hj.symm⟩
    · rename_i e; exact .inr ⟨fun e' => e e'.symm, hj⟩
  have hoo : ∀ j oj b, j ≠ id → Own c' j oj b → Own c j oj b := by
    intro j oj b hj ho
    rw [← rd_own] at ho ⊢
    rcases rd_cases oj with ⟨t, cs, e⟩ | ⟨e', t, l, e⟩ | ⟨t, l, e⟩ | e <;> rw [e] at ho ⊢
    · obtain ⟨v, h1, h2⟩ := ho; rw [hother j hj] at h1; exact ⟨v, h1, h2⟩
    · obtain ⟨v, h1, h2⟩ := ho; rw [hother j hj] at h1; exact ⟨v, h1, h2⟩
    · exact ho
    · exact ho
  have hfr : ∀ b, W b ∨ w.heap.size ≤ b → ∀ j oj, j ≠ id → look s j = some oj → ¬ Own c j oj b := by
    intro b hb j oj hj hl ho
    rcases hb with hb | hb
    · exact (hW b hb).1 j oj hj hl ho
    · have := (h.ob j oj hl).lt ho; omega
  refine ⟨⟨?_, ?_, ?_, ?_, ?_, ?_, ?_, ?_, fun b hb => hI b (h.sub b hb), ?_, hos.trans h.os, htape.trans h.tape, hout.trans h.output, Nat.le_trans h.size hsize⟩, hE⟩
  · intro j oj hj
    rcases hlk j oj hj with ⟨rfl, rfl⟩ | ⟨hne, hl⟩
    · exact hself
    · exact (h.ob j oj hl).ext hE fun b ho => hheap b ((h.ob j oj hl).lt ho) fun hw => (hW b hw).1 j oj hne hl ho
  · intro j hj
    rw [look_put] at hj
    split at hj
    · cases hj
    · rename_i e
      rw [hother j (fun e' => e e'.symm)]
      exact h.dom j hj
  · intro i j oi oj b hi hj hbi hbj
    rcases hlk i oi hi with ⟨rfl, rfl⟩ | ⟨hni, hli⟩ <;> rcases hlk j oj hj with ⟨rfl, rfl⟩ | ⟨hnj, hlj⟩
    · rfl
    · exact (hfr b (hown b hbi) j oj hnj hlj (hoo j oj b hnj hbj)).elim
    · exact (hfr b (hown b hbj) i oi hni hli (hoo i oi b hni hbi)).elim
    · exact h.sep i j oi oj b hli hlj (hoo i oi b hni hbi) (hoo j oj b hnj hbj)
  · intro j oj b hj hb hIb
    rcases hlk j oj hj with ⟨rfl, rfl⟩ | ⟨hnj, hlj⟩
    · rcases hI' b hIb with hi | ⟨_, hi, _⟩
      · rcases hown b hb with hw | hw
        · exact (hW b hw).2.1 hi
        · have := h.lo b hi; omega
      · exact hi hb
    · have ho := hoo j oj b hnj hb
      rcases hI' b hIb with hi | ⟨hi, _, _⟩
      · exact h.imm j oj b hlj ho hi
      · exact hfr b hi j oj hnj hlj ho
  · intro b hb
    rcases hI' b hb with hi | ⟨_, _, hi⟩
    · exact Nat.lt_of_lt_of_le (h.lo b hi) hsize
    · exact hi
  · intro b hb hm
    refine (hheap b (Nat.lt_of_lt_of_le hb h.size) fun hw => ?_).trans (h.keep b hb hm)
    rcases (hW b hw).2.2 with h1 | h1
    · exact hm h1
    · omega
  · intro j oj b hj hr hb
    rcases hlk j oj hj with ⟨rfl, rfl⟩ | ⟨hnj, hlj⟩
    · rcases hown b hb with hw | hw
      · exact (hW b hw).2.2
      · exact .inr (Nat.le_trans h.size hw)
    · exact h.mine j oj b hlj hr (hoo j oj b hnj hb)
  · intro j oj b hj hb
    rcases hlk j oj hj with ⟨rfl, rfl⟩ | ⟨hnj, hlj⟩
    · rcases hown b hb with hw | hw
      · exact .inr (hW b hw).2.2
      · exact .inr (.inr (Nat.le_trans h.size hw))
    · exact h.ro j oj b hlj (hoo j oj b hnj hb)
  · intro b hb
    rcases hI' b hb with hi | ⟨hi | hi, _, _⟩
    · exact h.new b hi
    · rcases (hW b hi).2.2 with h1 | h1
      · exact .inr (.inl h1)
      · exact .inr (.inr h1)
    · exact .inr (.inr (Nat.le_trans h.size hi))

/-- The temporaries stand for what is said of them; those that are framed are what they were. -/
structure Tmps (nt : Nat) (fr : Nat → Option Value) (c : Cf) (w : World) (env : Env) (a : Act) : Prop where
  size : a.tmps.size = nt
  env : ∀ k x, look env k = some x → VR c w x (a.tmps.getD k undef)
  frame : ∀ k v, fr k = some v → a.tmps.getD k undef = v

theorem Tmps.ext {nt : Nat} {fr : Nat → Option Value} {c c' : Cf} {w w' : World} {env : Env} {a : Act} (h : Tmps nt fr c w env a) (he : Ext c w c' w') : Tmps nt fr c' w' env a :=
  ⟨h.size, fun k x hx => VR.ext he _ _ (h.env k x hx), h.frame⟩

def setT (env : Env) (d : Option Tmp) (v : AV) : Env :=
  match d with
  | none => env
  | some t => put env t v

/-- May the temporary be written? -/
def mayD (nt : Nat) (fr : Nat → Option Value) (d : Option Tmp) : Prop := ∀ t, d = some t → t < nt ∧ fr t = none

theorem Tmps.put {nt : Nat} {fr : Nat → Option Value} {c : Cf} {w : World} {env : Env} {a : Act} (h : Tmps nt fr c w env a) {d : Option Tmp} {v : AV} {u : Value} (hd : mayD nt fr d) (hv : VR c w v u) :
    Tmps nt fr c w (setT env d v) (a.put d u) := by
  cases d with
  | none => exact h
  | some t =>
    obtain ⟨hlt, hfr⟩ := hd t rfl
    have hlt' : t < a.tmps.size := by rw [h.size]; exact hlt
    refine ⟨by simp [Act.put, h.size], fun k x hx => ?_, fun k v hk => ?_⟩
    · simp only [setT, look_put] at hx
      split at hx
      · rename_i e
        subst e
        simp only [Option.some.injEq] at hx
        subst hx
        simpa [Act.put, hlt'] using hv
      · rename_i hne
        have := h.env k x hx
        simpa [Act.put, Array.getElem?_setIfInBounds_ne hne] using this
    · have hne : t ≠ k := fun e => by subst e; rw [hfr] at hk; cases hk
      have := h.frame k v hk
      simpa [Act.put, Array.getElem?_setIfInBounds_ne hne] using this

/-- A constant as a symbolic value. -/
def constAV : Value → AV
  | .int k n => bif fits k n then .int k n else .junk
  | .bool b => .bool b
  | .string s => bif Nat.ble s.data.toList.length 1000000 then .str s.data.toList else .junk
  | .slice none 0 0 => .nils
  | .pointer none => .nilp
  | v => .raw v

def evO (env : Env) : Operand → Option AV
  | .tmp t => look env t
  | .const v => some (constAV v)
  | .func f => some (.fn (.func f) [] [])
  | .global _ => none

theorem constAV_ok {c : Cf} {w : World} (v : Value) : VR c w (constAV v) v := by
  unfold constAV
  split
  · rename_i k n
    cases hf : fits k n <;> simp [VR, hf]
  · simp [VR]
  · rename_i s
    cases hb : Nat.ble s.data.toList.length 1000000 with
    | false => simp [VR]
    | true =>
      have := Nat.le_of_ble_eq_true hb
      simp only [cond_true, VR]
      exact ⟨trivial, by unfold maxLen; omega⟩
  · simp [VR]
  · simp [VR]
  · simp [VR]

/-- Objects as they read. -/
def rdk (s : Obs) (i : Nat) : Option Ob := match look s i with | some o => some (rd o) | none => none

theorem evO_ok [Sites] {nt : Nat} {fr : Nat → Option Value} {c : Cf} {w : World} {env : Env} {a : Act} (h : Tmps nt fr c w env a) {o : Operand} {x : AV} (hx : evO env o = some x) : VR c w x (a.eval o) := by
  cases o with
  | tmp t => exact h.env t x hx
  | const v =>
    simp only [evO, Option.some.injEq] at hx
    subst hx
    simpa [Act.eval] using constAV_ok (c := c) (w := w) v
  | func f =>
    simp only [evO, Option.some.injEq] at hx
    subst hx
    simp only [VR, Act.eval]
    exact ⟨[], [], rfl, by simp [VRs], by simp [VRs]⟩
  | global g => simp [evO] at hx
end Go.Hay
