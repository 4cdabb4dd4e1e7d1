/- Shapes: what code that is proved alone is handed, and what it hands back. -/
import Derived.Test.YthlojpcjafefjaaHayS
set_option linter.unusedVariables false
set_option linter.unusedSimpArgs false
namespace Go.Hay
open Go.RowKit

/-- Shapes of values. 'val': plain data; 'own', 'rown': a row of ours, one that is only read; 'box', 'rbox': a pointer to a box; 'fn': a function value; 'els sz n cs': a slice of n elements in cells that nobody writes; 'ref i': a pointer to box number i; 'refr i': row number i once more; 'nils': a slice without any room; 'nilp': no pointer; 'junk': anything, of which nothing is known; 'refy i': the function that gives loop number i its next values, once more; 'keep k i': of what is handed back: object number i of those that were handed over (k: as a pointer, a row, the function of a loop, an array of k - 3), as it was; 'arr': a pointer to an array of ours; 'upd i', 'updr i': no value: object number i has other contents. -/
inductive Sh where
  | val (t : Ty)
  | own (e : TypeId) (t : Ty)
  | rown (e : TypeId) (t : Ty)
  | box (t : TypeId) (cs : Sh)
  | rbox (t : TypeId) (cs : Sh)
  | fn (f : FuncId) (cap : Sh)
  | agg (cs : Sh)
  | els (sz n : Nat) (cs : Sh)
  | ref (i : Nat)
  | refr (i : Nat)
  | nils
  | nilp
  | junk
  | refy (i : Nat)
  | keep (k i : Nat)
  | arr (e : TypeId) (t : Ty) (n : Nat)
  | upd (i : Nat) (t : TypeId) (cs : Sh)
  | updr (i : Nat) (e : TypeId) (t : Ty)
  | nil
  | cons (a r : Sh)

@[reducible] def Sh.den : Sh → Type
  | .val t => t.den
  | .own _ t => List t.den
  | .rown _ t => List t.den
  | .box _ cs => cs.den
  | .rbox _ cs => cs.den
  | .fn _ cap => cap.den
  | .agg cs => cs.den
  | .els _ _ cs => cs.den
  | .ref _ => Unit
  | .refr _ => Unit
  | .nils => Unit
  | .nilp => Unit
  | .junk => Unit
  | .refy _ => Unit
  | .keep _ _ => Unit
  | .arr _ t _ => List t.den
  | .upd _ _ cs => cs.den
  | .updr _ _ t => List t.den
  | .nil => Unit
  | .cons a r => a.den × r.den


/-- What is left of the objects while some are taken; those that were taken; the names whose rows were frozen. -/
structure Tk where
  obs : Obs
  tk : List (Option Nat × Ob)
  fz : List Nat

def tkEq (a b : Nat) : Bool := Nat.beq a b

/-- The name of the box to which a value leads: a pointer, or, where the box is the record of a loop, the function that gives its next values. -/
def boxName (t : TypeId) : AV → Option Nat
  | .ptr id 0 => bif isBig t then none else some id
  | .yld id => bif isBig t then some id else none
  | _ => none
def mkPtr (t : TypeId) (i : Nat) : AV := bif isBig t then .yld i else .ptr i 0

/-- The name of the row to which a value leads: a slice, or, where the row is the entries of a map, the map. -/
def rowName (e : TypeId) : AV → Option Nat
  | .own id => bif isMapTy e then none else some id
  | .mp id => bif isMapTy e then some id else none
  | _ => none
def mkRow (e : TypeId) (i : Nat) : AV := bif isMapTy e then .mp i else .own i

def keepAv (k n : Nat) : AV → Bool
  | .mp j => Nat.beq k 2000000 && Nat.beq j n
  | .ptr j 0 => Nat.beq k 0 && Nat.beq j n
  | .own j => Nat.beq k 1 && Nat.beq j n
  | .yld j => Nat.beq k 2 && Nat.beq j n
  | .aptr j m => (Nat.beq k (3 + m) && Nat.ble m 1000000) && Nat.beq j n
  | _ => false
def keepMk (k n : Nat) : AV := bif Nat.beq k 2000000 then .mp n else bif Nat.beq k 0 then .ptr n 0 else bif Nat.beq k 1 then .own n else bif Nat.beq k 2 then .yld n else .aptr n (k - 3)

/-- Values taken as a shape says. -/
def xt : (sh : Sh) → List AV → Tk → Option (sh.den × List AV × Tk)
  | .val t, as, z => match as with
    | v :: r => match aggOk t v && allOne v.cells, mk1 (look (frz z.obs v.cells)) t v.cells with
      | true, some x => some (x, r, ⟨frz z.obs v.cells, z.tk, idsDeep v ++ z.fz⟩)
      | _, _ => none
    | [] => none
  | .own e t, as, z => match as with
    | .nils :: r => bif isMapTy e then none else some ([], r, ⟨z.obs, z.tk ++ [(none, .row e t [])], z.fz⟩)
    | v :: r => match rowName e v with
      | some id => match look z.obs id with
        | some (.row e' t' l) => match Nat.beq e' e, castL t t' l with
          | true, some m => some (m, r, ⟨put z.obs id .dead, z.tk ++ [(some id, .row e' t' l)], z.fz⟩)
          | _, _ => none
        | _ => none
      | none => none
    | _ => none
  | .rown e t, as, z => match as with
    | .nils :: r => bif isMapTy e then none else some ([], r, ⟨z.obs, z.tk ++ [(none, .row e t [])], z.fz⟩)
    | v :: r => match rowName e v with
      | some id => match look z.obs id with
        | some (.row e' t' l) => match Nat.beq e' e, castL t t' l with
          | true, some m => some (m, r, ⟨put z.obs id .dead, z.tk ++ [(some id, .row e' t' l)], z.fz⟩)
          | _, _ => none
        | some (.rrow e' t' l) => match Nat.beq e' e, castL t t' l with
          | true, some m => some (m, r, ⟨put z.obs id .dead, z.tk ++ [(some id, .rrow e' t' l)], z.fz⟩)
          | _, _ => none
        | _ => none
      | none => none
    | _ => none
  | .box t cs, as, z => match as with
    | v :: r => match boxName t v with
      | some id => match look z.obs id with
        | some (.box t' bs) => match Nat.beq t' t, xt cs bs ⟨put z.obs id .dead, z.tk ++ [(some id, .box t' bs)], z.fz⟩ with
          | true, some (x, [], z1) => some (x, r, z1)
          | _, _ => none
        | _ => none
      | none => none
    | [] => none
  | .rbox t cs, as, z => match as with
    | .ptr id 0 :: r => match look z.obs id with
      | some (.box t' bs) => match Nat.beq t' t, xt cs bs ⟨put z.obs id .dead, z.tk ++ [(some id, .box t' bs)], z.fz⟩ with
        | true, some (x, [], z1) => some (x, r, z1)
        | _, _ => none
      | some (.rbox t' bs) => match Nat.beq t' t, xt cs bs ⟨put z.obs id .dead, z.tk ++ [(some id, .rbox t' bs)], z.fz⟩ with
        | true, some (x, [], z1) => some (x, r, z1)
        | _, _ => none
      | _ => none
    | _ => none
  | .fn f cap, as, z => match as with
    | .fn (.func f') [] bs :: r => match Nat.beq f' f, xt cap bs z with
      | true, some (x, [], z1) => some (x, r, z1)
      | _, _ => none
    | _ => none
  | .agg cs, as, z => match as with
    | .agg bs :: r => match xt cs bs z with
      | some (x, [], z1) => some (x, r, z1)
      | _ => none
    | _ => none
  | .els sz n cs, as, z => match as with
    | .elist sz' n' bs :: r => match Nat.beq sz' sz && Nat.beq n' n, xt cs bs z with
      | true, some (x, [], z1) => some (x, r, z1)
      | _, _ => none
    | _ => none
  | .ref i, as, z => match as with
    | .ptr id 0 :: r => match z.tk[i]? with
      | some (some id', _) => match Nat.beq id' id with
        | true => some ((), r, z)
        | false => none
      | _ => none
    | _ => none
  | .refr i, as, z => match as with
    | .own id :: r => match z.tk[i]? with
      | some (some id', _) => match Nat.beq id' id with
        | true => some ((), r, z)
        | false => none
      | _ => none
    | _ => none
  | .nils, as, z => match as with
    | .nils :: r => some ((), r, z)
    | _ => none
  | .nilp, as, z => match as with
    | .nilp :: r => some ((), r, z)
    | _ => none
  | .junk, as, z => match as with
    | _ :: r => some ((), r, z)
    | [] => none
  | .refy i, as, z => match as with
    | .yld id :: r => match z.tk[i]? with
      | some (some id', _) => match Nat.beq id' id with
        | true => some ((), r, z)
        | false => none
      | _ => none
    | _ => none
  | .keep k i, as, z => match as with
    | v :: r => match keepAv k i v with
      | true => some ((), r, z)
      | false => none
    | [] => none
  | .arr e t n, as, z => match as with
    | .aptr id m :: r => match look z.obs id with
      | some (.row e' t' l) => match Nat.beq e' e && Nat.beq m n, castL t t' l with
        | true, some k => some (k, r, ⟨put z.obs id .dead, z.tk ++ [(some id, .row e' t' l)], z.fz⟩)
        | _, _ => none
      | _ => none
    | _ => none
  | .upd i t cs, as, z => match look z.obs i with
    | some (.box t' bs) => match Nat.beq t' t, xt cs bs ⟨put z.obs i .dead, z.tk ++ [(some i, .box t' bs)], z.fz⟩ with
      | true, some (x, [], z1) => some (x, as, z1)
      | _, _ => none
    | _ => none
  | .updr i e t, as, z => match look z.obs i with
    | some (.row e' t' l) => match Nat.beq e' e, castL t t' l with
      | true, some m => some (m, as, ⟨put z.obs i .dead, z.tk ++ [(some i, .row e' t' l)], z.fz⟩)
      | _, _ => none
    | _ => none
  | .nil, as, z => some ((), as, z)
  | .cons a r, as, z => match xt a as z with
    | some (x, bs, z1) => match xt r bs z1 with
      | some (y, cs, z2) => some ((x, y), cs, z2)
      | none => none
    | none => none

/-- Values, and objects, of a shape. 'nm k' is the name of object number k. -/
def bld (nm : Nat → Nat) : (sh : Sh) → sh.den → Nat → List AV × List (Nat × Ob) × Nat
  | .val t, x, n => ([valOf t x], [], n)
  | .own e t, l, n => ([mkRow e (nm n)], [(nm n, .row e t l)], n + 1)
  | .rown e t, l, n => ([mkRow e (nm n)], [(nm n, .rrow e t l)], n + 1)
  | .box t cs, x, n => ([mkPtr t (nm n)], (nm n, .box t (bld nm cs x (n + 1)).1) :: (bld nm cs x (n + 1)).2.1, (bld nm cs x (n + 1)).2.2)
  | .rbox t cs, x, n => ([.ptr (nm n) 0], (nm n, .rbox t (bld nm cs x (n + 1)).1) :: (bld nm cs x (n + 1)).2.1, (bld nm cs x (n + 1)).2.2)
  | .fn f cap, x, n => ([.fn (.func f) [] (bld nm cap x n).1], (bld nm cap x n).2.1, (bld nm cap x n).2.2)
  | .agg cs, x, n => ([.agg (bld nm cs x n).1], (bld nm cs x n).2.1, (bld nm cs x n).2.2)
  | .els sz k cs, x, n => ([.elist sz k (bld nm cs x n).1], (bld nm cs x n).2.1, (bld nm cs x n).2.2)
  | .ref i, _, n => ([.ptr (nm i) 0], [], n)
  | .refr i, _, n => ([.own (nm i)], [], n)
  | .nils, _, n => ([.nils], [], n)
  | .nilp, _, n => ([.nilp], [], n)
  | .junk, _, n => ([.junk], [], n)
  | .refy i, _, n => ([.yld (nm i)], [], n)
  | .keep k i, _, n => ([keepMk k (nm (1000000 + i))], [], n)
  | .arr e t m, l, n => ([.aptr (nm n) m], [(nm n, .row e t l)], n + 1)
  | .upd _ t cs, x, n => ([], (nm n, .box t (bld nm cs x (n + 1)).1) :: (bld nm cs x (n + 1)).2.1, (bld nm cs x (n + 1)).2.2)
  | .updr _ e t, l, n => ([], [(nm n, .row e t l)], n + 1)
  | .nil, _, n => ([], [], n)
  | .cons a r, x, n => ((bld nm a x.1 n).1 ++ (bld nm r x.2 (bld nm a x.1 n).2.2).1, (bld nm a x.1 n).2.1 ++ (bld nm r x.2 (bld nm a x.1 n).2.2).2.1, (bld nm r x.2 (bld nm a x.1 n).2.2).2.2)

/-- The names of a shape's objects for a caller: those that were there, and new ones. -/
def onames (σ : Nat → Nat) (nx : Nat) : Sh → Nat → List Nat
  | .own _ _, n | .rown _ _, n | .arr _ _ _, n => [nx + n]
  | .box _ cs, n | .rbox _ cs, n => (nx + n) :: onames σ nx cs (n + 1)
  | .fn _ cap, n => onames σ nx cap n
  | .agg cs, n => onames σ nx cs n
  | .els _ _ cs, n => onames σ nx cs n
  | .upd i _ cs, n => σ i :: onames σ nx cs (n + 1)
  | .updr i _ _, _ => [σ i]
  | .cons a r, n => onames σ nx a n ++ onames σ nx r (n + (onames σ nx a n).length)
  | _, _ => []

section
variable {B : Bs} {c : Cf} {w : World}

def updIx : Sh → List Nat
  | .upd i _ cs => i :: updIx cs
  | .updr i _ _ => [i]
  | .keep _ i => [i]
  | .box _ cs | .rbox _ cs | .agg cs | .fn _ cs | .els _ _ cs => updIx cs
  | .cons a r => updIx a ++ updIx r
  | _ => []

theorem keep_ok {k n : Nat} {v : AV} {u : Value} (h : keepAv k n v = true) (hv : VR c w v u) : ∃ u0, c.nm n = some u0 ∧ ∀ (c' : Cf) (w' : World) (m : Nat), c'.nm m = some u0 → VR c' w' (keepMk k m) u := by
  unfold keepAv at h
  unfold keepMk
  split at h
  · simp only [Bool.and_eq_true] at h
    have e1 := Nat.eq_of_beq_eq_true h.1
    have e2 := Nat.eq_of_beq_eq_true h.2
    subst e1; subst e2
    simp only [VR] at hv
    obtain ⟨b, h1, rfl⟩ := hv
    refine ⟨_, h1, fun c' w' m hm => ?_⟩
    show VR c' w' (.mp m) _
    simp only [VR]
    exact ⟨b, hm, rfl⟩
  · simp only [Bool.and_eq_true] at h
    have e1 := Nat.eq_of_beq_eq_true h.1
    have e2 := Nat.eq_of_beq_eq_true h.2
    subst e1; subst e2
    simp only [VR] at hv
    obtain ⟨b, h1, rfl⟩ := hv
    refine ⟨_, h1, fun c' w' m hm => ?_⟩
    show VR c' w' (.ptr m 0) _
    simp only [VR]
    exact ⟨b, hm, rfl⟩
  · simp only [Bool.and_eq_true] at h
    have e1 := Nat.eq_of_beq_eq_true h.1
    have e2 := Nat.eq_of_beq_eq_true h.2
    subst e1; subst e2
    simp only [VR] at hv
    refine ⟨_, hv.1, fun c' w' m hm => ?_⟩
    show VR c' w' (.own m) _
    simp only [VR]
    exact ⟨hm, hv.2⟩
  · simp only [Bool.and_eq_true] at h
    have e1 := Nat.eq_of_beq_eq_true h.1
    have e2 := Nat.eq_of_beq_eq_true h.2
    subst e1; subst e2
    simp only [VR] at hv
    obtain ⟨b, h1, rfl⟩ := hv
    refine ⟨_, h1, fun c' w' m hm => ?_⟩
    show VR c' w' (.yld m) _
    simp only [VR]
    exact ⟨b, hm, rfl⟩
  · rename_i j m
    simp only [Bool.and_eq_true] at h
    have e1 := Nat.eq_of_beq_eq_true h.1.1
    have e2 := Nat.eq_of_beq_eq_true h.2
    subst e1; subst e2
    simp only [VR] at hv
    obtain ⟨b, h1, h2, rfl⟩ := hv
    refine ⟨_, h1, fun c' w' q hq => ?_⟩
    have e9 : Nat.beq (3 + m) 2000000 = false := by
      cases hb : Nat.beq (3 + m) 2000000 with
      | false => rfl
      | true => have := Nat.eq_of_beq_eq_true hb; have := Nat.le_of_ble_eq_true h.1.2; omega
    have e0 : Nat.beq (3 + m) 0 = false := beq_no (by omega)
    have e1 : Nat.beq (3 + m) 1 = false := beq_no (by omega)
    have e2 : Nat.beq (3 + m) 2 = false := beq_no (by omega)
    simp only [e9, e0, e1, e2, cond_false, show 3 + m - 3 = m by omega, VR]
    exact ⟨b, hq, h2, rfl⟩
  · cases h

theorem rowName_ok {e : TypeId} {v : AV} {id : Nat} {u : Value} (h : rowName e v = some id) (hv : VR c w v u) :
    c.nm id = some u ∧ ∀ (c' : Cf) (w' : World) (k : Nat), c'.nm k = some u → VR c' w' (mkRow e k) u := by
  unfold rowName at h
  unfold mkRow
  split at h
  · cases hb : isMapTy e with
    | true => simp [hb] at h
    | false =>
      simp only [hb, cond_false, Option.some.injEq] at h
      subst h
      simp only [VR] at hv
      refine ⟨hv.1, fun c' w' k hk => ?_⟩
      simp only [cond_false, VR]
      exact ⟨hk, hv.2⟩
  · cases hb : isMapTy e with
    | false => simp [hb] at h
    | true =>
      simp only [hb, cond_true, Option.some.injEq] at h
      subst h
      simp only [VR] at hv
      obtain ⟨b, h1, rfl⟩ := hv
      refine ⟨h1, fun c' w' k hk => ?_⟩
      simp only [cond_true, VR]
      exact ⟨b, hk, rfl⟩
  · cases h

theorem boxName_ok {t : TypeId} {v : AV} {id : Nat} {u : Value} (h : boxName t v = some id) (hv : VR c w v u) :
    ∃ b, c.nm id = some (.pointer (some ⟨b, 0, none⟩)) ∧ ∀ (c' : Cf) (w' : World) (k : Nat), c'.nm k = some (.pointer (some ⟨b, 0, none⟩)) → VR c' w' (mkPtr t k) u := by
  unfold boxName at h
  unfold mkPtr
  split at h
  · cases hb : isBig t with
    | true => simp [hb] at h
    | false =>
      simp only [hb, cond_false, Option.some.injEq] at h
      subst h
      simp only [VR] at hv
      obtain ⟨b, h1, rfl⟩ := hv
      refine ⟨b, h1, fun c' w' k hk => ?_⟩
      simp only [cond_false, VR]
      exact ⟨b, hk, rfl⟩
  · cases hb : isBig t with
    | false => simp [hb] at h
    | true =>
      simp only [hb, cond_true, Option.some.injEq] at h
      subst h
      simp only [VR] at hv
      obtain ⟨b, h1, rfl⟩ := hv
      refine ⟨b, h1, fun c' w' k hk => ?_⟩
      simp only [cond_true, VR]
      exact ⟨b, hk, rfl⟩
  · cases h

theorem valOf_ok [Sites] {t : Ty} {x : t.den} {v : AV} {u : Value} {lk : Lk} (hk : Obs.Ok c w lk) (ha : aggOk t v = true) (h1 : allOne v.cells = true) (hm : mk1 lk t v.cells = some x) (hv : VR c w v u) (c' : Cf) (w' : World) (hE : ∀ us, TR c.I w t x us → TR c'.I w' t x us) : VR c' w' (valOf t x) u := by
  have hcells := cells_ok h1 hv
  have htr := hE _ (mk1_ok hk hm hcells)
  have hc := cellsOf_ok (c := c') (w := w') htr
  unfold valOf
  cases hag : t.isAgg with
  | true =>
    have : ∃ cs, v = .agg cs := by
      cases v <;> simp [aggOk, hag] at ha
      exact ⟨_, rfl⟩
    obtain ⟨cs, rfl⟩ := this
    simp only [VR] at hv
    obtain ⟨us, rfl, _⟩ := hv
    simp only [VR]
    exact ⟨us, rfl, by simpa [Value.cells] using hc⟩
  | false =>
    have hna : v.cells = [v] := by
      cases v <;> first | rfl | (simp [aggOk, hag] at ha)
    rw [hna] at h1
    have hone : u.oneCell' = true := one_ok (by simpa [allOne] using h1) hv
    rw [cells_of_one hone] at hc
    have hlen := hc.length
    simp only [List.length_cons, List.length_nil, Nat.zero_add] at hlen
    match hcs : cellsOf t x, hlen with
    | [y], _ =>
      rw [hcs] at hc
      simp only [VRs] at hc
      obtain ⟨u1, us', e1, h2, _⟩ := hc
      simp only [List.cons.injEq] at e1
      rw [e1.1]
      exact h2

def isLive : Ob → Bool | .frow _ _ | .dead => false | _ => true

/-- What is kept while objects are taken. vs: what they stand for. -/
structure TkOk [Sites] (B : Bs) (c : Cf) (s : Obs) (w : World) (I : Nat → Prop) (z : Tk) (vs : List Value) : Prop where
  rel : Rel B ⟨c.nm, I⟩ z.obs w
  ext : Ext c w ⟨c.nm, I⟩ w
  len : vs.length = z.tk.length
  live : ∀ (id : Nat) o, look z.obs id = some o → isLive o = true → look s id = some o
  at_ : ∀ (k id : Nat) o, z.tk[k]? = some (some id, o) → look z.obs id = some .dead ∧ look s id = some o ∧ isLive o = true ∧ c.nm id = vs[k]?
  nilv : ∀ (k : Nat) o, z.tk[k]? = some (none, o) → ∃ A, vs[k]? = some (.slice A 0 0)
  nodup : ∀ (j k id : Nat) o o', z.tk[j]? = some (some id, o) → z.tk[k]? = some (some id, o') → j = k
  rest : ∀ id : Nat, id ∉ z.fz → (∀ (k : Nat) o, z.tk[k]? ≠ some (some id, o)) → look z.obs id = look s id
  dom : ∀ id : Nat, look z.obs id = none → look s id = none
  newI : ∀ b, I b → c.I b ∨ ∃ (id : Nat) (e : TypeId) (t : Ty) (l : List t.den), look s id = some (.row e t l) ∧ look z.obs id = some (.frow t l) ∧ Own c id (.row e t l) b

/-- A naming that gives the objects' names what they stand for. -/
def Gives (c' : Cf) (nm : Nat → Nat) (vs : List Value) : Prop := ∀ (k : Nat) v, vs[k]? = some v → c'.nm (nm k) = some v

theorem Gives.pre {c' : Cf} {nm : Nat → Nat} {vs vs' : List Value} (h : Gives c' nm vs') (hp : vs <+: vs') : Gives c' nm vs := fun k v hk => by
  obtain ⟨t, rfl⟩ := hp
  exact h k v (by rw [List.getElem?_append_left (List.getElem?_eq_some_iff.1 hk).1]; exact hk)

theorem Rel.kill [Sites] {s : Obs} (h : Rel B c s w) (id : Nat) : Rel B c (put s id .dead) w :=
  (h.upd id .dead (fun _ => False) (fun _ _ h => h) (fun _ _ => rfl) (fun _ h => h) (fun _ h => .inl h) (fun _ _ _ => rfl) (fun _ h => h.elim) (fun _ => trivial) (fun _ h => h.elim) rfl rfl rfl (Nat.le_refl _)).1

theorem TkOk.take [Sites] {s : Obs} {I : Nat → Prop} {z : Tk} {vs : List Value} (h : TkOk B c s w I z vs) {id : Nat} {o : Ob} (hl : look z.obs id = some o) (hv : isLive o = true) {v : Value} (hn : c.nm id = some v) :
    TkOk B c s w I ⟨put z.obs id .dead, z.tk ++ [(some id, o)], z.fz⟩ (vs ++ [v]) where
  rel := h.rel.kill id
  ext := h.ext
  len := by simp [h.len]
  live i o' hi ho' := by
    simp only [look_put] at hi
    split at hi
    · simp only [Option.some.injEq] at hi; subst hi; cases ho'
    · exact h.live i o' hi ho'
  at_ k i o' hk := by
    simp only [look_put]
    rcases Nat.lt_or_ge k z.tk.length with hlt | hge
    · rw [List.getElem?_append_left hlt] at hk
      obtain ⟨h1, h2, h3, h4⟩ := h.at_ k i o' hk
      refine ⟨by split; · rfl
                 · exact h1, h2, h3, ?_⟩
      rw [List.getElem?_append_left (by rw [h.len]; exact hlt)]
      exact h4
    · rw [List.getElem?_append_right hge] at hk
      have hk0 : k - z.tk.length = 0 := by
        have := (List.getElem?_eq_some_iff.1 hk).1
        simp at this
        omega
      rw [hk0] at hk
      simp only [List.getElem?_cons_zero, Option.some.injEq, Prod.mk.injEq] at hk
      obtain ⟨rfl, rfl⟩ := hk
      refine ⟨by rw [if_pos rfl], h.live _ _ hl hv, hv, ?_⟩
      rw [List.getElem?_append_right (by rw [h.len]; exact hge), h.len, hk0]
      exact hn
  nilv k o' hk := by
    rcases Nat.lt_or_ge k z.tk.length with hlt | hge
    · rw [List.getElem?_append_left hlt] at hk
      obtain ⟨A, hA⟩ := h.nilv k o' hk
      exact ⟨A, by rw [List.getElem?_append_left (by rw [h.len]; exact hlt)]; exact hA⟩
    · rw [List.getElem?_append_right hge] at hk
      have := (List.getElem?_eq_some_iff.1 hk).1
      have hk0 : k - z.tk.length = 0 := by simp at this; omega
      rw [hk0] at hk
      simp at hk
  nodup j k i o1 o2 hj hk := by
    have key : ∀ (j : Nat) o1, j < z.tk.length → z.tk[j]? ≠ some (some id, o1) := fun j o1 _ hj => by
      have := (h.at_ j id o1 hj).1
      rw [hl] at this
      cases this
      cases hv
    have hlast : ∀ (j : Nat) o1, z.tk.length ≤ j → (z.tk ++ [(some id, o)])[j]? = some (some i, o1) → j = z.tk.length ∧ i = id := fun j o1 hge hj => by
      rw [List.getElem?_append_right hge] at hj
      have := (List.getElem?_eq_some_iff.1 hj).1
      have hk0 : j - z.tk.length = 0 := by simp at this; omega
      rw [hk0] at hj
      simp only [List.getElem?_cons_zero, Option.some.injEq, Prod.mk.injEq] at hj
      exact ⟨by omega, hj.1.symm⟩
    rcases Nat.lt_or_ge j z.tk.length with hj1 | hj1 <;> rcases Nat.lt_or_ge k z.tk.length with hk1 | hk1
    · simp only [List.getElem?_append_left hj1] at hj
      simp only [List.getElem?_append_left hk1] at hk
      exact h.nodup j k i o1 o2 hj hk
    · obtain ⟨_, rfl⟩ := hlast k o2 hk1 hk
      simp only [List.getElem?_append_left hj1] at hj
      exact (key j o1 hj1 hj).elim
    · obtain ⟨_, rfl⟩ := hlast j o1 hj1 hj
      simp only [List.getElem?_append_left hk1] at hk
      exact (key k o2 hk1 hk).elim
    · have := (hlast j o1 hj1 hj).1
      have := (hlast k o2 hk1 hk).1
      omega
  rest i hi hk := by
    have hne : ¬ id = i := fun e => by
      subst e
      refine hk z.tk.length o ?_
      rw [List.getElem?_append_right (Nat.le_refl _)]
      simp
    simp only [look_put, if_neg hne]
    refine h.rest i hi fun k o' h' => hk k o' ?_
    rw [List.getElem?_append_left (List.getElem?_eq_some_iff.1 h').1]
    exact h'
  dom i hi := by
    simp only [look_put] at hi
    split at hi
    · cases hi
    · exact h.dom i hi
  newI b hb := by
    rcases h.newI b hb with h1 | ⟨i, e, t, l, h1, h2, h3⟩
    · exact .inl h1
    · refine .inr ⟨i, e, t, l, h1, ?_, h3⟩
      have hne : ¬ id = i := fun e' => by subst e'; rw [hl] at h2; cases h2; cases hv
      simp only [look_put, if_neg hne]
      exact h2

theorem TkOk.nils [Sites] {s : Obs} {I : Nat → Prop} {z : Tk} {vs : List Value} (h : TkOk B c s w I z vs) (o : Ob) (A : Option Addr) : TkOk B c s w I ⟨z.obs, z.tk ++ [(none, o)], z.fz⟩ (vs ++ [.slice A 0 0]) := by
  have hsome : ∀ (k i : Nat) o', (z.tk ++ [(none, o)])[k]? = some (some i, o') → k < z.tk.length ∧ z.tk[k]? = some (some i, o') := fun k i o' hk => by
    rcases Nat.lt_or_ge k z.tk.length with hlt | hge
    · rw [List.getElem?_append_left hlt] at hk; exact ⟨hlt, hk⟩
    · rw [List.getElem?_append_right hge] at hk
      have := (List.getElem?_eq_some_iff.1 hk).1
      have hk0 : k - z.tk.length = 0 := by simp at this; omega
      rw [hk0] at hk
      simp at hk
  refine ⟨h.rel, h.ext, by simp [h.len], h.live, fun k i o' hk => ?_, fun k o' hk => ?_, fun j k i o1 o2 hj hk => h.nodup j k i o1 o2 (hsome j i o1 hj).2 (hsome k i o2 hk).2, fun i hi hk => h.rest i hi fun k o' h' => hk k o' ?_, h.dom, h.newI⟩
  · obtain ⟨hlt, hk⟩ := hsome k i o' hk
    obtain ⟨h1, h2, h3, h4⟩ := h.at_ k i o' hk
    exact ⟨h1, h2, h3, by rw [List.getElem?_append_left (by rw [h.len]; exact hlt)]; exact h4⟩
  · rcases Nat.lt_or_ge k z.tk.length with hlt | hge
    · rw [List.getElem?_append_left hlt] at hk
      obtain ⟨A', hA⟩ := h.nilv k o' hk
      exact ⟨A', by rw [List.getElem?_append_left (by rw [h.len]; exact hlt)]; exact hA⟩
    · rw [List.getElem?_append_right hge] at hk
      have := (List.getElem?_eq_some_iff.1 hk).1
      have hk0 : k - z.tk.length = 0 := by simp at this; omega
      refine ⟨A, ?_⟩
      rw [List.getElem?_append_right (by rw [h.len]; exact hge), h.len, hk0]
      rfl
  · have hlt := (List.getElem?_eq_some_iff.1 h').1
    simp only
    rw [List.getElem?_append_left hlt]
    exact h'

theorem frz1_dead {s : Obs} {x : AV} {id : Nat} (h : look s id = some .dead) : look (frz1 s x) id = some .dead := by
  unfold frz1
  split
  · rename_i i
    split
    · rename_i hl
      have hl := (lookR_row hl).1
      rw [look_put, if_neg (fun e => by subst e; rw [h] at hl; cases hl)]
      exact h
    · exact h
  · rename_i i _ _ _
    split
    · rename_i hl
      have hl := (lookR_row hl).1
      rw [look_put, if_neg (fun e => by subst e; rw [h] at hl; cases hl)]
      exact h
    · exact h
  · exact h
theorem frz_dead [Sites] {id : Nat} : ∀ {xs : List AV} {s : Obs}, look s id = some .dead → look (frz s xs) id = some .dead
  | [], s, h => h
  | x :: xs, s, h => frz_dead (xs := xs) (frz1_dead (x := x) h)
theorem frz1_live {s : Obs} {x : AV} {id : Nat} {o : Ob} (h : look (frz1 s x) id = some o) (ho : isLive o = true) : look s id = some o := by
  unfold frz1 at h
  split at h
  · split at h
    · rw [look_put] at h
      split at h
      · simp only [Option.some.injEq] at h; subst h; cases ho
      · exact h
    · exact h
  · split at h
    · rw [look_put] at h
      split at h
      · simp only [Option.some.injEq] at h; subst h; cases ho
      · exact h
    · exact h
  · exact h
theorem frz_live [Sites] {id : Nat} {o : Ob} (ho : isLive o = true) : ∀ {xs : List AV} {s : Obs}, look (frz s xs) id = some o → look s id = some o
  | [], s, h => h
  | x :: xs, s, h => frz1_live (frz_live ho (xs := xs) h) ho
theorem frz1_dom {s : Obs} {x : AV} {id : Nat} (h : look (frz1 s x) id = none) : look s id = none := by
  unfold frz1 at h
  split at h
  · split at h
    · rw [look_put] at h
      split at h
      · cases h
      · exact h
    · exact h
  · split at h
    · rw [look_put] at h
      split at h
      · cases h
      · exact h
    · exact h
  · exact h
theorem frz_dom [Sites] {id : Nat} : ∀ {xs : List AV} {s : Obs}, look (frz s xs) id = none → look s id = none
  | [], s, h => h
  | x :: xs, s, h => frz1_dom (frz_dom (xs := xs) h)

theorem frz1_frow {s : Obs} {x : AV} {id : Nat} {t : Ty} {l : List t.den} (h : look s id = some (.frow t l)) : look (frz1 s x) id = some (.frow t l) := by
  unfold frz1
  split
  · split
    · rename_i hl
      have hl := (lookR_row hl).1
      rw [look_put, if_neg (fun e => by subst e; rw [h] at hl; cases hl)]
      exact h
    · exact h
  · split
    · rename_i hl
      have hl := (lookR_row hl).1
      rw [look_put, if_neg (fun e => by subst e; rw [h] at hl; cases hl)]
      exact h
    · exact h
  · exact h
theorem frz_frow [Sites] {id : Nat} {t : Ty} {l : List t.den} : ∀ {xs : List AV} {s : Obs}, look s id = some (.frow t l) → look (frz s xs) id = some (.frow t l)
  | [], s, h => h
  | x :: xs, s, h => frz_frow (xs := xs) (frz1_frow (x := x) h)

theorem frz_row2 [Sites] {s : Obs} (h : Rel B c s w) {id : Nat} {el : TypeId} {t : Ty} {l : List t.den} (hl : look s id = some (.row el t l)) (hmt : isMapTy el = false) :
    Rel B ⟨c.nm, fun b => c.I b ∨ Own c id (.row el t l) b⟩ (put s id (.frow t l)) w ∧ Ext c w ⟨c.nm, fun b => c.I b ∨ Own c id (.row el t l) b⟩ w := by
  refine h.upd (c' := ⟨c.nm, fun b => c.I b ∨ Own c id (.row el t l) b⟩) id (.frow t l) (fun b => Own c id (.row el t l) b) (fun _ _ h => h) (fun _ _ => rfl) (fun _ h => .inl h) (fun b hb => ?_) (fun _ _ _ => rfl)
    (fun b hb => h.free hl hb) (fun hE => ?_) (fun b hb => hb.elim) rfl rfl rfl (Nat.le_refl _)
  · rcases hb with hb | hb
    · exact .inl hb
    · exact .inr ⟨.inl hb, fun hh => hh, (h.ob _ _ hl).lt hb⟩
  · obtain ⟨v, us, h1, h2, h3⟩ := h.ob _ _ hl
    refine ⟨v, h1, ?_⟩
    have h3' := Cat.lasts hE.lasts h3
    rcases h2.2 with ⟨h0, A, rfl⟩ | ⟨b, cap, cur, rfl, hpos, hn, hm, hg, hs, ht⟩ | ⟨b, es, q, _, _, _, _, hq⟩
    rotate_left 2
    · rw [hmt] at hq; cases hq
    · refine ⟨A, 0, by rw [h0], by rw [h0]; exact Nat.le_refl _, Nat.zero_le _, fun _ => h0, fun ad _ hp => by omega⟩
    · refine ⟨some ⟨b, 0, none⟩, cap, rfl, hn, hm, (fun e => by cases e), fun ad ha _ => ?_⟩
      cases ha
      refine ⟨rfl, .inr ⟨_, h1, by simp [blockOf]; omega⟩, us, h3', fun j u hj => ?_⟩
      rw [cell_of_row w b (0 + j) cur el (0, 0) hg, Nat.zero_add]
      rw [← ht, List.getElem?_take] at hj
      split at hj
      · simpa using hj
      · cases hj

theorem frz1_ok2 [Sites] {s : Obs} (h : Rel B c s w) (x : AV) : ∃ I', Rel B ⟨c.nm, I'⟩ (frz1 s x) w ∧ Ext c w ⟨c.nm, I'⟩ w ∧
    ∀ b, I' b → c.I b ∨ ∃ (id : Nat) (e : TypeId) (t : Ty) (l : List t.den), look s id = some (.row e t l) ∧ look (frz1 s x) id = some (.frow t l) ∧ Own c id (.row e t l) b := by
  have hself : ∃ I', Rel B ⟨c.nm, I'⟩ s w ∧ Ext c w ⟨c.nm, I'⟩ w ∧ ∀ b, I' b → c.I b ∨ ∃ (id : Nat) (e : TypeId) (t : Ty) (l : List t.den), look s id = some (.row e t l) ∧ look s id = some (.frow t l) ∧ Own c id (.row e t l) b :=
    ⟨c.I, h, Ext.refl c w, fun b hb => .inl hb⟩
  have hrow : ∀ {id : Nat} {el : TypeId} {t : Ty} {l : List t.den}, lookR s id = some (.row el t l) → ∃ I', Rel B ⟨c.nm, I'⟩ (put s id (.frow t l)) w ∧ Ext c w ⟨c.nm, I'⟩ w ∧
      ∀ b, I' b → c.I b ∨ ∃ (id' : Nat) (e : TypeId) (t' : Ty) (l' : List t'.den), look s id' = some (.row e t' l') ∧ look (put s id (.frow t l)) id' = some (.frow t' l') ∧ Own c id' (.row e t' l') b := fun {id el t l} hl =>
    ⟨_, (frz_row2 h (lookR_row hl).1 (lookR_row hl).2).1, (frz_row2 h (lookR_row hl).1 (lookR_row hl).2).2, fun b hb => hb.imp (fun h => h) fun ho => ⟨_, _, _, _, (lookR_row hl).1, by rw [look_put, if_pos rfl], ho⟩⟩
  unfold frz1
  split
  · split
    · rename_i hl; exact hrow hl
    · exact hself
  · split
    · rename_i hl; exact hrow hl
    · exact hself
  · exact hself

theorem frz_ok2 [Sites] : ∀ (xs : List AV) {c : Cf} {s : Obs}, Rel B c s w → ∃ I', Rel B ⟨c.nm, I'⟩ (frz s xs) w ∧ Ext c w ⟨c.nm, I'⟩ w ∧
    ∀ b, I' b → c.I b ∨ ∃ (id : Nat) (e : TypeId) (t : Ty) (l : List t.den), look s id = some (.row e t l) ∧ look (frz s xs) id = some (.frow t l) ∧ Own c id (.row e t l) b
  | [], c, s, h => ⟨c.I, h, Ext.refl c w, fun b hb => .inl hb⟩
  | x :: xs, c, s, h => by
    obtain ⟨I1, h1, h2, h0⟩ := frz1_ok2 h x
    obtain ⟨I2, h3, h4, h5⟩ := frz_ok2 xs h1
    refine ⟨I2, h3, h2.trans h4, fun b hb => ?_⟩
    rcases h5 b hb with h6 | ⟨id, e, t, l, h6, h7, h8⟩
    · rcases h0 b h6 with h6 | ⟨id, e, t, l, h6, h7, h8⟩
      · exact .inl h6
      · exact .inr ⟨id, e, t, l, h6, frz_frow (xs := xs) h7, h8⟩
    · exact .inr ⟨id, e, t, l, frz1_live h6 rfl, h7, h8⟩

theorem TkOk.frz [Sites] {s : Obs} {I : Nat → Prop} {z : Tk} {vs : List Value} (h : TkOk B c s w I z vs) (v : AV) : ∃ I', TkOk B c s w I' ⟨frz z.obs v.cells, z.tk, idsDeep v ++ z.fz⟩ vs ∧ Ext ⟨c.nm, I⟩ w ⟨c.nm, I'⟩ w := by
  obtain ⟨I', h1, h2, h0⟩ := frz_ok2 v.cells h.rel
  refine ⟨I', ⟨h1, h.ext.trans h2, h.len, fun id o hl ho => h.live id o (frz_live ho hl) ho, fun k id o hk => ?_, h.nilv, h.nodup, fun id hid hk => ?_, fun id hid => h.dom id (frz_dom hid), fun b hb => ?_⟩, h2⟩
  · obtain ⟨g1, g2, g3, g4⟩ := h.at_ k id o hk
    exact ⟨frz_dead g1, g2, g3, g4⟩
  · simp only [List.mem_append, not_or] at hid
    simp only
    rw [frz_look fun x hx hm => hid.1 (cells_ids hx hm)]
    exact h.rest id hid.2 hk
  · rcases h0 b hb with h3 | ⟨id, e, t, l, h3, h4, h5⟩
    · rcases h.newI b h3 with h3 | ⟨id, e, t, l, h3, h4, h5⟩
      · exact .inl h3
      · exact .inr ⟨id, e, t, l, h3, frz_frow h4, h5⟩
    · exact .inr ⟨id, e, t, l, h.live id _ h3 rfl, h4, h5⟩
end
end Go.Hay
