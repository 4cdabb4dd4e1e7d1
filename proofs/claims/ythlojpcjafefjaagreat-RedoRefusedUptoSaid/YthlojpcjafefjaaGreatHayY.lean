/- Shapes: what code that is proved alone is handed, and what it hands back. -/
import Derived.Test.YthlojpcjafefjaaGreatHayS
set_option linter.unusedVariables false
set_option linter.unusedSimpArgs false
namespace Go.Hay
open Go.RowKit

inductive Sh where
  | val (t : Ty)
  | own (e : TypeId) (t : Ty)
  | rown (e : TypeId) (t : Ty)
  | box (t : TypeId) (cs : Sh)
  | rbox (t : TypeId) (cs : Sh)
  | fn (f : FuncId) (cap : Sh)
  | agg (cs : Sh)
  | els (sz n : Nat) (cs : Sh)
  | bxo (off : Nat) (t : TypeId) (cs : Sh)
  | refo (i off : Nat)
  | fnb (k : Nat) (f : FuncId) (cs : Sh)
  | ref (i : Nat)
  | refr (i : Nat)
  | nils
  | nilp
  | lit (k : IntKind) (n : Int)
  | junk
  | refy (i : Nat)
  | keep (k i : Nat)
  | arr (e : TypeId) (t : Ty) (n : Nat)
  | upd (i : Nat) (t : TypeId) (cs : Sh)
  | updr (i : Nat) (e : TypeId) (t : Ty)
  | nil
  | cons (a r : Sh)

@[reducible] def Sh.den : Sh → Type
  | .val t => t.den
  | .own _ t => List t.den
  | .rown _ t => List t.den
  | .box _ cs => cs.den
  | .rbox _ cs => cs.den
  | .fn _ cap => cap.den
  | .agg cs => cs.den
  | .els _ _ cs => cs.den
  | .bxo _ _ cs => cs.den
  | .refo _ _ => Unit
  | .fnb _ _ cs => cs.den
  | .ref _ => Unit
  | .refr _ => Unit
  | .nils => Unit
  | .nilp => Unit
  | .lit _ _ => Unit
  | .junk => Unit
  | .refy _ => Unit
  | .keep _ _ => Unit
  | .arr _ t _ => List t.den
  | .upd _ _ cs => cs.den
  | .updr _ _ t => List t.den
  | .nil => Unit
  | .cons a r => a.den × r.den


structure Tk where
  obs : Obs
  tk : List (Option Nat × Ob)
  fz : List Nat

def boxName (t : TypeId) : AV → Option Nat
  | .ptr id 0 => bif isBig t then none else some id
  | .yld id => bif isBig t then some id else none
  | _ => none
def mkPtr (t : TypeId) (i : Nat) : AV := bif isBig t then .yld i else .ptr i 0

def rowName (e : TypeId) : AV → Option Nat
  | .own id => bif isMapTy e then none else some id
  | .mp id => bif isMapTy e then some id else none
  | _ => none
def mkRow (e : TypeId) (i : Nat) : AV := bif isMapTy e then .mp i else .own i

def keepAv (k n : Nat) : AV → Bool
  | .mp j => Nat.beq k 2000000 && Nat.beq j n
  | .ptr j 0 => Nat.beq k 0 && Nat.beq j n
  | .own j => Nat.beq k 1 && Nat.beq j n
  | .yld j => Nat.beq k 2 && Nat.beq j n
  | .aptr j m => (Nat.beq k (3 + m) && Nat.ble m 1000000) && Nat.beq j n
  | _ => false
def keepMk (k n : Nat) : AV := bif Nat.beq k 2000000 then .mp n else bif Nat.beq k 0 then .ptr n 0 else bif Nat.beq k 1 then .own n else bif Nat.beq k 2 then .yld n else .aptr n (k - 3)

def xt : (sh : Sh) → List AV → Tk → Option (sh.den × List AV × Tk)
  | .val t, as, z => match as with
    | v :: r => match aggOk t v && allOne v.cells, mk1 (look (frz z.obs v.cells)) t v.cells with
      | true, some x => some (x, r, ⟨frz z.obs v.cells, z.tk, idsDeep v ++ z.fz⟩)
      | _, _ => none
    | [] => none
  | .own e t, as, z => match as with
    | .nils :: r => bif isMapTy e then none else some ([], r, ⟨z.obs, z.tk ++ [(none, .row e t [])], z.fz⟩)
    | v :: r => match rowName e v with
      | some id => match look z.obs id with
        | some (.row e' t' l) => match Nat.beq e' e, castL t t' l with
          | true, some m => some (m, r, ⟨put z.obs id .dead, z.tk ++ [(some id, .row e' t' l)], z.fz⟩)
          | _, _ => none
        | _ => none
      | none => none
    | _ => none
  | .rown e t, as, z => match as with
    | .nils :: r => bif isMapTy e then none else some ([], r, ⟨z.obs, z.tk ++ [(none, .row e t [])], z.fz⟩)
    | v :: r => match rowName e v with
      | some id => match look z.obs id with
        | some (.row e' t' l) => match Nat.beq e' e, castL t t' l with
          | true, some m => some (m, r, ⟨put z.obs id .dead, z.tk ++ [(some id, .row e' t' l)], z.fz⟩)
          | _, _ => none
        | some (.rrow e' t' l) => match Nat.beq e' e, castL t t' l with
          | true, some m => some (m, r, ⟨put z.obs id .dead, z.tk ++ [(some id, .rrow e' t' l)], z.fz⟩)
          | _, _ => none
        | _ => none
      | none => none
    | _ => none
  | .box t cs, as, z => match as with
    | v :: r => match boxName t v with
      | some id => match look z.obs id with
        | some (.box t' bs) => match Nat.beq t' t, xt cs bs ⟨put z.obs id .dead, z.tk ++ [(some id, .box t' bs)], z.fz⟩ with
          | true, some (x, [], z1) => some (x, r, z1)
          | _, _ => none
        | _ => none
      | none => none
    | [] => none
  | .rbox t cs, as, z => match as with
    | .ptr id 0 :: r => match look z.obs id with
      | some (.box t' bs) => match Nat.beq t' t, xt cs bs ⟨put z.obs id .dead, z.tk ++ [(some id, .box t' bs)], z.fz⟩ with
        | true, some (x, [], z1) => some (x, r, z1)
        | _, _ => none
      | some (.rbox t' bs) => match Nat.beq t' t, xt cs bs ⟨put z.obs id .dead, z.tk ++ [(some id, .rbox t' bs)], z.fz⟩ with
        | true, some (x, [], z1) => some (x, r, z1)
        | _, _ => none
      | _ => none
    | _ => none
  | .fn f cap, as, z => match as with
    | .fn (.func f') [] bs :: r => match Nat.beq f' f, xt cap bs z with
      | true, some (x, [], z1) => some (x, r, z1)
      | _, _ => none
    | _ => none
  | .agg cs, as, z => match as with
    | .agg bs :: r => match xt cs bs z with
      | some (x, [], z1) => some (x, r, z1)
      | _ => none
    | _ => none
  | .els sz n cs, as, z => match as with
    | .elist sz' n' bs :: r => match Nat.beq sz' sz && Nat.beq n' n, xt cs bs z with
      | true, some (x, [], z1) => some (x, r, z1)
      | _, _ => none
    | _ => none
  | .bxo off t cs, as, z => match as with
    | .ptr id off' :: r => match look z.obs id with
      | some (.box t' bs) => match Nat.beq t' t && Nat.beq off' off, xt cs bs ⟨put z.obs id .dead, z.tk ++ [(some id, .box t' bs)], z.fz⟩ with
        | true, some (x, [], z1) => some (x, r, z1)
        | _, _ => none
      | _ => none
    | _ => none
  | .fnb k f cs, as, z => match as with
    | .fn (.func f') b1 b2 :: r => match Nat.beq f' f && Nat.beq b1.length k, xt cs (b1 ++ b2) z with
      | true, some (x, [], z1) => some (x, r, z1)
      | _, _ => none
    | _ => none
  | .refo i off, as, z => match as with
    | .ptr id off' :: r => match z.tk[i]? with
      | some (some id', _) => match Nat.beq id' id && Nat.beq off' off with
        | true => some ((), r, z)
        | false => none
      | _ => none
    | _ => none
  | .ref i, as, z => match as with
    | .ptr id 0 :: r => match z.tk[i]? with
      | some (some id', _) => match Nat.beq id' id with
        | true => some ((), r, z)
        | false => none
      | _ => none
    | _ => none
  | .refr i, as, z => match as with
    | .own id :: r => match z.tk[i]? with
      | some (some id', _) => match Nat.beq id' id with
        | true => some ((), r, z)
        | false => none
      | _ => none
    | _ => none
  | .nils, as, z => match as with
    | .nils :: r => some ((), r, z)
    | _ => none
  | .nilp, as, z => match as with
    | .nilp :: r => some ((), r, z)
    | _ => none
  | .lit k n, as, z => match as with
    | .int k' m :: r => match ikEq k' k && decide (m = n) with
      | true => some ((), r, z)
      | false => none
    | _ => none
  | .junk, as, z => match as with
    | _ :: r => some ((), r, z)
    | [] => none
  | .refy i, as, z => match as with
    | .yld id :: r => match z.tk[i]? with
      | some (some id', _) => match Nat.beq id' id with
        | true => some ((), r, z)
        | false => none
      | _ => none
    | _ => none
  | .keep k i, as, z => match as with
    | v :: r => match keepAv k i v with
      | true => some ((), r, z)
      | false => none
    | [] => none
  | .arr e t n, as, z => match as with
    | .aptr id m :: r => match look z.obs id with
      | some (.row e' t' l) => match Nat.beq e' e && Nat.beq m n, castL t t' l with
        | true, some k => some (k, r, ⟨put z.obs id .dead, z.tk ++ [(some id, .row e' t' l)], z.fz⟩)
        | _, _ => none
      | _ => none
    | _ => none
  | .upd i t cs, as, z => match look z.obs i with
    | some (.box t' bs) => match Nat.beq t' t, xt cs bs ⟨put z.obs i .dead, z.tk ++ [(some i, .box t' bs)], z.fz⟩ with
      | true, some (x, [], z1) => some (x, as, z1)
      | _, _ => none
    | _ => none
  | .updr i e t, as, z => match look z.obs i with
    | some (.row e' t' l) => match Nat.beq e' e, castL t t' l with
      | true, some m => some (m, as, ⟨put z.obs i .dead, z.tk ++ [(some i, .row e' t' l)], z.fz⟩)
      | _, _ => none
    | _ => none
  | .nil, as, z => some ((), as, z)
  | .cons a r, as, z => match xt a as z with
    | some (x, bs, z1) => match xt r bs z1 with
      | some (y, cs, z2) => some ((x, y), cs, z2)
      | none => none
    | none => none

def bld (nm : Nat → Nat) : (sh : Sh) → sh.den → Nat → List AV × List (Nat × Ob) × Nat
  | .val t, x, n => ([valOf t x], [], n)
  | .own e t, l, n => ([mkRow e (nm n)], [(nm n, .row e t l)], n + 1)
  | .rown e t, l, n => ([mkRow e (nm n)], [(nm n, .rrow e t l)], n + 1)
  | .box t cs, x, n => ([mkPtr t (nm n)], (nm n, .box t (bld nm cs x (n + 1)).1) :: (bld nm cs x (n + 1)).2.1, (bld nm cs x (n + 1)).2.2)
  | .rbox t cs, x, n => ([.ptr (nm n) 0], (nm n, .rbox t (bld nm cs x (n + 1)).1) :: (bld nm cs x (n + 1)).2.1, (bld nm cs x (n + 1)).2.2)
  | .fn f cap, x, n => ([.fn (.func f) [] (bld nm cap x n).1], (bld nm cap x n).2.1, (bld nm cap x n).2.2)
  | .agg cs, x, n => ([.agg (bld nm cs x n).1], (bld nm cs x n).2.1, (bld nm cs x n).2.2)
  | .els sz k cs, x, n => ([.elist sz k (bld nm cs x n).1], (bld nm cs x n).2.1, (bld nm cs x n).2.2)
  | .bxo off t cs, x, n => ([.ptr (nm n) off], (nm n, .box t (bld nm cs x (n + 1)).1) :: (bld nm cs x (n + 1)).2.1, (bld nm cs x (n + 1)).2.2)
  | .refo i off, _, n => ([.ptr (nm i) off], [], n)
  | .fnb k f cs, x, n => ([.fn (.func f) ((bld nm cs x n).1.take k) ((bld nm cs x n).1.drop k)], (bld nm cs x n).2.1, (bld nm cs x n).2.2)
  | .ref i, _, n => ([.ptr (nm i) 0], [], n)
  | .refr i, _, n => ([.own (nm i)], [], n)
  | .nils, _, n => ([.nils], [], n)
  | .nilp, _, n => ([.nilp], [], n)
  | .lit k m, _, n => ([.int k m], [], n)
  | .junk, _, n => ([.junk], [], n)
  | .refy i, _, n => ([.yld (nm i)], [], n)
  | .keep k i, _, n => ([keepMk k (nm (1000000 + i))], [], n)
  | .arr e t m, l, n => ([.aptr (nm n) m], [(nm n, .row e t l)], n + 1)
  | .upd _ t cs, x, n => ([], (nm n, .box t (bld nm cs x (n + 1)).1) :: (bld nm cs x (n + 1)).2.1, (bld nm cs x (n + 1)).2.2)
  | .updr _ e t, l, n => ([], [(nm n, .row e t l)], n + 1)
  | .nil, _, n => ([], [], n)
  | .cons a r, x, n => ((bld nm a x.1 n).1 ++ (bld nm r x.2 (bld nm a x.1 n).2.2).1, (bld nm a x.1 n).2.1 ++ (bld nm r x.2 (bld nm a x.1 n).2.2).2.1, (bld nm r x.2 (bld nm a x.1 n).2.2).2.2)

def onames (σ : Nat → Nat) (nx : Nat) : Sh → Nat → List Nat
  | .own _ _, n | .rown _ _, n | .arr _ _ _, n => [nx + n]
  | .box _ cs, n | .rbox _ cs, n => (nx + n) :: onames σ nx cs (n + 1)
  | .fn _ cap, n => onames σ nx cap n
  | .agg cs, n => onames σ nx cs n
  | .els _ _ cs, n => onames σ nx cs n
  | .bxo _ _ cs, n => (nx + n) :: onames σ nx cs (n + 1)
  | .fnb _ _ cs, n => onames σ nx cs n
  | .upd i _ cs, n => σ i :: onames σ nx cs (n + 1)
  | .updr i _ _, _ => [σ i]
  | .cons a r, n => onames σ nx a n ++ onames σ nx r (n + (onames σ nx a n).length)
  | _, _ => []

section
variable {B : Bs} {c : Cf} {w : World}

def updIx : Sh → List Nat
  | .upd i _ cs => i :: updIx cs
  | .updr i _ _ => [i]
  | .keep _ i => [i]
  | .box _ cs | .rbox _ cs | .agg cs | .fn _ cs | .els _ _ cs | .bxo _ _ cs | .fnb _ _ cs => updIx cs
  | .cons a r => updIx a ++ updIx r
  | _ => []

theorem keep_ok {k n : Nat} {v : AV} {u : Value} (h : keepAv k n v = true) (hv : VR c w v u) : ∃ u0, c.nm n = some u0 ∧ ∀ (c' : Cf) (w' : World) (m : Nat), c'.nm m = some u0 → VR c' w' (keepMk k m) u := by
  unfold keepAv at h
  unfold keepMk
  split at h
  · simp only [Bool.and_eq_true] at h
    have e1 := Nat.eq_of_beq_eq_true h.1
    have e2 := Nat.eq_of_beq_eq_true h.2
    subst e1; subst e2
    simp only [VR] at hv
    obtain ⟨b, h1, rfl⟩ := hv
    refine ⟨_, h1, fun c' w' m hm => ?_⟩
    show VR c' w' (.mp m) _
    simp only [VR]
    exact ⟨b, hm, rfl⟩
  · simp only [Bool.and_eq_true] at h
    have e1 := Nat.eq_of_beq_eq_true h.1
    have e2 := Nat.eq_of_beq_eq_true h.2
    subst e1; subst e2
    simp only [VR] at hv
    obtain ⟨b, h1, rfl⟩ := hv
    refine ⟨_, h1, fun c' w' m hm => ?_⟩
    show VR c' w' (.ptr m 0) _
    simp only [VR]
    exact ⟨b, hm, rfl⟩
  · simp only [Bool.and_eq_true] at h
    have e1 := Nat.eq_of_beq_eq_true h.1
    have e2 := Nat.eq_of_beq_eq_true h.2
    subst e1; subst e2
    simp only [VR] at hv
    refine ⟨_, hv.1, fun c' w' m hm => ?_⟩
    show VR c' w' (.own m) _
    simp only [VR]
    exact ⟨hm, hv.2⟩
  · simp only [Bool.and_eq_true] at h
    have e1 := Nat.eq_of_beq_eq_true h.1
    have e2 := Nat.eq_of_beq_eq_true h.2
    subst e1; subst e2
    simp only [VR] at hv
    obtain ⟨b, h1, rfl⟩ := hv
    refine ⟨_, h1, fun c' w' m hm => ?_⟩
    show VR c' w' (.yld m) _
    simp only [VR]
    exact ⟨b, hm, rfl⟩
  · rename_i j m
    simp only [Bool.and_eq_true] at h
    have e1 := Nat.eq_of_beq_eq_true h.1.1
    have e2 := Nat.eq_of_beq_eq_true h.2
    subst e1; subst e2
    simp only [VR] at hv
    obtain ⟨b, h1, h2, rfl⟩ := hv
    refine ⟨_, h1, fun c' w' q hq => ?_⟩
    have e9 : Nat.beq (3 + m) 2000000 = false := by
      cases hb : Nat.beq (3 + m) 2000000 with
      | false => rfl
      | true => have := Nat.eq_of_beq_eq_true hb; have := Nat.le_of_ble_eq_true h.1.2; omega
    have e0 : Nat.beq (3 + m) 0 = false := beq_no (by omega)
    have e1 : Nat.beq (3 + m) 1 = false := beq_no (by omega)
    have e2 : Nat.beq (3 + m) 2 = false := beq_no (by omega)
    simp only [e9, e0, e1, e2, cond_false, show 3 + m - 3 = m by omega, VR]
    exact ⟨b, hq, h2, rfl⟩
  · cases h

theorem rowName_ok {e : TypeId} {v : AV} {id : Nat} {u : Value} (h : rowName e v = some id) (hv : VR c w v u) :
    c.nm id = some u ∧ ∀ (c' : Cf) (w' : World) (k : Nat), c'.nm k = some u → VR c' w' (mkRow e k) u := by
  unfold rowName at h
  unfold mkRow
  split at h
  · cases hb : isMapTy e with
    | true => simp [hb] at h
    | false =>
      simp only [hb, cond_false, Option.some.injEq] at h
      subst h
      simp only [VR] at hv
      refine ⟨hv.1, fun c' w' k hk => ?_⟩
      simp only [cond_false, VR]
      exact ⟨hk, hv.2⟩
  · cases hb : isMapTy e with
    | false => simp [hb] at h
    | true =>
      simp only [hb, cond_true, Option.some.injEq] at h
      subst h
      simp only [VR] at hv
      obtain ⟨b, h1, rfl⟩ := hv
      refine ⟨h1, fun c' w' k hk => ?_⟩
      simp only [cond_true, VR]
      exact ⟨b, hk, rfl⟩
  · cases h

theorem boxName_ok {t : TypeId} {v : AV} {id : Nat} {u : Value} (h : boxName t v = some id) (hv : VR c w v u) :
    ∃ b, c.nm id = some (.pointer (some ⟨b, 0, none⟩)) ∧ ∀ (c' : Cf) (w' : World) (k : Nat), c'.nm k = some (.pointer (some ⟨b, 0, none⟩)) → VR c' w' (mkPtr t k) u := by
  unfold boxName at h
  unfold mkPtr
  split at h
  · cases hb : isBig t with
    | true => simp [hb] at h
    | false =>
      simp only [hb, cond_false, Option.some.injEq] at h
      subst h
      simp only [VR] at hv
      obtain ⟨b, h1, rfl⟩ := hv
      refine ⟨b, h1, fun c' w' k hk => ?_⟩
      simp only [cond_false, VR]
      exact ⟨b, hk, rfl⟩
  · cases hb : isBig t with
    | false => simp [hb] at h
    | true =>
      simp only [hb, cond_true, Option.some.injEq] at h
      subst h
      simp only [VR] at hv
      obtain ⟨b, h1, rfl⟩ := hv
      refine ⟨b, h1, fun c' w' k hk => ?_⟩
      simp only [cond_true, VR]
      exact ⟨b, hk, rfl⟩
  · cases h

theorem valOf_ok [Sites] {t : Ty} {x : t.den} {v : AV} {u : Value} {lk : Lk} (hk : Obs.Ok c w lk) (ha : aggOk t v = true) (h1 : allOne v.cells = true) (hm : mk1 lk t v.cells = some x) (hv : VR c w v u) (c' : Cf) (w' : World) (hE : ∀ us, TR c.I w t x us → TR c'.I w' t x us) : VR c' w' (valOf t x) u := by
  have hcells := cells_ok h1 hv
  have htr := hE _ (mk1_ok hk hm hcells)
  have hc := cellsOf_ok (c := c') (w := w') htr
  unfold valOf
  cases hag : t.isAgg with
  | true =>
    have : ∃ cs, v = .agg cs := by
      cases v <;> simp [aggOk, hag] at ha
      exact ⟨_, rfl⟩
    obtain ⟨cs, rfl⟩ := this
    simp only [VR] at hv
    obtain ⟨us, rfl, _⟩ := hv
    simp only [VR]
    exact ⟨us, rfl, by simpa [Value.cells] using hc⟩
  | false =>
    have hna : v.cells = [v] := by
      cases v <;> first | rfl | (simp [aggOk, hag] at ha)
    rw [hna] at h1
    have hone : u.oneCell' = true := one_ok (by simpa [allOne] using h1) hv
    rw [cells_of_one hone] at hc
    have hlen := hc.length
    simp only [List.length_cons, List.length_nil, Nat.zero_add] at hlen
    match hcs : cellsOf t x, hlen with
    | [y], _ =>
      rw [hcs] at hc
      simp only [VRs] at hc
      obtain ⟨u1, us', e1, h2, _⟩ := hc
      simp only [List.cons.injEq] at e1
      rw [e1.1]
      exact h2

def isLive : Ob → Bool | .frow _ _ | .dead => false | _ => true

structure TkOk [Sites] (B : Bs) (c : Cf) (s : Obs) (w : World) (I : Nat → Prop) (z : Tk) (vs : List Value) : Prop where
  rel : Rel B ⟨c.nm, I⟩ z.obs w
  ext : Ext c w ⟨c.nm, I⟩ w
  len : vs.length = z.tk.length
  live : ∀ (id : Nat) o, look z.obs id = some o → isLive o = true → look s id = some o
  at_ : ∀ (k id : Nat) o, z.tk[k]? = some (some id, o) → look z.obs id = some .dead ∧ look s id = some o ∧ isLive o = true ∧ c.nm id = vs[k]?
  nilv : ∀ (k : Nat) o, z.tk[k]? = some (none, o) → ∃ A, vs[k]? = some (.slice A 0 0)
  nodup : ∀ (j k id : Nat) o o', z.tk[j]? = some (some id, o) → z.tk[k]? = some (some id, o') → j = k
  rest : ∀ id : Nat, id ∉ z.fz → (∀ (k : Nat) o, z.tk[k]? ≠ some (some id, o)) → look z.obs id = look s id
  dom : ∀ id : Nat, look z.obs id = none → look s id = none
  newI : ∀ b, I b → c.I b ∨ ∃ (id : Nat) (e : TypeId) (t : Ty) (l : List t.den), look s id = some (.row e t l) ∧ look z.obs id = some (.frow t l) ∧ Own c id (.row e t l) b

def Gives (c' : Cf) (nm : Nat → Nat) (vs : List Value) : Prop := ∀ (k : Nat) v, vs[k]? = some v → c'.nm (nm k) = some v

theorem Gives.pre {c' : Cf} {nm : Nat → Nat} {vs vs' : List Value} (h : Gives c' nm vs') (hp : vs <+: vs') : Gives c' nm vs := fun k v hk => by
  obtain ⟨t, rfl⟩ := hp
  exact h k v (by rw [List.getElem?_append_left (List.getElem?_eq_some_iff.1 hk).1]; exact hk)

theorem Rel.kill [Sites] {s : Obs} (h : Rel B c s w) (id : Nat) : Rel B c (put s id .dead) w :=
  (h.upd id .dead (fun _ => False) (fun _ _ h => h) (fun _ _ => rfl) (fun _ h => h) (fun _ h => .inl h) (fun _ _ _ => rfl) (fun _ h => h.elim) (fun _ => trivial) (fun _ h => h.elim) rfl rfl rfl (Nat.le_refl _)).1

theorem TkOk.take [Sites] {s : Obs} {I : Nat → Prop} {z : Tk} {vs : List Value} (h : TkOk B c s w I z vs) {id : Nat} {o : Ob} (hl : look z.obs id = some o) (hv : isLive o = true) {v : Value} (hn : c.nm id = some v) :
    TkOk B c s w I ⟨put z.obs id .dead, z.tk ++ [(some id, o)], z.fz⟩ (vs ++ [v]) where
  rel := h.rel.kill id
  ext := h.ext
  len := by simp [h.len]
  live i o' hi ho' := by
    simp only [look_put] at hi
    split at hi
    · simp only [Option.some.injEq] at hi; subst hi; cases ho'
    · exact h.live i o' hi ho'
  at_ k i o' hk := by
    simp only [look_put]
    rcases Nat.lt_or_ge k z.tk.length with hlt | hge
    · rw [List.getElem?_append_left hlt] at hk
      obtain ⟨h1, h2, h3, h4⟩ := h.at_ k i o' hk
      refine ⟨by split; · rfl
                 · exact h1, h2, h3, ?_⟩
      rw [List.getElem?_append_left (by rw [h.len]; exact hlt)]
      exact h4
    · rw [List.getElem?_append_right hge] at hk
      have hk0 : k - z.tk.length = 0 := by
        have := (List.getElem?_eq_some_iff.1 hk).1
        simp at this
        omega
      rw [hk0] at hk
      simp only [List.getElem?_cons_zero, Option.some.injEq, Prod.mk.injEq] at hk
      obtain ⟨rfl, rfl⟩ := hk
      refine ⟨by rw [if_pos rfl], h.live _ _ hl hv, hv, ?_⟩
      rw [List.getElem?_append_right (by rw [h.len]; exact hge), h.len, hk0]
      exact hn
  nilv k o' hk := by
    rcases Nat.lt_or_ge k z.tk.length with hlt | hge
    · rw [List.getElem?_append_left hlt] at hk
      obtain ⟨A, hA⟩ := h.nilv k o' hk
      exact ⟨A, by rw [List.getElem?_append_left (by rw [h.len]; exact hlt)]; exact hA⟩
    · rw [List.getElem?_append_right hge] at hk
      have := (List.getElem?_eq_some_iff.1 hk).1
      have hk0 : k - z.tk.length = 0 := by simp at this; omega
      rw [hk0] at hk
      simp at hk
  nodup j k i o1 o2 hj hk := by
    have key : ∀ (j : Nat) o1, j < z.tk.length → z.tk[j]? ≠ some (some id, o1) := fun j o1 _ hj => by
      have := (h.at_ j id o1 hj).1
      rw [hl] at this
      cases this
      cases hv
    have hlast : ∀ (j : Nat) o1, z.tk.length ≤ j → (z.tk ++ [(some id, o)])[j]? = some (some i, o1) → j = z.tk.length ∧ i = id := fun j o1 hge hj => by
      rw [List.getElem?_append_right hge] at hj
      have := (List.getElem?_eq_some_iff.1 hj).1
      have hk0 : j - z.tk.length = 0 := by simp at this; omega
      rw [hk0] at hj
      simp only [List.getElem?_cons_zero, Option.some.injEq, Prod.mk.injEq] at hj
      exact ⟨by omega, hj.1.symm⟩
    rcases Nat.lt_or_ge j z.tk.length with hj1 | hj1 <;> rcases Nat.lt_or_ge k z.tk.length with hk1 | hk1
    · simp only [List.getElem?_append_left hj1] at hj
      simp only [List.getElem?_append_left hk1] at hk
      exact h.nodup j k i o1 o2 hj hk
    · obtain ⟨_, rfl⟩ := hlast k o2 hk1 hk
      simp only [List.getElem?_append_left hj1] at hj
      exact (key j o1 hj1 hj).elim
    · obtain ⟨_, rfl⟩ := hlast j o1 hj1 hj
      simp only [List.getElem?_append_left hk1] at hk
      exact (key k o2 hk1 hk).elim
    · have := (hlast j o1 hj1 hj).1
      have := (hlast k o2 hk1 hk).1
      omega
  rest i hi hk := by
    have hne : ¬ id = i := fun e => by
      subst e
      refine hk z.tk.length o ?_
      rw [List.getElem?_append_right (Nat.le_refl _)]
      simp
    simp only [look_put, if_neg hne]
    refine h.rest i hi fun k o' h' => hk k o' ?_
    rw [List.getElem?_append_left (List.getElem?_eq_some_iff.1 h').1]
    exact h'
  dom i hi := by
    simp only [look_put] at hi
    split at hi
    · cases hi
    · exact h.dom i hi
  newI b hb := by
    rcases h.newI b hb with h1 | ⟨i, e, t, l, h1, h2, h3⟩
    · exact .inl h1
    · refine .inr ⟨i, e, t, l, h1, ?_, h3⟩
      have hne : ¬ id = i := fun e' => by subst e'; rw [hl] at h2; cases h2; cases hv
      simp only [look_put, if_neg hne]
      exact h2

theorem TkOk.nils [Sites] {s : Obs} {I : Nat → Prop} {z : Tk} {vs : List Value} (h : TkOk B c s w I z vs) (o : Ob) (A : Option Addr) : TkOk B c s w I ⟨z.obs, z.tk ++ [(none, o)], z.fz⟩ (vs ++ [.slice A 0 0]) := by
  have hsome : ∀ (k i : Nat) o', (z.tk ++ [(none, o)])[k]? = some (some i, o') → k < z.tk.length ∧ z.tk[k]? = some (some i, o') := fun k i o' hk => by
    rcases Nat.lt_or_ge k z.tk.length with hlt | hge
    · rw [List.getElem?_append_left hlt] at hk; exact ⟨hlt, hk⟩
    · rw [List.getElem?_append_right hge] at hk
      have := (List.getElem?_eq_some_iff.1 hk).1
      have hk0 : k - z.tk.length = 0 := by simp at this; omega
      rw [hk0] at hk
      simp at hk
  refine ⟨h.rel, h.ext, by simp [h.len], h.live, fun k i o' hk => ?_, fun k o' hk => ?_, fun j k i o1 o2 hj hk => h.nodup j k i o1 o2 (hsome j i o1 hj).2 (hsome k i o2 hk).2, fun i hi hk => h.rest i hi fun k o' h' => hk k o' ?_, h.dom, h.newI⟩
  · obtain ⟨hlt, hk⟩ := hsome k i o' hk
    obtain ⟨h1, h2, h3, h4⟩ := h.at_ k i o' hk
    exact ⟨h1, h2, h3, by rw [List.getElem?_append_left (by rw [h.len]; exact hlt)]; exact h4⟩
  · rcases Nat.lt_or_ge k z.tk.length with hlt | hge
    · rw [List.getElem?_append_left hlt] at hk
      obtain ⟨A', hA⟩ := h.nilv k o' hk
      exact ⟨A', by rw [List.getElem?_append_left (by rw [h.len]; exact hlt)]; exact hA⟩
    · rw [List.getElem?_append_right hge] at hk
      have := (List.getElem?_eq_some_iff.1 hk).1
      have hk0 : k - z.tk.length = 0 := by simp at this; omega
      refine ⟨A, ?_⟩
      rw [List.getElem?_append_right (by rw [h.len]; exact hge), h.len, hk0]
      rfl
  · have hlt := (List.getElem?_eq_some_iff.1 h').1
    simp only
    rw [List.getElem?_append_left hlt]
    exact h'

theorem frz1_dead {s : Obs} {x : AV} {id : Nat} (h : look s id = some .dead) : look (frz1 s x) id = some .dead := by
  unfold frz1
  split
  · rename_i i
    split
    · rename_i hl
      have hl := (lookR_row hl).1
      rw [look_put, if_neg (fun e => by subst e; rw [h] at hl; cases hl)]
      exact h
    · exact h
  · rename_i i _ _ _
    split
    · rename_i hl
      have hl := (lookR_row hl).1
      rw [look_put, if_neg (fun e => by subst e; rw [h] at hl; cases hl)]
      exact h
    · exact h
  · exact h
theorem frz_dead [Sites] {id : Nat} : ∀ {xs : List AV} {s : Obs}, look s id = some .dead → look (frz s xs) id = some .dead
  | [], s, h => h
  | x :: xs, s, h => frz_dead (xs := xs) (frz1_dead (x := x) h)
theorem frz1_live {s : Obs} {x : AV} {id : Nat} {o : Ob} (h : look (frz1 s x) id = some o) (ho : isLive o = true) : look s id = some o := by
  unfold frz1 at h
  split at h
  · split at h
    · rw [look_put] at h
      split at h
      · simp only [Option.some.injEq] at h; subst h; cases ho
      · exact h
    · exact h
  · split at h
    · rw [look_put] at h
      split at h
      · simp only [Option.some.injEq] at h; subst h; cases ho
      · exact h
    · exact h
  · exact h
theorem frz_live [Sites] {id : Nat} {o : Ob} (ho : isLive o = true) : ∀ {xs : List AV} {s : Obs}, look (frz s xs) id = some o → look s id = some o
  | [], s, h => h
  | x :: xs, s, h => frz1_live (frz_live ho (xs := xs) h) ho
theorem frz1_dom {s : Obs} {x : AV} {id : Nat} (h : look (frz1 s x) id = none) : look s id = none := by
  unfold frz1 at h
  split at h
  · split at h
    · rw [look_put] at h
      split at h
      · cases h
      · exact h
    · exact h
  · split at h
    · rw [look_put] at h
      split at h
      · cases h
      · exact h
    · exact h
  · exact h
theorem frz_dom [Sites] {id : Nat} : ∀ {xs : List AV} {s : Obs}, look (frz s xs) id = none → look s id = none
  | [], s, h => h
  | x :: xs, s, h => frz1_dom (frz_dom (xs := xs) h)

theorem frz1_frow {s : Obs} {x : AV} {id : Nat} {t : Ty} {l : List t.den} (h : look s id = some (.frow t l)) : look (frz1 s x) id = some (.frow t l) := by
  unfold frz1
  split
  · split
    · rename_i hl
      have hl := (lookR_row hl).1
      rw [look_put, if_neg (fun e => by subst e; rw [h] at hl; cases hl)]
      exact h
    · exact h
  · split
    · rename_i hl
      have hl := (lookR_row hl).1
      rw [look_put, if_neg (fun e => by subst e; rw [h] at hl; cases hl)]
      exact h
    · exact h
  · exact h
theorem frz_frow [Sites] {id : Nat} {t : Ty} {l : List t.den} : ∀ {xs : List AV} {s : Obs}, look s id = some (.frow t l) → look (frz s xs) id = some (.frow t l)
  | [], s, h => h
  | x :: xs, s, h => frz_frow (xs := xs) (frz1_frow (x := x) h)

theorem frz_row2 [Sites] {s : Obs} (h : Rel B c s w) {id : Nat} {el : TypeId} {t : Ty} {l : List t.den} (hl : look s id = some (.row el t l)) (hmt : isMapTy el = false) :
    Rel B ⟨c.nm, fun b => c.I b ∨ Own c id (.row el t l) b⟩ (put s id (.frow t l)) w ∧ Ext c w ⟨c.nm, fun b => c.I b ∨ Own c id (.row el t l) b⟩ w := by
  refine h.upd (c' := ⟨c.nm, fun b => c.I b ∨ Own c id (.row el t l) b⟩) id (.frow t l) (fun b => Own c id (.row el t l) b) (fun _ _ h => h) (fun _ _ => rfl) (fun _ h => .inl h) (fun b hb => ?_) (fun _ _ _ => rfl)
    (fun b hb => h.free hl hb) (fun hE => ?_) (fun b hb => hb.elim) rfl rfl rfl (Nat.le_refl _)
  · rcases hb with hb | hb
    · exact .inl hb
    · exact .inr ⟨.inl hb, fun hh => hh, (h.ob _ _ hl).lt hb⟩
  · obtain ⟨v, us, h1, h2, h3⟩ := h.ob _ _ hl
    refine ⟨v, h1, ?_⟩
    have h3' := Cat.lasts hE.lasts h3
    rcases h2.2 with ⟨h0, A, rfl⟩ | ⟨b, cap, cur, rfl, hpos, hn, hm, hg, hs, ht⟩ | ⟨b, es, q, _, _, _, _, hq⟩
    rotate_left 2
    · rw [hmt] at hq; cases hq
    · refine ⟨A, 0, by rw [h0], by rw [h0]; exact Nat.le_refl _, Nat.zero_le _, fun _ => h0, fun ad _ hp => by omega⟩
    · refine ⟨some ⟨b, 0, none⟩, cap, rfl, hn, hm, (fun e => by cases e), fun ad ha _ => ?_⟩
      cases ha
      refine ⟨rfl, .inr ⟨_, h1, by simp [blockOf]; omega⟩, us, h3', fun j u hj => ?_⟩
      rw [cell_of_row w b (0 + j) cur el (0, 0) hg, Nat.zero_add]
      rw [← ht, List.getElem?_take] at hj
      split at hj
      · simpa using hj
      · cases hj

theorem frz1_ok2 [Sites] {s : Obs} (h : Rel B c s w) (x : AV) : ∃ I', Rel B ⟨c.nm, I'⟩ (frz1 s x) w ∧ Ext c w ⟨c.nm, I'⟩ w ∧
    ∀ b, I' b → c.I b ∨ ∃ (id : Nat) (e : TypeId) (t : Ty) (l : List t.den), look s id = some (.row e t l) ∧ look (frz1 s x) id = some (.frow t l) ∧ Own c id (.row e t l) b := by
  have hself : ∃ I', Rel B ⟨c.nm, I'⟩ s w ∧ Ext c w ⟨c.nm, I'⟩ w ∧ ∀ b, I' b → c.I b ∨ ∃ (id : Nat) (e : TypeId) (t : Ty) (l : List t.den), look s id = some (.row e t l) ∧ look s id = some (.frow t l) ∧ Own c id (.row e t l) b :=
    ⟨c.I, h, Ext.refl c w, fun b hb => .inl hb⟩
  have hrow : ∀ {id : Nat} {el : TypeId} {t : Ty} {l : List t.den}, lookR s id = some (.row el t l) → ∃ I', Rel B ⟨c.nm, I'⟩ (put s id (.frow t l)) w ∧ Ext c w ⟨c.nm, I'⟩ w ∧
      ∀ b, I' b → c.I b ∨ ∃ (id' : Nat) (e : TypeId) (t' : Ty) (l' : List t'.den), look s id' = some (.row e t' l') ∧ look (put s id (.frow t l)) id' = some (.frow t' l') ∧ Own c id' (.row e t' l') b := fun {id el t l} hl =>
    ⟨_, (frz_row2 h (lookR_row hl).1 (lookR_row hl).2).1, (frz_row2 h (lookR_row hl).1 (lookR_row hl).2).2, fun b hb => hb.imp (fun h => h) fun ho => ⟨_, _, _, _, (lookR_row hl).1, by rw [look_put, if_pos rfl], ho⟩⟩
  unfold frz1
  split
  · split
    · rename_i hl; exact hrow hl
    · exact hself
  · split
    · rename_i hl; exact hrow hl
    · exact hself
  · exact hself

theorem frz_ok2 [Sites] : ∀ (xs : List AV) {c : Cf} {s : Obs}, Rel B c s w → ∃ I', Rel B ⟨c.nm, I'⟩ (frz s xs) w ∧ Ext c w ⟨c.nm, I'⟩ w ∧
    ∀ b, I' b → c.I b ∨ ∃ (id : Nat) (e : TypeId) (t : Ty) (l : List t.den), look s id = some (.row e t l) ∧ look (frz s xs) id = some (.frow t l) ∧ Own c id (.row e t l) b
  | [], c, s, h => ⟨c.I, h, Ext.refl c w, fun b hb => .inl hb⟩
  | x :: xs, c, s, h => by
    obtain ⟨I1, h1, h2, h0⟩ := frz1_ok2 h x
    obtain ⟨I2, h3, h4, h5⟩ := frz_ok2 xs h1
    refine ⟨I2, h3, h2.trans h4, fun b hb => ?_⟩
    rcases h5 b hb with h6 | ⟨id, e, t, l, h6, h7, h8⟩
    · rcases h0 b h6 with h6 | ⟨id, e, t, l, h6, h7, h8⟩
      · exact .inl h6
      · exact .inr ⟨id, e, t, l, h6, frz_frow (xs := xs) h7, h8⟩
    · exact .inr ⟨id, e, t, l, frz1_live h6 rfl, h7, h8⟩

theorem TkOk.frz [Sites] {s : Obs} {I : Nat → Prop} {z : Tk} {vs : List Value} (h : TkOk B c s w I z vs) (v : AV) : ∃ I', TkOk B c s w I' ⟨frz z.obs v.cells, z.tk, idsDeep v ++ z.fz⟩ vs ∧ Ext ⟨c.nm, I⟩ w ⟨c.nm, I'⟩ w := by
  obtain ⟨I', h1, h2, h0⟩ := frz_ok2 v.cells h.rel
  refine ⟨I', ⟨h1, h.ext.trans h2, h.len, fun id o hl ho => h.live id o (frz_live ho hl) ho, fun k id o hk => ?_, h.nilv, h.nodup, fun id hid hk => ?_, fun id hid => h.dom id (frz_dom hid), fun b hb => ?_⟩, h2⟩
  · obtain ⟨g1, g2, g3, g4⟩ := h.at_ k id o hk
    exact ⟨frz_dead g1, g2, g3, g4⟩
  · simp only [List.mem_append, not_or] at hid
    simp only
    rw [frz_look fun x hx hm => hid.1 (cells_ids hx hm)]
    exact h.rest id hid.2 hk
  · rcases h0 b hb with h3 | ⟨id, e, t, l, h3, h4, h5⟩
    · rcases h.newI b h3 with h3 | ⟨id, e, t, l, h3, h4, h5⟩
      · exact .inl h3
      · exact .inr ⟨id, e, t, l, h3, frz_frow h4, h5⟩
    · exact .inr ⟨id, e, t, l, h.live id _ h3 rfl, h4, h5⟩
end
end Go.Hay
/- Shapes, second part: what is taken stands for what is built. -/
set_option linter.unusedVariables false
set_option linter.unusedSimpArgs false
namespace Go.Hay
open Go.RowKit
section
variable {B : Bs} {c : Cf} {w : World} {s : Obs}

def Blt [Sites] (c : Cf) (w : World) (sh : Sh) (x : sh.den) (n : Nat) (vs' : List Value) (I' : Nat → Prop) (z' : Tk) (u1 : List Value) : Prop :=
  ∀ (nm : Nat → Nat) (c' : Cf), Gives c' nm vs' → (∀ b, I' b → c'.I b) → (∀ i ∈ updIx sh, ∀ v, c.nm i = some v → c'.nm (nm (1000000 + i)) = some v) →
    VRs c' w (bld nm sh x n).1 u1 ∧ (bld nm sh x n).2.2 = vs'.length ∧
    (∀ i o0, (i, o0) ∈ (bld nm sh x n).2.1 → ∃ k, n ≤ k ∧ k < vs'.length ∧ i = nm k ∧ ObR c' w i o0 ∧ isLive o0 = true ∧
      ∀ v b, vs'[k]? = some v → blockOf v = some b → ∃ id o, z'.tk[k]? = some (some id, o) ∧ Own c id o b ∧ (isRo o0 = false → isRo o = false)) ∧
    ∀ k, n ≤ k → k < vs'.length → ∃ o0, (nm k, o0) ∈ (bld nm sh x n).2.1

theorem get_last {α : Type} (l : List α) (x : α) : (l ++ [x])[l.length]? = some x := by simp

theorem ro_row [Sites] {id : Nat} {e : TypeId} {t : Ty} {l : List t.den} {v : Value} {b : Nat} {o : Ob} (ho : rd o = .row e t l) (hn : c.nm id = some v) (hb : blockOf v = some b) : Own c id o b := by
  rw [← rd_own, ho]
  exact ⟨v, hn, hb⟩

theorem take_row [Sites] {I : Nat → Prop} {z : Tk} {vs : List Value} (h : TkOk B c s w I z vs) {id : Nat} {o : Ob} {e : TypeId} {t : Ty} {l : List t.den} (hl : look z.obs id = some o) (ho : rd o = .row e t l) (hv : isLive o = true) {u : Value} (hn : c.nm id = some u)
    {sh : Sh} (x : sh.den) (o1 : Ob) (ho1 : rd o1 = .row e t l) (hlive : isLive o1 = true) (hro : isRo o1 = false → isRo o = false) (avs : (Nat → Nat) → Nat → List AV) (ul : List Value) (hul : ∀ (c' : Cf) (nm : Nat → Nat) (k : Nat), c'.nm (nm k) = some u → VRs c' w (avs nm k) ul)
    (hb : ∀ nm n, bld nm sh x n = (avs nm n, [(nm n, o1)], n + 1)) :
    TkOk B c s w I ⟨put z.obs id .dead, z.tk ++ [(some id, o)], z.fz⟩ (vs ++ [u]) ∧ Blt c w sh x vs.length (vs ++ [u]) I ⟨put z.obs id .dead, z.tk ++ [(some id, o)], z.fz⟩ ul := by
  have htk := h.take hl hv hn
  refine ⟨htk, fun nm c' hg hI hkp => ?_⟩
  have hnm : c'.nm (nm vs.length) = some u := hg _ _ (get_last vs u)
  rw [hb]
  refine ⟨hul c' nm _ hnm, by simp, fun i o0 hm => ?_, fun k h1 h2 => ?_⟩
  · simp only [List.mem_singleton, Prod.mk.injEq] at hm
    obtain ⟨rfl, rfl⟩ := hm
    refine ⟨vs.length, Nat.le_refl _, by simp, rfl, ?_, hlive, fun v b hv hbl => ?_⟩
    · have h1 := h.rel.ob id o hl
      rw [← rd_obr, ho] at h1
      obtain ⟨v', us, h2, h3, h4⟩ := h1
      simp only at h2
      rw [hn] at h2
      simp only [Option.some.injEq] at h2
      subst h2
      rw [← rd_obr, ho1]
      exact ⟨u, us, hnm, h3, Cat.mono (fun _ _ hh => TR.lasts ⟨hI, fun _ _ => rfl⟩ hh) h4⟩
    · rw [get_last] at hv
      simp only [Option.some.injEq] at hv
      subst hv
      exact ⟨id, o, by simp only; rw [h.len, get_last], ro_row ho hn hbl, hro⟩
  · have : k = vs.length := by simp at h2; omega
    subst this
    exact ⟨o1, by simp⟩

theorem nils_row [Sites] {I : Nat → Prop} {z : Tk} {vs : List Value} (h : TkOk B c s w I z vs) {e : TypeId} {t : Ty} (A : Option Addr) (oz : Ob)
    {sh : Sh} (x : sh.den) (o1 : Ob) (ho1 : rd o1 = .row e t []) (hlive : isLive o1 = true) (avs : (Nat → Nat) → Nat → List AV) (ul : List Value) (hul : ∀ (c' : Cf) (nm : Nat → Nat) (k : Nat), c'.nm (nm k) = some (.slice A 0 0) → VRs c' w (avs nm k) ul)
    (hb : ∀ nm n, bld nm sh x n = (avs nm n, [(nm n, o1)], n + 1)) :
    TkOk B c s w I ⟨z.obs, z.tk ++ [(none, oz)], z.fz⟩ (vs ++ [.slice A 0 0]) ∧ Blt c w sh x vs.length (vs ++ [.slice A 0 0]) I ⟨z.obs, z.tk ++ [(none, oz)], z.fz⟩ ul := by
  refine ⟨h.nils oz A, fun nm c' hg hI hkp => ?_⟩
  have hnm : c'.nm (nm vs.length) = some (.slice A 0 0) := hg _ _ (get_last vs _)
  rw [hb]
  refine ⟨hul c' nm _ hnm, by simp, fun i o0 hm => ?_, fun k h1 h2 => ?_⟩
  · simp only [List.mem_singleton, Prod.mk.injEq] at hm
    obtain ⟨rfl, rfl⟩ := hm
    refine ⟨vs.length, Nat.le_refl _, by simp, rfl, ?_, hlive, fun v b hv hbl => ?_⟩
    · rw [← rd_obr, ho1]
      exact ⟨_, [], hnm, ⟨by simp, .inl ⟨rfl, A, rfl⟩⟩, rfl⟩
    · rw [get_last] at hv
      simp only [Option.some.injEq] at hv
      subst hv
      cases A <;> simp [blockOf] at hbl
  · have : k = vs.length := by simp at h2; omega
    subst this
    exact ⟨o1, by simp⟩

theorem take_box [Sites] {I : Nat → Prop} {z : Tk} {vs : List Value} (h : TkOk B c s w I z vs) {id : Nat} {o : Ob} {t : TypeId} {bs : List AV} (hl : look z.obs id = some o) (ho : rd o = .box t bs) (hv : isLive o = true) {b : Nat} (hn : c.nm id = some (.pointer (some ⟨b, 0, none⟩)))
    {cs : Sh} {x : cs.den} {z1 : Tk}
    (ih : ∀ {I : Nat → Prop} {vs us : List Value}, TkOk B c s w I ⟨put z.obs id .dead, z.tk ++ [(some id, o)], z.fz⟩ vs → VRs ⟨c.nm, I⟩ w bs us →
      ∃ I' vs' u1 u2, TkOk B c s w I' z1 vs' ∧ Ext ⟨c.nm, I⟩ w ⟨c.nm, I'⟩ w ∧ vs <+: vs' ∧ z.tk ++ [(some id, o)] <+: z1.tk ∧ us = u1 ++ u2 ∧ VRs ⟨c.nm, I'⟩ w [] u2 ∧ Blt c w cs x vs.length vs' I' z1 u1)
    {sh : Sh} (y : sh.den) (mkOb : List AV → Ob) (hmk : ∀ l, rd (mkOb l) = .box t l) (hlive : ∀ l, isLive (mkOb l) = true) (hro : ∀ l, isRo (mkOb l) = false → isRo o = false)
    (avs : (Nat → Nat) → Nat → List AV) (ul : List Value) (hul : ∀ (c' : Cf) (nm : Nat → Nat) (k : Nat), c'.nm (nm k) = some (.pointer (some ⟨b, 0, none⟩)) → VRs c' w (avs nm k) ul)
    (hb : ∀ nm n, bld nm sh y n = (avs nm n, (nm n, mkOb (bld nm cs x (n + 1)).1) :: (bld nm cs x (n + 1)).2.1, (bld nm cs x (n + 1)).2.2)) (hix : ∀ i ∈ updIx cs, i ∈ updIx sh) :
    ∃ I' vs', TkOk B c s w I' z1 vs' ∧ Ext ⟨c.nm, I⟩ w ⟨c.nm, I'⟩ w ∧ vs <+: vs' ∧ z.tk <+: z1.tk ∧ Blt c w sh y vs.length vs' I' z1 ul := by
  have htk := h.take hl hv hn
  have h1 := h.rel.ob id o hl
  rw [← rd_obr, ho] at h1
  obtain ⟨b', us, h2, h3, h4⟩ := h1
  simp only at h2
  rw [hn] at h2
  simp only [Option.some.injEq, Value.pointer.injEq, Addr.mk.injEq, and_true] at h2
  subst h2
  obtain ⟨I', vs', u1, u2, g1, g2, g3, g0, g4, g5, g6⟩ := ih htk h4
  simp only [VRs] at g5
  subst g5
  rw [List.append_nil] at g4
  subst g4
  have hpre : vs <+: vs' := (List.prefix_append vs _).trans g3
  have hat : vs'[vs.length]? = some (.pointer (some ⟨b, 0, none⟩)) := by
    obtain ⟨t', rfl⟩ := g3
    simp
  have hlt : vs.length < vs'.length := (List.getElem?_eq_some_iff.1 hat).1
  refine ⟨I', vs', g1, g2, hpre, (List.prefix_append _ _).trans g0, fun nm c' hg hI hkp => ?_⟩
  have hnm : c'.nm (nm vs.length) = some (.pointer (some ⟨b, 0, none⟩)) := hg _ _ hat
  obtain ⟨k1, k2, k3, k4⟩ := g6 nm c' hg hI (fun i hi => hkp i (hix i hi))
  simp only [List.length_append, List.length_cons, List.length_nil, Nat.zero_add] at k1 k2 k3 k4
  rw [hb]
  refine ⟨hul c' nm _ hnm, k2, fun i o0 hm => ?_, fun k h5 h6 => ?_⟩
  · rcases List.mem_cons.1 hm with e | hm
    · simp only [Prod.mk.injEq] at e
      obtain ⟨rfl, rfl⟩ := e
      refine ⟨vs.length, Nat.le_refl _, hlt, rfl, ?_, hlive _, fun v b1 hv hbl => ?_⟩
      · rw [← rd_obr, hmk]
        exact ⟨b, us, hnm, h3, k1⟩
      · rw [hat] at hv
        simp only [Option.some.injEq] at hv
        subst hv
        have hz : z1.tk[vs.length]? = some (some id, o) := by
          obtain ⟨t', e⟩ := g0
          rw [← e, h.len, List.getElem?_append_left (by simp), get_last]
        refine ⟨id, o, hz, ?_, hro _⟩
        rw [← rd_own, ho]
        exact ⟨_, hn, hbl⟩
    · obtain ⟨k, q1, q2, q3, q4, q5, q6⟩ := k3 i o0 hm
      exact ⟨k, by omega, q2, q3, q4, q5, q6⟩
  · by_cases e : k = vs.length
    · subst e
      exact ⟨_, List.mem_cons_self ..⟩
    · obtain ⟨o0, ho0⟩ := k4 k (by omega) h6
      exact ⟨o0, List.mem_cons_of_mem _ ho0⟩

theorem xt_ok [Sites] : ∀ (sh : Sh) (as : List AV) (z : Tk) (x : sh.den) (rest : List AV) (z' : Tk), xt sh as z = some (x, rest, z') → ∀ {I : Nat → Prop} {vs us : List Value}, TkOk B c s w I z vs → VRs ⟨c.nm, I⟩ w as us →
    ∃ I' vs' u1 u2, TkOk B c s w I' z' vs' ∧ Ext ⟨c.nm, I⟩ w ⟨c.nm, I'⟩ w ∧ vs <+: vs' ∧ z.tk <+: z'.tk ∧ us = u1 ++ u2 ∧ VRs ⟨c.nm, I'⟩ w rest u2 ∧ Blt c w sh x vs.length vs' I' z' u1 := by
  intro sh
  induction sh with
  | val t =>
    intro as z x rest z' h I vs us htk hv
    simp only [xt] at h
    split at h
    · rename_i v r
      split at h
      · rename_i x' hc hm
        simp only [Option.some.injEq, Prod.mk.injEq] at h
        obtain ⟨rfl, rfl, rfl⟩ := h
        simp only [Bool.and_eq_true] at hc
        simp only [VRs] at hv
        obtain ⟨u, us', rfl, h1, h2⟩ := hv
        obtain ⟨I', g1, g2⟩ := htk.frz v
        refine ⟨I', vs, [u], us', g1, g2, List.prefix_refl _, List.prefix_refl _, rfl, VRs.ext g2 _ _ h2, fun nm c' hg hI hkp => ?_⟩
        simp only [bld]
        refine ⟨?_, trivial, fun i o0 hm => (by cases hm), fun k h3 h4 => by omega⟩
        simp only [VRs]
        exact ⟨u, [], rfl, valOf_ok g1.rel.obs hc.1 hc.2 hm (VR.ext g2 _ _ h1) c' w fun us hh => TR.lasts ⟨hI, fun _ _ => rfl⟩ hh, rfl⟩
      · cases h
    · cases h
  | own e t =>
    intro as z x rest z' h I vs us htk hv
    simp only [xt] at h
    split at h
    · cases hmt : isMapTy e with
      | true => simp [hmt] at h
      | false =>
        simp only [hmt, cond_false, Option.some.injEq, Prod.mk.injEq] at h
        obtain ⟨rfl, rfl, rfl⟩ := h
        simp only [VRs] at hv
        obtain ⟨u, us', rfl, h1, h2⟩ := hv
        simp only [VR] at h1
        obtain ⟨A, rfl⟩ := h1
        obtain ⟨g1, g2⟩ := nils_row htk A (.row e t []) (sh := .own e t) [] (.row e t []) rfl rfl (fun nm k => [mkRow e (nm k)]) [.slice A 0 0] (fun c' nm k hk => by simp only [VRs, mkRow, hmt, cond_false, VR]; exact ⟨_, [], rfl, ⟨hk, rfl⟩, rfl⟩) (fun nm n => rfl)
        exact ⟨I, _, [_], us', g1, Ext.refl _ _, List.prefix_append _ _, List.prefix_append _ _, rfl, h2, g2⟩
    · rename_i v r _
      split at h
      · rename_i id hrn
        simp only [VRs] at hv
        obtain ⟨u, us', rfl, h1, h2⟩ := hv
        obtain ⟨hn, hmk⟩ := rowName_ok hrn h1
        split at h
        · rename_i e' t' l hl
          split at h
          · rename_i m hb hm
            obtain ⟨rfl, rfl⟩ := castL_some hm
            have := Nat.eq_of_beq_eq_true hb
            subst this
            simp only [Option.some.injEq, Prod.mk.injEq] at h
            obtain ⟨rfl, rfl, rfl⟩ := h
            obtain ⟨g1, g2⟩ := take_row htk hl rfl rfl hn (sh := .own e' t') _ (.row e' t' _) rfl rfl (fun h => h) (fun nm k => [mkRow e' (nm k)]) [u] (fun c' nm k hk => by simp only [VRs]; exact ⟨u, [], rfl, hmk c' w _ hk, rfl⟩) (fun nm n => rfl)
            exact ⟨I, _, [u], us', g1, Ext.refl _ _, List.prefix_append _ _, List.prefix_append _ _, rfl, h2, g2⟩
          · cases h
        · cases h
      · cases h
    · cases h
  | rown e t =>
    intro as z x rest z' h I vs us htk hv
    simp only [xt] at h
    split at h
    · cases hmt : isMapTy e with
      | true => simp [hmt] at h
      | false =>
        simp only [hmt, cond_false, Option.some.injEq, Prod.mk.injEq] at h
        obtain ⟨rfl, rfl, rfl⟩ := h
        simp only [VRs] at hv
        obtain ⟨u, us', rfl, h1, h2⟩ := hv
        simp only [VR] at h1
        obtain ⟨A, rfl⟩ := h1
        obtain ⟨g1, g2⟩ := nils_row htk A (.row e t []) (sh := .rown e t) [] (.rrow e t []) rfl rfl (fun nm k => [mkRow e (nm k)]) [.slice A 0 0] (fun c' nm k hk => by simp only [VRs, mkRow, hmt, cond_false, VR]; exact ⟨_, [], rfl, ⟨hk, rfl⟩, rfl⟩) (fun nm n => rfl)
        exact ⟨I, _, [_], us', g1, Ext.refl _ _, List.prefix_append _ _, List.prefix_append _ _, rfl, h2, g2⟩
    · rename_i v r _
      split at h
      · rename_i id hrn
        simp only [VRs] at hv
        obtain ⟨u, us', rfl, h1, h2⟩ := hv
        obtain ⟨hn, hmk⟩ := rowName_ok hrn h1
        split at h
        · rename_i e' t' l hl
          split at h
          · rename_i m hb hm
            obtain ⟨rfl, rfl⟩ := castL_some hm
            have := Nat.eq_of_beq_eq_true hb
            subst this
            simp only [Option.some.injEq, Prod.mk.injEq] at h
            obtain ⟨rfl, rfl, rfl⟩ := h
            obtain ⟨g1, g2⟩ := take_row htk hl rfl rfl hn (sh := .rown e' t') _ (.rrow e' t' _) rfl rfl (fun h => by cases h) (fun nm k => [mkRow e' (nm k)]) [u] (fun c' nm k hk => by simp only [VRs]; exact ⟨u, [], rfl, hmk c' w _ hk, rfl⟩) (fun nm n => rfl)
            exact ⟨I, _, [u], us', g1, Ext.refl _ _, List.prefix_append _ _, List.prefix_append _ _, rfl, h2, g2⟩
          · cases h
        · rename_i e' t' l hl
          split at h
          · rename_i m hb hm
            obtain ⟨rfl, rfl⟩ := castL_some hm
            have := Nat.eq_of_beq_eq_true hb
            subst this
            simp only [Option.some.injEq, Prod.mk.injEq] at h
            obtain ⟨rfl, rfl, rfl⟩ := h
            obtain ⟨g1, g2⟩ := take_row htk hl rfl rfl hn (sh := .rown e' t') _ (.rrow e' t' _) rfl rfl (fun h => by cases h) (fun nm k => [mkRow e' (nm k)]) [u] (fun c' nm k hk => by simp only [VRs]; exact ⟨u, [], rfl, hmk c' w _ hk, rfl⟩) (fun nm n => rfl)
            exact ⟨I, _, [u], us', g1, Ext.refl _ _, List.prefix_append _ _, List.prefix_append _ _, rfl, h2, g2⟩
          · cases h
        · cases h
      · cases h
    · cases h
  | box t cs ih =>
    intro as z x rest z' h I vs us htk hv
    simp only [xt] at h
    split at h
    · rename_i v r
      split at h
      · rename_i id hbn
        simp only [VRs] at hv
        obtain ⟨u, us', rfl, h1, h2⟩ := hv
        obtain ⟨b, hn, hmk⟩ := boxName_ok hbn h1
        split at h
        · rename_i t' bs hl
          split at h
          · rename_i x' z1 hb hx
            have := Nat.eq_of_beq_eq_true hb
            subst this
            simp only [Option.some.injEq, Prod.mk.injEq] at h
            obtain ⟨rfl, rfl, rfl⟩ := h
            obtain ⟨I', vs', g1, g2, g3, g4, g5⟩ := take_box htk hl rfl rfl hn (cs := cs) (x := x') (z1 := z1) (fun h1 h2 => ih bs _ x' [] z1 hx h1 h2) (sh := .box t' cs) x' (.box t') (fun _ => rfl) (fun _ => rfl) (fun _ h => h)
              (fun nm k => [mkPtr t' (nm k)]) [u] (fun c' nm k hk => by simp only [VRs]; exact ⟨_, [], rfl, hmk c' w _ hk, rfl⟩) (fun nm n => rfl) (fun i hi => hi)
            exact ⟨I', vs', [_], us', g1, g2, g3, g4, rfl, VRs.ext g2 _ _ h2, g5⟩
          · cases h
        · cases h
      · cases h
    · cases h
  | bxo off t cs ih =>
    intro as z x rest z' h I vs us htk hv
    simp only [xt] at h
    split at h
    · rename_i id off' r
      simp only [VRs] at hv
      obtain ⟨u, us', rfl, h1, h2⟩ := hv
      simp only [VR] at h1
      obtain ⟨b, hn, rfl⟩ := h1
      split at h
      · rename_i t' bs hl
        split at h
        · rename_i x' z1 hb hx
          simp only [Bool.and_eq_true] at hb
          have e1 := Nat.eq_of_beq_eq_true hb.1
          have e2 := Nat.eq_of_beq_eq_true hb.2
          subst e1; subst e2
          simp only [Option.some.injEq, Prod.mk.injEq] at h
          obtain ⟨rfl, rfl, rfl⟩ := h
          obtain ⟨I', vs', g1, g2, g3, g4, g5⟩ := take_box htk hl rfl rfl hn (cs := cs) (x := x') (z1 := z1) (fun h1 h2 => ih bs _ x' [] z1 hx h1 h2) (sh := .bxo off' t' cs) x' (.box t') (fun _ => rfl) (fun _ => rfl) (fun _ h => h)
            (fun nm k => [.ptr (nm k) off']) [_] (fun c' nm k hk => by simp only [VRs, VR]; exact ⟨_, [], rfl, ⟨b, hk, rfl⟩, rfl⟩) (fun nm n => rfl) (fun i hi => hi)
          exact ⟨I', vs', [_], us', g1, g2, g3, g4, rfl, VRs.ext g2 _ _ h2, g5⟩
        · cases h
      · cases h
    · cases h
  | rbox t cs ih =>
    intro as z x rest z' h I vs us htk hv
    simp only [xt] at h
    split at h
    · rename_i id r
      simp only [VRs] at hv
      obtain ⟨u, us', rfl, h1, h2⟩ := hv
      simp only [VR] at h1
      obtain ⟨b, hn, rfl⟩ := h1
      split at h
      · rename_i t' bs hl
        split at h
        · rename_i x' z1 hb hx
          have := Nat.eq_of_beq_eq_true hb
          subst this
          simp only [Option.some.injEq, Prod.mk.injEq] at h
          obtain ⟨rfl, rfl, rfl⟩ := h
          obtain ⟨I', vs', g1, g2, g3, g4, g5⟩ := take_box htk hl rfl rfl hn (cs := cs) (x := x') (z1 := z1) (fun h1 h2 => ih bs _ x' [] z1 hx h1 h2) (sh := .rbox t' cs) x' (.rbox t') (fun _ => rfl) (fun _ => rfl) (fun _ h => by cases h)
            (fun nm k => [.ptr (nm k) 0]) [.pointer (some ⟨b, 0, none⟩)] (fun c' nm k hk => by simp only [VRs, VR]; exact ⟨_, [], rfl, ⟨b, hk, rfl⟩, rfl⟩) (fun nm n => rfl) (fun i hi => hi)
          exact ⟨I', vs', [_], us', g1, g2, g3, g4, rfl, VRs.ext g2 _ _ h2, g5⟩
        · cases h
      · rename_i t' bs hl
        split at h
        · rename_i x' z1 hb hx
          have := Nat.eq_of_beq_eq_true hb
          subst this
          simp only [Option.some.injEq, Prod.mk.injEq] at h
          obtain ⟨rfl, rfl, rfl⟩ := h
          obtain ⟨I', vs', g1, g2, g3, g4, g5⟩ := take_box htk hl rfl rfl hn (cs := cs) (x := x') (z1 := z1) (fun h1 h2 => ih bs _ x' [] z1 hx h1 h2) (sh := .rbox t' cs) x' (.rbox t') (fun _ => rfl) (fun _ => rfl) (fun _ h => by cases h)
            (fun nm k => [.ptr (nm k) 0]) [.pointer (some ⟨b, 0, none⟩)] (fun c' nm k hk => by simp only [VRs, VR]; exact ⟨_, [], rfl, ⟨b, hk, rfl⟩, rfl⟩) (fun nm n => rfl) (fun i hi => hi)
          exact ⟨I', vs', [_], us', g1, g2, g3, g4, rfl, VRs.ext g2 _ _ h2, g5⟩
        · cases h
      · cases h
    · cases h
  | upd i t cs ih =>
    intro as z x rest z' h I vs us htk hv
    simp only [xt] at h
    split at h
    · rename_i t' bs hl
      split at h
      · rename_i x' z1 hb hx
        have := Nat.eq_of_beq_eq_true hb
        subst this
        simp only [Option.some.injEq, Prod.mk.injEq] at h
        obtain ⟨rfl, rfl, rfl⟩ := h
        obtain ⟨b, _, hn, _, _⟩ := htk.rel.ob i _ hl
        obtain ⟨I', vs', g1, g2, g3, g4, g5⟩ := take_box htk hl rfl rfl hn (cs := cs) (x := x') (z1 := z1) (fun h1 h2 => ih bs _ x' [] z1 hx h1 h2) (sh := .upd i t' cs) x' (.box t') (fun _ => rfl) (fun _ => rfl) (fun _ h => h)
          (fun nm k => []) [] (fun c' nm k hk => by simp only [VRs]) (fun nm n => rfl) (fun i hi => List.mem_cons_of_mem _ hi)
        exact ⟨I', vs', [], us, g1, g2, g3, g4, rfl, VRs.ext g2 _ _ hv, g5⟩
      · cases h
    · cases h
  | updr i e t =>
    intro as z x rest z' h I vs us htk hv
    simp only [xt] at h
    split at h
    · rename_i e' t' l hl
      split at h
      · rename_i m hb hm
        obtain ⟨rfl, rfl⟩ := castL_some hm
        have := Nat.eq_of_beq_eq_true hb
        subst this
        simp only [Option.some.injEq, Prod.mk.injEq] at h
        obtain ⟨rfl, rfl, rfl⟩ := h
        obtain ⟨u, _, hn, hrow, _⟩ := htk.rel.ob i _ hl
        obtain ⟨g1, g2⟩ := take_row htk hl rfl rfl hn (sh := .updr i e' t') _ (.row e' t' _) rfl rfl (fun h => h) (fun nm k => []) [] (fun c' nm k hk => by simp only [VRs]) (fun nm n => rfl)
        exact ⟨I, _, [], us, g1, Ext.refl _ _, List.prefix_append _ _, List.prefix_append _ _, rfl, hv, g2⟩
      · cases h
    · cases h
  | fn f cap ih =>
    intro as z x rest z' h I vs us htk hv
    simp only [xt] at h
    split at h
    · rename_i f' bs r
      simp only [VRs] at hv
      obtain ⟨u, us', rfl, h1, h2⟩ := hv
      simp only [VR, VRs] at h1
      obtain ⟨us0, ws, rfl, rfl, h4⟩ := h1
      split at h
      · rename_i x' z1 hb hx
        have := Nat.eq_of_beq_eq_true hb
        subst this
        simp only [Option.some.injEq, Prod.mk.injEq] at h
        obtain ⟨rfl, rfl, rfl⟩ := h
        obtain ⟨I', vs', u1, u2, g1, g2, g3, g0, g4, g5, g6⟩ := ih bs z x' [] z1 hx htk h4
        simp only [VRs] at g5
        subst g5
        rw [List.append_nil] at g4
        subst g4
        refine ⟨I', vs', [_], us', g1, g2, g3, g0, rfl, VRs.ext g2 _ _ h2, fun nm c' hg hI hkp => ?_⟩
        obtain ⟨k1, k2, k3, k4⟩ := g6 nm c' hg hI hkp
        simp only [bld]
        refine ⟨?_, k2, k3, k4⟩
        simp only [VRs, VR]
        exact ⟨_, [], rfl, ⟨[], _, rfl, rfl, k1⟩, rfl⟩
      · cases h
    · cases h
  | fnb k f cs ih =>
    intro as z x rest z' h I vs us htk hv
    simp only [xt] at h
    split at h
    · rename_i f' b1 b2 r
      simp only [VRs] at hv
      obtain ⟨u, us', rfl, h1, h2⟩ := hv
      simp only [VR] at h1
      obtain ⟨us0, ws, rfl, h3, h4⟩ := h1
      split at h
      · rename_i x' z1 hb hx
        simp only [Bool.and_eq_true] at hb
        have e1 := Nat.eq_of_beq_eq_true hb.1
        have e2 := Nat.eq_of_beq_eq_true hb.2
        subst e1
        simp only [Option.some.injEq, Prod.mk.injEq] at h
        obtain ⟨rfl, rfl, rfl⟩ := h
        have hl := h3.length
        obtain ⟨I', vs', u1, u2, g1, g2, g3, g0, g4, g5, g6⟩ := ih (b1 ++ b2) z x' [] z1 hx htk (h3.append h4)
        simp only [VRs] at g5
        subst g5
        rw [List.append_nil] at g4
        refine ⟨I', vs', [_], us', g1, g2, g3, g0, rfl, VRs.ext g2 _ _ h2, fun nm c' hg hI hkp => ?_⟩
        obtain ⟨k1, k2, k3, k4⟩ := g6 nm c' hg hI hkp
        rw [← g4] at k1
        have t1 := k1.take k
        have t2 := k1.drop k
        rw [List.take_left' (by omega)] at t1
        rw [List.drop_left' (by omega)] at t2
        simp only [bld]
        refine ⟨?_, k2, k3, k4⟩
        simp only [VRs, VR]
        exact ⟨_, [], rfl, ⟨us0, ws, rfl, t1, t2⟩, rfl⟩
      · cases h
    · cases h
  | els sz n cs ih =>
    intro as z x rest z' h I vs us htk hv
    simp only [xt] at h
    split at h
    · rename_i sz' n' bs r
      simp only [VRs] at hv
      obtain ⟨u, us', rfl, h1, h2⟩ := hv
      simp only [VR] at h1
      obtain ⟨b, ws, rfl, hn, hIb, h4, hc⟩ := h1
      split at h
      · rename_i x' z1 hb hx
        simp only [Bool.and_eq_true] at hb
        have e1 := Nat.eq_of_beq_eq_true hb.1
        have e2 := Nat.eq_of_beq_eq_true hb.2
        subst e1; subst e2
        simp only [Option.some.injEq, Prod.mk.injEq] at h
        obtain ⟨rfl, rfl, rfl⟩ := h
        obtain ⟨I', vs', u1, u2, g1, g2, g3, g0, g4, g5, g6⟩ := ih bs z x' [] z1 hx htk h4
        simp only [VRs] at g5
        subst g5
        rw [List.append_nil] at g4
        subst g4
        refine ⟨I', vs', [_], us', g1, g2, g3, g0, rfl, VRs.ext g2 _ _ h2, fun nm c' hg hI hkp => ?_⟩
        obtain ⟨k1, k2, k3, k4⟩ := g6 nm c' hg hI hkp
        simp only [bld]
        refine ⟨?_, k2, k3, k4⟩
        simp only [VRs, VR]
        exact ⟨_, [], rfl, ⟨b, _, rfl, ⟨hn.1, hn.2.1, by rw [← k1.length, h4.length]; exact hn.2.2⟩, hI _ (g2.lasts.sub b hIb), k1, hc⟩, rfl⟩
      · cases h
    · cases h
  | agg cs ih =>
    intro as z x rest z' h I vs us htk hv
    simp only [xt] at h
    split at h
    · rename_i bs r
      simp only [VRs] at hv
      obtain ⟨u, us', rfl, h1, h2⟩ := hv
      simp only [VR] at h1
      obtain ⟨ws, rfl, h4⟩ := h1
      split at h
      · rename_i x' z1 hx
        simp only [Option.some.injEq, Prod.mk.injEq] at h
        obtain ⟨rfl, rfl, rfl⟩ := h
        obtain ⟨I', vs', u1, u2, g1, g2, g3, g0, g4, g5, g6⟩ := ih bs z x' [] z1 hx htk h4
        simp only [VRs] at g5
        subst g5
        rw [List.append_nil] at g4
        subst g4
        refine ⟨I', vs', [_], us', g1, g2, g3, g0, rfl, VRs.ext g2 _ _ h2, fun nm c' hg hI hkp => ?_⟩
        obtain ⟨k1, k2, k3, k4⟩ := g6 nm c' hg hI hkp
        simp only [bld]
        refine ⟨?_, k2, k3, k4⟩
        simp only [VRs, VR]
        exact ⟨_, [], rfl, ⟨_, rfl, k1⟩, rfl⟩
      · cases h
    · cases h
  | ref i =>
    intro as z x rest z' h I vs us htk hv
    simp only [xt] at h
    split at h
    · rename_i id r
      simp only [VRs] at hv
      obtain ⟨u, us', rfl, h1, h2⟩ := hv
      simp only [VR] at h1
      obtain ⟨b, hn, rfl⟩ := h1
      split at h
      · rename_i id' o hk
        split at h
        · rename_i hb
          have := Nat.eq_of_beq_eq_true hb
          subst this
          simp only [Option.some.injEq, Prod.mk.injEq] at h
          obtain ⟨_, rfl, rfl⟩ := h
          refine ⟨I, vs, [_], us', htk, Ext.refl _ _, List.prefix_refl _, List.prefix_refl _, rfl, h2, fun nm c' hg hI hkp => ?_⟩
          simp only [bld]
          refine ⟨?_, trivial, fun i o0 hm => (by cases hm), fun k h3 h4 => by omega⟩
          simp only [VRs, VR]
          refine ⟨_, [], rfl, ⟨b, ?_, rfl⟩, rfl⟩
          have := (htk.at_ _ _ _ hk).2.2.2
          rw [hn] at this
          exact hg _ _ this.symm
        · cases h
      · cases h
    · cases h
  | refo i off =>
    intro as z x rest z' h I vs us htk hv
    simp only [xt] at h
    split at h
    · rename_i id off' r
      simp only [VRs] at hv
      obtain ⟨u, us', rfl, h1, h2⟩ := hv
      simp only [VR] at h1
      obtain ⟨b, hn, rfl⟩ := h1
      split at h
      · rename_i id' o hk
        split at h
        · rename_i hb
          simp only [Bool.and_eq_true] at hb
          have := Nat.eq_of_beq_eq_true hb.1
          subst this
          have := Nat.eq_of_beq_eq_true hb.2
          subst this
          simp only [Option.some.injEq, Prod.mk.injEq] at h
          obtain ⟨_, rfl, rfl⟩ := h
          refine ⟨I, vs, [_], us', htk, Ext.refl _ _, List.prefix_refl _, List.prefix_refl _, rfl, h2, fun nm c' hg hI hkp => ?_⟩
          simp only [bld]
          refine ⟨?_, trivial, fun i o0 hm => (by cases hm), fun k h3 h4 => by omega⟩
          simp only [VRs, VR]
          refine ⟨_, [], rfl, ⟨b, ?_, rfl⟩, rfl⟩
          have := (htk.at_ _ _ _ hk).2.2.2
          rw [hn] at this
          exact hg _ _ this.symm
        · cases h
      · cases h
    · cases h
  | refr i =>
    intro as z x rest z' h I vs us htk hv
    simp only [xt] at h
    split at h
    · rename_i id r
      simp only [VRs] at hv
      obtain ⟨u, us', rfl, h1, h2⟩ := hv
      simp only [VR] at h1
      obtain ⟨hn, hsl⟩ := h1
      split at h
      · rename_i id' o hk
        split at h
        · rename_i hb
          have := Nat.eq_of_beq_eq_true hb
          subst this
          simp only [Option.some.injEq, Prod.mk.injEq] at h
          obtain ⟨_, rfl, rfl⟩ := h
          refine ⟨I, vs, [_], us', htk, Ext.refl _ _, List.prefix_refl _, List.prefix_refl _, rfl, h2, fun nm c' hg hI hkp => ?_⟩
          simp only [bld]
          refine ⟨?_, trivial, fun i o0 hm => (by cases hm), fun k h3 h4 => by omega⟩
          simp only [VRs, VR]
          refine ⟨_, [], rfl, ⟨?_, hsl⟩, rfl⟩
          have := (htk.at_ _ _ _ hk).2.2.2
          rw [hn] at this
          exact hg _ _ this.symm
        · cases h
      · cases h
    · cases h
  | nils =>
    intro as z x rest z' h I vs us htk hv
    simp only [xt] at h
    split at h
    · simp only [VRs] at hv
      obtain ⟨u, us', rfl, h1, h2⟩ := hv
      simp only [VR] at h1
      simp only [Option.some.injEq, Prod.mk.injEq] at h
      obtain ⟨_, rfl, rfl⟩ := h
      refine ⟨I, vs, [_], us', htk, Ext.refl _ _, List.prefix_refl _, List.prefix_refl _, rfl, h2, fun nm c' hg hI hkp => ?_⟩
      simp only [bld]
      refine ⟨?_, trivial, fun i o0 hm => (by cases hm), fun k h3 h4 => by omega⟩
      simp only [VRs, VR]
      exact ⟨_, [], rfl, h1, rfl⟩
    · cases h
  | nilp =>
    intro as z x rest z' h I vs us htk hv
    simp only [xt] at h
    split at h
    · simp only [VRs] at hv
      obtain ⟨u, us', rfl, h1, h2⟩ := hv
      simp only [VR] at h1
      simp only [Option.some.injEq, Prod.mk.injEq] at h
      obtain ⟨_, rfl, rfl⟩ := h
      refine ⟨I, vs, [_], us', htk, Ext.refl _ _, List.prefix_refl _, List.prefix_refl _, rfl, h2, fun nm c' hg hI hkp => ?_⟩
      simp only [bld]
      refine ⟨?_, trivial, fun i o0 hm => (by cases hm), fun k h3 h4 => by omega⟩
      simp only [VRs, VR]
      exact ⟨_, [], rfl, h1, rfl⟩
    · cases h
  | lit k n =>
    intro as z x rest z' h I vs us htk hv
    simp only [xt] at h
    split at h
    · split at h
      · rename_i hc
        simp only [Bool.and_eq_true, decide_eq_true_eq] at hc
        have hk := ikEq_eq hc.1
        have hn := hc.2
        subst hk; subst hn
        simp only [VRs] at hv
        obtain ⟨u, us', rfl, h1, h2⟩ := hv
        simp only [VR] at h1
        simp only [Option.some.injEq, Prod.mk.injEq] at h
        obtain ⟨_, rfl, rfl⟩ := h
        refine ⟨I, vs, [_], us', htk, Ext.refl _ _, List.prefix_refl _, List.prefix_refl _, rfl, h2, fun nm c' hg hI hkp => ?_⟩
        simp only [bld]
        refine ⟨?_, trivial, fun i o0 hm => (by cases hm), fun k h3 h4 => by omega⟩
        simp only [VRs, VR]
        exact ⟨_, [], rfl, h1, rfl⟩
      · cases h
    · cases h
  | junk =>
    intro as z x rest z' h I vs us htk hv
    simp only [xt] at h
    split at h
    · simp only [VRs] at hv
      obtain ⟨u, us', rfl, h1, h2⟩ := hv
      simp only [Option.some.injEq, Prod.mk.injEq] at h
      obtain ⟨_, rfl, rfl⟩ := h
      refine ⟨I, vs, [_], us', htk, Ext.refl _ _, List.prefix_refl _, List.prefix_refl _, rfl, h2, fun nm c' hg hI hkp => ?_⟩
      simp only [bld]
      refine ⟨?_, trivial, fun i o0 hm => (by cases hm), fun k h3 h4 => by omega⟩
      simp only [VRs, VR]
      exact ⟨_, [], rfl, trivial, rfl⟩
    · cases h
  | refy i =>
    intro as z x rest z' h I vs us htk hv
    simp only [xt] at h
    split at h
    · rename_i id r
      simp only [VRs] at hv
      obtain ⟨u, us', rfl, h1, h2⟩ := hv
      simp only [VR] at h1
      obtain ⟨b, hn, rfl⟩ := h1
      split at h
      · rename_i id' o hk
        split at h
        · rename_i hb
          have := Nat.eq_of_beq_eq_true hb
          subst this
          simp only [Option.some.injEq, Prod.mk.injEq] at h
          obtain ⟨_, rfl, rfl⟩ := h
          refine ⟨I, vs, [_], us', htk, Ext.refl _ _, List.prefix_refl _, List.prefix_refl _, rfl, h2, fun nm c' hg hI hkp => ?_⟩
          simp only [bld]
          refine ⟨?_, trivial, fun i o0 hm => (by cases hm), fun k h3 h4 => by omega⟩
          simp only [VRs, VR]
          refine ⟨_, [], rfl, ⟨b, ?_, rfl⟩, rfl⟩
          have := (htk.at_ _ _ _ hk).2.2.2
          rw [hn] at this
          exact hg _ _ this.symm
        · cases h
      · cases h
    · cases h
  | arr e t n =>
    intro as z x rest z' h I vs us htk hv
    simp only [xt] at h
    split at h
    · rename_i id m r
      simp only [VRs] at hv
      obtain ⟨u, us', rfl, h1, h2⟩ := hv
      simp only [VR] at h1
      obtain ⟨b, hn, hm, rfl⟩ := h1
      split at h
      · rename_i e' t' l hl
        split at h
        · rename_i m' hb hc
          obtain ⟨rfl, rfl⟩ := castL_some hc
          simp only [Bool.and_eq_true] at hb
          have e1 := Nat.eq_of_beq_eq_true hb.1
          have e2 := Nat.eq_of_beq_eq_true hb.2
          subst e1; subst e2
          simp only [Option.some.injEq, Prod.mk.injEq] at h
          obtain ⟨rfl, rfl, rfl⟩ := h
          obtain ⟨g1, g2⟩ := take_row htk hl rfl rfl hn (sh := .arr e' t' m) _ (.row e' t' _) rfl rfl (fun h => h) (fun nm k => [.aptr (nm k) m]) [.pointer (some ⟨b, 0, none⟩)]
            (fun c' nm k hk => by simp only [VRs, VR]; exact ⟨_, [], rfl, ⟨b, hk, hm, rfl⟩, rfl⟩) (fun nm n => rfl)
          exact ⟨I, _, [_], us', g1, Ext.refl _ _, List.prefix_append _ _, List.prefix_append _ _, rfl, h2, g2⟩
        · cases h
      · cases h
    · cases h
  | keep k i =>
    intro as z x rest z' h I vs us htk hv
    simp only [xt] at h
    split at h
    · split at h
      · rename_i v r hk
        simp only [VRs] at hv
        obtain ⟨u, us', rfl, h1, h2⟩ := hv
        simp only [Option.some.injEq, Prod.mk.injEq] at h
        obtain ⟨_, rfl, rfl⟩ := h
        refine ⟨I, vs, [_], us', htk, Ext.refl _ _, List.prefix_refl _, List.prefix_refl _, rfl, h2, fun nm c' hg hI hkp => ?_⟩
        simp only [bld]
        refine ⟨?_, trivial, fun i o0 hm => (by cases hm), fun k h3 h4 => by omega⟩
        obtain ⟨u0, g1, g2⟩ := keep_ok hk h1
        simp only [VRs]
        exact ⟨_, [], rfl, g2 c' w _ (hkp i (by simp [updIx]) u0 g1), rfl⟩
      · cases h
    · cases h
  | nil =>
    intro as z x rest z' h I vs us htk hv
    simp only [xt, Option.some.injEq, Prod.mk.injEq] at h
    obtain ⟨_, rfl, rfl⟩ := h
    refine ⟨I, vs, [], us, htk, Ext.refl _ _, List.prefix_refl _, List.prefix_refl _, rfl, hv, fun nm c' hg hI hkp => ?_⟩
    simp only [bld]
    exact ⟨by simp only [VRs], trivial, fun i o0 hm => (by cases hm), fun k h3 h4 => by omega⟩
  | cons a r iha ihr =>
    intro as z x rest z' h I vs us htk hv
    simp only [xt] at h
    split at h
    · rename_i x1 bs z1 h1
      split at h
      · rename_i y1 cs z2 h2
        simp only [Option.some.injEq, Prod.mk.injEq] at h
        obtain ⟨rfl, rfl, rfl⟩ := h
        obtain ⟨I1, vs1, u1, u2, g1, g2, g3, g0, rfl, g5, g6⟩ := iha as z x1 bs z1 h1 htk hv
        obtain ⟨I2, vs2, u3, u4, k1, k2, k3, k0, rfl, k5, k6⟩ := ihr bs z1 y1 cs z2 h2 g1 g5
        refine ⟨I2, vs2, u1 ++ u3, u4, k1, g2.trans k2, g3.trans k3, g0.trans k0, by rw [List.append_assoc], k5, fun nm c' hg hI hkp => ?_⟩
        have hI1 : ∀ b, I1 b → c'.I b := fun b hb => hI b (k2.lasts.sub b hb)
        obtain ⟨p1, p2, p3, p4⟩ := g6 nm c' (hg.pre k3) hI1 (fun i hi => hkp i (List.mem_append_left _ hi))
        obtain ⟨q1, q2, q3, q4⟩ := k6 nm c' hg hI (fun i hi => hkp i (List.mem_append_right _ hi))
        have hl1 := g3.length_le
        have hl2 := k3.length_le
        simp only [bld]
        rw [p2]
        refine ⟨p1.append q1, q2, fun i o0 hm => ?_, fun k h3 h4 => ?_⟩
        · rcases List.mem_append.1 hm with hm | hm
          · obtain ⟨k, e1, e2, e3, e4, e5, e6⟩ := p3 i o0 hm
            refine ⟨k, e1, by omega, e3, e4, e5, fun v b hv hb => ?_⟩
            have hv1 : vs1[k]? = some v := by
              obtain ⟨t', rfl⟩ := k3
              rw [List.getElem?_append_left e2] at hv
              exact hv
            obtain ⟨id, o, f1, f2, f3⟩ := e6 v b hv1 hb
            refine ⟨id, o, ?_, f2, f3⟩
            obtain ⟨t', e⟩ := k0
            rw [← e, List.getElem?_append_left (List.getElem?_eq_some_iff.1 f1).1]
            exact f1
          · obtain ⟨k, e1, e2⟩ := q3 i o0 hm
            exact ⟨k, by omega, e2⟩
        · rcases Nat.lt_or_ge k vs1.length with hlt | hge
          · obtain ⟨o0, ho⟩ := p4 k h3 hlt
            exact ⟨o0, List.mem_append_left _ ho⟩
          · obtain ⟨o0, ho⟩ := q4 k hge h4
            exact ⟨o0, List.mem_append_right _ ho⟩
      · cases h
    · cases h
end
end Go.Hay
/- What is proved alone holds anywhere: objects that are not handed over stay as they are. -/
set_option linter.unusedVariables false
set_option linter.unusedSimpArgs false
namespace Go.Hay
open Go.RowKit

def putAll (s : Obs) : List (Nat × Ob) → Obs
  | [] => s
  | (n, o) :: r => putAll (put s n o) r
def roAt (s0 : Obs) (k : Nat) : Bool := match look s0 k with | some o => isRo o | none => false
def restore (s0 : Obs) : List (Option Nat × Ob) → Nat → Obs → Obs
  | [], _, t => t
  | (some id, o) :: r, k, t => restore s0 r (k + 1) (bif roAt s0 k then put t id o else t)
  | (none, _) :: r, k, t => restore s0 r (k + 1) t

def nameAt (tk : List (Option Nat × Ob)) (k : Nat) : Nat := match tk[k]? with | some (some id, _) => id | _ => 0

section
variable {B : Bs} {c : Cf} {w : World} {s : Obs}

theorem look_mem : ∀ {l : Obs} {i : Nat} {o : Ob}, look l i = some o → (i, o) ∈ l
  | [], i, o, h => by simp [look] at h
  | (k, v) :: r, i, o, h => by
    rw [look_cons] at h
    split at h
    · rename_i e; simp only [Option.some.injEq] at h; subst e; subst h; simp
    · exact List.mem_cons_of_mem _ (look_mem h)
theorem mem_look : ∀ {l : Obs} {i : Nat} {o : Ob}, (i, o) ∈ l → look l i ≠ none
  | (k, v) :: r, i, o, h => by
    rw [look_cons]
    split
    · simp
    · rename_i hne
      rcases List.mem_cons.1 h with e | h
      · cases e; exact absurd rfl hne
      · exact mem_look h

theorem putAll_some : ∀ {os : List (Nat × Ob)} {s : Obs} {n : Nat} {o : Ob}, look (putAll s os) n = some o → (n, o) ∈ os ∨ (look s n = some o ∧ ∀ o', (n, o') ∉ os)
  | [], s, n, o, h => .inr ⟨h, fun _ h => by cases h⟩
  | (m, p) :: r, s, n, o, h => by
    rcases putAll_some (os := r) h with h1 | ⟨h1, h2⟩
    · exact .inl (List.mem_cons_of_mem _ h1)
    · rw [look_put] at h1
      split at h1
      · rename_i e; simp only [Option.some.injEq] at h1; subst e; subst h1; exact .inl (by simp)
      · rename_i hne
        refine .inr ⟨h1, fun o' hm => ?_⟩
        rcases List.mem_cons.1 hm with e | hm
        · cases e; exact hne rfl
        · exact h2 o' hm
theorem putAll_none : ∀ {os : List (Nat × Ob)} {s : Obs} {n : Nat}, look (putAll s os) n = none → look s n = none ∧ ∀ o', (n, o') ∉ os
  | [], s, n, h => ⟨h, fun _ h => by cases h⟩
  | (m, p) :: r, s, n, h => by
    obtain ⟨h1, h2⟩ := putAll_none (os := r) h
    rw [look_put] at h1
    split at h1
    · cases h1
    · rename_i hne
      refine ⟨h1, fun o' hm => ?_⟩
      rcases List.mem_cons.1 hm with e | hm
      · cases e; exact hne rfl
      · exact h2 o' hm

theorem restore_some {s0 : Obs} : ∀ {tk : List (Option Nat × Ob)} {k : Nat} {t : Obs} {n : Nat} {o : Ob}, look (restore s0 tk k t) n = some o → look t n = some o ∨ ∃ j : Nat, tk[j]? = some (some n, o) ∧ roAt s0 (k + j) = true
  | [], k, t, n, o, h => .inl h
  | (some id, p) :: r, k, t, n, o, h => by
    rcases restore_some (tk := r) h with h1 | ⟨j, h1, h2⟩
    · cases hr : roAt s0 k with
      | false => rw [hr] at h1; exact .inl h1
      | true =>
        rw [hr] at h1
        simp only [cond_true, look_put] at h1
        split at h1
        · rename_i e
          simp only [Option.some.injEq] at h1
          subst e; subst h1
          exact .inr ⟨0, rfl, hr⟩
        · exact .inl h1
    · exact .inr ⟨j + 1, by simpa using h1, by rw [← h2]; congr 1; omega⟩
  | (none, p) :: r, k, t, n, o, h => by
    rcases restore_some (tk := r) h with h1 | ⟨j, h1, h2⟩
    · exact .inl h1
    · exact .inr ⟨j + 1, by simpa using h1, by rw [← h2]; congr 1; omega⟩
theorem restore_none {s0 : Obs} : ∀ {tk : List (Option Nat × Ob)} {k : Nat} {t : Obs} {n : Nat}, look (restore s0 tk k t) n = none → look t n = none
  | [], k, t, n, h => h
  | (some id, p) :: r, k, t, n, h => by
    have h1 := restore_none (tk := r) h
    cases hr : roAt s0 k with
    | false => rw [hr] at h1; exact h1
    | true =>
      rw [hr] at h1
      simp only [cond_true, look_put] at h1
      split at h1
      · cases h1
      · exact h1
  | (none, p) :: r, k, t, n, h => restore_none (tk := r) h

theorem TkOk.start [Sites] (h : Rel B c s w) : TkOk B c s w c.I ⟨s, [], []⟩ [] where
  rel := h
  ext := Ext.refl c w
  len := rfl
  live _ _ h _ := h
  at_ k id o hk := by simp at hk
  nilv k o hk := by simp at hk
  nodup j k id o o' hj := by simp at hj
  rest _ _ _ := rfl
  dom _ h := h
  newI b hb := .inl hb

theorem TkOk.imm [Sites] {I : Nat → Prop} {z : Tk} {vs : List Value} (h : TkOk B c s w I z vs) (hR : Rel B c s w) {k id b : Nat} {o : Ob} (hk : z.tk[k]? = some (some id, o)) (hb : Own c id o b) : ¬ I b := by
  obtain ⟨h1, h2, _, _⟩ := h.at_ k id o hk
  intro hI
  rcases h.newI b hI with h3 | ⟨id', e, t, l, h3, h4, h5⟩
  · exact hR.imm id o b h2 hb h3
  · have := hR.sep id id' o _ b h2 h3 hb h5
    subst this
    rw [h1] at h4
    cases h4

structure Handed [Sites] (B : Bs) (c : Cf) (s : Obs) (w : World) (z : Tk) (vs : List Value) (I1 : Nat → Prop) (s0 : Obs) : Prop where
  tk : TkOk B c s w I1 z vs
  live : ∀ i o0, (i, o0) ∈ s0 → i < vs.length ∧ ObR ⟨fun k => vs[k]?, I1⟩ w i o0 ∧ isLive o0 = true ∧ ∀ v b, vs[i]? = some v → blockOf v = some b → ∃ id o, z.tk[i]? = some (some id, o) ∧ Own c id o b ∧ (isRo o0 = false → isRo o = false)
  all : ∀ k, k < vs.length → ∃ o0, (k, o0) ∈ s0

def cf0 (vs : List Value) (I1 : Nat → Prop) : Cf := ⟨fun k => vs[k]?, I1⟩
def bs0 (rd : Option Nat) (fl : Nat) (w : World) (vs : List Value) (I1 : Nat → Prop) (s0 : Obs) : Bs :=
  ⟨w, I1, fun b => ∃ i o, look s0 i = some o ∧ isRo o = false ∧ Own (cf0 vs I1) i o b, fun b => ∃ i o, look s0 i = some o ∧ isRo o = true ∧ Own (cf0 vs I1) i o b, rd, fl⟩

theorem own_live [Sites] {id b : Nat} {o : Ob} (h : Own c id o b) : ∃ v, c.nm id = some v ∧ blockOf v = some b := by
  rw [← rd_own] at h
  rcases rd_cases o with ⟨t, cs, e⟩ | ⟨e', t, l, e⟩ | ⟨t, l, e⟩ | e <;> rw [e] at h
  · exact h
  · exact h
  · exact h.elim
  · exact h.elim
theorem live_own {id b : Nat} {o : Ob} (ho : isLive o = true) {v : Value} (hn : c.nm id = some v) (hb : blockOf v = some b) : Own c id o b := by
  cases o <;> first | exact ⟨v, hn, hb⟩ | (cases ho)

theorem Handed.own [Sites] {z : Tk} {vs : List Value} {I1 : Nat → Prop} {s0 : Obs} (h : Handed B c s w z vs I1 s0) {i b : Nat} {o0 : Ob} (hm : (i, o0) ∈ s0) (ho : Own (cf0 vs I1) i o0 b) :
    ∃ id o, z.tk[i]? = some (some id, o) ∧ Own c id o b ∧ look s id = some o ∧ (isRo o0 = false → isRo o = false) := by
  obtain ⟨v, h1, h2⟩ := own_live ho
  obtain ⟨_, _, _, h3⟩ := h.live i o0 hm
  obtain ⟨id, o, h4, h5, h6⟩ := h3 v b h1 h2
  exact ⟨id, o, h4, h5, (h.tk.at_ i id o h4).2.1, h6⟩

theorem Handed.rel [Sites] {z : Tk} {vs : List Value} {I1 : Nat → Prop} {s0 : Obs} (hR : Rel B c s w) (h : Handed B c s w z vs I1 s0) {rd : Option Nat} {fl : Nat} : Rel (bs0 rd fl w vs I1 s0) (cf0 vs I1) s0 w where
  ob id o ho := (h.live id o (look_mem ho)).2.1
  dom id ho := by
    cases hv : vs[id]? with
    | none => exact hv
    | some v =>
      obtain ⟨o0, hm⟩ := h.all id (List.getElem?_eq_some_iff.1 hv).1
      exact absurd ho (mem_look hm)
  sep i j oi oj b hi hj hbi hbj := by
    obtain ⟨id1, o1, h1, h2, h3, _⟩ := h.own (look_mem hi) hbi
    obtain ⟨id2, o2, h4, h5, h6, _⟩ := h.own (look_mem hj) hbj
    have := hR.sep id1 id2 o1 o2 b h3 h6 h2 h5
    subst this
    exact h.tk.nodup i j id1 o1 o2 h1 h4
  imm id o b ho hb := by
    obtain ⟨id1, o1, h1, h2, h3, _⟩ := h.own (look_mem ho) hb
    exact h.tk.imm hR h1 h2
  lo b hb := h.tk.rel.lo b hb
  keep b _ _ := rfl
  mine id o b ho hr hb := .inl ⟨id, o, ho, hr, hb⟩
  ro id o b ho hb := by
    cases hr : isRo o with
    | true => exact .inl ⟨id, o, ho, hr, hb⟩
    | false => exact .inr (.inl ⟨id, o, ho, hr, hb⟩)
  sub b hb := hb
  new b hb := .inl hb
  os := rfl
  tape := rfl
  output := rfl
  size := Nat.le_refl _

theorem Handed.mine [Sites] {z : Tk} {vs : List Value} {I1 : Nat → Prop} {s0 : Obs} (hR : Rel B c s w) (h : Handed B c s w z vs I1 s0) {rd : Option Nat} {fl : Nat} {b : Nat} (hb : (bs0 rd fl w vs I1 s0).M b) :
    ∃ i o0 id o, look s0 i = some o0 ∧ isRo o0 = false ∧ z.tk[i]? = some (some id, o) ∧ Own c id o b ∧ look s id = some o ∧ (B.M b ∨ B.w.heap.size ≤ b) := by
  obtain ⟨i, o0, h1, h2, h3⟩ := hb
  obtain ⟨id, o, h4, h5, h6, h7⟩ := h.own (look_mem h1) h3
  exact ⟨i, o0, id, o, h1, h2, h4, h5, h6, hR.mine id o b h6 (h7 h2) h5⟩

def placeOf' (l : List Nat) (n : Nat) : Option Nat := l.findIdx? (Nat.beq n)

theorem place_some {l : List Nat} {n k : Nat} (h : placeOf' l n = some k) : l[k]? = some n := by
  unfold placeOf' at h
  rw [List.findIdx?_eq_some_iff_getElem] at h
  obtain ⟨hk, h1, _⟩ := h
  rw [List.getElem?_eq_getElem hk]
  rw [Nat.eq_of_beq_eq_true h1]
theorem place_nodup {l : List Nat} (hn : l.Nodup) {n k : Nat} (h : l[k]? = some n) : placeOf' l n = some k := by
  obtain ⟨hk, hv⟩ := List.getElem?_eq_some_iff.1 h
  unfold placeOf'
  rw [List.findIdx?_eq_some_iff_getElem]
  refine ⟨hk, by rw [hv]; exact Nat.beq_refl n, fun j hj => ?_⟩
  intro hb
  have e := Nat.eq_of_beq_eq_true hb
  have := (List.getElem_inj hn).1 (hv.trans e)
  omega
end
end Go.Hay
/- What code that is proved alone hands back. -/
set_option linter.unusedVariables false
set_option linter.unusedSimpArgs false
namespace Go.Hay
open Go.RowKit

def noRo : Sh → Bool
  | .rown _ _ | .rbox _ _ => false
  | .box _ cs | .agg cs | .upd _ _ cs | .fn _ cs | .els _ _ cs | .bxo _ _ cs | .fnb _ _ cs => noRo cs
  | .cons a r => noRo a && noRo r
  | _ => true
def updOk (tk : List (Option Nat × Ob)) : Sh → Bool
  | .upd i _ cs => (match tk[i]? with | some (some _, _) => true | _ => false) && updOk tk cs
  | .updr i _ _ | .keep _ i => match tk[i]? with | some (some _, _) => true | _ => false
  | .box _ cs | .rbox _ cs | .agg cs | .fn _ cs | .els _ _ cs | .bxo _ _ cs | .fnb _ _ cs => updOk tk cs
  | .cons a r => updOk tk a && updOk tk r
  | _ => true
def nodupB : List Nat → Bool
  | [] => true
  | n :: r => !r.any (Nat.beq n) && nodupB r
theorem nodupB_ok : ∀ {l : List Nat}, nodupB l = true → l.Nodup
  | [], _ => List.nodup_nil
  | n :: r, h => by
    simp only [nodupB, Bool.and_eq_true, Bool.not_eq_true', List.any_eq_false] at h
    refine List.nodup_cons.2 ⟨fun hm => ?_, nodupB_ok h.2⟩
    exact absurd (Nat.beq_refl n) (by simpa using h.1 n hm)
def freshB (s : Obs) (nx : Nat) : Nat → Bool
  | 0 => true
  | k + 1 => isFresh s (nx + k) && freshB s nx k
theorem freshB_ok [Sites] {s : Obs} {nx : Nat} : ∀ {n : Nat}, freshB s nx n = true → ∀ k, k < n → look s (nx + k) = none
  | 0, _, k, hk => by omega
  | n + 1, h, k, hk => by
    simp only [freshB, Bool.and_eq_true] at h
    rcases Nat.lt_succ_iff_lt_or_eq.1 hk with h1 | rfl
    · exact freshB_ok h.2 k h1
    · exact isFresh_none h.1

theorem updOk_tk {tk : List (Option Nat × Ob)} : ∀ {sh : Sh}, updOk tk sh = true → ∀ i ∈ updIx sh, ∃ id o, tk[i]? = some (some id, o) := by
  intro sh
  have one : ∀ {i : Nat}, (match tk[i]? with | some (some _, _) => true | _ => false) = true → ∃ id o, tk[i]? = some (some id, o) := by
    intro i h
    split at h
    · rename_i id o e; exact ⟨id, o, e⟩
    · cases h
  induction sh with
  | upd i t cs ih =>
    intro h j hj
    simp only [updOk, Bool.and_eq_true] at h
    rcases List.mem_cons.1 hj with rfl | hj
    · exact one h.1
    · exact ih h.2 j hj
  | updr i e t => intro h j hj; simp only [updIx, List.mem_singleton] at hj; subst hj; exact one h
  | keep k i => intro h j hj; simp only [updIx, List.mem_singleton] at hj; subst hj; exact one h
  | box t cs ih => exact ih
  | bxo off t cs ih => exact ih
  | rbox t cs ih => exact ih
  | agg cs ih => exact ih
  | els sz n cs ih => exact ih
  | fnb k f cs ih => exact ih
  | fn f cs ih => exact ih
  | cons a r iha ihr =>
    intro h j hj
    simp only [updOk, Bool.and_eq_true] at h
    rcases List.mem_append.1 hj with hj | hj
    · exact iha h.1 j hj
    · exact ihr h.2 j hj
  | _ => intro h j hj; simp [updIx] at hj

def outNm (tk : List (Option Nat × Ob)) (NL : List Nat) (k : Nat) : Nat := bif Nat.ble 1000000 k then nameAt tk (k - 1000000) else NL.getD k 0
theorem outNm_lt {tk : List (Option Nat × Ob)} {NL : List Nat} {k : Nat} (h : k < 1000000) : outNm tk NL k = NL.getD k 0 := by
  have : Nat.ble 1000000 k = false := by
    cases hb : Nat.ble 1000000 k with
    | false => rfl
    | true => have := Nat.le_of_ble_eq_true hb; omega
  simp [outNm, this]
theorem outNm_ge {tk : List (Option Nat × Ob)} {NL : List Nat} {i : Nat} : outNm tk NL (1000000 + i) = nameAt tk i := by
  have : Nat.ble 1000000 (1000000 + i) = true := Nat.ble_eq_true_of_le (by omega)
  simp [outNm, this]

section
variable {B : Bs} {c : Cf} {w : World} {s : Obs}

theorem bld_noRo {nm : Nat → Nat} : ∀ (sh : Sh) (x : sh.den) (n : Nat), noRo sh = true → ∀ i o, (i, o) ∈ (bld nm sh x n).2.1 → isRo o = false := by
  intro sh
  induction sh with
  | box t cs ih =>
    intro x n h i o hm
    simp only [bld] at hm
    rcases List.mem_cons.1 hm with e | hm
    · cases e; rfl
    · exact ih x _ h i o hm
  | bxo off t cs ih =>
    intro x n h i o hm
    simp only [bld] at hm
    rcases List.mem_cons.1 hm with e | hm
    · cases e; rfl
    · exact ih x _ h i o hm
  | upd j t cs ih =>
    intro x n h i o hm
    simp only [bld] at hm
    rcases List.mem_cons.1 hm with e | hm
    · cases e; rfl
    · exact ih x _ h i o hm
  | agg cs ih => intro x n h i o hm; exact ih x _ h i o (by simpa only [bld] using hm)
  | els sz k cs ih => intro x n h i o hm; exact ih x _ h i o (by simpa only [bld] using hm)
  | fnb k f cs ih => intro x n h i o hm; exact ih x _ h i o (by simpa only [bld] using hm)
  | fn f cs ih => intro x n h i o hm; exact ih x _ h i o (by simpa only [bld] using hm)
  | cons a r iha ihr =>
    intro x n h i o hm
    simp only [noRo, Bool.and_eq_true] at h
    simp only [bld] at hm
    rcases List.mem_append.1 hm with hm | hm
    · exact iha _ _ h.1 i o hm
    · exact ihr _ _ h.2 i o hm
  | own e t => intro x n h i o hm; simp only [bld, List.mem_singleton] at hm; cases hm; rfl
  | arr e t m => intro x n h i o hm; simp only [bld, List.mem_singleton] at hm; cases hm; rfl
  | updr j e t => intro x n h i o hm; simp only [bld, List.mem_singleton] at hm; cases hm; rfl
  | rown e t => intro x n h; cases h
  | rbox t cs ih => intro x n h; cases h
  | _ => intro x n h i o hm; simp [bld] at hm

theorem get_two {α : Type} {l m : List α} {j : Nat} (h : j < (l ++ m).length) : (j < l.length ∧ (l ++ m)[j]? = l[j]?) ∨ (l.length ≤ j ∧ j - l.length < m.length ∧ (l ++ m)[j]? = m[j - l.length]?) := by
  rcases Nat.lt_or_ge j l.length with h1 | h1
  · exact .inl ⟨h1, List.getElem?_append_left h1⟩
  · exact .inr ⟨h1, by simp at h; omega, List.getElem?_append_right h1⟩

theorem onames_tk [Sites] (σ : Nat → Nat) (nx : Nat) (tk0 : List (Option Nat × Ob)) : ∀ (sh : Sh) (as : List AV) (z : Tk) (x : sh.den) (rest : List AV) (z' : Tk), xt sh as z = some (x, rest, z') → updOk tk0 sh = true →
    z.tk <+: z'.tk ∧ z'.tk.length = z.tk.length + (onames σ nx sh z.tk.length).length ∧
      ∀ j, j < (onames σ nx sh z.tk.length).length → (onames σ nx sh z.tk.length)[j]? = some (nx + (z.tk.length + j)) ∨
        ∃ i id o o', i ∈ updIx sh ∧ (onames σ nx sh z.tk.length)[j]? = some (σ i) ∧ z'.tk[z.tk.length + j]? = some (some i, o) ∧ tk0[i]? = some (some id, o') := by
  intro sh
  have leaf : ∀ {ix l : List Nat} {z z' : Tk} {p : Option Nat × Ob}, z'.tk = z.tk ++ [p] → l = [nx + z.tk.length] → z.tk <+: z'.tk ∧ z'.tk.length = z.tk.length + l.length ∧
      ∀ j, j < l.length → l[j]? = some (nx + (z.tk.length + j)) ∨ ∃ i id o o', i ∈ ix ∧ l[j]? = some (σ i) ∧ z'.tk[z.tk.length + j]? = some (some i, o) ∧ tk0[i]? = some (some id, o') := by
    intro ix l z z' p h1 h2
    subst h2
    refine ⟨by rw [h1]; exact List.prefix_append _ _, by rw [h1]; simp, fun j hj => ?_⟩
    have : j = 0 := by simpa using hj
    subst this
    exact .inl (by simp)
  have zero : ∀ {ix : List Nat} {z z' : Tk}, z'.tk = z.tk → z.tk <+: z'.tk ∧ z'.tk.length = z.tk.length + ([] : List Nat).length ∧
      ∀ j, j < ([] : List Nat).length → ([] : List Nat)[j]? = some (nx + (z.tk.length + j)) ∨ ∃ i id o o', i ∈ ix ∧ ([] : List Nat)[j]? = some (σ i) ∧ z'.tk[z.tk.length + j]? = some (some i, o) ∧ tk0[i]? = some (some id, o') := by
    intro ix z z' h
    exact ⟨by rw [h]; exact List.prefix_refl _, by rw [h]; simp, fun j hj => by simp at hj⟩
  -- one object in front of others
  have head : ∀ {ix : List Nat} {cs : Sh} {z z1 z' : Tk} {p : Option Nat × Ob} {m : Nat}, (∀ i ∈ updIx cs, i ∈ ix) → z1.tk = z.tk ++ [p] →
      (m = nx + z.tk.length ∨ ∃ i id o o', i ∈ ix ∧ m = σ i ∧ p = (some i, o) ∧ tk0[i]? = some (some id, o')) →
      (z1.tk <+: z'.tk ∧ z'.tk.length = z1.tk.length + (onames σ nx cs z1.tk.length).length ∧
        ∀ j, j < (onames σ nx cs z1.tk.length).length → (onames σ nx cs z1.tk.length)[j]? = some (nx + (z1.tk.length + j)) ∨
          ∃ i id o o', i ∈ updIx cs ∧ (onames σ nx cs z1.tk.length)[j]? = some (σ i) ∧ z'.tk[z1.tk.length + j]? = some (some i, o) ∧ tk0[i]? = some (some id, o')) →
      z.tk <+: z'.tk ∧ z'.tk.length = z.tk.length + (m :: onames σ nx cs (z.tk.length + 1)).length ∧
        ∀ j, j < (m :: onames σ nx cs (z.tk.length + 1)).length → (m :: onames σ nx cs (z.tk.length + 1))[j]? = some (nx + (z.tk.length + j)) ∨
          ∃ i id o o', i ∈ ix ∧ (m :: onames σ nx cs (z.tk.length + 1))[j]? = some (σ i) ∧ z'.tk[z.tk.length + j]? = some (some i, o) ∧ tk0[i]? = some (some id, o') := by
    intro ix cs z z1 z' p m hix h1 h2 h3
    have hl : z1.tk.length = z.tk.length + 1 := by rw [h1]; simp
    rw [hl] at h3
    obtain ⟨g1, g2, g3⟩ := h3
    have hpre : z.tk <+: z'.tk := (by rw [h1]; exact List.prefix_append _ _ : z.tk <+: z1.tk).trans g1
    refine ⟨hpre, by rw [g2]; simp; omega, fun j hj => ?_⟩
    cases j with
    | zero =>
      rcases h2 with h2 | ⟨i, id, o, o', e0, e1, e2, e3⟩
      · exact .inl (by simp [h2])
      · refine .inr ⟨i, id, o, o', e0, by simp [e1], ?_, e3⟩
        obtain ⟨t', e⟩ := g1
        rw [← e, h1, ← e2]
        simp
    | succ j =>
      have := g3 j (by simpa using hj)
      simp only [List.getElem?_cons_succ]
      rw [show z.tk.length + (j + 1) = z.tk.length + 1 + j by omega]
      exact this.imp (fun h => h) fun ⟨i, id, o, o', e0, e1⟩ => ⟨i, id, o, o', hix i e0, e1⟩
  induction sh with
  | val t =>
    intro as z x rest z' h hu
    simp only [xt] at h
    split at h
    · split at h
      · simp only [Option.some.injEq, Prod.mk.injEq] at h
        rw [← h.2.2]
        exact zero rfl
      · cases h
    · cases h
  | own e t =>
    intro as z x rest z' h hu
    simp only [xt] at h
    split at h
    · cases hmt : isMapTy e with
      | true => simp [hmt] at h
      | false =>
        simp only [hmt, cond_false, Option.some.injEq, Prod.mk.injEq] at h
        rw [← h.2.2]
        exact leaf rfl rfl
    · split at h
      · split at h
        · split at h
          · simp only [Option.some.injEq, Prod.mk.injEq] at h
            rw [← h.2.2]
            exact leaf rfl rfl
          · cases h
        · cases h
      · cases h
    · cases h
  | rown e t =>
    intro as z x rest z' h hu
    simp only [xt] at h
    split at h
    · cases hmt : isMapTy e with
      | true => simp [hmt] at h
      | false =>
        simp only [hmt, cond_false, Option.some.injEq, Prod.mk.injEq] at h
        rw [← h.2.2]
        exact leaf rfl rfl
    · split at h
      · split at h
        · split at h
          · simp only [Option.some.injEq, Prod.mk.injEq] at h
            rw [← h.2.2]
            exact leaf rfl rfl
          · cases h
        · split at h
          · simp only [Option.some.injEq, Prod.mk.injEq] at h
            rw [← h.2.2]
            exact leaf rfl rfl
          · cases h
        · cases h
      · cases h
    · cases h
  | box t cs ih =>
    intro as z x rest z' h hu
    simp only [xt] at h
    split at h
    · split at h
      · split at h
        · split at h
          · rename_i x' z1 hb hx
            simp only [Option.some.injEq, Prod.mk.injEq] at h
            rw [← h.2.2]
            exact head (fun i hi => hi) rfl (.inl rfl) (ih _ _ _ _ _ hx hu)
          · cases h
        · cases h
      · cases h
    · cases h
  | bxo off t cs ih =>
    intro as z x rest z' h hu
    simp only [xt] at h
    split at h
    · split at h
      · split at h
        · rename_i x' z1 hb hx
          simp only [Option.some.injEq, Prod.mk.injEq] at h
          rw [← h.2.2]
          exact head (fun i hi => hi) rfl (.inl rfl) (ih _ _ _ _ _ hx hu)
        · cases h
      · cases h
    · cases h
  | rbox t cs ih =>
    intro as z x rest z' h hu
    simp only [xt] at h
    split at h
    · split at h
      · split at h
        · rename_i x' z1 hb hx
          simp only [Option.some.injEq, Prod.mk.injEq] at h
          rw [← h.2.2]
          exact head (fun i hi => hi) rfl (.inl rfl) (ih _ _ _ _ _ hx hu)
        · cases h
      · split at h
        · rename_i x' z1 hb hx
          simp only [Option.some.injEq, Prod.mk.injEq] at h
          rw [← h.2.2]
          exact head (fun i hi => hi) rfl (.inl rfl) (ih _ _ _ _ _ hx hu)
        · cases h
      · cases h
    · cases h
  | upd i t cs ih =>
    intro as z x rest z' h hu
    simp only [updOk, Bool.and_eq_true] at hu
    simp only [xt] at h
    split at h
    · split at h
      · rename_i x' z1 hb hx
        simp only [Option.some.injEq, Prod.mk.injEq] at h
        rw [← h.2.2]
        have htk0 : ∃ id o', tk0[i]? = some (some id, o') := by
          have := hu.1
          split at this
          · rename_i id o' e; exact ⟨id, o', e⟩
          · cases this
        obtain ⟨id, o', e⟩ := htk0
        exact head (fun j hj => List.mem_cons_of_mem _ hj) rfl (.inr ⟨i, id, _, o', List.mem_cons_self .., rfl, rfl, e⟩) (ih _ _ _ _ _ hx hu.2)
      · cases h
    · cases h
  | updr i e t =>
    intro as z x rest z' h hu
    simp only [updOk] at hu
    simp only [xt] at h
    split at h
    · split at h
      · simp only [Option.some.injEq, Prod.mk.injEq] at h
        rw [← h.2.2]
        have htk0 : ∃ id o', tk0[i]? = some (some id, o') := by
          split at hu
          · rename_i id o' e; exact ⟨id, o', e⟩
          · cases hu
        obtain ⟨id, o', e'⟩ := htk0
        refine ⟨List.prefix_append _ _, by simp [onames], fun j hj => ?_⟩
        have : j = 0 := by simpa [onames] using hj
        subst this
        exact .inr ⟨i, id, _, o', by simp [updIx], by simp [onames], by simp; rfl, e'⟩
      · cases h
    · cases h
  | fn f cap ih =>
    intro as z x rest z' h hu
    simp only [xt] at h
    split at h
    · split at h
      · rename_i x' z1 hb hx
        simp only [Option.some.injEq, Prod.mk.injEq] at h
        rw [← h.2.2]
        exact ih _ _ _ _ _ hx hu
      · cases h
    · cases h
  | els sz n cs ih =>
    intro as z x rest z' h hu
    simp only [xt] at h
    split at h
    · split at h
      · rename_i x' z1 _ hx
        simp only [Option.some.injEq, Prod.mk.injEq] at h
        rw [← h.2.2]
        exact ih _ _ _ _ _ hx hu
      · cases h
    · cases h
  | fnb k f cs ih =>
    intro as z x rest z' h hu
    simp only [xt] at h
    split at h
    · split at h
      · rename_i x' z1 _ hx
        simp only [Option.some.injEq, Prod.mk.injEq] at h
        rw [← h.2.2]
        exact ih _ _ _ _ _ hx hu
      · cases h
    · cases h
  | agg cs ih =>
    intro as z x rest z' h hu
    simp only [xt] at h
    split at h
    · split at h
      · rename_i x' z1 hx
        simp only [Option.some.injEq, Prod.mk.injEq] at h
        rw [← h.2.2]
        exact ih _ _ _ _ _ hx hu
      · cases h
    · cases h
  | ref i =>
    intro as z x rest z' h hu
    simp only [xt] at h
    split at h
    · split at h
      · split at h
        · simp only [Option.some.injEq, Prod.mk.injEq] at h
          rw [← h.2.2]
          exact zero rfl
        · cases h
      · cases h
    · cases h
  | refo i off =>
    intro as z x rest z' h hu
    simp only [xt] at h
    split at h
    · split at h
      · split at h
        · simp only [Option.some.injEq, Prod.mk.injEq] at h
          rw [← h.2.2]
          exact zero rfl
        · cases h
      · cases h
    · cases h
  | refr i =>
    intro as z x rest z' h hu
    simp only [xt] at h
    split at h
    · split at h
      · split at h
        · simp only [Option.some.injEq, Prod.mk.injEq] at h
          rw [← h.2.2]
          exact zero rfl
        · cases h
      · cases h
    · cases h
  | nils =>
    intro as z x rest z' h hu
    simp only [xt] at h
    split at h
    · simp only [Option.some.injEq, Prod.mk.injEq] at h
      rw [← h.2.2]
      exact zero rfl
    · cases h
  | nilp =>
    intro as z x rest z' h hu
    simp only [xt] at h
    split at h
    · simp only [Option.some.injEq, Prod.mk.injEq] at h
      rw [← h.2.2]
      exact zero rfl
    · cases h
  | lit k n =>
    intro as z x rest z' h hu
    simp only [xt] at h
    split at h
    · split at h
      · simp only [Option.some.injEq, Prod.mk.injEq] at h
        rw [← h.2.2]
        exact zero rfl
      · cases h
    · cases h
  | junk =>
    intro as z x rest z' h hu
    simp only [xt] at h
    split at h
    · simp only [Option.some.injEq, Prod.mk.injEq] at h
      rw [← h.2.2]
      exact zero rfl
    · cases h
  | refy i =>
    intro as z x rest z' h hu
    simp only [xt] at h
    split at h
    · split at h
      · split at h
        · simp only [Option.some.injEq, Prod.mk.injEq] at h
          rw [← h.2.2]
          exact zero rfl
        · cases h
      · cases h
    · cases h
  | arr e t n =>
    intro as z x rest z' h hu
    simp only [xt] at h
    split at h
    · split at h
      · split at h
        · simp only [Option.some.injEq, Prod.mk.injEq] at h
          rw [← h.2.2]
          exact leaf rfl rfl
        · cases h
      · cases h
    · cases h
  | keep k i =>
    intro as z x rest z' h hu
    simp only [xt] at h
    split at h
    · split at h
      · simp only [Option.some.injEq, Prod.mk.injEq] at h
        rw [← h.2.2]
        exact zero rfl
      · cases h
    · cases h
  | nil =>
    intro as z x rest z' h hu
    simp only [xt, Option.some.injEq, Prod.mk.injEq] at h
    rw [← h.2.2]
    exact zero rfl
  | cons a r iha ihr =>
    intro as z x rest z' h hu
    simp only [updOk, Bool.and_eq_true] at hu
    simp only [xt] at h
    split at h
    · rename_i x1 bs z1 h1
      split at h
      · rename_i y1 cs z2 h2
        simp only [Option.some.injEq, Prod.mk.injEq] at h
        rw [← h.2.2]
        obtain ⟨p1, p2, p3⟩ := iha _ _ _ _ _ h1 hu.1
        obtain ⟨q1, q2, q3⟩ := ihr _ _ _ _ _ h2 hu.2
        simp only [onames]
        rw [p2] at q2 q3
        refine ⟨p1.trans q1, by rw [q2, List.length_append]; omega, fun j hj => ?_⟩
        rcases get_two hj with ⟨g1, g2⟩ | ⟨g1, g2, g3⟩
        · rw [g2]
          rcases p3 j g1 with h3 | ⟨i, id, o, o', h0, h3, h4, h5⟩
          · exact .inl h3
          · refine .inr ⟨i, id, o, o', List.mem_append_left _ h0, h3, ?_, h5⟩
            obtain ⟨t', e⟩ := q1
            rw [← e, List.getElem?_append_left (List.getElem?_eq_some_iff.1 h4).1]
            exact h4
        · rw [g3]
          have h3 := q3 _ g2
          rw [show z.tk.length + (onames σ nx a z.tk.length).length + (j - (onames σ nx a z.tk.length).length) = z.tk.length + j by omega] at h3
          exact h3.imp (fun h => h) fun ⟨i, id, o, o', e0, e1⟩ => ⟨i, id, o, o', List.mem_append_right _ e0, e1⟩
      · cases h
    · cases h
end
end Go.Hay
/- What code that is proved alone hands back: the law. -/
set_option linter.unusedVariables false
set_option linter.unusedSimpArgs false
namespace Go.Hay
open Go.RowKit
section
variable {B : Bs} {c : Cf} {w : World} {s : Obs}

theorem Handed.give [Sites] {z : Tk} {vs : List Value} {I1 : Nat → Prop} {s0 : Obs} (hR : Rel B c s w) (h : Handed B c s w z vs I1 s0) {c1 : Cf} {w1 : World} {s1 : Obs} {rd : Option Nat} {fl : Nat} (hR1 : Rel (bs0 rd fl w vs I1 s0) c1 s1 w1) (hL1 : Lasts I1 c1.I w w1)
    {outs : Sh} {as1 : List AV} {vals1 : List Value} {y : outs.den} {z1 : Tk} (hN1 : ∀ i ∈ updIx outs, ∀ v, vs[i]? = some v → c1.nm i = some v) (hv : VRs c1 w1 as1 vals1) (hx : xt outs as1 ⟨s1, [], []⟩ = some (y, [], z1)) (hnr : noRo outs = true) (hup : updOk z.tk outs = true) {nx : Nat} {NL : List Nat} (hNL : NL = onames (nameAt z.tk) nx outs 0) (hNlen : NL.length ≤ 1000000)
    (hnd : nodupB NL = true) (hfr : freshB z.obs nx NL.length = true) :
    ∃ c2, Rel B c2 (putAll (restore s0 z.tk 0 z.obs) (bld (outNm z.tk NL) outs y 0).2.1) w1 ∧ VRs c2 w1 (bld (outNm z.tk NL) outs y 0).1 vals1 ∧ Ext c w c2 w1 ∧ ∀ b, c2.I b → c1.I b ∨ ∃ i o, look s1 i = some o ∧ Own c1 i o b := by
  have hnd := nodupB_ok hnd
  have hfr := freshB_ok hfr
  obtain ⟨I2, vs1, u1, u2, hT, hE2, _, _, rfl, hu2, hB⟩ := xt_ok (B := bs0 rd fl w vs I1 s0) (c := c1) (s := s1) (w := w1) outs as1 ⟨s1, [], []⟩ y [] z1 hx (TkOk.start hR1) hv
  simp only [VRs] at hu2
  subst hu2
  rw [List.append_nil]
  obtain ⟨_, hlen, hpl⟩ := onames_tk (nameAt z.tk) nx z.tk outs as1 ⟨s1, [], []⟩ y [] z1 hx hup
  simp only [List.length_nil, Nat.zero_add] at hlen hpl
  rw [← hNL] at hlen hpl
  have hvl : vs1.length = NL.length := by rw [hT.len, hlen]
  -- names
  let c2 : Cf := ⟨fun n => match c.nm n with | some v => some v | none => match placeOf' NL n with | some k => vs1[k]? | none => none, I2⟩
  have hold : ∀ n v, c.nm n = some v → c2.nm n = some v := fun n v hn => by simp only [c2, hn]
  have hnone : ∀ k, k < NL.length → c.nm (nx + k) = none := fun k hk => hR.dom _ (h.tk.dom _ (hfr k hk))
  have hNLk : ∀ k, k < NL.length → NL[k]? = some (NL.getD k 0) := fun k hk => by
    rw [List.getD_eq_getElem?_getD, List.getElem?_eq_getElem hk]; rfl
  have hplace : ∀ k, k < NL.length → (NL.getD k 0 = nx + k ∧ c.nm (NL.getD k 0) = none) ∨ ∃ i id o o', i ∈ updIx outs ∧ NL.getD k 0 = id ∧ z1.tk[k]? = some (some i, o) ∧ z.tk[i]? = some (some id, o') := by
    intro k hk
    have h1 := hNLk k hk
    rcases hpl k hk with h2 | ⟨i, id, o, o', h0, h2, h3, h4⟩
    · rw [h1] at h2
      simp only [Option.some.injEq] at h2
      exact .inl ⟨h2, by rw [h2]; exact hnone k hk⟩
    · rw [h1] at h2
      simp only [Option.some.injEq] at h2
      exact .inr ⟨i, id, o, o', h0, by rw [h2]; simp [nameAt, h4], h3, h4⟩
  have hgives : Gives c2 (outNm z.tk NL) vs1 := by
    intro k v hk
    have hlt : k < NL.length := by rw [← hvl]; exact (List.getElem?_eq_some_iff.1 hk).1
    rw [outNm_lt (by omega)]
    rcases hplace k hlt with ⟨h1, h2⟩ | ⟨i, id, o, o', h0, h1, h2, h3⟩
    · simp only [c2, h2, place_nodup hnd (hNLk k hlt)]
      exact hk
    · obtain ⟨_, _, _, h4⟩ := h.tk.at_ i id o' h3
      obtain ⟨_, _, _, h5⟩ := hT.at_ k i o h2
      have hi : i < vs.length := by rw [h.tk.len]; exact (List.getElem?_eq_some_iff.1 h3).1
      have h6 : vs[i]? = some vs[i] := List.getElem?_eq_getElem hi
      have h7 := hN1 i h0 _ h6
      rw [h5, hk] at h7
      simp only [h1]
      refine hold id v ?_
      rw [h4, h6, ← h7]
  have hI : ∀ b, I2 b → c2.I b := fun b hb => hb
  obtain ⟨hB1, _, hB2, hB3⟩ := hB (outNm z.tk NL) c2 hgives hI (fun i hi v hv => by
    obtain ⟨id, o', h3⟩ := updOk_tk hup i hi
    obtain ⟨_, _, _, h4⟩ := h.tk.at_ i id o' h3
    have hi' : i < vs.length := by rw [h.tk.len]; exact (List.getElem?_eq_some_iff.1 h3).1
    have h6 : vs[i]? = some vs[i] := List.getElem?_eq_getElem hi'
    have h7 := hN1 i hi _ h6
    rw [hv] at h7
    rw [outNm_ge, show nameAt z.tk i = id by simp [nameAt, h3]]
    exact hold id v (by rw [h4, h6, ← h7]))
  simp only [List.length_nil] at hB1 hB2 hB3
  -- objects that are handed back
  have hsz : w.heap.size ≤ w1.heap.size := hR1.size
  have hnew : ∀ n o, (n, o) ∈ (bld (outNm z.tk NL) outs y 0).2.1 → ∀ b, Own c2 n o b → ∃ k i o1, n = NL.getD k 0 ∧ z1.tk[k]? = some (some i, o1) ∧ Own c1 i o1 b ∧ look s1 i = some o1 ∧ isRo o1 = false ∧ ((bs0 rd fl w vs I1 s0).M b ∨ w.heap.size ≤ b) := by
    intro n o hm b hb
    obtain ⟨k, _, hk, hn, _, _, h1⟩ := hB2 n o hm
    obtain ⟨v, h2, h3⟩ := own_live hb
    have hvk : vs1[k]? = some vs1[k] := List.getElem?_eq_getElem hk
    have h4 := hgives k _ hvk
    rw [← hn, h2] at h4
    simp only [Option.some.injEq] at h4
    obtain ⟨i, o1, h5, h6, h7⟩ := h1 _ b hvk (by rw [← h4]; exact h3)
    have hro := h7 (bld_noRo outs y 0 hnr n o hm)
    obtain ⟨_, h8, _, _⟩ := hT.at_ k i o1 h5
    exact ⟨k, i, o1, hn.trans (outNm_lt (by omega)), h5, h6, h8, hro, hR1.mine i o1 b h8 hro h6⟩
  -- objects that stay
  have hstay : ∀ n o, look (restore s0 z.tk 0 z.obs) n = some o → isLive o = true → look s n = some o ∧ ∀ b, Own c n o b → b < w.heap.size ∧ ¬ (bs0 rd fl w vs I1 s0).M b ∧ ¬ I1 b := by
    intro n o hl hlive
    rcases restore_some hl with h1 | ⟨k, h1, h2⟩
    · have hs := h.tk.live n o h1 hlive
      refine ⟨hs, fun b hb => ⟨(hR.ob n o hs).lt hb, fun hM => ?_, fun hI => h.tk.rel.imm n o b h1 hb hI⟩⟩
      obtain ⟨i, o0, id, o', q1, q2, q3, q4, q5, _⟩ := h.mine hR hM
      have := hR.sep id n o' o b q5 hs q4 hb
      subst this
      have := (h.tk.at_ i id o' q3).1
      rw [this] at h1
      simp only [Option.some.injEq] at h1
      subst h1
      cases hlive
    · obtain ⟨_, hs, _, _⟩ := h.tk.at_ k n o h1
      refine ⟨hs, fun b hb => ⟨(hR.ob n o hs).lt hb, fun hM => ?_, h.tk.imm hR h1 hb⟩⟩
      obtain ⟨i, o0, id, o', q1, q2, q3, q4, q5, _⟩ := h.mine hR hM
      have := hR.sep id n o' o b q5 hs q4 hb
      subst this
      have := h.tk.nodup i k id o' o q3 h1
      subst this
      simp only [Nat.zero_add, roAt, q1] at h2
      rw [q2] at h2
      cases h2
  have hI2 : ∀ b, I2 b → I1 b ∨ (bs0 rd fl w vs I1 s0).M b ∨ w.heap.size ≤ b := by
    intro b hb
    rcases hT.newI b hb with h1 | ⟨id, e, t, l, h1, _, h3⟩
    · exact hR1.new b h1
    · exact .inr (hR1.mine id _ b h1 rfl h3)
  have hM : ∀ b, (bs0 rd fl w vs I1 s0).M b → B.M b ∨ B.w.heap.size ≤ b := fun b hb => by
    obtain ⟨_, _, _, _, _, _, _, _, _, h1⟩ := h.mine hR hb
    exact h1
  have hI12 : ∀ b, I1 b → I2 b := fun b hb => hE2.lasts.sub b (hL1.sub b hb)
  have hE : Ext c w c2 w1 := ⟨hold, fun b hb => hI12 b (h.tk.ext.lasts.sub b hb), fun b hb => hL1.heap b (h.tk.ext.lasts.sub b hb)⟩
  have hstayR : ∀ n o, look (restore s0 z.tk 0 z.obs) n = some o → ObR c2 w1 n o := by
    intro n o hl
    have hkeep : ∀ b, b < w.heap.size → ¬ (bs0 rd fl w vs I1 s0).M b → w1.heap[b]? = w.heap[b]? := fun b h1 h2 => hR1.keep b h1 h2
    cases hlive : isLive o with
    | true =>
      obtain ⟨hs, hb⟩ := hstay n o hl hlive
      exact (hR.ob n o hs).ext hE fun b ho => hkeep b (hb b ho).1 (hb b ho).2.1
    | false =>
      rcases restore_some hl with h1 | ⟨k, h1, h2⟩
      · have hE' : Ext ⟨c.nm, I1⟩ w c2 w1 := ⟨hold, hI12, fun b hb => hL1.heap b hb⟩
        refine (h.tk.rel.ob n o h1).ext hE' fun b ho => ?_
        cases o <;> first | exact ho.elim | (cases hlive; done)
      · have := (h.tk.at_ k n o h1).2.2.1
        rw [hlive] at this
        cases this
  have hstayO : ∀ n o b, look (restore s0 z.tk 0 z.obs) n = some o → Own c2 n o b → look s n = some o ∧ Own c n o b ∧ b < w.heap.size ∧ ¬ (bs0 rd fl w vs I1 s0).M b ∧ ¬ I1 b := by
    intro n o b hl hb
    have hlive : isLive o = true := by cases o <;> first | rfl | exact hb.elim
    obtain ⟨hs, h1⟩ := hstay n o hl hlive
    obtain ⟨v, h2, h3⟩ := own_live hb
    have hn : c.nm n = some v := by
      have hob := hR.ob n o hs
      rw [← rd_obr] at hob
      rcases rd_cases o with ⟨t, cs, e⟩ | ⟨e', t, l, e⟩ | ⟨t, l, e⟩ | e <;> rw [e] at hob
      · obtain ⟨b', us, g1, _⟩ := hob
        rw [hold n _ g1] at h2
        rw [← h2]; exact g1
      · obtain ⟨v', us, g1, _⟩ := hob
        rw [hold n _ g1] at h2
        rw [← h2]; exact g1
      · rw [← rd_own, e] at hb; exact hb.elim
      · rw [← rd_own, e] at hb; exact hb.elim
    have ho : Own c n o b := live_own hlive hn h3
    exact ⟨hs, ho, h1 b ho⟩
  refine ⟨c2, ⟨?_, ?_, ?_, ?_, ?_, ?_, ?_, ?_, ?_, ?_, hR1.os.trans hR.os, hR1.tape.trans hR.tape, hR1.output.trans hR.output, Nat.le_trans hR.size hsz⟩, hB1, hE, fun b hb => (hT.newI b hb).imp (fun h => h) fun ⟨id, e, t, l, h1, _, h3⟩ => ⟨id, _, h1, h3⟩⟩
  · intro n o hl
    rcases putAll_some hl with h1 | ⟨h1, _⟩
    · obtain ⟨k, _, hk, hn, h2, _⟩ := hB2 n o h1
      exact h2
    · exact hstayR n o h1
  · intro n hl
    obtain ⟨h1, h2⟩ := putAll_none hl
    have h3 := hR.dom n (h.tk.dom n (restore_none h1))
    simp only [c2, h3]
    cases hp : placeOf' NL n with
    | none => rfl
    | some k =>
      simp only
      cases hk : vs1[k]? with
      | none => rfl
      | some v =>
        obtain ⟨o0, ho⟩ := hB3 k (Nat.zero_le _) (List.getElem?_eq_some_iff.1 hk).1
        have := place_some hp
        rw [outNm_lt (by have := (List.getElem?_eq_some_iff.1 hk).1; omega)] at ho
        simp only [List.getD_eq_getElem?_getD, this, Option.getD_some] at ho
        exact (h2 o0 ho).elim
  · intro i j oi oj b hi hj hbi hbj
    rcases putAll_some hi with h1 | ⟨h1, _⟩ <;> rcases putAll_some hj with h2 | ⟨h2, _⟩
    · obtain ⟨k, i1, o1, e1, g1, g2, g3, _, _⟩ := hnew i oi h1 b hbi
      obtain ⟨k', i2, o2, e2, g4, g5, g6, _, _⟩ := hnew j oj h2 b hbj
      have := hR1.sep i1 i2 o1 o2 b g3 g6 g2 g5
      subst this
      have := hT.nodup k k' i1 o1 o2 g1 g4
      subst this
      rw [e1, e2]
    · obtain ⟨k, i1, o1, e1, g1, g2, g3, _, g7⟩ := hnew i oi h1 b hbi
      obtain ⟨_, _, q1, q2, _⟩ := hstayO j oj b h2 hbj
      rcases g7 with g7 | g7
      · exact (q2 g7).elim
      · omega
    · obtain ⟨k, i1, o1, e1, g1, g2, g3, _, g7⟩ := hnew j oj h2 b hbj
      obtain ⟨_, _, q1, q2, _⟩ := hstayO i oi b h1 hbi
      rcases g7 with g7 | g7
      · exact (q2 g7).elim
      · omega
    · obtain ⟨q1, q2, _⟩ := hstayO i oi b h1 hbi
      obtain ⟨q3, q4, _⟩ := hstayO j oj b h2 hbj
      exact hR.sep i j oi oj b q1 q3 q2 q4
  · intro n o b hl hb hIb
    rcases putAll_some hl with h1 | ⟨h1, _⟩
    · obtain ⟨k, i1, o1, e1, g1, g2, _⟩ := hnew n o h1 b hb
      exact hT.imm hR1 g1 g2 hIb
    · obtain ⟨_, _, q1, q2, q3⟩ := hstayO n o b h1 hb
      rcases hI2 b hIb with h2 | h2 | h2
      · exact q3 h2
      · exact q2 h2
      · omega
  · intro b hb
    exact hT.rel.lo b hb
  · intro b hb hm
    have h1 : ¬ (bs0 rd fl w vs I1 s0).M b := fun hM' => by
      rcases hM b hM' with h2 | h2
      · exact hm h2
      · omega
    exact (hR1.keep b (Nat.lt_of_lt_of_le hb hR.size) h1).trans (hR.keep b hb hm)
  · intro n o b hl hr hb
    rcases putAll_some hl with h1 | ⟨h1, _⟩
    · obtain ⟨_, _, _, _, _, _, _, _, g7⟩ := hnew n o h1 b hb
      rcases g7 with g7 | g7
      · exact hM b g7
      · exact .inr (Nat.le_trans hR.size g7)
    · obtain ⟨q1, q2, _⟩ := hstayO n o b h1 hb
      exact hR.mine n o b q1 hr q2
  · intro n o b hl hb
    rcases putAll_some hl with h1 | ⟨h1, _⟩
    · obtain ⟨_, _, _, _, _, _, _, _, g7⟩ := hnew n o h1 b hb
      rcases g7 with g7 | g7
      · exact .inr (hM b g7)
      · exact .inr (.inr (Nat.le_trans hR.size g7))
    · obtain ⟨q1, q2, _⟩ := hstayO n o b h1 hb
      exact hR.ro n o b q1 q2
  · intro b hb
    exact hI12 b (h.tk.ext.lasts.sub b (hR.sub b hb))
  · intro b hb
    rcases hI2 b hb with h1 | h1 | h1
    · exact h.tk.rel.new b h1
    · rcases hM b h1 with h2 | h2
      · exact .inr (.inl h2)
      · exact .inr (.inr h2)
    · exact .inr (.inr (Nat.le_trans hR.size h1))

theorem handed [Sites] {ins : Sh} {args : List AV} {vals : List Value} {x : ins.den} {z : Tk} (hR : Rel B c s w) (hv : VRs c w args vals) (hx : xt ins args ⟨s, [], []⟩ = some (x, [], z)) (hk : updIx ins = []) :
    ∃ vs I1, Handed B c s w z vs I1 (bld (fun k => k) ins x 0).2.1 ∧ VRs (cf0 vs I1) w (bld (fun k => k) ins x 0).1 vals := by
  obtain ⟨I1, vs, u1, u2, hT, _, _, _, rfl, hu2, hB⟩ := xt_ok (B := B) (c := c) (s := s) (w := w) ins args ⟨s, [], []⟩ x [] z hx (TkOk.start hR) hv
  simp only [VRs] at hu2
  subst hu2
  rw [List.append_nil]
  obtain ⟨h1, _, h2, h3⟩ := hB (fun k => k) (cf0 vs I1) (fun k v hk => hk) (fun b hb => hb) (fun i hi => by rw [hk] at hi; cases hi)
  refine ⟨vs, I1, ⟨hT, fun i o0 hm => ?_, fun k hk => h3 k (Nat.zero_le _) hk⟩, h1⟩
  obtain ⟨k, _, hk, e, g1, g2, g3⟩ := h2 i o0 hm
  subst e
  exact ⟨hk, g1, g2, g3⟩
end
end Go.Hay
/- The front of a row that is a row of its own: no step of the program, a turn of names. -/
set_option linter.unusedVariables false
set_option linter.unusedSimpArgs false
namespace Go.Hay
open Go.RowKit

def settle (s : St) (t : Tmp) : St :=
  match look s.env t with
  | some (.view id _ 0 n) => match look s.obs id with
    | some (.row e T l) => match isFresh s.obs s.nx with
      | true => ⟨put s.env t (.own s.nx), put (put s.obs id .dead) s.nx (.row e T (l.take n)), s.nx + 1⟩
      | false => s
    | _ => s
  | _ => s
def settleAll : List Tmp → St → St
  | [], s => s
  | t :: ts, s => settleAll ts (settle s t)

section
variable {P : Program} {B : Bs} {C : Ctx} {fr : Nat → Option Value} {c : Cf} {w : World} {a : Act}

theorem front_row {e : TypeId} {sz n m cap : Nat} {A : Option Addr} {us : List Value} (h : RowAt w e sz (.slice A m cap) m us) (hn : n ≤ m) : RowAt w e sz (.slice A n cap) n (us.take (n * sz)) := by
  obtain ⟨h1, h2⟩ := h
  refine ⟨by rw [List.length_take, h1]; exact Nat.min_eq_left (Nat.mul_le_mul_right _ hn), ?_⟩
  rcases h2 with ⟨rfl, A', h2⟩ | ⟨b, cap', cur, h2, h3, h4, h5, h6, h7, h8⟩ | ⟨b, es, q, h2, _⟩
  rotate_left 2
  · cases h2
  · simp only [Value.slice.injEq] at h2
    obtain ⟨_, _, rfl⟩ := h2
    left
    have : n = 0 := by omega
    subst this
    exact ⟨rfl, _, rfl⟩
  · simp only [Value.slice.injEq] at h2
    obtain ⟨rfl, _, rfl⟩ := h2
    right
    left
    refine ⟨b, cap, cur, rfl, h3, by omega, h5, h6, h7, ?_⟩
    rw [← h8, List.take_take, Nat.min_eq_left (Nat.mul_le_mul_right _ hn)]

theorem settle_ok [Sites] {s : St} (hs : Sim B C fr c s w a) (t : Tmp) : ∃ c', Sim B C fr c' (settle s t) w a ∧ Ext c w c' w := by
  unfold settle
  split
  · rename_i id sz n ht
    split
    · rename_i e T l hl
      split
      · rename_i hf
        have hv := hs.tmps.env t _ ht
        simp only [VR] at hv
        obtain ⟨A, n0, cap, hnm, hle, hmax, hu⟩ := hv
        have hR := hs.rel
        obtain ⟨v0, us, g1, g2, g3⟩ := hR.ob _ _ hl
        rw [hnm] at g1
        simp only [Option.some.injEq] at g1
        subst g1
        have hn0 : n0 = l.length := by
          rcases g2.2 with ⟨h1, A', h2⟩ | ⟨b, cap', cur, h2, _⟩ | ⟨b, es, q, h2, _⟩
          rotate_left 2
          · cases h2
          · simp only [Value.slice.injEq] at h2
            omega
          · simp only [Value.slice.injEq] at h2
            omega
        subst hn0
        have hn : n ≤ l.length := by omega
        have hA : (if cap = 0 then A else A.map (·.add (0 * sz))) = A := by
          split
          · rfl
          · rcases g2.2 with ⟨_, A', h2⟩ | ⟨b, cap', cur, h2, _⟩ | ⟨b, es, q, h2, _⟩
            rotate_left 2
            · cases h2
            · simp only [Value.slice.injEq] at h2
              omega
            · simp only [Value.slice.injEq] at h2
              rw [h2.1]
              simp [Addr.add]
        rw [hA, Nat.sub_zero] at hu
        -- the old name falls
        obtain ⟨hR1, hE1⟩ := hR.upd (c' := c) (w' := w) id .dead (fun _ => False) (fun _ _ h => h) (fun _ _ => rfl) (fun _ h => h) (fun _ h => .inl h) (fun _ _ _ => rfl) (fun _ h => h.elim) (fun _ => trivial) (fun _ h => h.elim) rfl rfl rfl (Nat.le_refl _)
        have hne : id ≠ s.nx := fun e => by subst e; rw [isFresh_none hf] at hl; cases hl
        have hfr : look (put s.obs id .dead) s.nx = none := by rw [look_put, if_neg hne]; exact isFresh_none hf
        have hnone := hR1.dom s.nx hfr
        have hWfree : ∀ b, blockOf (.slice A l.length cap) = some b → Free B c (put s.obs id .dead) s.nx b := fun b hb' => by
          have hf := hR.free hl ((own_row hnm).2 hb')
          refine ⟨fun j oj hj hlj ho => ?_, hf.2⟩
          rw [look_put] at hlj
          split at hlj
          · simp only [Option.some.injEq] at hlj; subst hlj; exact ho
          · rename_i hji; exact hf.1 j oj (fun e => hji e.symm) hlj ho
        have hblk : ∀ b, blockOf (.slice A n cap) = some b → blockOf (.slice A l.length cap) = some b := fun b hb => by
          cases A with
          | none => simp [blockOf] at hb
          | some ad => simpa [blockOf] using hb
        obtain ⟨hR2, hE2⟩ := hR1.upd (c' := ⟨fun i => if i = s.nx then some (.slice A n cap) else c.nm i, c.I⟩) (w' := w) s.nx (.row e T (l.take n)) (fun b => blockOf (.slice A l.length cap) = some b)
          (fun i u hv => by
            by_cases e : i = s.nx
            · subst e; rw [hnone] at hv; cases hv
            · simp [e, hv])
          (fun i hi => by simp [hi]) (fun _ h => h) (fun b hb => .inl hb) (fun b hb' hw => rfl) hWfree
          (fun hE => ⟨.slice A n cap, us.take (n * T.size), by simp, by
            rw [List.length_take, Nat.min_eq_left hn]
            exact front_row g2 hn, Cat.lasts hE.lasts (Cat.take TR_len_fun n g3)⟩)
          (fun b hb' => by
            obtain ⟨v2, q1, q2⟩ := hb'
            simp at q1
            subst q1
            exact .inl (hblk b q2))
          rfl rfl rfl (Nat.le_refl _)
        refine ⟨_, ⟨hR2, ?_, ⟨hs.marks.all, hs.marks.nodup⟩, hs.base⟩, hE1.trans hE2⟩
        have hT := hs.tmps.ext (hE1.trans hE2)
        refine ⟨hT.size, fun k x hk => ?_, hT.frame⟩
        rw [look_put] at hk
        split at hk
        · rename_i e
          subst e
          simp only [Option.some.injEq] at hk
          subst hk
          rw [hu]
          simp only [VR]
          exact ⟨by simp, rfl⟩
        · exact hT.env k x hk
      · exact ⟨c, hs, Ext.refl c w⟩
    · exact ⟨c, hs, Ext.refl c w⟩
  · exact ⟨c, hs, Ext.refl c w⟩

theorem settleAll_ok [Sites] : ∀ (ts : List Tmp) {c : Cf} {s : St}, Sim B C fr c s w a → ∃ c', Sim B C fr c' (settleAll ts s) w a ∧ Ext c w c' w
  | [], c, s, hs => ⟨c, hs, Ext.refl c w⟩
  | t :: ts, c, s, hs => by
    obtain ⟨c1, h1, h2⟩ := settle_ok hs t
    obtain ⟨c2, h3, h4⟩ := settleAll_ok ts h1
    exact ⟨c2, h3, h2.trans h4⟩
end
end Go.Hay
/- Functions that are proved alone, and their contracts. -/
set_option linter.unusedVariables false
set_option linter.unusedSimpArgs false
namespace Go.Hay
open Go.RowKit

structure Fs where
  ins : Sh
  outs : Sh
  fn : ins.den → Option outs.den

def oneOrTuple : List AV → AV
  | [x] => x
  | xs => .tup xs

def backOk (outs : Sh) (z : Tk) (nx : Nat) : Bool :=
  (noRo outs && updOk z.tk outs) && (nodupB (onames (nameAt z.tk) nx outs 0) && (freshB z.obs nx (onames (nameAt z.tk) nx outs 0).length && Nat.ble (onames (nameAt z.tk) nx outs 0).length 1000000))

def tkNames (tk : List (Option Nat × Ob)) : List Nat := tk.filterMap (·.1)

def Fs.con (F : Fs) : Con where
  X := F.ins.den
  Y := fun _ => F.outs.den
  pre args s nx := match xt F.ins args ⟨s, [], []⟩ with
    | some (x, [], z) => bif backOk F.outs z nx then some x else none
    | _ => none
  fn := F.fn
  post args s nx x y := match xt F.ins args ⟨s, [], []⟩ with
    | some (x', [], z) => some (oneOrTuple (bld (outNm z.tk (onames (nameAt z.tk) nx F.outs 0)) F.outs y 0).1,
        putAll (restore (bld (fun k => k) F.ins x' 0).2.1 z.tk 0 z.obs) (bld (outNm z.tk (onames (nameAt z.tk) nx F.outs 0)) F.outs y 0).2.1,
        nx + (onames (nameAt z.tk) nx F.outs 0).length, tkNames z.tk ++ (z.fz ++ onames (nameAt z.tk) nx F.outs 0))
    | _ => none

def envOf : Nat → List AV → Env
  | _, [] => []
  | k, v :: r => (k, v) :: envOf (k + 1) r

def resV (U : TEnv) (s : St) : ResultVar → Option AV
  | .tmp t => look s.env t
  | .cell t ty => match vLoad (rdk s.obs) (U ty) (look s.env t) with
    | some (v, true) => some v
    | _ => none
def resVs (U : TEnv) (s : St) : List ResultVar → Option (List AV)
  | [] => some []
  | r :: rs => match resV U s r, resVs U s rs with
    | some v, some vs => some (v :: vs)
    | _, _ => none

def endK (U : TEnv) (outs : Sh) (rs : List ResultVar) (ctl : Ctl) (s : St) : Option outs.den :=
  match ctl with
  | .exit _ => none
  | _ => match resVs U s rs with
    | some vs => match xt outs vs ⟨s.obs, [], []⟩ with
      | some (y, [], _) => some y
      | _ => none
    | none => none

def endF (U : TEnv) (outs : Sh) (rs : List ResultVar) (fix : List Tmp) (ctl : Ctl) (s : St) : Option outs.den := endK U outs rs ctl (settleAll fix s)

def tupV : List Value → Value
  | [u] => u
  | us => .tuple us.toArray

def rvRun (tmps : Array Value) : ResultVar → Sem Value
  | .tmp t => pure (tmps.getD t undef)
  | .cell a t => do loadVar t (← asAddr (tmps.getD a undef))

section
variable {P : Program} {B : Bs} {c : Cf} {w : World} {s : Obs}

theorem results_rv (fn : Func) (tmps : Array Value) : results fn tmps = (do
    let vs ← fn.results.mapM (rvRun tmps)
    pure (if h : vs.size = 1 then vs[0] else .tuple vs)) := by
  unfold results
  congr 1

theorem look_envOf : ∀ (l : List AV) (k i : Nat) (x : AV), look (envOf k l) i = some x → k ≤ i ∧ l[i - k]? = some x
  | [], k, i, x, h => by simp [envOf, look] at h
  | v :: r, k, i, x, h => by
    simp only [envOf, look_cons] at h
    split at h
    · rename_i e
      subst e
      exact ⟨Nat.le_refl _, by simpa using h⟩
    · obtain ⟨h1, h2⟩ := look_envOf r (k + 1) i x h
      refine ⟨by omega, ?_⟩
      rw [show i - k = (i - (k + 1)) + 1 by omega, List.getElem?_cons_succ]
      exact h2

theorem run_loadVar_of {t : TypeId} {e : Operand → Value} {x : Operand} {a : Addr} (ha : e x = .pointer (some a)) {u : Value} {o : Oper} (ho : o.op = .load t x) (h : (execOp e o).run P w = .ok (.value u) w) : (loadVar t a).run P w = .ok u w := by
  simp only [execOp, ho, ha, Instr.loadAt, Instr.sureAddr, Sem.run_bind, Sem.run_pure, Result.andThen_ok] at h
  cases hl : (loadVar t a).run P w with
  | ok v w' =>
    simp only [hl, Result.andThen_ok] at h
    simp only [Result.ok.injEq, Next.value.injEq] at h
    rw [h.1, h.2]
  | halt x w' => simp [hl, Result.andThen] at h

theorem resV_ok [Sites] {C : Ctx} (hC : C.U.Ok P) {fr : Nat → Option Value} {st : St} {a : Act} (hs : Sim B C fr c st w a) {r : ResultVar} {v : AV} (h : resV C.U st r = some v) :
    ∃ u, (rvRun a.tmps r).run P w = .ok u w ∧ VR c w v u := by
  unfold rvRun
  cases r with
  | tmp t =>
    simp only [resV] at h
    exact ⟨_, by simp [Sem.run_pure], hs.tmps.env t v h⟩
  | cell t ty =>
    simp only [resV] at h
    split at h
    · rename_i v' hl
      simp only [Option.some.injEq] at h
      subst h
      let o : Oper := { dst := none, op := .load ty (.tmp t), type := 0, pos := "", after := #[], guard := none }
      have h1 := vLoad_ok (P := P) (c := c) (w := w) (lk := rdk st.obs) (ρ := evO st.env) (e := a.eval) (o := o) (t := ty) (x := .tmp t) hC rfl hl hs.ops hs.rel.rdk
      obtain ⟨u, hu, hv⟩ := h1
      have hptr : ∃ ad, a.eval (.tmp t) = .pointer (some ad) := by
        unfold vLoad at hl
        split at hl
        · split at hl
          · rename_i hx
            have := hs.tmps.env t _ hx
            simp only [VR] at this
            obtain ⟨b, _, e⟩ := this
            exact ⟨_, e⟩
          · rename_i hx
            have := hs.tmps.env t _ hx
            simp only [VR] at this
            obtain ⟨b, o, us, e, _⟩ := this
            exact ⟨_, e⟩
          · rename_i hx
            have := hs.tmps.env t _ hx
            simp only [VR] at this
            obtain ⟨b, n, cap, _, e⟩ := this
            exact ⟨_, e⟩
          · cases hl
        · cases hl
      obtain ⟨ad, hptr⟩ := hptr
      have h2 := run_loadVar_of (o := o) hptr rfl hu
      have h3 : a.tmps.getD t undef = .pointer (some ad) := hptr
      refine ⟨u, ?_, hv⟩
      simp only [h3, asAddr, Sem.run_bind, Sem.run_pure, Result.andThen_ok, h2]
    · cases h

theorem resVs_ok [Sites] {C : Ctx} (hC : C.U.Ok P) {fr : Nat → Option Value} {st : St} {a : Act} (hs : Sim B C fr c st w a) : ∀ {rs : List ResultVar} {vs : List AV}, resVs C.U st rs = some vs →
    ∃ us : List Value, (rs.mapM (rvRun a.tmps)).run P w = .ok us w ∧ VRs c w vs us
  | [], vs, h => by
    simp only [resVs, Option.some.injEq] at h
    subst h
    exact ⟨[], by simp [Sem.run_pure], by simp only [VRs]⟩
  | r :: rs, vs, h => by
    simp only [resVs] at h
    split at h
    · rename_i v vs' h1 h2
      simp only [Option.some.injEq] at h
      subst h
      obtain ⟨u, hu, hv⟩ := resV_ok (P := P) hC hs h1
      obtain ⟨us, hus, hvs⟩ := resVs_ok hC hs h2
      refine ⟨u :: us, ?_, by simp only [VRs]; exact ⟨u, us, rfl, hv, hvs⟩⟩
      rw [List.mapM_cons]
      simp only [Sem.run_bind, hu, Result.andThen_ok, hus, Sem.run_pure]
    · cases h

theorem results_ok [Sites] {C : Ctx} (hC : C.U.Ok P) {fr : Nat → Option Value} {st : St} {a : Act} (hs : Sim B C fr c st w a) {fn : Func} {vs : List AV} (h : resVs C.U st fn.results.toList = some vs) :
    ∃ us : List Value, (results fn a.tmps).run P w = .ok (tupV us) w ∧ VRs c w vs us := by
  obtain ⟨us, h1, h2⟩ := resVs_ok (P := P) hC hs h
  refine ⟨us, ?_, h2⟩
  have h3 : (fn.results.mapM (rvRun a.tmps)).run P w = .ok us.toArray w := by
    rw [Array.mapM_eq_mapM_toList]
    simp only [map_eq_pure_bind, Sem.run_bind, h1, Result.andThen_ok, Sem.run_pure]
  rw [results_rv]
  simp only [Sem.run_bind, h3, Result.andThen_ok, Sem.run_pure]
  match us with
  | [] => simp [tupV]
  | [u] => simp [tupV]
  | u :: u' :: r => simp [tupV]

theorem one_or_tuple {vs : List AV} {us : List Value} (h : VRs c w vs us) : VR c w (oneOrTuple vs) (tupV us) := by
  match vs, us, h with
  | [], us, h =>
    simp only [VRs] at h
    subst h
    simp only [oneOrTuple, VR]
    exact ⟨[], rfl, by simp only [VRs]⟩
  | [x], us, h =>
    simp only [VRs] at h
    obtain ⟨u, us', rfl, h1, rfl⟩ := h
    exact h1
  | x :: y :: r, us, h =>
    have h0 := h
    simp only [VRs] at h
    obtain ⟨u, us', rfl, h1, u2, us2, rfl, h2, h3⟩ := h
    simp only [oneOrTuple, VR]
    exact ⟨_, rfl, h0⟩

theorem bld_count (σ : Nat → Nat) (nx : Nat) (nm : Nat → Nat) : ∀ (sh : Sh) (x : sh.den) (n : Nat), (bld nm sh x n).2.2 = n + (onames σ nx sh n).length ∧ ∀ i o, (i, o) ∈ (bld nm sh x n).2.1 → ∃ k, n ≤ k ∧ k < (bld nm sh x n).2.2 ∧ i = nm k := by
  intro sh
  induction sh with
  | val t => intro x n; exact ⟨by simp [bld, onames], fun i o hm => by simp [bld] at hm⟩
  | ref j => intro x n; exact ⟨by simp [bld, onames], fun i o hm => by simp [bld] at hm⟩
  | refo j off => intro x n; exact ⟨by simp [bld, onames], fun i o hm => by simp [bld] at hm⟩
  | refr j => intro x n; exact ⟨by simp [bld, onames], fun i o hm => by simp [bld] at hm⟩
  | nils => intro x n; exact ⟨by simp [bld, onames], fun i o hm => by simp [bld] at hm⟩
  | nilp => intro x n; exact ⟨by simp [bld, onames], fun i o hm => by simp [bld] at hm⟩
  | lit k m => intro x n; exact ⟨by simp [bld, onames], fun i o hm => by simp [bld] at hm⟩
  | junk => intro x n; exact ⟨by simp [bld, onames], fun i o hm => by simp [bld] at hm⟩
  | refy j => intro x n; exact ⟨by simp [bld, onames], fun i o hm => by simp [bld] at hm⟩
  | keep k j => intro x n; exact ⟨by simp [bld, onames], fun i o hm => by simp [bld] at hm⟩
  | nil => intro x n; exact ⟨by simp [bld, onames], fun i o hm => by simp [bld] at hm⟩
  | own e t => intro x n; exact ⟨by simp [bld, onames], fun i o hm => by simp only [bld, List.mem_singleton] at hm; cases hm; exact ⟨n, Nat.le_refl _, by simp [bld], rfl⟩⟩
  | arr e t m => intro x n; exact ⟨by simp [bld, onames], fun i o hm => by simp only [bld, List.mem_singleton] at hm; cases hm; exact ⟨n, Nat.le_refl _, by simp [bld], rfl⟩⟩
  | rown e t => intro x n; exact ⟨by simp [bld, onames], fun i o hm => by simp only [bld, List.mem_singleton] at hm; cases hm; exact ⟨n, Nat.le_refl _, by simp [bld], rfl⟩⟩
  | updr j e t => intro x n; exact ⟨by simp [bld, onames], fun i o hm => by simp only [bld, List.mem_singleton] at hm; cases hm; exact ⟨n, Nat.le_refl _, by simp [bld], rfl⟩⟩
  | box t cs ih =>
    intro x n
    obtain ⟨h1, h2⟩ := ih x (n + 1)
    refine ⟨by simp only [bld, onames, List.length_cons]; rw [h1]; omega, fun i o hm => ?_⟩
    simp only [bld] at hm ⊢
    rcases List.mem_cons.1 hm with e | hm
    · cases e; exact ⟨n, Nat.le_refl _, by rw [h1]; omega, rfl⟩
    · obtain ⟨k, g1, g2, g3⟩ := h2 i o hm; exact ⟨k, by omega, g2, g3⟩
  | bxo off t cs ih =>
    intro x n
    obtain ⟨h1, h2⟩ := ih x (n + 1)
    refine ⟨by simp only [bld, onames, List.length_cons]; rw [h1]; omega, fun i o hm => ?_⟩
    simp only [bld] at hm ⊢
    rcases List.mem_cons.1 hm with e | hm
    · cases e; exact ⟨n, Nat.le_refl _, by rw [h1]; omega, rfl⟩
    · obtain ⟨k, g1, g2, g3⟩ := h2 i o hm; exact ⟨k, by omega, g2, g3⟩
  | rbox t cs ih =>
    intro x n
    obtain ⟨h1, h2⟩ := ih x (n + 1)
    refine ⟨by simp only [bld, onames, List.length_cons]; rw [h1]; omega, fun i o hm => ?_⟩
    simp only [bld] at hm ⊢
    rcases List.mem_cons.1 hm with e | hm
    · cases e; exact ⟨n, Nat.le_refl _, by rw [h1]; omega, rfl⟩
    · obtain ⟨k, g1, g2, g3⟩ := h2 i o hm; exact ⟨k, by omega, g2, g3⟩
  | upd j t cs ih =>
    intro x n
    obtain ⟨h1, h2⟩ := ih x (n + 1)
    refine ⟨by simp only [bld, onames, List.length_cons]; rw [h1]; omega, fun i o hm => ?_⟩
    simp only [bld] at hm ⊢
    rcases List.mem_cons.1 hm with e | hm
    · cases e; exact ⟨n, Nat.le_refl _, by rw [h1]; omega, rfl⟩
    · obtain ⟨k, g1, g2, g3⟩ := h2 i o hm; exact ⟨k, by omega, g2, g3⟩
  | fn f cs ih => intro x n; simpa only [bld, onames] using ih x n
  | agg cs ih => intro x n; simpa only [bld, onames] using ih x n
  | els sz k cs ih => intro x n; simpa only [bld, onames] using ih x n
  | fnb k f cs ih => intro x n; simpa only [bld, onames] using ih x n
  | cons a r iha ihr =>
    intro x n
    obtain ⟨h1, h2⟩ := iha x.1 n
    obtain ⟨h3, h4⟩ := ihr x.2 (bld nm a x.1 n).2.2
    rw [h1] at h3
    refine ⟨by simp only [bld, onames, List.length_append]; rw [h1, h3]; omega, fun i o hm => ?_⟩
    simp only [bld] at hm ⊢
    rcases List.mem_append.1 hm with hm | hm
    · obtain ⟨k, g1, g2, g3⟩ := h2 i o hm; exact ⟨k, g1, by rw [h1] at g2 ⊢; omega, g3⟩
    · obtain ⟨k, g1, g2, g3⟩ := h4 i o hm; exact ⟨k, by omega, g2, g3⟩

theorem xt_rest [Sites] : ∀ (sh : Sh) (as : List AV) (z : Tk) (x : sh.den) (rest : List AV) (z' : Tk), xt sh as z = some (x, rest, z') →
    z.tk <+: z'.tk ∧ (∀ i ∈ z.fz, i ∈ z'.fz) ∧ ∀ i : Nat, i ∉ z'.fz → (∀ p ∈ z'.tk, p.1 ≠ some i) → look z'.obs i = look z.obs i := by
  intro sh
  have leaf : ∀ {z : Tk} {id : Nat} {o : Ob}, z.tk <+: z.tk ++ [(some id, o)] ∧ (∀ i ∈ z.fz, i ∈ z.fz) ∧ ∀ i : Nat, i ∉ z.fz → (∀ p ∈ z.tk ++ [(some id, o)], p.1 ≠ some i) → look (put z.obs id .dead) i = look z.obs i := by
    intro z id o
    refine ⟨List.prefix_append _ _, fun _ h => h, fun i _ hp => ?_⟩
    rw [look_put, if_neg (fun e => hp (some id, o) (by simp) (by simp [e]))]
  have leafn : ∀ {z : Tk} {o : Ob}, z.tk <+: z.tk ++ [((none : Option Nat), o)] ∧ (∀ i ∈ z.fz, i ∈ z.fz) ∧ ∀ i : Nat, i ∉ z.fz → (∀ p ∈ z.tk ++ [((none : Option Nat), o)], p.1 ≠ some i) → look z.obs i = look z.obs i := by
    intro z o
    exact ⟨List.prefix_append _ _, fun _ h => h, fun _ _ _ => rfl⟩
  have head : ∀ {z z' : Tk} {id : Nat} {o : Ob}, ((z.tk ++ [(some id, o)]) <+: z'.tk ∧ (∀ i ∈ z.fz, i ∈ z'.fz) ∧ ∀ i : Nat, i ∉ z'.fz → (∀ p ∈ z'.tk, p.1 ≠ some i) → look z'.obs i = look (put z.obs id .dead) i) →
      z.tk <+: z'.tk ∧ (∀ i ∈ z.fz, i ∈ z'.fz) ∧ ∀ i : Nat, i ∉ z'.fz → (∀ p ∈ z'.tk, p.1 ≠ some i) → look z'.obs i = look z.obs i := by
    rintro z z' id o ⟨h1, h2, h3⟩
    refine ⟨(List.prefix_append _ _).trans h1, h2, fun i hi hp => ?_⟩
    rw [h3 i hi hp, look_put, if_neg (fun e => hp (some id, o) (h1.subset (by simp)) (by simp [e]))]
  induction sh with
  | val t =>
    intro as z x rest z' h
    simp only [xt] at h
    split at h
    · rename_i v r
      split at h
      · simp only [Option.some.injEq, Prod.mk.injEq] at h
        rw [← h.2.2]
        refine ⟨List.prefix_refl _, fun i hi => List.mem_append_right _ hi, fun i hi _ => ?_⟩
        simp only [List.mem_append, not_or] at hi
        exact frz_look fun y hy hm => hi.1 (cells_ids hy hm)
      · cases h
    · cases h
  | own e t =>
    intro as z x rest z' h
    simp only [xt] at h
    split at h
    · cases hmt : isMapTy e with
      | true => simp [hmt] at h
      | false =>
        simp only [hmt, cond_false, Option.some.injEq, Prod.mk.injEq] at h
        rw [← h.2.2]
        exact leafn
    · split at h
      · split at h
        · split at h
          · simp only [Option.some.injEq, Prod.mk.injEq] at h
            rw [← h.2.2]
            exact leaf
          · cases h
        · cases h
      · cases h
    · cases h
  | rown e t =>
    intro as z x rest z' h
    simp only [xt] at h
    split at h
    · cases hmt : isMapTy e with
      | true => simp [hmt] at h
      | false =>
        simp only [hmt, cond_false, Option.some.injEq, Prod.mk.injEq] at h
        rw [← h.2.2]
        exact leafn
    · split at h
      · split at h
        · split at h
          · simp only [Option.some.injEq, Prod.mk.injEq] at h
            rw [← h.2.2]
            exact leaf
          · cases h
        · split at h
          · simp only [Option.some.injEq, Prod.mk.injEq] at h
            rw [← h.2.2]
            exact leaf
          · cases h
        · cases h
      · cases h
    · cases h
  | box t cs ih =>
    intro as z x rest z' h
    simp only [xt] at h
    split at h
    · split at h
      · split at h
        · split at h
          · rename_i x' z1 hb hx
            simp only [Option.some.injEq, Prod.mk.injEq] at h
            rw [← h.2.2]; exact head (ih _ _ _ _ _ hx)
          · cases h
        · cases h
      · cases h
    · cases h
  | bxo off t cs ih =>
    intro as z x rest z' h
    simp only [xt] at h
    split at h
    · split at h
      · split at h
        · rename_i x' z1 hb hx
          simp only [Option.some.injEq, Prod.mk.injEq] at h
          rw [← h.2.2]; exact head (ih _ _ _ _ _ hx)
        · cases h
      · cases h
    · cases h
  | rbox t cs ih =>
    intro as z x rest z' h
    simp only [xt] at h
    split at h
    · split at h
      · split at h
        · rename_i x' z1 hb hx
          simp only [Option.some.injEq, Prod.mk.injEq] at h
          rw [← h.2.2]; exact head (ih _ _ _ _ _ hx)
        · cases h
      · split at h
        · rename_i x' z1 hb hx
          simp only [Option.some.injEq, Prod.mk.injEq] at h
          rw [← h.2.2]; exact head (ih _ _ _ _ _ hx)
        · cases h
      · cases h
    · cases h
  | upd i t cs ih =>
    intro as z x rest z' h
    simp only [xt] at h
    split at h
    · split at h
      · rename_i x' z1 hb hx
        simp only [Option.some.injEq, Prod.mk.injEq] at h
        rw [← h.2.2]; exact head (ih _ _ _ _ _ hx)
      · cases h
    · cases h
  | updr i e t =>
    intro as z x rest z' h
    simp only [xt] at h
    split at h
    · split at h
      · simp only [Option.some.injEq, Prod.mk.injEq] at h
        rw [← h.2.2]; exact leaf
      · cases h
    · cases h
  | fn f cap ih =>
    intro as z x rest z' h
    simp only [xt] at h
    split at h
    · split at h
      · rename_i x' z1 hb hx
        simp only [Option.some.injEq, Prod.mk.injEq] at h
        rw [← h.2.2]; exact ih _ _ _ _ _ hx
      · cases h
    · cases h
  | els sz n cs ih =>
    intro as z x rest z' h
    simp only [xt] at h
    split at h
    · split at h
      · rename_i x' z1 _ hx
        simp only [Option.some.injEq, Prod.mk.injEq] at h
        rw [← h.2.2]; exact ih _ _ _ _ _ hx
      · cases h
    · cases h
  | fnb k f cs ih =>
    intro as z x rest z' h
    simp only [xt] at h
    split at h
    · split at h
      · rename_i x' z1 _ hx
        simp only [Option.some.injEq, Prod.mk.injEq] at h
        rw [← h.2.2]; exact ih _ _ _ _ _ hx
      · cases h
    · cases h
  | agg cs ih =>
    intro as z x rest z' h
    simp only [xt] at h
    split at h
    · split at h
      · rename_i x' z1 hx
        simp only [Option.some.injEq, Prod.mk.injEq] at h
        rw [← h.2.2]; exact ih _ _ _ _ _ hx
      · cases h
    · cases h
  | ref i =>
    intro as z x rest z' h
    simp only [xt] at h
    split at h
    · split at h
      · split at h
        · simp only [Option.some.injEq, Prod.mk.injEq] at h
          rw [← h.2.2]; exact ⟨List.prefix_refl _, fun _ h => h, fun _ _ _ => rfl⟩
        · cases h
      · cases h
    · cases h
  | refo i off =>
    intro as z x rest z' h
    simp only [xt] at h
    split at h
    · split at h
      · split at h
        · simp only [Option.some.injEq, Prod.mk.injEq] at h
          rw [← h.2.2]; exact ⟨List.prefix_refl _, fun _ h => h, fun _ _ _ => rfl⟩
        · cases h
      · cases h
    · cases h
  | refr i =>
    intro as z x rest z' h
    simp only [xt] at h
    split at h
    · split at h
      · split at h
        · simp only [Option.some.injEq, Prod.mk.injEq] at h
          rw [← h.2.2]; exact ⟨List.prefix_refl _, fun _ h => h, fun _ _ _ => rfl⟩
        · cases h
      · cases h
    · cases h
  | nils =>
    intro as z x rest z' h
    simp only [xt] at h
    split at h
    · simp only [Option.some.injEq, Prod.mk.injEq] at h
      rw [← h.2.2]; exact ⟨List.prefix_refl _, fun _ h => h, fun _ _ _ => rfl⟩
    · cases h
  | nilp =>
    intro as z x rest z' h
    simp only [xt] at h
    split at h
    · simp only [Option.some.injEq, Prod.mk.injEq] at h
      rw [← h.2.2]; exact ⟨List.prefix_refl _, fun _ h => h, fun _ _ _ => rfl⟩
    · cases h
  | lit k n =>
    intro as z x rest z' h
    simp only [xt] at h
    split at h
    · split at h
      · simp only [Option.some.injEq, Prod.mk.injEq] at h
        rw [← h.2.2]; exact ⟨List.prefix_refl _, fun _ h => h, fun _ _ _ => rfl⟩
      · cases h
    · cases h
  | junk =>
    intro as z x rest z' h
    simp only [xt] at h
    split at h
    · simp only [Option.some.injEq, Prod.mk.injEq] at h
      rw [← h.2.2]; exact ⟨List.prefix_refl _, fun _ h => h, fun _ _ _ => rfl⟩
    · cases h
  | refy i =>
    intro as z x rest z' h
    simp only [xt] at h
    split at h
    · split at h
      · split at h
        · simp only [Option.some.injEq, Prod.mk.injEq] at h
          rw [← h.2.2]; exact ⟨List.prefix_refl _, fun _ h => h, fun _ _ _ => rfl⟩
        · cases h
      · cases h
    · cases h
  | arr e t n =>
    intro as z x rest z' h
    simp only [xt] at h
    split at h
    · split at h
      · split at h
        · simp only [Option.some.injEq, Prod.mk.injEq] at h
          rw [← h.2.2]; exact leaf
        · cases h
      · cases h
    · cases h
  | keep k i =>
    intro as z x rest z' h
    simp only [xt] at h
    split at h
    · split at h
      · simp only [Option.some.injEq, Prod.mk.injEq] at h
        rw [← h.2.2]; exact ⟨List.prefix_refl _, fun _ h => h, fun _ _ _ => rfl⟩
      · cases h
    · cases h
  | nil =>
    intro as z x rest z' h
    simp only [xt, Option.some.injEq, Prod.mk.injEq] at h
    rw [← h.2.2]; exact ⟨List.prefix_refl _, fun _ h => h, fun _ _ _ => rfl⟩
  | cons a r iha ihr =>
    intro as z x rest z' h
    simp only [xt] at h
    split at h
    · rename_i x1 bs z1 h1
      split at h
      · rename_i y1 cs z2 h2
        simp only [Option.some.injEq, Prod.mk.injEq] at h
        rw [← h.2.2]
        obtain ⟨p1, p2, p3⟩ := iha _ _ _ _ _ h1
        obtain ⟨q1, q2, q3⟩ := ihr _ _ _ _ _ h2
        exact ⟨p1.trans q1, fun i hi => q2 i (p2 i hi), fun i hi hp => (q3 i hi hp).trans (p3 i (fun h => hi (q2 i h)) fun p hm => hp p (q1.subset hm))⟩
      · cases h
    · cases h

theorem putAll_look {i : Nat} : ∀ {os : List (Nat × Ob)} {s : Obs}, (∀ o, (i, o) ∉ os) → look (putAll s os) i = look s i
  | [], s, _ => rfl
  | (m, p) :: r, s, h => by
    simp only [putAll]
    rw [putAll_look fun o hm => h o (List.mem_cons_of_mem _ hm), look_put, if_neg (fun e => h p (by simp [e]))]
theorem restore_look {s0 : Obs} {i : Nat} : ∀ {tk : List (Option Nat × Ob)} {k : Nat} {t : Obs}, (∀ p ∈ tk, p.1 ≠ some i) → look (restore s0 tk k t) i = look t i
  | [], k, t, _ => rfl
  | (some id, p) :: r, k, t, h => by
    simp only [restore]
    rw [restore_look fun q hq => h q (List.mem_cons_of_mem _ hq)]
    cases roAt s0 k with
    | false => rfl
    | true =>
      simp only [cond_true]
      rw [look_put, if_neg (fun e => h (some id, p) (by simp) (by simp [e]))]
  | (none, p) :: r, k, t, h => by
    simp only [restore]
    exact restore_look fun q hq => h q (List.mem_cons_of_mem _ hq)

theorem back_look [Sites] {ins outs : Sh} {args : List AV} {x : ins.den} {y : outs.den} {z : Tk} {nx : Nat} (hx : xt ins args ⟨s, [], []⟩ = some (x, [], z)) {s0 : Obs} {i : Nat} (hi : i ∉ tkNames z.tk ++ (z.fz ++ onames (nameAt z.tk) nx outs 0)) (hle : (onames (nameAt z.tk) nx outs 0).length ≤ 1000000) :
    look (putAll (restore s0 z.tk 0 z.obs) (bld (outNm z.tk (onames (nameAt z.tk) nx outs 0)) outs y 0).2.1) i = look s i := by
  simp only [List.mem_append, not_or] at hi
  obtain ⟨h1, h2, h3⟩ := hi
  have htk : ∀ p ∈ z.tk, p.1 ≠ some i := fun p hp e => h1 (by
    unfold tkNames
    exact List.mem_filterMap.2 ⟨p, hp, e⟩)
  obtain ⟨c1, c2⟩ := bld_count (nameAt z.tk) nx (outNm z.tk (onames (nameAt z.tk) nx outs 0)) outs y 0
  rw [putAll_look, restore_look htk, (xt_rest ins args _ x [] z hx).2.2 i h2 htk]
  intro o hm
  obtain ⟨k, _, g2, g3⟩ := c2 i o hm
  rw [c1, Nat.zero_add] at g2
  apply h3
  rw [g3, outNm_lt (by omega)]
  simp only [List.getD_eq_getElem?_getD, List.getElem?_eq_getElem g2, Option.getD_some]
  exact List.getElem_mem _

theorem Rel.other [Sites] (h : Rel B c s w) {m : Nat} {x : Obj} (hm : m < w.heap.size) (hno : ∀ i o, look s i = some o → ¬ Own c i o m) (hI : ¬ c.I m) (hB : B.w.heap.size ≤ m) : Rel B c s (w.putObj m x) ∧ Ext c w c (w.putObj m x) := by
  have hE : Ext c w c (w.putObj m x) := ⟨fun _ _ h => h, fun _ h => h, fun b hb => World.putObj_heap_other fun e => hI (e ▸ hb)⟩
  refine ⟨⟨fun i o ho => (h.ob i o ho).ext hE fun b hb => World.putObj_heap_other fun e => hno i o ho (e ▸ hb), h.dom, h.sep, h.imm, fun b hb => by rw [World.putObj_size]; exact h.lo b hb, fun b hb hM => ?_, h.mine, h.ro, h.sub, h.new, h.os, h.tape, h.output, by rw [World.putObj_size]; exact h.size⟩, hE⟩
  rw [World.putObj_heap_other (by omega)]
  exact h.keep b hb hM

theorem Marks.pay [Sites] {fn : Func} {tmps : Array Value} {R : Ending → World → Prop} : ∀ {ds : List Deferred} {w : World} {fl : Nat}, Rel B c s w → Marks fl c w ds → B.w.heap.size ≤ fl →
    ∃ w2, Rel B c s w2 ∧ Ext c w c w2 ∧ (LeavesInM Fence.wide 0 P fn tmps R [] .returning w2 → LeavesInM Fence.wide 0 P fn tmps R ds .returning w)
  | [], w, fl, h, hm, hB => ⟨w, h, Ext.refl c w, fun h => h⟩
  | d :: ds, w, fl, h, hm, hB => by
    obtain ⟨m, h1, h2, h3, h4⟩ := hm.all d (List.mem_cons_self ..)
    have hlt : m < w.heap.size := (Array.getElem?_eq_some_iff.1 h2).1
    obtain ⟨k1, k2⟩ := h.other (x := .deferred none) hlt (fun i o ho hb => (h.ob i o ho).not_deferred hb _ h2) h4 (by omega)
    have hnd := hm.nodup
    simp only [List.map_cons, List.pairwise_cons] at hnd
    have hm' : Marks fl c (w.putObj m (.deferred none)) ds := by
      refine ⟨fun d' hd' => ?_, hnd.2⟩
      obtain ⟨m', g1, g2, g3, g4⟩ := hm.all d' (List.mem_cons_of_mem _ hd')
      refine ⟨m', g1, ?_, g3, g4⟩
      rw [World.putObj_heap_other fun e => ?_]
      · exact g2
      · have := hnd.1 d'.target (List.mem_map.2 ⟨d', hd', rfl⟩) m (by rw [h1])
        rw [g1, e] at this
        exact this rfl
    obtain ⟨w2, q1, q2, q3⟩ := Marks.pay (fn := fn) (tmps := tmps) (R := R) k1 hm' hB
    refine ⟨w2, q1, k2.trans q2, fun hh => ⟨fun e => (by cases e), .inl ⟨m, _, by rw [h1], run_takeDeferred h2, q3 hh⟩⟩⟩

theorem fn_ok [Sites] {f : FuncId} {fn : Func} {code : Code} (hf : P.funcs[f]? = some fn) (hname : (fn.name == "runtime.NumGoroutine") = false) (hb : fn.body = some code) (hmix : P.follows .mixedOrders = true)
    {C : Ctx} (hC : C.Ok P) (hmay : ∀ t, C.may t = true) {F : Fs} (hnt : ∀ x, (bld (fun k => k) F.ins x 0).1.length + (fn.ntmps - (bld (fun k => k) F.ins x 0).1.length) = C.nt) {Λ : Pcs} (hΛ : Λ.Ok P C code) {n0 : Nat} {fix : List Tmp}
    (hev : ∀ x y, F.fn x = some y → evC C code Λ ⟨envOf 0 (bld (fun k => k) F.ins x 0).1, (bld (fun k => k) F.ins x 0).2.1, n0⟩ (endF C.U F.outs fn.results.toList fix) = some y) (hni : updIx F.ins = [] := by rfl) : F.con.Ok P f where
  enters args w := MuLone.run_callFunc_enter hf hname hb args w
  runs := by
    intro args s nx (x : F.ins.den) (y : F.outs.den) v s1 n1 W hpre hfn hpost B c w vals hR hv
    simp only [Fs.con] at hpre hpost
    split at hpre
    · rename_i x' z hx
      cases hbk : backOk F.outs z nx with
      | false => simp [hbk] at hpre
      | true =>
        simp only [hbk, cond_true] at hpre
        obtain rfl : x' = x := Option.some.inj hpre
        rw [hx] at hpost
        simp only [Option.some.injEq, Prod.mk.injEq] at hpost
        obtain ⟨rfl, rfl, _⟩ := hpost
        simp only [backOk, Bool.and_eq_true] at hbk
        obtain ⟨⟨b1, b2⟩, b3, b4, b5⟩ := hbk
        obtain ⟨vs, I1, hH, hv0⟩ := handed hR hv hx hni
        refine callsIn_wide.1 (callsIn_of_wp_marks (n := 0) (F := Fence.wide) hf hb trivial ?_)
        have hlen := hv0.length
        have hsim : Sim (bs0 none w.heap.size w vs I1 (bld (fun k => k) F.ins x' 0).2.1) C (fun _ => none) (cf0 vs I1) ⟨envOf 0 (bld (fun k => k) F.ins x' 0).1, (bld (fun k => k) F.ins x' 0).2.1, n0⟩ w
            { tmps := vals.toArray ++ Array.replicate (fn.ntmps - vals.toArray.size) undef, defers := [] } := by
          refine ⟨hH.rel hR, ⟨?_, fun k y hk => ?_, fun k v hk => (by cases hk)⟩, .nil, ⟨Nat.le_refl _, fun l hl => by cases hl⟩⟩
          · simp only [Array.size_append, List.size_toArray, Array.size_replicate]
            rw [← hnt x', hlen]
          · obtain ⟨_, hk⟩ := look_envOf _ _ _ _ hk
            simp only [Nat.sub_zero] at hk
            obtain ⟨u, hu, hvu⟩ := hv0.get hk
            have hlt : k < vals.length := (List.getElem?_eq_some_iff.1 hu).1
            have : (vals.toArray ++ Array.replicate (fn.ntmps - vals.toArray.size) undef).getD k undef = u := by
              rw [Array.getD_eq_getD_getElem?, Array.getElem?_append_left (by simpa using hlt)]
              simp [hu]
            rw [this]
            exact hvu
        refine evC_ok hC hmix (fun t ht => rfl) code Λ _ _ (hev x' y hfn) hΛ _ w _ _ hsim fun ctl st0 c10 w1 a1 hK hs10 hE10 => ?_
        obtain ⟨c1, hs1, hE11⟩ := settleAll_ok fix hs10
        have hE1 := hE10.trans hE11
        generalize hst : settleAll fix st0 = st at hs1
        have hctl : (ctl = .normal ∨ ctl = .ret) ∧ ∃ rs z1, resVs C.U st fn.results.toList = some rs ∧ xt F.outs rs ⟨st.obs, [], []⟩ = some (y, [], z1) := by
          unfold endF endK at hK
          rw [hst] at hK
          split at hK
          · cases hK
          · rename_i hne
            refine ⟨?_, ?_⟩
            · cases ctl with
              | normal => exact .inl rfl
              | ret => exact .inr rfl
              | exit id => exact absurd rfl (hne id)
            · split at hK
              · rename_i rs hrs
                split at hK
                · rename_i y' z1 hx1
                  simp only [Option.some.injEq] at hK
                  subst hK
                  exact ⟨rs, z1, hrs, hx1⟩
                · cases hK
              · cases hK
        obtain ⟨hctl, rs, z1, hrs, hx1⟩ := hctl
        obtain ⟨w2, r1, r2, r3⟩ := Marks.pay (P := P) (fn := fn) (tmps := a1.tmps) (R := fun e w' => ∃ c' u, e = .returned u ∧ Rel B c' (putAll (restore (bld (fun k => k) F.ins x' 0).2.1 z.tk 0 z.obs) (bld (outNm z.tk (onames (nameAt z.tk) nx F.outs 0)) F.outs y 0).2.1) w' ∧
            VR c' w' (oneOrTuple (bld (outNm z.tk (onames (nameAt z.tk) nx F.outs 0)) F.outs y 0).1) u ∧ Ext c w c' w') hs1.rel hs1.marks (Nat.le_refl _)
        have hs2 : Sim (bs0 none w.heap.size w vs I1 (bld (fun k => k) F.ins x' 0).2.1) C (fun _ => none) c1 st w2 { a1 with defers := [] } :=
          ⟨r1, ⟨(hs1.tmps.ext r2).size, (hs1.tmps.ext r2).env, (hs1.tmps.ext r2).frame⟩, .nil, hs1.base⟩
        have hE2 := hE1.trans r2
        obtain ⟨us, hrun, hvr⟩ := results_ok (P := P) hC.U hs2 hrs
        obtain ⟨c2, g1, g2, g3, _⟩ := hH.give hR hs2.rel hE2.lasts (fun i _ v hi => hE2.nm i v hi) hvr hx1 b1 b2 rfl (Nat.le_of_ble_eq_true b5) b3 b4
        have hpost := r3 ⟨_, hrun, c2, _, rfl, g1, one_or_tuple g2, g3⟩
        rcases hctl with rfl | rfl
        · exact hpost
        · exact hpost
    · cases hpre
  wrote := by
    intro args s nx (x : F.ins.den) (y : F.outs.den) v s1 n1 W hpre hpost i hi
    simp only [Fs.con] at hpre hpost
    split at hpost
    · rename_i x' z hx
      simp only [Option.some.injEq, Prod.mk.injEq] at hpost
      obtain ⟨_, rfl, _, rfl⟩ := hpost
      rw [hx] at hpre
      simp only at hpre
      cases hbk : backOk F.outs z nx with
      | false => simp [hbk] at hpre
      | true =>
        simp only [backOk, Bool.and_eq_true] at hbk
        exact back_look hx hi (Nat.le_of_ble_eq_true hbk.2.2.2)
    · cases hpost
end
end Go.Hay
