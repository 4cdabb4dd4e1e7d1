/- Operations that make or write memory of ours: what they come to; what they look at. -/
import Derived.Test.YthlojpcjafefjaaHayH
set_option linter.unusedVariables false
set_option linter.unusedSimpArgs false
namespace Go.Hay
open Go.RowKit

def u8 (n : Int) : UInt8 := UInt8.ofNat n.toNat

theorem u8_byte (x : UInt8) : u8 (x.toNat : Int) = x := by simp [u8]
theorem u8_toNat {n : Int} (h : fits .u8 n = true) : ((u8 n).toNat : Int) = n := by
  simp [fits] at h
  simp [u8]
  omega

/-- A slice's elements, where nobody writes them any more. -/
def frozenList (lk : Lk) (t : Ty) (x : AV) : Option (List t.den) :=
  match x with
  | .list t' l => castL t t' l
  | .nils => some []
  | .own id => match lk id with
    | some (.frow t' l) => castL t t' l
    | _ => none
  | .view id sz lo n => match lk id with
    | some (.frow t' l) => bif Nat.beq sz t'.size then castL t t' ((l.drop lo).take n) else none
    | _ => none
  | _ => none

def mkByte : List AV → Option (UInt8 × List AV)
  | .int .u8 n :: r => some (u8 n, r)
  | _ => none
def mkInt (k : IntKind) : List AV → Option (Int × List AV)
  | .int k' n :: r => bif ikEq k k' then some (n, r) else none
  | _ => none
def mkBool : List AV → Option (Bool × List AV)
  | .bool b :: r => some (b, r)
  | _ => none
def mkStr : List AV → Option (List UInt8 × List AV)
  | .str s :: r => some (s, r)
  | _ => none

/-- Plain data out of symbolic cells. -/
def mk (lk : Lk) : (t : Ty) → List AV → Option (t.den × List AV)
  | .byte, cs => mkByte cs
  | .int k, cs => mkInt k cs
  | .bool, cs => mkBool cs
  | .str, cs => mkStr cs
  | .slice t, cs => match cs with
    | x :: r => match frozenList lk t x with
      | some l => some (l, r)
      | none => none
    | [] => none
  | .pair a b, cs => match mk lk a cs with
    | some (x, r) => match mk lk b r with
      | some (y, r') => some ((x, y), r')
      | none => none
    | none => none
  | .unit, cs => some ((), cs)

def mk1 (lk : Lk) (t : Ty) (cs : List AV) : Option t.den :=
  match mk lk t cs with
  | some (x, []) => some x
  | _ => none

def mkList (lk : Lk) (t : Ty) : Nat → List AV → Option (List t.den)
  | 0, [] => some []
  | 0, _ => none
  | n + 1, cs => match mk lk t cs with
    | some (x, r) => match mkList lk t n r with
      | some l => some (x :: l)
      | none => none
    | none => none

/-- Rows that are no maps. -/
def lookR (s : Obs) (id : Nat) : Option Ob := match look s id with
  | some (.row e t l) => bif isMapTy e then none else some (.row e t l)
  | _ => none
theorem lookR_row {s : Obs} {id : Nat} {e : TypeId} {t : Ty} {l : List t.den} (h : lookR s id = some (.row e t l)) : look s id = some (.row e t l) ∧ isMapTy e = false := by
  unfold lookR at h
  split at h
  · rename_i e' t' l' hl
    cases hm : isMapTy e' with
    | true => simp [hm] at h
    | false =>
      simp only [hm, cond_false, Option.some.injEq, Ob.row.injEq] at h
      obtain ⟨rfl, rfl, h⟩ := h
      cases h
      exact ⟨hl, hm⟩
  · cases h

/-- Rows that are named are not written any more. -/
def frz1 (s : Obs) : AV → Obs
  | .own id => match lookR s id with
    | some (.row _ t l) => put s id (.frow t l)
    | _ => s
  | .view id _ _ _ => match lookR s id with
    | some (.row _ t l) => put s id (.frow t l)
    | _ => s
  | _ => s
def frz (s : Obs) : List AV → Obs
  | [] => s
  | x :: r => frz (frz1 s x) r

/-- What an operation comes to that makes or writes memory of ours: the value, the objects, the next name, what must hold. -/
abbrev Res := Option (AV × Obs × Nat × Bool)

def isFresh (s : Obs) (nx : Nat) : Bool := match look s nx with | none => true | _ => false

def newBox (s : Obs) (nx : Nat) (t : TypeId) (cs : List AV) : Res :=
  match (isFresh s nx && allOne cs) && !isBig t with
  | true => some (.ptr nx 0, put s nx (.box t cs), nx + 1, true)
  | false => .none

def eAlloc (U : TEnv) (s : Obs) (nx : Nat) (t : TypeId) : Res :=
  match (U t).real with
  | true => match (U t).k with
    | .array n e => match (U e).ty with
      | some T => match isFresh s nx && (Nat.blt 0 n && (Nat.ble n 1000000 && (Nat.beq (n * T.size) (U t).size && areZero T n (U t).zero))) with
        | true => some (.aptr nx n, put s nx (.row t T (List.replicate n T.dflt)), nx + 1, true)
        | false => .none
      | .none => .none
    | _ => newBox s nx t (atoms (U t).zero)
  | false => .none

def eBox (s : Obs) (nx : Nat) (t : TypeId) (x : Option AV) : Res := match x with | some v => newBox s nx t v.cells | .none => .none

def eBuildSlice (U : TEnv) (s : Obs) (nx : Nat) (d : TD) (len : Nat) (parts : List (Nat × Option AV)) : Res :=
  match d.k with
  | .slice e => match (U e).real, (U e).ty with
    | true, some T => match fillIn (fun i => some (i * (U e).size, (U e).size)) (List.flatten (List.replicate len (atoms (U e).zero))) parts with
      | some cs => match mkList (look (frz s cs)) T len cs with
        | some l => match isFresh (frz s cs) nx && (Nat.beq T.size (U e).size && Nat.ble (len * (U e).size) 16777216) with
          | true => some (.own nx, put (frz s cs) nx (.row e T l), nx + 1, true)
          | false => .none
        | .none => .none
      | .none => .none
    | true, .none => match fillIn (fun i => some (i * (U e).size, (U e).size)) (List.flatten (List.replicate len (atoms (U e).zero))) parts with
      | some cs => match isFresh s nx && (Nat.blt 0 len && Nat.ble (len * (U e).size) 16777216) with
        | true => some (.elist (U e).size len cs, put s nx .dead, nx + 1, true)
        | false => .none
      | .none => .none
    | _, _ => .none
  | _ => .none

def eStore (d : TD) (s : Obs) (nx : Nat) (x v : Option AV) : Res :=
  match d.real, x, v with
  | true, some (.ptr i j), some v => match look s i with
    | some (.box t cs) => match (Nat.beq v.cells.length d.size && (Nat.ble (j + d.size) cs.length && allOne v.cells)) && !isBig t with
      | true => some (.junk, put s i (.box t (cs.take j ++ v.cells ++ cs.drop (j + d.size))), nx, true)
      | false => .none
    | _ => .none
  | true, some (.rptr id sz i j), some v => match look (frz s v.cells) id with
    | some (.row e t l) => match mk1 (look (frz s v.cells)) t ((cellsOf t (l.getD i t.dflt)).take j ++ v.cells ++ (cellsOf t (l.getD i t.dflt)).drop (j + d.size)) with
      | some y => match Nat.beq sz t.size && (Nat.beq v.cells.length d.size && (Nat.ble (j + d.size) t.size && allOne v.cells)) with
        | true => some (.junk, put (frz s v.cells) id (.row e t (l.set i y)), nx, decide (i < l.length))
        | false => .none
      | .none => .none
    | _ => .none
  | _, _, _ => .none

def room (n bytes : Nat) : Bool := decide (n * bytes ≤ 140737488355328) && decide (n ≤ 140737488355328)

/-- What is appended, of a known type. -/
def srcOf (lk : Lk) (T : Ty) (y : Option AV) : Option (List T.den) := match y with | some y => listOf lk T y | .none => .none
def srcStr (T : Ty) (y : Option AV) : Option (List T.den) :=
  match T, y with
  | .byte, some (.str l) => some l
  | _, _ => .none

def eAppend (U : TEnv) (s : Obs) (nx : Nat) (t t' : TypeId) (x y : Option AV) : Res :=
  match (U t).k with
  | .slice e => match (U e).real with
    | true => match x with
      | some (.own id) => match look s id with
        | some (.row e' T l) => match (match Nat.beq t t', (U t').k with | true, _ => srcOf (rdk s) T y | false, .string => srcStr T y | _, _ => .none) with
          | some m => match isFresh s nx && (Nat.beq e' e && Nat.beq T.size (U e).size) with
            | true => some (.own nx, put (put s id .dead) nx (.row e T (l ++ m)), nx + 1, room (l.length + m.length) (U e).bytes)
            | false => .none
          | .none => .none
        | _ => .none
      | some .nils => match (U e).ty with
        | some T => match (match Nat.beq t t', (U t').k with | true, _ => srcOf (rdk s) T y | false, .string => srcStr T y | _, _ => .none) with
          | some m => match isFresh s nx && Nat.beq T.size (U e).size with
            | true => some (.own nx, put s nx (.row e T m), nx + 1, room m.length (U e).bytes)
            | false => .none
          | .none => .none
        | .none => .none
      | _ => .none
    | false => .none
  | _ => .none

def eBytes (U : TEnv) (s : Obs) (nx : Nat) (src dst : TD) (x : Option AV) : Res :=
  match src.k, dst.k, x with
  | .string, .slice e, some (.str l) => match (U e).k with
    | .int .u8 => match isFresh s nx with
      | true => some (.own nx, put s nx (.frow .byte l), nx + 1, true)
      | false => .none
    | _ => .none
  | _, _, _ => .none

/-- Bytes of a constant: a row that gets a mark behind its last cell. -/
def eMark (U : TEnv) (s : Obs) (nx : Nat) (src dst : TypeId) (x : Option AV) : Res :=
  match Nat.beq src dst, (U src).k with
  | true, .slice e => match (U e).k, x with
    | .int .u8, some (.own id) => match look s id with
      | some (.row e' .byte l) => match Nat.beq e' e with
        | true => some (.own id, put s id (.frow .byte l), nx, decide (0 < l.length))
        | false => .none
      | _ => .none
    | _, _ => .none
  | _, _ => .none

def eConv (U : TEnv) (s : Obs) (nx : Nat) (src dst : TypeId) (x : Option AV) : Res :=
  match (U src).k with
  | .string => eBytes U s nx (U src) (U dst) x
  | _ => eMark U s nx src dst x

def eMake (U : TEnv) (s : Obs) (nx : Nat) (t : TypeId) (l c : Option AV) : Res :=
  match (U t).k with
  | .slice e => match (U e).real, (U e).ty, l, c with
    | true, some T, some (.int _ a), some (.int _ b) => match isFresh s nx && (Nat.beq T.size (U e).size && areZero T 1 (U e).zero) with
      | true => some (.own nx, put s nx (.row e T (List.replicate a.toNat T.dflt)), nx + 1, (decide (0 ≤ a) && decide (a ≤ b)) && room b.toNat (U e).bytes)
      | false => .none
    | _, _, _, _ => .none
  | _ => .none

/-- Zeros that are appended to nothing: 'append(x, make([]T, n)...)'. -/
def eZeros (U : TEnv) (s : Obs) (nx : Nat) (t t' : TypeId) (x y : Option AV) : Res :=
  match (U t).k, (U t').k, x, y with
  | .slice e, .int _, some .nils, some (.int _ a) => match (U e).real, (U e).ty with
    | true, some T => match isFresh s nx && (Nat.beq T.size (U e).size && areZero T 1 (U e).zero) with
      | true => some (.own nx, put s nx (.row e T (List.replicate a.toNat T.dflt)), nx + 1, decide (0 ≤ a) && room a.toNat (U e).bytes)
      | false => .none
    | _, _ => .none
  | _, _, _, _ => .none

/-- A map without entries. -/
def eMakeMap (U : TEnv) (s : Obs) (nx : Nat) (t : TypeId) : Res :=
  match (U t).k with
  | .map kt et agg => match (U kt).k, (U et).ty with
    | .string, some E => match (isFresh s nx && (U et).real) && (Nat.beq E.size (U et).size && beqB E.isAgg agg) with
      | true => some (.mp nx, put s nx (.row (bif agg then 3000000 else 2000000) (.pair .str E) []), nx + 1, true)
      | false => .none
    | _, _ => .none
  | _ => .none

/-- An entry of a map is written. -/
def eMapUpdate (U : TEnv) (s : Obs) (nx : Nat) (t : TypeId) (m k v : Option AV) : Res :=
  match (U t).k with
  | .map kt et agg => match (U kt).k, m, k, v with
    | .string, some (.mp id), some (.str key), some v => match look (frz s v.cells) id with
      | some (.row e (.pair .str E) l) => match mk1 (look (frz s v.cells)) E v.cells with
        | some y => match beqB E.isAgg (mapAgg e) && (aggOk E v && allOne v.cells) with
          | true => some (.junk, put (frz s v.cells) id (.row e (.pair .str E) (mapPut l key y)), nx, true)
          | false => .none
        | .none => .none
      | _ => .none
    | _, _, _, _ => .none
  | _ => .none

/-- An entry of a map is taken away. -/
def eDelete (U : TEnv) (s : Obs) (nx : Nat) (t : TypeId) (m k : Option AV) : Res :=
  match (U t).k with
  | .map kt et agg => match (U kt).k, m, k with
    | .string, some (.mp id), some (.str key) => match look s id with
      | some (.row e (.pair .str E) l) => some (.tup [], put s id (.row e (.pair .str E) (mapDel l key)), nx, true)
      | _ => .none
    | _, _, _ => .none
  | _ => .none

/-- Operations that make or write memory of ours. -/
def evalE (U : TEnv) (ρ : Operand → Option AV) (s : Obs) (nx : Nat) (o : Op) : Res :=
  match o with
  | .alloc t => eAlloc U s nx t
  | .box t x => eBox s nx t (ρ x)
  | .buildSlice t len parts => eBuildSlice U s nx (U t) len (evParts ρ parts.toList)
  | .store t x v => eStore (U t) s nx (ρ x) (ρ v)
  | .convert src dst x => eConv U s nx src dst (ρ x)
  | .makeSlice t l c => eMake U s nx t (ρ l) (ρ c)
  | .makeMap t .none => eMakeMap U s nx t
  | .mapUpdate t m k v => eMapUpdate U s nx t (ρ m) (ρ k) (ρ v)
  | .call { callee := .builtin .delete, args := args, argTypes := ts } => match args.toList, ts.toList with
    | [m, k], t :: _ => eDelete U s nx t (ρ m) (ρ k)
    | _, _ => .none
  | .call { callee := .builtin .append, args := args, argTypes := ts } => match args.toList, ts.toList with
    | [x, y], [t, t'] => match eAppend U s nx t t' (ρ x) (ρ y) with
      | some r => some r
      | .none => eZeros U s nx t t' (ρ x) (ρ y)
    | _, _ => .none
  | _ => .none

/-- The names that a symbolic value leads to at once. -/
def AV.ids : AV → List Nat
  | .own i | .view i _ _ _ | .ptr i _ | .rptr i _ _ _ | .aptr i _ | .yld i | .mp i => [i]
  | _ => []
def idsO (x : Option AV) : List Nat := match x with | some v => v.ids | none => []
/-- Operations whose value rests on objects. -/
def looks : Op → Bool
  | .convert _ _ _ | .indexAddr _ _ _ | .load _ _ | .slice _ _ _ _ _ | .call _ | .lookup _ _ _ _ => true
  | _ => false
def foot (ρ : Operand → Option AV) (o : Op) : List Nat := bif looks o then o.operands.toList.flatMap fun x => idsO (ρ x) else []
end Go.Hay
