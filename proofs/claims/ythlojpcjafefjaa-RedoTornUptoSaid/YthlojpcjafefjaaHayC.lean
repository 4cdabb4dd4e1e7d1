/- Operations that only read: what they come to. -/
import Derived.Test.YthlojpcjafefjaaHayB
import Derived.Laws.StructEq
set_option linter.unusedVariables false
set_option linter.unusedSimpArgs false
namespace Go.Hay
open Go.RowKit

/-- What a type is, as far as is asked. 'none': of this type nothing is known. -/
inductive TK where
  | none | int (k : IntKind) | bool | string | ptr (e : TypeId) | slice (e : TypeId) | struct (fs : List (TypeId × Nat)) | array (n : Nat) (e : TypeId) | func | map (k e : TypeId) (agg : Bool) | other

structure TD where
  k : TK
  size : Nat
  bytes : Nat
  zero : List Value      -- the cells of the zero value
  ty : Option Ty         -- its values as plain data
  eq : Bool              -- a struct that == compares field by field

abbrev TEnv := TypeId → TD

def TD.isAgg (d : TD) : Bool := match d.k with | .struct _ | .array _ _ => true | _ => false

def fieldsOf : TypeDesc → Option (List (TypeId × Nat))
  | .struct fs => some (fs.toList.map fun f => (f.type, f.offset))
  | _ => .none
def aggDesc : TypeDesc → Bool
  | .struct _ | .array _ _ => true
  | _ => false

def funcDesc : TypeDesc → Bool
  | .func _ _ _ => true
  | _ => false
/-- The table says of a type what the program says. -/
def TD.kindOk (P : Program) (t : TypeId) (d : TD) : Prop :=
  match d.k with
  | .none => True
  | .int k => P.underlying t = some (.int k)
  | .bool => P.underlying t = some .bool
  | .string => P.underlying t = some .string
  | .ptr e => P.underlying t = some (.pointer e)
  | .slice e => P.underlying t = some (.slice e)
  | .struct fs => (P.underlying t).bind fieldsOf = some fs
  | .array n e => P.underlying t = some (.array n e)
  | .func => (P.underlying t).map funcDesc = some true
  | .map k e agg => P.underlying t = some (.map k e) ∧ ((P.info? e).bind (·.zero)).map isAggV = some agg
  | .other => (P.underlying t).map aggDesc = some false
def TD.infoOk (P : Program) (t : TypeId) (d : TD) : Prop :=
  (P.info? t).map (fun i => (i.size, i.bytes, i.zero.map fun z => z.cells.toList)) = some (d.size, d.bytes, some d.zero)
def TD.eqOk (P : Program) (t : TypeId) (d : TD) : Prop :=
  d.eq = true → P.stoodInHeld t = false ∧ P.eqGuardType P.depth t = false ∧ (P.fieldsOf t).toList.all (fun f => f.name != "_") = true
def TEnv.Ok (P : Program) (U : TEnv) : Prop := ∀ t, (U t).k ≠ .none → TD.kindOk P t (U t) ∧ TD.infoOk P t (U t) ∧ TD.eqOk P t (U t)

def ikEq (a b : IntKind) : Bool := Nat.beq a.ctorIdx b.ctorIdx

/-- Zero cells as plain data. -/
def isZero : Ty → List Value → Option (List Value)
  | .byte, .int .u8 0 :: r => some r
  | .int k, .int k' 0 :: r => bif ikEq k k' then some r else none
  | .bool, .bool false :: r => some r
  | .str, .string s :: r => bif Nat.beq s.data.toList.length 0 then some r else none
  | .slice _, .slice none 0 0 :: r => some r
  | .pair a b, r => match isZero a r with
    | some r' => isZero b r'
    | none => none
  | .unit, r => some r
  | _, _ => none
def areZero (t : Ty) : Nat → List Value → Bool
  | 0, [] => true
  | 0, _ => false
  | n + 1, r => match isZero t r with
    | some r' => areZero t n r'
    | none => false

def Ty.isAgg : Ty → Bool | .pair _ _ | .unit => true | _ => false
def valOf (t : Ty) (x : t.den) : AV := match t.isAgg with | true => .agg (cellsOf t x) | false => match cellsOf t x with | [v] => v | _ => .junk
def aggOk (t : Ty) (v : AV) : Bool := match v with | .agg _ => t.isAgg | _ => !t.isAgg

/-- Maps, by their entries. -/
def mapHas {β : Type} (l : List (List UInt8 × β)) (k : List UInt8) : Bool := l.any fun p => decide (p.1 = k)
def mapGet {β : Type} (l : List (List UInt8 × β)) (k : List UInt8) (d : β) : β := match l.find? fun p => decide (p.1 = k) with | some p => p.2 | none => d
def mapPut {β : Type} : List (List UInt8 × β) → List UInt8 → β → List (List UInt8 × β)
  | [], k, v => [(k, v)]
  | p :: r, k, v => bif decide (p.1 = k) then (k, v) :: r else p :: mapPut r k v
def mapDel {β : Type} : List (List UInt8 × β) → List UInt8 → List (List UInt8 × β)
  | [], _ => []
  | p :: r, k => bif decide (p.1 = k) then r else p :: mapDel r k

/-- A type of which the table tells, and which has cells. -/
def TD.real (d : TD) : Bool := match d.k with | .none => false | _ => Nat.blt 0 d.size && Nat.beq d.zero.length d.size

def Ty.dflt : (t : Ty) → t.den
  | .byte => 0
  | .int _ => 0
  | .bool => false
  | .str => []
  | .slice _ => []
  | .pair a b => (a.dflt, b.dflt)
  | .unit => ()

def castL (t t' : Ty) (l : List t'.den) : Option (List t.den) := if h : t' = t then some (h ▸ l) else none

abbrev Lk := Nat → Option Ob

/-- A slice's elements, where they are known. -/
def listOf (lk : Lk) (t : Ty) (x : AV) : Option (List t.den) :=
  match x with
  | .list t' l => castL t t' l
  | .nils => some []
  | .own id => match lk id with
    | some (.row _ t' l) => castL t t' l
    | some (.frow t' l) => castL t t' l
    | _ => none
  | .view id sz lo n => match lk id with
    | some (.row _ t' l) => bif Nat.beq sz t'.size then castL t t' ((l.drop lo).take n) else none
    | some (.frow t' l) => bif Nat.beq sz t'.size then castL t t' ((l.drop lo).take n) else none
    | _ => none
  | _ => none

def lenOf (lk : Lk) (x : AV) : Option Nat :=
  match x with
  | .list t' l => some l.length
  | .nils => some 0
  | .own id => match lk id with
    | some (.row _ t' l) => some l.length
    | some (.frow t' l) => some l.length
    | _ => none
  | .view id sz lo n => some n
  | .elist sz n cs => some n
  | _ => none

/-- A struct's or an array's value out of its cells, any other value out of its one cell. -/
def TD.pack (d : TD) (cs : List AV) : Option AV :=
  match d.isAgg with
  | true => some (.agg cs)
  | false => match cs with | [x] => some x | _ => .none

abbrev Val := Option (AV × Bool)
def ok (v : AV) : Val := some (v, true)

def vMove (x : Option AV) : Val := match x with | some a => ok a | .none => .none

def vPick (c a b : Option AV) : Val :=
  match c with
  | some (.bool t) =>
    match a, b with
    | some (.bool x), some (.bool y) => ok (.bool (bif t then x else y))
    | _, _ => match t with | true => vMove a | false => vMove b
  | _ => .none

def vbits (op : BinOp) (k : IntKind) (a b : Int) : Option Int :=
  match op with
  | .and => some (k.wrap ((BitVec.ofInt k.bits a &&& BitVec.ofInt k.bits b).toNat : Int))
  | .or => some (k.wrap ((BitVec.ofInt k.bits a ||| BitVec.ofInt k.bits b).toNat : Int))
  | .xor => some (k.wrap ((BitVec.ofInt k.bits a ^^^ BitVec.ofInt k.bits b).toNat : Int))
  | .andNot => some (k.wrap ((BitVec.ofInt k.bits a &&& ~~~BitVec.ofInt k.bits b).toNat : Int))
  | _ => none


def vInt (op : BinOp) (k : IntKind) (a : Int) (k' : IntKind) (b : Int) : Val :=
  match op with
  | .shl => some (.int k (k.wrap (a * 2 ^ (min b.toNat k.bits))), decide (0 ≤ b))
  | .shr => some (.int k (a.fdiv (2 ^ (min b.toNat k.bits))), decide (0 ≤ b))
  | _ => bif ikEq k k' then
    match op with
    | .add => ok (.int k (k.wrap (a + b)))
    | .sub => ok (.int k (k.wrap (a - b)))
    | .mul => ok (.int k (k.wrap (a * b)))
    | .quo => some (.int k (k.wrap (a.tdiv b)), !decide (b = 0))
    | .rem => some (.int k (a.tmod b), !decide (b = 0))
    | .eql => ok (.bool (decide (a = b)))
    | .neq => ok (.bool (!decide (a = b)))
    | .lss => ok (.bool (decide (a < b)))
    | .leq => ok (.bool (decide (a ≤ b)))
    | .gtr => ok (.bool (decide (a > b)))
    | .geq => ok (.bool (decide (a ≥ b)))
    | op => match vbits op k a b with | some r => ok (.int k r) | .none => .none
    else .none

def vStr (op : BinOp) (a b : List UInt8) : Val :=
  match op with
  | .add => some (.str (a ++ b), decide (a.length + b.length ≤ 9223372036854775807))
  | .eql => ok (.bool (decide (a = b)))
  | .neq => ok (.bool (!decide (a = b)))
  | .lss => ok (.bool (Op.bytesLess a b))
  | .leq => ok (.bool (Op.bytesLess a b || decide (a = b)))
  | .gtr => ok (.bool (!(Op.bytesLess a b || decide (a = b))))
  | .geq => ok (.bool (!Op.bytesLess a b))
  | _ => .none

/-- == of two cells of a basic kind. -/
def eqCell (k : TK) (x y : AV) : Option Bool :=
  match k, x, y with
  | .int _, .int k a, .int k' b => bif ikEq k k' then some (decide (a = b)) else .none
  | .bool, .bool a, .bool b => some (a == b)
  | .string, .str a, .str b => some (decide (a = b))
  | _, _, _ => .none

/-- == of structs whose fields are single cells of basic kinds, one behind the other. -/
def eqCells (U : TEnv) : Nat → List (TypeId × Nat) → List AV → List AV → Option Bool
  | _, [], [], [] => some true
  | i, d :: r, x :: xs, y :: ys => bif Nat.beq d.2 i then match eqCell (U d.1).k x y, eqCells U (i + 1) r xs ys with
    | some b, some r => some (b && r)
    | _, _ => .none
    else .none
  | _, _, _, _ => .none

/-- == of values that are no numbers and no strings. -/
def vSame (U : TEnv) (d : TD) (x y : AV) : Option Bool :=
  match d.k with
  | .bool => match x, y with | .bool a, .bool b => some (a == b) | _, _ => .none
  | .ptr _ => match x, y with
    | .ptr _ _, .nilp => some false
    | .nilp, .nilp => some true
    | _, _ => .none
  | .struct fs => match x, y with
    | .agg xs, .agg ys => bif d.eq then eqCells U 0 fs xs ys else .none
    | _, _ => .none
  | .func => match x, y with
    | .fn _ _ _, .raw .nilFunc => some false
    | _, _ => .none
  | _ => .none

def vBin (U : TEnv) (op : BinOp) (t : TypeId) (x y : Option AV) : Val :=
  match x, y with
  | some (.int k a), some (.int k' b) => vInt op k a k' b
  | some (.str a), some (.str b) => vStr op a b
  | some x, some y => match op with
    | .eql => match vSame U (U t) x y with | some b => ok (.bool b) | .none => .none
    | .neq => match vSame U (U t) x y with | some b => ok (.bool (!b)) | .none => .none
    | _ => .none
  | _, _ => .none

def vUn (op : UnOp) (x : Option AV) : Val :=
  match op, x with
  | .neg, some (.int k n) => ok (.int k (k.wrap (0 - n)))
  | .xor, some (.int k n) => match vbits .xor k (if k.signed then -1 else k.max) n with | some r => ok (.int k r) | .none => .none
  | .not, some (.bool b) => ok (.bool (!b))
  | _, _ => .none

def vConv (U : TEnv) (lk : Lk) (src dst : TD) (x : Option AV) : Val :=
  match src.k, dst.k, x with
  | .int _, .int k, some (.int _ n) => ok (.int k (k.wrap n))
  | .string, .string, some (.str b) => ok (.str b)
  | .slice e, .string, some x => match (U e).k with
    | .int .u8 => match listOf lk .byte x with | some l => ok (.str l) | .none => .none
    | _ => .none
  | _, _, _ => .none

def vNil (x : Option AV) : Val :=
  match x with
  | some (.ptr i j) => ok (.ptr i j)
  | some (.eptr cs) => ok (.eptr cs)
  | some (.rptr a b i j) => ok (.rptr a b i j)
  | some (.aptr a b) => ok (.aptr a b)
  | some (.fn (.func f) a b) => ok (.fn (.func f) a b)
  | _ => .none

def vFieldAddr (U : TEnv) (d : TD) (x : Option AV) (f : Nat) : Val :=
  match d.k with
  | .struct fs => match fs[f]? with
    | some d => match (U d.1).real with
      | true => match x with
        | some (.ptr i j) => ok (.ptr i (j + d.2))
        | some (.rptr a b i j) => ok (.rptr a b i (j + d.2))
        | some (.eptr cs) => ok (.eptr (cs.drop d.2))
        | _ => .none
      | false => .none
    | .none => .none
  | _ => .none

def vField (U : TEnv) (d : TD) (x : Option AV) (f : Nat) : Val :=
  match d.k with
  | .struct fs => match fs[f]? with
    | some d => match (U d.1).real, x with
      | true, some (.agg cs) => match (U d.1).pack ((cs.drop d.2).take (U d.1).size) with
        | some v => match Nat.beq ((cs.drop d.2).take (U d.1).size).length (U d.1).size with
          | true => ok v
          | false => .none
        | .none => .none
      | _, _ => .none
    | .none => .none
  | _ => .none

def inB (k : Int) (n : Nat) : Bool := decide (0 ≤ k) && decide (k < (n : Int))

def vIndexAddr (U : TEnv) (lk : Lk) (d : TD) (x i : Option AV) : Val :=
  match d.k with
  | .slice e => match (U e).real, i with
    | true, some (.int _ k) => match x with
      | some (.list t l) => match Nat.beq t.size (U e).size with
        | true => some (.eptr (cellsOf t (l.getD k.toNat t.dflt)), inB k l.length)
        | false => .none
      | some (.elist sz n cs) => match Nat.beq sz (U e).size with
        | true => some (.eptr (cs.drop (k.toNat * sz)), inB k n)
        | false => .none
      | some (.own id) => match lk id with
        | some (.row _ t l) => match Nat.beq t.size (U e).size with
          | true => some (.rptr id t.size k.toNat 0, inB k l.length)
          | false => .none
        | some (.frow t l) => match Nat.beq t.size (U e).size with
          | true => some (.eptr (cellsOf t (l.getD k.toNat t.dflt)), inB k l.length)
          | false => .none
        | _ => .none
      | _ => .none
    | _, _ => .none
  | .array n e => match (U e).real, i with
    | true, some (.int _ k) => match x with
      | some (.aptr id n') => match lk id with
        | some (.row _ t l) => match Nat.beq t.size (U e).size && Nat.beq n' n with
          | true => some (.rptr id t.size k.toNat 0, inB k n)
          | false => .none
        | _ => .none
      | _ => .none
    | _, _ => .none
  | _ => .none

def vIndex (d : TD) (x i : Option AV) : Val :=
  match d.k with
  | .string => match x, i with
    | some (.str b), some (.int _ k) => some (.int .u8 ((b.getD k.toNat 0).toNat : Int), inB k b.length)
    | _, _ => .none
  | _ => .none

def beqB (a b : Bool) : Bool := bif a then b else !b
theorem beqB_eq {a b : Bool} (h : beqB a b = true) : a = b := by cases a <;> cases b <;> simp_all [beqB]
/-- What a map has at a key. -/
def vLookup (U : TEnv) (lk : Lk) (d : TD) (x k : Option AV) (commaOk : Bool) : Val :=
  match d.k with
  | .map kt et agg => match (U kt).k, x, k with
    | .string, some (.mp id), some (.str s) => match lk id with
      | some (.row e (.pair .str E) l) => match (((U et).real && Nat.beq E.size (U et).size) && (isMapTy e && beqB (mapAgg e) agg)) && (beqB E.isAgg agg && areZero E 1 (U et).zero) with
        | true => match commaOk with
          | true => ok (.tup [valOf E (mapGet l s E.dflt), .bool (mapHas l s)])
          | false => ok (valOf E (mapGet l s E.dflt))
        | false => .none
      | _ => .none
    | _, _, _ => .none
  | _ => .none

def loadCs (d : TD) (cs : List AV) : Option AV :=
  match d.pack (cs.take d.size) with
  | some v => match Nat.beq (cs.take d.size).length d.size with
    | true => some v
    | false => .none
  | .none => .none

def vLoad (lk : Lk) (d : TD) (x : Option AV) : Val :=
  match d.real with
  | true => match x with
    | some (.ptr i j) => match lk i with
      | some (.box bt cs) => match isBig bt with
        | false => match loadCs d (cs.drop j) with | some v => ok v | .none => .none
        | true => .none
      | _ => .none
    | some (.eptr cs) => match loadCs d cs with | some v => ok v | .none => .none
    | some (.rptr id sz i j) => match lk id with
      | some (.row _ t l) => match Nat.beq sz t.size with
        | true => match loadCs d ((cellsOf t (l.getD i t.dflt)).drop j) with | some v => some (v, decide (i < l.length)) | .none => .none
        | false => .none
      | _ => .none
    | _ => .none
  | false => .none

def vExtract (x : Option AV) (i : Nat) : Val :=
  match x with
  | some (.tup cs) => vMove cs[i]?
  | _ => .none

def vLen (lk : Lk) (d : TD) (x : Option AV) : Val :=
  match d.k with
  | .slice _ => match x with
    | some x => match lenOf lk x with | some n => ok (.int .i64 n) | .none => .none
    | _ => .none
  | .string => match x with
    | some (.str b) => ok (.int .i64 b.length)
    | _ => .none
  | _ => .none

def vMinMax (mx : Bool) (x y : Option AV) : Val :=
  match x, y with
  | some (.int .i64 a), some (.int .i64 b) => ok (.int .i64 (bif mx then max a b else min a b))
  | _, _ => .none

def vCap (d : TD) (x : Option AV) : Val :=
  match d.k, x with
  | .slice _, some .nils => ok (.int .i64 ((0 : Nat) : Int))
  | _, _ => .none

def vBuiltin (U : TEnv) (ρ : Operand → Option AV) (lk : Lk) (b : Builtin) (args : List Operand) (ts : List TypeId) : Val :=
  match b, args, ts with
  | .len, [x], t :: _ => vLen lk (U t) (ρ x)
  | .cap, [x], t :: _ => vCap (U t) (ρ x)
  | .max, [x, y], _ => vMinMax true (ρ x) (ρ y)
  | .min, [x, y], _ => vMinMax false (ρ x) (ρ y)
  | _, _, _ => .none

/-- The bounds of a part: from, to. -/
def loOf (lo : Option (Option AV)) : Option Int := match lo with | .none => some 0 | some (some (.int _ k)) => some k | _ => .none
def hiOf (n : Nat) (hi : Option (Option AV)) : Option Int := match hi with | .none => some n | some (some (.int _ k)) => some k | _ => .none
def okB (lo hi : Int) (n : Nat) : Bool := decide (0 ≤ lo) && (decide (lo ≤ hi) && decide (hi ≤ (n : Int)))
def partL {α : Type} (lo hi : Option (Option AV)) (l : List α) (a b : Int) : List α :=
  match lo, hi with
  | .none, .none => l
  | .none, some _ => l.take b.toNat
  | some _, .none => l.drop a.toNat
  | some _, some _ => (l.take b.toNat).drop a.toNat

/-- The object that a slice, or an array's address, leads to. -/
def obOf (lk : Lk) (x : Option AV) : Option Ob := match x with | some (.own id) => lk id | some (.aptr id _) => lk id | _ => .none

def vSlice (U : TEnv) (ob : Option Ob) (d : TD) (x : Option AV) (lo hi mx : Option (Option AV)) : Val :=
  match d.k with
  | .string => match x with
    | some (.str l) => match loOf lo, hiOf l.length hi, mx with
      | some a, some b, .none => some (.str (partL lo hi l a b), okB a b l.length)
      | _, _, _ => .none
    | _ => .none
  | .slice e => match (U e).real with
    | true => match mx with
      | .none => match x with
        | some (.list t l) => match loOf lo, hiOf l.length hi, Nat.beq t.size (U e).size with
          | some a, some b, true => some (.list t (partL lo hi l a b), okB a b l.length)
          | _, _, _ => .none
        | some .nils => match loOf lo, hiOf 0 hi with
          | some a, some b => some (.nils, okB a b 0)
          | _, _ => .none
        | some (.own id) => match ob with
          | some (.row _ t l) => match loOf lo, hiOf l.length hi, Nat.beq t.size (U e).size with
            | some a, some b, true => some (.view id t.size a.toNat (b - a).toNat, okB a b l.length)
            | _, _, _ => .none
          | some (.frow t l) => match loOf lo, hiOf l.length hi, Nat.beq t.size (U e).size with
            | some a, some b, true => some (.list t (partL lo hi l a b), okB a b l.length)
            | _, _, _ => .none
          | _ => .none
        | _ => .none
      | some (some (.int _ 0)) => match loOf lo, hi with
        | some 0, some (some (.int _ 0)) => match x with
          | some (.list _ _) => ok .nils
          | some .nils => ok .nils
          | some (.own id) => match ob with
            | some (.row _ _ _) => ok .nils
            | some (.frow _ _) => ok .nils
            | _ => .none
          | some (.view _ _ _ _) => ok .nils
          | _ => .none
        | _, _ => .none
      | _ => .none
    | false => .none
  | .array n e => match (U e).real, x, loOf lo, hiOf n hi, mx with
    | true, some (.aptr id n'), some a, some b, .none => match ob with
      | some (.row _ t l) => match Nat.beq t.size (U e).size && Nat.beq n' n with
        | true => some (.view id t.size a.toNat (b - a).toNat, okB a b n)
        | false => .none
      | _ => .none
    | _, _, _, _, _ => .none
  | _ => .none

/-- The cells of a symbolic value that is stored. -/
def AV.cells : AV → List AV
  | .agg cs => cs
  | x => [x]
/-- May the value lie in one cell? -/
def AV.one : AV → Bool
  | .agg _ | .tup _ | .junk => false
  | .raw v => v.oneCell'
  | _ => true
def allOne : List AV → Bool
  | [] => true
  | x :: r => x.one && allOne r
/-- Which symbolic values have just the cells that their value has. -/
def AV.plain : AV → Bool
  | .agg _ => true
  | x => x.one

/-- Zero cells with some parts filled in. -/
def fillIn (place : Nat → Option (Nat × Nat)) : List AV → List (Nat × Option AV) → Option (List AV)
  | cs, [] => some cs
  | cs, (i, x) :: r => match place i, x with
    | some (off, size), some v => match (Nat.beq v.cells.length size && Nat.ble (off + size) cs.length) && v.plain with
      | true => fillIn place (cs.take off ++ v.cells ++ cs.drop (off + size)) r
      | false => .none
    | _, _ => .none
def placeOf (U : TEnv) (fs : List (TypeId × Nat)) (i : Nat) : Option (Nat × Nat) :=
  match fs[i]? with
  | some d => match (U d.1).real with
    | true => some (d.2, (U d.1).size)
    | false => .none
  | .none => .none
def allReal (U : TEnv) : List (TypeId × Nat) → Bool
  | [] => true
  | d :: r => (U d.1).real && allReal U r
def atoms (l : List Value) : List AV := l.map constAV
def vBuild (U : TEnv) (d : TD) (parts : List (Nat × Option AV)) : Val :=
  match d.real, d.k with
  | true, .struct fs => match allReal U fs with
    | true => match fillIn (placeOf U fs) (atoms d.zero) parts with
      | some cs => ok (.agg cs)
      | .none => .none
    | false => .none
  | _, _ => .none
def evParts (ρ : Operand → Option AV) (l : List (Nat × Operand)) : List (Nat × Option AV) := l.map fun p => (p.1, ρ p.2)

def allSome : List (Option AV) → Option (List AV)
  | [] => some []
  | some x :: r => match allSome r with | some l => some (x :: l) | .none => .none
  | .none :: _ => .none

def vMakeFunc (fn : Fn) (first cap : List (Option AV)) : Val :=
  match allSome first, allSome cap with
  | some a, some b => ok (.fn fn a b)
  | _, _ => .none

/-- Operations that only read: the value, and what must hold. -/
def evalV (U : TEnv) (ρ : Operand → Option AV) (lk : Lk) (o : Op) : Val :=
  match o with
  | .move x | .assign x => vMove (ρ x)
  | .pick c a b => vPick (ρ c) (ρ a) (ρ b)
  | .binOp op t x y _ => vBin U op t (ρ x) (ρ y)
  | .unOp op _ x => vUn op (ρ x)
  | .convert src dst x => vConv U lk (U src) (U dst) (ρ x)
  | .nilCheck x => vNil (ρ x)
  | .fieldAddr t x f => vFieldAddr U (U t) (ρ x) f
  | .field t x f => vField U (U t) (ρ x) f
  | .indexAddr t x i => vIndexAddr U lk (U t) (ρ x) (ρ i)
  | .index t x i => vIndex (U t) (ρ x) (ρ i)
  | .load t x => vLoad lk (U t) (ρ x)
  | .lookup t x k commaOk => vLookup U lk (U t) (ρ x) (ρ k) commaOk
  | .extract x i => vExtract (ρ x) i
  | .slice t x lo hi mx => vSlice U (obOf lk (ρ x)) (U t) (ρ x) (lo.map ρ) (hi.map ρ) (mx.map ρ)
  | .build t parts => vBuild U (U t) (evParts ρ parts.toList)
  | .makeFunc fn first cap => vMakeFunc fn (first.toList.map ρ) (cap.toList.map ρ)
  | .call { callee := .builtin b, args := args, argTypes := ts } => vBuiltin U ρ lk b args.toList ts.toList
  | _ => .none
end Go.Hay
