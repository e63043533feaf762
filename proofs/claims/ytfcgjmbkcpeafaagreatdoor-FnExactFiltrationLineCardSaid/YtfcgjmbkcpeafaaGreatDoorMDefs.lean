/- PROVED: for every input the law FnExactFiltrationLine returns true and each argument reads afterwards as it read before (the statement 'FnExactFiltrationLineCardSaid' of the given Rows).
Conditions: none beyond those which the given statement itself names. This text is one part of the proof. -/
import Derived.Calls

/- The abstract machine: values that read as pure data, blocks of the call's own, and a predicate transformer over the model's code. Definitions only. -/
namespace Go.Qv
open Go

/-- Pure data behind a read-only slice: cells, one after the other. -/
inductive D where
  | bool (b : Bool)
  | int (k : IntKind) (n : Int)
  | str (s : List UInt8)
  | sl (cells : List D) (n : Nat)
  | nilp

/-- What a temporary may hold. -/
inductive AV where
  | any
  | und
  | nils
  | nilp
  | bool (b : Bool)
  | int (k : IntKind) (n : Int)
  | str (s : List UInt8)
  | rs (m x : Bool) (cells : List D) (n : Nat)
  | ow (id n : Nat)
  | os (id off n : Nat)
  | op (id off : Nat)
  | rp (m : Bool) (cells : List D) (off : Nat)
  | agg (cells : List AV)
  | tup (vs : List AV)
  | fn (f : FuncId) (caps : List AV)
  | fs (e : TypeId) (m : Bool) (cells : List D) (n : Nat)

/-- A block of the call's own: a variable, or a row of elements. -/
inductive Blk where
  | var (t : TypeId) (cells : List AV)
  | row (e : TypeId) (m : Bool) (cells : List D)

/-- A type as the machine needs it. -/
inductive TD where
  | bool
  | int (k : IntKind)
  | str
  | ptr (e : TypeId)
  | slice (e : TypeId)
  | array (n : Nat) (e : TypeId)
  | struct (fs : List (TypeId × Nat))
  | other

structure TI where
  d : TD
  size : Nat
  bytes : Nat
  zero : List AV

abbrev TT := List (Nat × TI)

def look : TT → TypeId → Option TI
  | [], _ => none
  | (u, i) :: r, t => bif Nat.beq u t then some i else look r t

structure ASt where
  tmps : Nat → AV
  heap : Nat → Option Blk
  nid : Nat

structure Env where
  P : Program
  T : TT
  N : Nat
  own : Tmp → Bool
  io : Tmp → Bool
  fix : Nat

def upd (f : Nat → AV) (d : Nat) (v : AV) : Nat → AV := fun t => bif Nat.beq t d then v else f t
def hup (f : Nat → Option Blk) (d : Nat) (v : Option Blk) : Nat → Option Blk := fun t => bif Nat.beq t d then v else f t

def nth {α : Type} : List α → Nat → Option α
  | [], _ => none
  | x :: _, 0 => some x
  | _ :: r, n + 1 => nth r n

def memB (i : Nat) : List Nat → Bool
  | [] => false
  | j :: r => bif Nat.beq i j then true else memB i r

mutual
def killV (ids : List Nat) : AV → AV
  | .ow i n => bif memB i ids then .any else .ow i n
  | .os i o n => bif memB i ids then .any else .os i o n
  | .op i o => bif memB i ids then .any else .op i o
  | .agg cs => .agg (killL ids cs)
  | .tup cs => .tup (killL ids cs)
  | .fn f cs => .fn f (killL ids cs)
  | v => v
def killL (ids : List Nat) : List AV → List AV
  | [] => []
  | v :: r => killV ids v :: killL ids r
end

def killB (ids : List Nat) : Blk → Blk
  | .var t cs => .var t (killL ids cs)
  | b => b

/-- Forget what names the killed blocks. -/
def kill (ids : List Nat) (st : ASt) : ASt :=
  match ids with
  | [] => st
  | _ => { st with tmps := fun t => killV ids (st.tmps t), heap := fun i => match st.heap i with | some b => some (killB ids b) | none => none }

def ofD (m : Bool) : D → AV
  | .bool b => .bool b
  | .int k n => .int k n
  | .str s => .str s
  | .sl cs n => .rs m false cs n
  | .nilp => .nilp

def mulS (k s : Nat) : Nat := match s with | 1 => k | _ => k * s
def addS (k s : Nat) : Nat := match s with | 0 => k | _ => k + s

def kEq : IntKind → IntKind → Bool
  | .i8, .i8 | .i16, .i16 | .i32, .i32 | .i64, .i64 | .u8, .u8 | .u16, .u16 | .u32, .u32 | .u64, .u64 => true
  | _, _ => false

/-- Reading n cells. -/
def getN (cells : List D) (off n : Nat) : Option (List D) :=
  if off + n ≤ cells.length then some ((cells.drop off).take n) else none

def getNA : List AV → Nat → Nat → Option (List AV)
  | cs, 0, n => takeA cs n
  | _ :: r, o + 1, n => getNA r o n
  | [], _ + 1, _ => none
where
  takeA : List AV → Nat → Option (List AV)
    | _, 0 => some []
    | c :: r, n + 1 => match takeA r n with | some l => some (c :: l) | none => none
    | [], _ + 1 => none

def setNA : List AV → Nat → List AV → List AV
  | c :: r, o + 1, vs => c :: setNA r o vs
  | cs, 0, vs => putA cs vs
  | [], _ + 1, _ => []
where
  putA : List AV → List AV → List AV
    | _ :: r, v :: vs => v :: putA r vs
    | cs, [] => cs
    | [], _ :: _ => []

def setND (cells : List D) (off : Nat) (ds : List D) : List D := cells.take off ++ ds ++ cells.drop (off + ds.length)

/-- The cells of a value, where their number is known. -/
def cellsA : AV → Option (List AV)
  | .any | .und | .tup _ | .fs _ _ _ _ => none
  | .agg cs => some cs
  | v => some [v]

def isAggT (d : TD) : Bool := match d with | .struct _ | .array _ _ => true | _ => false
def scalarT (d : TD) : Bool := match d with | .bool | .int _ | .str => true | _ => false

/-- Data without memory. -/
def scD : D → Bool
  | .sl _ _ => false
  | _ => true
def AllSc (cs : List D) : Prop := ∀ x ∈ cs, scD x = true
/-- The mode of cells of mode m2 is let by under mode m'. -/
def okM (m' m2 : Bool) (cs : List D) : Prop := m' = true ∨ m2 = false ∨ AllSc cs

/-- As pure data: the data and its mode. -/
def toD : AV → Option (D × Bool)
  | .bool b => some (.bool b, false)
  | .int k n => some (.int k n, false)
  | .str s => some (.str s, false)
  | .nilp => some (.nilp, false)
  | .nils => some (.sl [] 0, false)
  | .rs m _ cs n => some (.sl cs n, m)
  | _ => none

def toDs : List AV → Option (List D × Bool)
  | [] => some ([], false)
  | v :: r => match toD v with
    | some (d, m) => match toDs r with
      | some (ds, m2) => some (d :: ds, m || m2)
      | none => none
    | none => none

/-- As read-only data for a callee, the block stays the caller's. -/
def exD (H : Nat → Option Blk) : AV → Option D
  | .bool b => some (.bool b)
  | .int k n => some (.int k n)
  | .str s => some (.str s)
  | .nilp => some .nilp
  | .nils => some (.sl [] 0)
  | .rs _ _ cs n => some (.sl cs n)
  | .ow id n => match H id with
    | some (.row _ _ cs) => some (.sl cs n)
    | _ => none
  | _ => none

def exDs (H : Nat → Option Blk) : List AV → Option (List D)
  | [] => some []
  | v :: r => match exD H v with
    | some d => match exDs H r with
      | some ds => some (d :: ds)
      | none => none
    | none => none

mutual
def exV (H : Nat → Option Blk) (T : TT) : AV → Option AV
  | .bool b => some (.bool b)
  | .int k n => some (.int k n)
  | .str s => some (.str s)
  | .nilp => some .nilp
  | .nils => some (.rs true false [] 0)
  | .rs _ _ cs n => some (.rs true false cs n)
  | .ow id n => match H id with
    | some (.row _ _ cs) => some (.rs true false cs n)
    | _ => none
  | .os id off n => match H id with
    | some (.row e _ cs) => match look T e with
      | some i => some (.rs true false ((cs.drop off).take (mulS n i.size)) n)
      | none => none
    | _ => none
  | .op id off => match H id with
    | some (.var _ cs) => match exDs H cs with
      | some ds => some (.rp true ds off)
      | none => none
    | some (.row _ _ cs) => some (.rp true cs off)
    | none => none
  | .rp _ cs off => some (.rp true cs off)
  | .agg cs => match exL H T cs with | some l => some (.agg l) | none => none
  | .fn f cs => match exL H T cs with | some l => some (.fn f l) | none => none
  | .any | .und | .tup _ | .fs _ _ _ _ => none
def exL (H : Nat → Option Blk) (T : TT) : List AV → Option (List AV)
  | [] => some []
  | v :: r => match exV H T v with
    | some x => match exL H T r with
      | some l => some (x :: l)
      | none => none
    | none => none
end

/-- A value out of a constant of the text. -/
def constA : Value → AV
  | .bool b => .bool b
  | .int k n => .int k n
  | .string s => .str s.data.toList
  | .pointer none => .nilp
  | .slice none 0 0 => .nils
  | _ => .any

def evA (f : Nat → AV) : Operand → AV
  | .tmp t => f t
  | .const v => constA v
  | .global _ => .any
  | .func g => .fn g []

def evL (f : Nat → AV) : List Operand → List AV
  | [] => []
  | x :: r => evA f x :: evL f r

/-- What is appended or copied: cells, their mode, how many elements. -/
def srcA (T : TT) (H : Nat → Option Blk) : AV → Option (List D × Bool × Nat)
  | .nils => some ([], false, 0)
  | .rs m _ cs n => some (cs, m, n)
  | .ow id n => match H id with
    | some (.row _ m cs) => some (cs, m, n)
    | _ => none
  | .os id off n => match H id with
    | some (.row e m cs) => match look T e with
      | some i => some ((cs.drop off).take (mulS n i.size), m, n)
      | none => none
    | _ => none
  | .str s => some (s.map fun b => D.int .u8 b.toNat, false, s.length)
  | _ => none

def lenA : AV → Option Nat
  | .nils => some 0
  | .rs _ _ _ n => some n
  | .ow _ n => some n
  | .os _ _ n => some n
  | .str s => some s.length
  | _ => none

def sizeLim : Nat := 2 ^ 47
def intLim : Nat := 2 ^ 63 - 1
attribute [irreducible] sizeLim intLim

def imax (x y : Int) : Int := if y > x then y else x
def imin (x y : Int) : Int := if y < x then y else x

def ibits (op : BinOp) (k : IntKind) (x y : Int) : Int :=
  k.wrap (match op with
    | .and => (BitVec.ofInt k.bits x &&& BitVec.ofInt k.bits y).toNat
    | .or => (BitVec.ofInt k.bits x ||| BitVec.ofInt k.bits y).toNat
    | .xor => (BitVec.ofInt k.bits x ^^^ BitVec.ofInt k.bits y).toNat
    | _ => (BitVec.ofInt k.bits x &&& ~~~(BitVec.ofInt k.bits y)).toNat : Nat)

/-- The results that a call of a plain function hands back: 'fs' a fresh row. Read-only import. -/
def roS : AV → AV
  | .fs _ m cs n => .rs m false cs n
  | v => v
def roL : List AV → List AV
  | [] => []
  | v :: r => roS v :: roL r
def ro1 : AV → AV
  | .agg cs => .agg (roL cs)
  | v => roS v
def ro1L : List AV → List AV
  | [] => []
  | v :: r => ro1 v :: ro1L r
def impRoT : AV → AV
  | .tup vs => .tup (ro1L vs)
  | v => ro1 v

/-- Import as blocks of one's own. -/
def impCells (H : Nat → Option Blk) (nid : Nat) : List AV → (List AV × (Nat → Option Blk) × Nat)
  | [] => ([], H, nid)
  | .fs e m cs n :: r => match impCells (hup H nid (some (.row e m cs))) (nid + 1) r with
    | (l, H2, k) => (.ow nid n :: l, H2, k)
  | v :: r => match impCells H nid r with
    | (l, H2, k) => (v :: l, H2, k)

def impV (H : Nat → Option Blk) (nid : Nat) : AV → (AV × (Nat → Option Blk) × Nat)
  | .fs e m cs n => (.ow nid n, hup H nid (some (.row e m cs)), nid + 1)
  | .agg cs => match impCells H nid cs with | (l, H2, k) => (.agg l, H2, k)
  | v => (v, H, nid)

def impVs (H : Nat → Option Blk) (nid : Nat) : List AV → (List AV × (Nat → Option Blk) × Nat)
  | [] => ([], H, nid)
  | v :: r => match impV H nid v with
    | (x, H1, k1) => match impVs H1 k1 r with
      | (l, H2, k) => (x :: l, H2, k)

def impOwn (H : Nat → Option Blk) (nid : Nat) : AV → (AV × (Nat → Option Blk) × Nat)
  | .tup vs => match impVs H nid vs with | (l, H2, k) => (.tup l, H2, k)
  | v => impV H nid v

end Go.Qv
