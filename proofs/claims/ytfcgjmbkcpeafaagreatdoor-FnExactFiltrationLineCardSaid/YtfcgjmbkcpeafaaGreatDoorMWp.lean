/- PROVED: for every input the law FnExactFiltrationLine returns true and each argument reads afterwards as it read before (the statement 'FnExactFiltrationLineCardSaid' of the given Rows).
Conditions: none beyond those which the given statement itself names. This text is one part of the proof. -/
import Derived.Test.YtfcgjmbkcpeafaaGreatDoorMRel
import Derived.Still

/- The abstract machine: the predicate transformer over operations and code. -/
namespace Go.Qv
open Go

abbrev Heap := Nat → Option Blk
abbrev Kont := AV → Heap → Nat → List Nat → Prop

def elemT (T : TT) (t : TypeId) : Option (TypeId × TI) :=
  match look T t with
  | some ⟨.slice e, _, _, _⟩ => match look T e with | some i => some (e, i) | none => none
  | _ => none

/-- A Bool that is known runs on; one that isn't stands as a case split. -/
def Bc (b : Bool) (K : Bool → Prop) : Prop := Bool.rec (motive := fun _ => Prop) (K false) (K true) b

def arithK (op : BinOp) (k : IntKind) (a b : Int) (K : AV → Prop) : Prop :=
  match op with
  | .add => K (.int k (k.wrap (a + b)))
  | .sub => K (.int k (k.wrap (a - b)))
  | .mul => K (.int k (k.wrap (a * b)))
  | .quo => b ≠ 0 ∧ K (.int k (k.wrap (a.tdiv b)))
  | .rem => b ≠ 0 ∧ K (.int k (a.tmod b))
  | .and => K (.int k (ibits .and k a b))
  | .or => K (.int k (ibits .or k a b))
  | .xor => K (.int k (ibits .xor k a b))
  | .andNot => K (.int k (ibits .andNot k a b))
  | .eql => K (.bool (a == b))
  | .neq => K (.bool (a != b))
  | .lss => K (.bool (decide (a < b)))
  | .leq => K (.bool (decide (a ≤ b)))
  | .gtr => K (.bool (decide (a > b)))
  | .geq => K (.bool (decide (a ≥ b)))
  | _ => False

def binK (T : TT) (op : BinOp) (t : TypeId) (x y : AV) (K : AV → Prop) : Prop :=
  match x, y with
  | .int k a, .int k2 b => match op with
    | .shl => 0 ≤ b ∧ K (.int k (k.wrap (a * 2 ^ (min b.toNat k.bits))))
    | .shr => 0 ≤ b ∧ K (.int k (a.fdiv (2 ^ (min b.toNat k.bits))))
    | _ => bif kEq k k2 then arithK op k a b K else False
  | .str a, .str b => match op with
    | .add => a.length + b.length ≤ intLim ∧ K (.str (a ++ b))
    | .eql => K (.bool (a == b))
    | .neq => K (.bool !(a == b))
    | .lss => K (.bool (Op.bytesLess a b))
    | .leq => K (.bool (Op.bytesLess a b || a == b))
    | .gtr => K (.bool !(Op.bytesLess a b || a == b))
    | .geq => K (.bool !(Op.bytesLess a b))
    | _ => False
  | .bool a, .bool b => match look T t with
    | some ⟨.bool, _, _, _⟩ => match op with
      | .eql => K (.bool (a == b))
      | .neq => K (.bool !(a == b))
      | _ => False
    | _ => False
  | _, _ => False

def unK (op : UnOp) (x : AV) (K : AV → Prop) : Prop :=
  match op, x with
  | .neg, .int k n => K (.int k (k.wrap (0 - n)))
  | .xor, .int k n => K (.int k (ibits .xor k (if k.signed then -1 else k.max) n))
  | .not, .bool b => K (.bool !b)
  | _, _ => False

def byteD : D → Option UInt8
  | .int .u8 n => some (UInt8.ofNat n.toNat)
  | _ => none
/-- The bytes that a row of u8 cells holds. -/
def bytesOf : List D → Option (List UInt8)
  | [] => some []
  | x :: r => match byteD x with
    | some b => match bytesOf r with | some l => some (b :: l) | none => none
    | none => none

def notStr : AV → Bool | .str _ => false | _ => true

def convK (T : TT) (H : Heap) (src dst : TypeId) (x : AV) (K : AV → Prop) : Prop :=
  match look T src, look T dst with
  | some si, some di => match si.d, di.d with
    | _, .int k => (match x with | .int _ n => K (.int k (k.wrap n)) | _ => False)
    | .str, .str => (match x with | .str s => K (.str s) | _ => False)
    | .slice e, .str => (match look T e with
      | some ⟨.int .u8, 1, _, _⟩ => bif notStr x then (match srcA T H x with
        | some (cs, _, n) => ∃ s, bytesOf cs = some s ∧ s.length = n ∧ K (.str s)
        | none => False) else False
      | _ => False)
    | _, _ => False
  | _, _ => False

/-- A number out of an operand, a bound of a slice expression. -/
def natK (x : AV) (K : Nat → Prop) : Prop :=
  match x with
  | .int _ z => ∃ k : Nat, z = (k : Int) ∧ K k
  | _ => False

/-- The block is a row of these elements. -/
def rowOf (H : Heap) (id : Nat) (e : TypeId) : Bool := match H id with | some (.row e2 _ _) => Nat.beq e e2 | _ => false

def sliceK (T : TT) (H : Heap) (t : TypeId) (x : AV) (lo hi mx : Option AV) (K : AV → Prop) : Prop :=
  match mx with
  | some amx => match elemT T t with
    | none => False
    | some _ => match x, lo, hi, amx with
      | .rs m _ _ _, none, some (.int _ 0), .int _ 0 => K (.rs m true [] 0)
      | .ow _ _, none, some (.int _ 0), .int _ 0 => K (.rs false true [] 0)
      | .nils, none, some (.int _ 0), .int _ 0 => K (.rs false true [] 0)
      | _, _, _, _ => False
  | none => match x with
    | .str s => match look T t with
      | some ⟨.str, _, _, _⟩ => (match lo, hi with
        | none, none => K (.str s)
        | some l, none => natK l fun l => l ≤ s.length ∧ K (.str (s.drop l))
        | none, some h => natK h fun h => h ≤ s.length ∧ K (.str (s.take h))
        | some l, some h => natK h fun h => h ≤ s.length ∧ natK l fun l => l ≤ h ∧ K (.str ((s.take h).drop l)))
      | _ => False
    | .rs m _ cs n => match elemT T t with
      | none => False
      | some (_, i) => match lo, hi with
        | none, none => K (.rs m false cs n)
        | some l, none => natK l fun l => l ≤ n ∧ cs.length = mulS n i.size ∧ K (.rs m false (cs.drop (mulS l i.size)) (n - l))
        | none, some h => natK h fun h => h ≤ n ∧ K (.rs m false (cs.take (mulS h i.size)) h)
        | some l, some h => natK h fun h => h ≤ n ∧ natK l fun l => l ≤ h ∧ K (.rs m false ((cs.take (mulS h i.size)).drop (mulS l i.size)) (h - l))
    | .ow id n => match elemT T t with
      | none => False
      | some (e, i) => bif rowOf H id e then (match lo, hi with
        | none, none => K (.ow id n)
        | some l, none => natK l fun l => l ≤ n ∧ K (.os id (mulS l i.size) (n - l))
        | none, some h => natK h fun h => h ≤ n ∧ K (.os id 0 h)
        | some l, some h => natK h fun h => h ≤ n ∧ natK l fun l => l ≤ h ∧ K (.os id (mulS l i.size) (h - l))) else False
    | .os id off n => match elemT T t with
      | none => False
      | some (e, i) => bif rowOf H id e then (match lo, hi with
        | none, none => K (.os id off n)
        | some l, none => natK l fun l => l ≤ n ∧ K (.os id (off + mulS l i.size) (n - l))
        | none, some h => natK h fun h => h ≤ n ∧ K (.os id off h)
        | some l, some h => natK h fun h => h ≤ n ∧ natK l fun l => l ≤ h ∧ K (.os id (off + mulS l i.size) (h - l))) else False
    | .nils => match elemT T t with
      | none => False
      | some _ => match lo, hi with
        | none, none => K .nils
        | none, some (.int _ 0) => K (.rs false false [] 0)
        | _, _ => False
    | _ => False

def fieldOff (T : TT) (s : TypeId) (f : Nat) : Option (TypeId × Nat) :=
  match look T s with
  | some ⟨.struct fs, _, _, _⟩ => nth fs f
  | _ => none

def fieldAddrK (T : TT) (s : TypeId) (x : AV) (f : Nat) (K : AV → Prop) : Prop :=
  match fieldOff T s f with
  | none => False
  | some (ty, o) => match look T ty with
    | none => False
    | some i => bif Nat.beq i.size 0 then False else match x with
      | .op id off => K (.op id (addS off o))
      | .rp m cs off => K (.rp m cs (addS off o))
      | _ => False

def partK (T : TT) (t : TypeId) (cs : List AV) (off : Nat) (K : AV → Prop) : Prop :=
  match look T t with
  | none => False
  | some i => bif isAggT i.d then (match getNA cs off i.size with | some l => K (.agg l) | none => False)
    else match nth cs off with | some v => K v | none => False

def fieldK (T : TT) (s : TypeId) (x : AV) (f : Nat) (K : AV → Prop) : Prop :=
  match fieldOff T s f, x with
  | some (t, o), .agg cs => partK T t cs o K
  | _, _ => False

def indexAddrK (T : TT) (t : TypeId) (x i : AV) (K : AV → Prop) : Prop :=
  match i with
  | .int _ z => match look T t with
    | some ⟨.slice e, _, _, _⟩ => match look T e with
      | none => False
      | some te => match x with
        | .rs m _ cs n => ∃ k : Nat, z = (k : Int) ∧ k < n ∧ K (.rp m cs (mulS k te.size))
        | .ow id n => ∃ k : Nat, z = (k : Int) ∧ k < n ∧ K (.op id (mulS k te.size))
        | .os id off n => ∃ k : Nat, z = (k : Int) ∧ k < n ∧ K (.op id (off + mulS k te.size))
        | _ => False
    | some ⟨.array n e, _, _, _⟩ => match look T e with
      | none => False
      | some te => bif Nat.ble n 1 then False else match x with
        | .op id off => ∃ k : Nat, z = (k : Int) ∧ k < n ∧ K (.op id (addS off (mulS k te.size)))
        | .rp m cs off => ∃ k : Nat, z = (k : Int) ∧ k < n ∧ K (.rp m cs (addS off (mulS k te.size)))
        | _ => False
    | _ => False
  | _ => False

def indexK (T : TT) (t : TypeId) (x i : AV) (K : AV → Prop) : Prop :=
  match x, i with
  | .str s, .int _ z => match look T t with
    | some ⟨.str, _, _, _⟩ => ∃ (k : Nat) (b : UInt8), z = (k : Int) ∧ s[k]? = some b ∧ K (.int .u8 b.toNat)
    | _ => False
  | .agg cs, .int _ z => match look T t with
    | some ⟨.array n e, _, _, _⟩ => match look T e with
      | none => False
      | some te => ∃ k : Nat, z = (k : Int) ∧ k < n ∧ partK T e cs (mulS k te.size) K
    | _ => False
  | _, _ => False

def loadK (T : TT) (H : Heap) (t : TypeId) (a : AV) (K : AV → Prop) : Prop :=
  match look T t with
  | none => False
  | some i => match a with
    | .op id off => match H id with
      | some (.var _ cs) => bif isAggT i.d then (match getNA cs off i.size with | some l => K (.agg l) | none => False)
          else match nth cs off with | some v => K v | none => False
      | some (.row _ m cs) => bif isAggT i.d then (∃ ds, getN cs off i.size = some ds ∧ K (.agg (ds.map (ofD m))))
          else ∃ d, cs[off]? = some d ∧ K (ofD m d)
      | none => False
    | .rp m cs off => bif isAggT i.d then (∃ ds, getN cs off i.size = some ds ∧ K (.agg (ds.map (ofD m))))
        else ∃ d, cs[off]? = some d ∧ K (ofD m d)
    | _ => False

def lenB {α : Type} : List α → Nat → Bool
  | [], 0 => true
  | _ :: r, n + 1 => lenB r n
  | _, _ => false

def fitsB (cs : List AV) (off n : Nat) : Bool := match getNA cs off n with | some _ => true | none => false
def oneA : AV → Bool
  | .any | .und | .agg _ | .tup _ | .fs _ _ _ _ => false
  | _ => true
def noAny : List AV → Bool
  | [] => true
  | v :: r => bif oneA v then noAny r else false

/-- A value, brought to its head before the walk goes on. -/
def forceV (v : AV) (K : AV → Prop) : Prop :=
  match v with
  | .any => K .any
  | .und => K .und
  | .nils => K .nils
  | .nilp => K .nilp
  | .bool b => K (.bool b)
  | .int k n => K (.int k n)
  | .str s => K (.str s)
  | .rs m x cs n => K (.rs m x cs n)
  | .ow id n => K (.ow id n)
  | .os id off n => K (.os id off n)
  | .op id off => K (.op id off)
  | .rp m cs off => K (.rp m cs off)
  | .agg cs => K (.agg cs)
  | .tup vs => K (.tup vs)
  | .fn f cs => K (.fn f cs)
  | .fs e m cs n => K (.fs e m cs n)
theorem forceV_eq (v : AV) (K : AV → Prop) : forceV v K = K v := by cases v <;> rfl
def forceL (l : List AV) (K : List AV → Prop) : Prop :=
  match l with
  | [] => K []
  | v :: r => forceV v fun v => forceL r fun r => K (v :: r)
theorem forceL_eq : ∀ (l : List AV) (K : List AV → Prop), forceL l K = K l
  | [], _ => rfl
  | v :: r, K => by rw [forceL, forceV_eq, forceL_eq r]

def storeK (T : TT) (H : Heap) (nid : Nat) (t : TypeId) (a v : AV) (K : Kont) : Prop :=
  match look T t, cellsA v with
  | some i, some vs => bif lenB vs i.size && noAny vs && !Nat.beq i.size 0 then
      (match a with
      | .op id off => match H id with
        | some (.var ty cs) => bif fitsB cs off i.size then forceL (setNA cs off vs) fun l => K .und (hup H id (some (.var ty l))) nid [] else False
        | some (.row e m cs) => match toDs vs with
          | some (ds, m2) => off + i.size ≤ cs.length ∧ K .und (hup H id (some (.row e (m || m2) (setND cs off ds)))) nid []
          | none => False
        | none => False
      | _ => False) else False
  | _, _ => False

def zerosD (T : TT) (e : TypeId) (n : Nat) : Option (List D) :=
  match look T e with
  | none => none
  | some i => match toDs i.zero with
    | some ([z], false) => some (List.replicate n z)
    | some (zs, false) => some ((List.replicate n zs).flatten)
    | _ => none

def makeSliceK (T : TT) (H : Heap) (nid : Nat) (t : TypeId) (l c : AV) (K : Kont) : Prop :=
  match elemT T t with
  | none => False
  | some (e, i) => natK l fun l => natK c fun c => l ≤ c ∧ c * i.bytes ≤ sizeLim ∧ c ≤ intLim ∧
      match zerosD T e l with
      | some zs => K (.ow nid l) (hup H nid (some (.row e false zs))) (nid + 1) []
      | none => False

/-- The parts of a composite, laid over zeros. -/
def fillA (size : Nat → Option (Nat × Nat)) : List AV → List (Nat × AV) → Option (List AV)
  | cs, [] => some cs
  | cs, (i, v) :: r => match size i, cellsA v with
    | some (off, n), some vs => bif lenB vs n && fitsB cs off n && !Nat.beq n 0 then fillA size (setNA cs off vs) r else none
    | _, _ => none

def partsA (f : Nat → AV) : List (Nat × Operand) → List (Nat × AV)
  | [] => []
  | (i, x) :: r => (i, evA f x) :: partsA f r

def placesT (T : TT) : List (TypeId × Nat) → Option (List (Nat × Nat))
  | [] => some []
  | (ty, off) :: r => match look T ty with
    | some ti => match placesT T r with
      | some l => some ((off, ti.size) :: l)
      | none => none
    | none => none

def buildK (T : TT) (t : TypeId) (ps : List (Nat × AV)) (K : AV → Prop) : Prop :=
  match look T t with
  | some ⟨.struct fs, _, _, z⟩ => match placesT T fs with
    | some pl => match fillA (fun i => nth pl i) z ps with
      | some cs => K (.agg cs)
      | none => False
    | none => False
  | some ⟨.array _ e, _, _, z⟩ => match look T e with
    | some ti => match fillA (fun i => some (i * ti.size, ti.size)) z ps with
      | some cs => K (.agg cs)
      | none => False
    | none => False
  | _ => False

def repA (z : List AV) : Nat → List AV
  | 0 => []
  | n + 1 => z ++ repA z n

def buildSliceK (T : TT) (H : Heap) (nid : Nat) (own : Bool) (t : TypeId) (n : Nat) (ps : List (Nat × AV)) (K : Kont) : Prop :=
  match elemT T t with
  | none => False
  | some (e, i) => bif Nat.ble (n * i.size) 16777216 && !Nat.beq i.size 0 then
      (match fillA (fun j => some (j * i.size, i.size)) (repA i.zero n) ps with
      | some cs => match toDs cs with
        | some (ds, m) => bif own then K (.ow nid n) (hup H nid (some (.row e m ds))) (nid + 1) [] else K (.rs m true ds n) H nid []
        | none => False
      | none => False) else False

def appendK (T : TT) (H : Heap) (nid : Nat) (t : TypeId) (s x : AV) (K : Kont) : Prop :=
  match elemT T t, srcA T H x with
  | some (e, i), some (cs2, m2, n2) => match s with
    | .nils => ∃ m', okM m' m2 cs2 ∧ cs2.length = mulS n2 i.size ∧ n2 * i.bytes ≤ sizeLim ∧ n2 ≤ intLim ∧ K (.ow nid n2) (hup H nid (some (.row e m' cs2))) (nid + 1) []
    | .rs m true cs n => ∃ m', okM m' m cs ∧ okM m' m2 cs2 ∧ (n = 0 ∨ 0 < n2) ∧ cs.length = mulS n i.size ∧ cs2.length = mulS n2 i.size ∧ (n + n2) * i.bytes ≤ sizeLim ∧ n + n2 ≤ intLim ∧
        K (.ow nid (n + n2)) (hup H nid (some (.row e m' (cs ++ cs2)))) (nid + 1) []
    | .ow id n => match H id with
      | some (.row e2 m cs) => bif Nat.beq e e2 then (∃ m', okM m' m cs ∧ okM m' m2 cs2 ∧ cs2.length = mulS n2 i.size ∧ (n + n2) * i.bytes ≤ sizeLim ∧ n + n2 ≤ intLim ∧
          K (.ow id (n + n2)) (hup H id (some (.row e m' (cs ++ cs2)))) nid [id]) else False
      | _ => False
    | _ => False
  | _, _ => False

def minmaxK (f : Int → Int → Int) : List AV → (AV → Prop) → Prop
  | [.int k a, .int k2 b], K => bif kEq k k2 then K (.int k (f a b)) else False
  | _, _ => False

def builtinK (T : TT) (H : Heap) (nid : Nat) (b : Builtin) (ts : List TypeId) (args : List AV) (K : Kont) : Prop :=
  match b, ts, args with
  | .len, t :: _, [x] => match look T t with
    | some i => (match i.d with
      | .str => (match x with | .str s => K (.int .i64 s.length) H nid [] | _ => False)
      | .slice _ => bif notStr x then (match lenA x with | some n => K (.int .i64 n) H nid [] | none => False) else False
      | _ => False)
    | none => False
  | .append, [t, t2], [s, x] => match look T t2 with
    | some i2 => (match i2.d with
      | .slice _ => bif notStr x then appendK T H nid t s x K else False
      | .str => (match x, elemT T t with
        | .str _, some (_, ⟨_, 1, _, _⟩) => appendK T H nid t s x K
        | _, _ => False)
      | _ => False)
    | none => False
  | .max, _, xs => minmaxK imax xs fun v => K v H nid []
  | .min, _, xs => minmaxK imin xs fun v => K v H nid []
  | _, _, _ => False

def appL {α : Type} (a b : List α) : List α := match b with | [] => a | _ => a ++ b

mutual
def ownFree : AV → Bool
  | .ow _ _ | .os _ _ _ | .op _ _ => false
  | .agg cs | .fn _ cs | .tup cs => ownFreeL cs
  | _ => true
def ownFreeL : List AV → Bool
  | [] => true
  | v :: r => bif ownFree v then ownFreeL r else false
end
mutual
def forFree : AV → Bool
  | .rs m _ _ _ => !m
  | .rp _ _ _ => false
  | .fs _ m _ _ => !m
  | .agg cs | .fn _ cs | .tup cs => forFreeL cs
  | _ => true
def forFreeL : List AV → Bool
  | [] => true
  | v :: r => bif forFree v then forFreeL r else false
end

def callK (E : Env) (H : Heap) (nid : Nat) (own : Bool) (f : AV) (args : List AV) (K : Kont) : Prop :=
  match f with
  | .fn g caps => match exL H E.T args, exL H E.T caps with
    | some as, some cs => ∃ r, AC E.P g (appL as cs) r ∧ (ownFreeL args && ownFreeL caps || forFree r) = true ∧
        (bif own then (match impOwn H nid r with | (v, H2, n2) => K v H2 n2 []) else K (impRoT r) H nid [])
    | _, _ => False
  | _ => False

/-- A slice beside the literal nil. -/
def nilK (T : TT) (dr : Bool) (op : BinOp) (t : TypeId) (x : AV) (K : AV → Prop) : Prop :=
  match look T t with
  | some ⟨.slice _, _, _, _⟩ => bif notStr x then (match lenA x with
    | some n => (match op with
      | .eql => (match x with
        | .nils => K (.bool true)
        | _ => bif dr then n ≠ 0 ∧ K (.bool false) else ∀ b : Bool, (b = true → n = 0) → K (.bool b))
      | .neq => (match x with
        | .nils => K (.bool false)
        | _ => bif dr then n ≠ 0 ∧ K (.bool true) else ∀ b : Bool, (b = false → n = 0) → K (.bool b))
      | _ => False)
    | none => False) else False
  | _ => False
def isNilC : Operand → Bool
  | .const (.slice none 0 0) => true
  | _ => false

def clearAt (T : TT) (H : Heap) (nid : Nat) (e : TypeId) (id off n : Nat) (K : Kont) : Prop :=
  match H id with
  | some (.row e2 m cs) => bif Nat.beq e e2 then (match zerosD T e n with
    | some zs => off + zs.length ≤ cs.length ∧ K (.tup []) (hup H id (some (.row e m (setND cs off zs)))) nid []
    | none => False) else False
  | _ => False
def clearK (T : TT) (H : Heap) (nid : Nat) (ts : List TypeId) (args : List AV) (K : Kont) : Prop :=
  match ts, args with
  | t :: _, [x] => match elemT T t with
    | some (e, _) => match x with
      | .ow id n => clearAt T H nid e id 0 n K
      | .os id off n => clearAt T H nid e id off n K
      | _ => False
    | none => False
  | _, _ => False

mutual
/-- Arguments for a function that works on the row id. -/
def rnV (id : Nat) : AV → Option AV
  | .bool b => some (.bool b)
  | .int k n => some (.int k n)
  | .str s => some (.str s)
  | .nilp => some .nilp
  | .nils => some .nils
  | .rs _ x cs n => some (.rs true x cs n)
  | .rp _ cs off => some (.rp true cs off)
  | .ow i n => bif Nat.beq i id then some (.ow 0 n) else none
  | .os i off n => bif Nat.beq i id then some (.os 0 off n) else none
  | .op i off => bif Nat.beq i id then some (.op 0 off) else none
  | .agg cs => match rnL id cs with | some l => some (.agg l) | none => none
  | .fn f cs => match rnL id cs with | some l => some (.fn f l) | none => none
  | .any | .und | .tup _ | .fs _ _ _ _ => none
def rnL (id : Nat) : List AV → Option (List AV)
  | [] => some []
  | v :: r => match rnV id v with
    | some x => match rnL id r with
      | some l => some (x :: l)
      | none => none
    | none => none
end
mutual
def unV (id : Nat) : AV → AV
  | .ow _ n => .ow id n
  | .os _ off n => .os id off n
  | .op _ off => .op id off
  | .agg cs => .agg (unL id cs)
  | .tup cs => .tup (unL id cs)
  | .fn f cs => .fn f (unL id cs)
  | v => v
def unL (id : Nat) : List AV → List AV
  | [] => []
  | v :: r => unV id v :: unL id r
end

def callIO (E : Env) (H : Heap) (nid : Nat) (f : AV) (args : List AV) (K : Kont) : Prop :=
  match f with
  | .fn g caps => ∃ id : Nat, match H id with
    | some (.row e _ cs) => match rnL id args, rnL id caps with
      | some as, some ks => ∃ (kept : Bool) (r : AV) (m' : Bool) (cs' : List D) (m2 : Bool), AIO E.P g kept (appL as ks) e cs r m' cs' ∧ okM m2 m' cs' ∧
          K (unV id r) (hup H id (some (.row e m2 cs'))) nid (bif kept then [] else [id])
      | _, _ => False
    | _ => False
  | _ => False

/-- One operation. 'dr': in a region that draws its order. -/
def aopK (E : Env) (dr : Bool) (f : Nat → AV) (H : Heap) (nid : Nat) (o : Oper) (K : Kont) : Prop :=
  match o.op with
  | .move x | .assign x => K (evA f x) H nid []
  | .pick c a b => (match evA f c with | .bool t => Bc t fun t => bif t then K (evA f a) H nid [] else K (evA f b) H nid [] | _ => False)
  | .alloc e => (match look E.T e with | some i => K (.op nid 0) (hup H nid (some (.var e i.zero))) (nid + 1) [] | none => False)
  | .box e x => (match cellsA (evA f x) with | some cs => bif noAny cs then forceL cs fun cs => K (.op nid 0) (hup H nid (some (.var e cs))) (nid + 1) [] else False | none => False)
  | .build t ps => buildK E.T t (partsA f ps.toList) fun v => K v H nid []
  | .buildSlice t n ps => buildSliceK E.T H nid (match o.dst with | some d => !dr && E.own d | none => false) t n (partsA f ps.toList) K
  | .load t a => loadK E.T H t (evA f a) fun v => K v H nid []
  | .store t a v => storeK E.T H nid t (evA f a) (evA f v) K
  | .nilCheck x => (match evA f x with | .op id off => K (.op id off) H nid [] | .rp m cs off => K (.rp m cs off) H nid [] | .fn g cs => K (.fn g cs) H nid [] | _ => False)
  | .binOp op t x y _ => bif isNilC y then nilK E.T dr op t (evA f x) fun v => K v H nid [] else binK E.T op t (evA f x) (evA f y) fun v => K v H nid []
  | .unOp op _ x => unK op (evA f x) fun v => K v H nid []
  | .convert s d x => convK E.T H s d (evA f x) fun v => K v H nid []
  | .makeFunc (.func g) fst cs => (match fst.toList with | [] => K (.fn g (evL f cs.toList)) H nid [] | _ => False)
  | .makeSlice t l c => makeSliceK E.T H nid t (evA f l) (evA f c) K
  | .slice t x lo hi mx => sliceK E.T H t (evA f x) (lo.map (evA f)) (hi.map (evA f)) (mx.map (evA f)) fun v => K v H nid []
  | .fieldAddr t x n => fieldAddrK E.T t (evA f x) n fun v => K v H nid []
  | .field t x n => fieldK E.T t (evA f x) n fun v => K v H nid []
  | .indexAddr t x i => indexAddrK E.T t (evA f x) (evA f i) fun v => K v H nid []
  | .index t x i => indexK E.T t (evA f x) (evA f i) fun v => K v H nid []
  | .extract x n => (match evA f x with | .tup vs => (match nth vs n with | some v => K v H nid [] | none => False) | _ => False)
  | .call ⟨.builtin .clear, args, ts⟩ => clearK E.T H nid ts.toList (evL f args.toList) K
  | .call ⟨.builtin b, args, ts⟩ => builtinK E.T H nid b ts.toList (evL f args.toList) K
  | .call ⟨.value g, args, _⟩ => bif (match o.dst with | some d => !dr && E.io d | none => false) then callIO E H nid (evA f g) (evL f args.toList) K
    else callK E H nid (match o.dst with | some d => !dr && E.own d | none => false) (evA f g) (evL f args.toList) K
  | _ => False

abbrev KontS := (Nat → AV) → Heap → Nat → Prop

def put (E : Env) (f : Nat → AV) (H : Heap) (n : Nat) (dst : Option Tmp) (v : AV) (K : KontS) : Prop :=
  match dst with
  | none => K f H n
  | some d => bif Nat.blt d E.N then forceV v fun v => K (upd f d v) H n else False

def dstOf (ops : List Oper) (j : Nat) : Option Tmp := match nth ops j with | some o => o.dst | none => none

/-- An operation under its guard. The guard's Bool, once asked, is known. -/
def guardK (ops : List Oper) (f : Nat → AV) (g : Option (Nat × Bool)) (run skip : (Nat → AV) → Prop) : Prop :=
  match g with
  | none => run f
  | some (j, want) => match dstOf ops j with
    | none => skip f
    | some d => match f d with
      | .bool b => Bc b fun b => bif b == want then run (upd f d (.bool b)) else skip (upd f d (.bool b))
      | .und => skip f
      | _ => False

def anyLt (k : Nat) : List Nat → Bool
  | [] => false
  | i :: r => bif Nat.blt i k then true else anyLt k r

def afterK (E : Env) (f : Nat → AV) (dst : Option Tmp) (K : KontS) (v : AV) (H : Heap) (n : Nat) (ks : List Nat) : Prop :=
  match ks with
  | [] => put E f H n dst v K
  | _ => bif anyLt E.fix ks then False else put E (fun t => killV ks (f t)) (fun i => match H i with | some b => some (killB ks b) | none => none) n dst v K

def stepK (E : Env) (dr : Bool) (ops : List Oper) (o : Oper) (K : KontS) (f : Nat → AV) (H : Heap) (n : Nat) : Prop :=
  guardK ops f o.guard
    (fun f => aopK E dr f H n o (afterK E f o.dst K))
    (fun f => put E f H n o.dst .und K)

def opsK (E : Env) (dr : Bool) (ops : List Oper) : List Oper → KontS → KontS
  | [], K, f, H, n => K f H n
  | o :: r, K, f, H, n => stepK E dr ops o (opsK E dr ops r K) f H n

inductive Ex where
  | normal
  | exit (id : Nat)
  | ret

def thenK (back : ASt → Prop) (Q : Ex → ASt → Prop) : Ex → ASt → Prop
  | .normal, st => back st
  | e, st => Q e st

def blockK (id : Nat) (Q : Ex → ASt → Prop) : Ex → ASt → Prop
  | .exit i, st => bif Nat.beq i id then Q .normal st else Q (.exit i) st
  | e, st => Q e st

mutual
def idsLt (k : Nat) : AV → Bool
  | .ow i _ | .os i _ _ | .op i _ => Nat.blt i k
  | .agg cs | .fn _ cs | .tup cs => idsLtL k cs
  | _ => true
def idsLtL (k : Nat) : List AV → Bool
  | [] => true
  | v :: r => bif idsLt k v then idsLtL k r else false
end
def idsLtB (k : Nat) : Option Blk → Bool
  | some (.var _ cs) => idsLtL k cs
  | _ => true

def ofL : List Nat → List AV → Nat → AV
  | t :: ts, v :: vs, x => bif Nat.beq x t then v else ofL ts vs x
  | _, _, _ => .any
def ofH : List (Option Blk) → Nat → Nat → Option Blk
  | b :: bs, i, x => bif Nat.beq x i then b else ofH bs (i + 1) x
  | [], _, _ => none
def mkSt (live : List Nat) (V : List AV) (H : List (Option Blk)) : ASt := { tmps := ofL live V, heap := ofH H 0, nid := H.length }
def getsV (f : Nat → AV) : List Nat → List AV
  | [] => []
  | t :: r => f t :: getsV f r
def getsH (h : Heap) : Nat → Nat → List (Option Blk)
  | _, 0 => []
  | i, n + 1 => h i :: getsH h (i + 1) n
def okH (k : Nat) : List (Option Blk) → Bool
  | [] => true
  | b :: r => bif idsLtB k b then okH k r else false

/-- nil slices become rows of one's own, empty ones: slots, and cells of variables. -/
inductive Cv where
  | slot (t : Tmp) (e : TypeId) (m : Bool)
  | cell (id off : Nat) (e : TypeId) (m : Bool)

def isNils : AV → Bool | .nils => true | .rs _ true [] 0 => true | _ => false

def convS : List Cv → ASt → Option ASt
  | [], st => some st
  | .slot t e m :: r, st => bif isNils (st.tmps t) then convS r { tmps := upd st.tmps t (.ow st.nid 0), heap := hup st.heap st.nid (some (.row e m [])), nid := st.nid + 1 } else none
  | .cell id off e m :: r, st => match st.heap id with
    | some (.var ty cs) => match nth cs off with
      | some v => bif isNils v then convS r { st with heap := hup (hup st.heap st.nid (some (.row e m []))) id (some (.var ty (setNA cs off [.ow st.nid 0]))), nid := st.nid + 1 } else none
      | none => none
    | _ => none

/-- The loop: slots that live on, blocks that live on, by a state α. -/
def loopK (fx : Nat) (body : (Ex → ASt → Prop) → ASt → Prop) (Q : Ex → ASt → Prop) (st : ASt) : Prop :=
  ∃ (α : Type) (cv : List Cv) (live : List Nat) (V : α → List AV) (H : α → List (Option Blk)) (inv : α → Prop) (μ : α → Nat) (k : Nat),
    (∀ a, (H a).length = k) ∧ Nat.ble fx k = true ∧
    (∃ st1 a, convS cv st = some st1 ∧ inv a ∧ getsV st1.tmps live = V a ∧ getsH st1.heap 0 k = H a ∧ idsLtL k (V a) = true ∧ okH k (H a) = true) ∧
    ∀ a, inv a → body (thenK (fun st2 => ∃ b, inv b ∧ μ b < μ a ∧ getsV st2.tmps live = V b ∧ getsH st2.heap 0 k = H b ∧ idsLtL k (V b) = true ∧ okH k (H b) = true) Q) (mkSt live (V a) (H a))

/-- Operations that change the heap: in a region that draws, all behind them wait for them. -/
def fence : Op → Bool
  | .alloc _ | .box _ _ | .makeSlice _ _ _ | .store _ _ _ => true
  | .call ⟨.builtin .append, _, _⟩ | .call ⟨.builtin .clear, _, _⟩ => true
  | _ => false
def waitsFor (k : Nat) (o : Oper) : Bool := o.after.any fun e => Region.binds .any e && e.on == k
def fenceFrom : Nat → List Oper → Bool
  | _, [] => true
  | k, o :: r => (!fence o.op || r.all (waitsFor k)) && fenceFrom (k + 1) r

def awp (E : Env) : Code → (Ex → ASt → Prop) → ASt → Prop
  | .skip, Q, st => Q .normal st
  | .region _ ops dr, Q, st => opsK E dr ops.toList ops.toList (fun f H n => Q .normal ⟨f, H, n⟩) st.tmps st.heap st.nid
  | .seq a b, Q, st => awp E a (thenK (awp E b Q) Q) st
  | .cond c a b, Q, st => (match evA st.tmps c with | .bool t => Bc t fun t => bif t then awp E a Q st else awp E b Q st | _ => False)
  | .block id a, Q, st => awp E a (blockK id Q) st
  | .loop a, Q, st => loopK E.fix (awp E a) Q st
  | .exit id, Q, st => Q (.exit id) st
  | .scope a, Q, st => awp E a Q st
  | .label _, Q, st => Q .normal st
  | .ret, Q, st => Q .ret st
  | _, _, _ => False

end Go.Qv
