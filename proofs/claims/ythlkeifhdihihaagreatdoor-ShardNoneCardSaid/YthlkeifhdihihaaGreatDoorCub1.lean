/- Own framework, part 1: an intermediate code, what it means, that the model's calls end as it says, and a way to check that own code is a translation's. It states nothing of the program. -/
import Derived.AtR
import Derived.Laws.BytesString
import Derived.Laws.Cells
import Derived.Laws.Strings
import Derived.Laws.StructEq
import GoSem.Core.Code
import GoSem.Core.Utf8
import GoSem.Core.View
import GoSem.Dispatch
import GoSem.Op.String
set_option linter.unusedVariables false
set_option linter.unusedSimpArgs false
/- Own intermediate code: values with abstract addresses, operations with their types resolved, and what one operation does. -/
namespace Cub
open Go (IntKind BinOp UnOp)

/-- What is known of a capacity: the number; or that the slice reaches to the end of a block of unknown capacity, with elements of so many cells. -/
inductive Cap where
  | is (n : Nat)
  | opn (size : Nat)
  deriving Inhabited, DecidableEq

/-- Values. An address is the number of a block and an offset in it. -/
inductive V where
  | bool (b : Bool)
  | int (k : IntKind) (n : Int)
  | str (s : List UInt8)
  | ptr (a : Option (Nat × Nat))
  | slice (a : Option (Nat × Nat)) (len : Nat) (cap : Cap)
  | map (r : Option Nat)
  | func (f : Nat) (first captured : List V)
  | yield (l : Nat)
  | nilFunc
  | iface (t : Nat) (v : V)
  | nilIface
  | agg (cells : List V)
  | tuple (vs : List V)
  deriving Inhabited

abbrev V.undef : V := .tuple []
/-- The cells of a value; of what a call hands back together: none. -/
def V.cells : V → Option (List V)
  | .agg cs => some cs
  | .tuple _ => none
  | v => some [v]
def V.flat : V → Bool
  | .agg _ | .tuple _ => false
  | _ => true

abbrev Env := Nat → V
def upd (e : Env) (i : Nat) (v : V) : Env := fun j => if j = i then v else e j
def updO (e : Env) (i : Option Nat) (v : V) : Env := match i with | some i => upd e i v | none => e

/-- Operands. -/
inductive X where
  | t (i : Nat)
  | c (v : V)
  | g (i : Nat)
  | f (i : Nat)
  deriving Inhabited
/-- Globals are the blocks whose numbers are below 'globals'. -/
def X.ev (x : X) (e : Env) : V := match x with
  | .t i => e i
  | .c v => v
  | .g i => .ptr (some (i, 0))
  | .f i => .func i [] []

-- What equality looks at.
mutual
inductive Ty where
  | bool | int | str | ptr | slice | map | func
  | iface (methods : Bool)
  | struct (fs : Fs)
  | none
inductive Fs where
  | nil
  | cons (off n : Nat) (agg : Bool) (t : Ty) (r : Fs)
end
instance : Inhabited Ty := ⟨.none⟩

inductive Conv where
  | int (k : IntKind) | strBytes | bytesStr | bytesBytes | str
  deriving Inhabited, DecidableEq

/-- What 'len', 'clear', 'slice', 'index' look at. -/
inductive Shp where
  | str | slice | arr (n : Nat) | map
  deriving Inhabited, DecidableEq

inductive Op where
  | mv (x : X)
  | pick (c a b : X)
  | alloc (zs : List V)
  | box (x : X)
  | build (zs : List V) (parts : List (Nat × Nat × X))
  | buildSlice (len size : Nat) (zs : List V) (parts : List (Nat × X))
  | load (n : Nat) (agg : Bool) (a : X)
  | store (n : Nat) (a x : X)
  | nilCheck (x : X)
  | bin (op : BinOp) (x y : X)
  | eq (neg : Bool) (t : Ty) (x y : X)
  | un (op : UnOp) (x : X)
  | conv (c : Conv) (x : X)
  | mkIface (t : Nat) (x : X)
  | mkFunc (f : Nat) (first captured : List X)
  | mkMap
  | mkSlice (size bytes : Nat) (zs : List V) (len cap : X)
  | slice (s : Shp) (size : Nat) (x : X) (lo hi mx : Option X)
  | fieldAddr (off : Nat) (x : X)
  | field (off n : Nat) (agg : Bool) (x : X)
  | indexAddr (s : Shp) (size : Nat) (x i : X)
  | index (s : Shp) (size : Nat) (agg : Bool) (x i : X)
  | lookup (t : Ty) (zero : V) (ok : Bool) (m k : X)
  | mapUpdate (t : Ty) (m k v : X)
  | mapEntry (t : Ty) (zero : V) (m k : X)
  | entryStore (m s v : X)
  | delete (t : Ty) (m k : X)
  | rangeStr (x : X)
  | rangeMap (x : X)
  | nextStr (x : X)
  | nextMap (x : X)
  | entry (x : X)
  | extract (x : X) (i : Nat)
  | len (s : Shp) (x : X)
  | append (size bytes : Nat) (zs : List V) (ofMake : Bool) (s x : X)
  | copy (size : Nat) (d s : X)
  | clear (zs : List V) (x : X)
  | minmax (max : Bool) (x y : X)
  | typeAssert (t : Nat) (zero : V) (ok : Bool) (x : X)
  | call (f : Nat) (args : List X)
  | callv (f : X) (args : List X)
  | panic (x : X)
  | bad
  deriving Inhabited

/-- One step of a region: where its value goes, under which guard it is done (a temporary and what it must be), and which earlier reads
(their temporaries) must read the same behind it. -/
structure Step where
  dst : Option Nat
  op : Op
  guard : Option (Nat × Bool) := none
  stable : List Op := []
  deriving Inhabited

inductive Code where
  | skip
  | region (l : List Step)
  | seq (a b : Code)
  | cond (c : X) (a b : Code)
  | block (id : Nat) (c : Code)
  | loop (c : Code)
  | rangeFunc (f : X) (params : List Nat) (assign body : Code)
  | exit (id : Nat)
  | scope (c : Code)
  | label (l : Nat)
  | goto (l : Nat)
  | ret
  deriving Inhabited

inductive ResVar where
  | t (i : Nat)
  | cell (i : Nat) (n : Nat) (agg : Bool)
  deriving Inhabited

structure Fun where
  results : List ResVar
  body : Code
  deriving Inhabited

/-- What lies in a block. 'opn': none: no more cells than are known; 0: the same, and its end may bear a mark; else: the block may have
more cells than are known; the number is the cells of an element. -/
inductive LoopSt where
  | ready | busy | done | exhausted
  deriving Inhabited, DecidableEq
inductive Obj where
  | cells (c : List V) (opn : Option Nat)
  | ro (c : Nat → Option V)
  | map (es : List (V × V × Nat)) (clock : Nat)
  | strIter (s : List UInt8) (pos : Nat)
  | mapIter (m : Option Nat) (since : Nat) (seen : List Nat) (stepped : Nat)
  | loop (s : LoopSt) (pending : Option Code) (env : Env) (params : List Nat) (assign body : Code)

structure St where
  mem : Nat → Option Obj
  next : Nat

def St.set (st : St) (i : Nat) (o : Option Obj) : St := { st with mem := fun j => if j = i then o else st.mem j }
def St.new (st : St) (o : Obj) : St := { mem := fun j => if j = st.next then some o else st.mem j, next := st.next + 1 }

/-- The cells of a block from an offset on. -/
def cellsAt (st : St) (b : Nat) : Option (List V) := match st.mem b with | some (.cells c _) => some c | _ => none
def pack (agg : Bool) (l : List V) : Option V := if agg then some (.agg l) else match l with | [v] => some v | _ => none
/-- Cells that are read one by one. -/
def rdN (f : Nat → Option V) : Nat → Nat → Option (List V)
  | _, 0 => some []
  | off, n + 1 => match f off, rdN f (off + 1) n with
    | some v, some l => some (v :: l)
    | _, _ => none
def loadN (st : St) (b off n : Nat) : Option (List V) := match st.mem b with
  | some (.cells c _) => if off + n ≤ c.length then some ((c.drop off).take n) else none
  | some (.ro f) => rdN f off n
  | _ => none
/-- A list with some elements from an index on replaced. -/
def splice (c : List V) (off : Nat) (l : List V) : List V := c.take off ++ l ++ c.drop (off + l.length)
def storeN (st : St) (b off : Nat) (l : List V) : Option St :=
  match st.mem b with
  | some (.cells c o) => if off + l.length ≤ c.length then some (st.set b (some (.cells (splice c off l) o))) else none
  | _ => none

def bytesOf (l : List V) : Option (List UInt8) := match l with
  | [] => some []
  | .int .u8 n :: r => (bytesOf r).map (UInt8.ofNat n.toNat :: ·)
  | _ :: _ => none
def ofBytes (s : List UInt8) : List V := s.map fun b => .int .u8 b.toNat

def binInt (op : BinOp) (k : IntKind) (a b : Int) : Option V := match op with
  | .add => some (.int k (k.wrap (a + b)))
  | .sub => some (.int k (k.wrap (a - b)))
  | .mul => some (.int k (k.wrap (a * b)))
  | .quo => if b = 0 then none else some (.int k (k.wrap (a.tdiv b)))
  | .rem => if b = 0 then none else some (.int k (a.tmod b))
  | .and => some (.int k (k.wrap ((BitVec.ofInt k.bits a &&& BitVec.ofInt k.bits b).toNat)))
  | .or => some (.int k (k.wrap ((BitVec.ofInt k.bits a ||| BitVec.ofInt k.bits b).toNat)))
  | .xor => some (.int k (k.wrap ((BitVec.ofInt k.bits a ^^^ BitVec.ofInt k.bits b).toNat)))
  | .andNot => some (.int k (k.wrap ((BitVec.ofInt k.bits a &&& ~~~ BitVec.ofInt k.bits b).toNat)))
  | .eql => some (.bool (a == b))
  | .neq => some (.bool (a != b))
  | .lss => some (.bool (a < b))
  | .leq => some (.bool (a ≤ b))
  | .gtr => some (.bool (a > b))
  | .geq => some (.bool (a ≥ b))
  | .shl | .shr => none
def binShift (op : BinOp) (k : IntKind) (a b : Int) : Option V :=
  if b < 0 then none else match op with
  | .shl => some (.int k (k.wrap (a * 2 ^ (min b.toNat k.bits))))
  | .shr => some (.int k (a.fdiv (2 ^ (min b.toNat k.bits))))
  | _ => none
def binStr (op : BinOp) (a b : List UInt8) : Option V := match op with
  | .add => if a.length + b.length < 2 ^ 62 then some (.str (a ++ b)) else none
  | .eql => some (.bool (a == b))
  | .neq => some (.bool (!(a == b)))
  | .lss => some (.bool (Go.Op.bytesLess a b))
  | .leq => some (.bool (Go.Op.bytesLess a b || a == b))
  | .gtr => some (.bool (!(Go.Op.bytesLess a b || a == b)))
  | .geq => some (.bool (!Go.Op.bytesLess a b))
  | _ => none
def bin (op : BinOp) (x y : V) : Option V := match op, x, y with
  | .shl, .int k a, .int _ b => binShift .shl k a b
  | .shr, .int k a, .int _ b => binShift .shr k a b
  | op, .int k a, .int k' b => if k = k' then binInt op k a b else none
  | op, .str a, .str b => binStr op a b
  | _, _, _ => none

def un (op : UnOp) (x : V) : Option V := match op, x with
  | .neg, .int k n => some (.int k (k.wrap (0 - n)))
  | .xor, .int k n => some (.int k (k.wrap ((BitVec.ofInt k.bits (if k.signed then -1 else k.max) ^^^ BitVec.ofInt k.bits n).toNat)))
  | .not, .bool b => some (.bool (!b))
  | _, _ => none

mutual
-- Equality of two values; of pointers: with nil alone.
def eqV (t : Ty) (x y : V) : Option Bool := match t with
  | .bool => match x, y with | .bool a, .bool b => some (a == b) | _, _ => none
  | .int => match x, y with | .int k a, .int k' b => if k = k' then some (a == b) else none | _, _ => none
  | .str => match x, y with | .str a, .str b => some (a == b) | _, _ => none
  | .ptr => match x, y with | .ptr none, .ptr b => some b.isNone | .ptr _, .ptr none => some false | _, _ => none
  | .slice => match x, y with | .slice none _ _, .slice b _ _ => some b.isNone | .slice _ _ _, .slice none _ _ => some false | _, _ => none
  | .map => match x, y with | .map none, .map b => some b.isNone | .map _, .map none => some false | _, _ => none
  | .func => match x, y with | .nilFunc, .nilFunc => some true | .nilFunc, .func _ _ _ => some false | .func _ _ _, .nilFunc => some false | _, _ => none
  | .iface m => match x, y with
    | .nilIface, .nilIface => if m then none else some true
    | .nilIface, .iface _ _ => some false
    | .iface _ _, .nilIface => some false
    | _, _ => none
  | .struct fs => match x, y with | .agg xs, .agg ys => eqFs fs xs ys | _, _ => none
  | .none => none
def eqFs (fs : Fs) (xs ys : List V) : Option Bool := match fs with
  | .nil => some true
  | .cons off n agg t r =>
    match pack agg ((xs.drop off).take n), pack agg ((ys.drop off).take n) with
    | some a, some b => match eqV t a b with
      | some true => eqFs r xs ys
      | some false => some false
      | none => none
    | _, _ => none
end

/-- Pointers into blocks: equal if the addresses are; blocks must be there. -/
def eqS (st : St) (t : Ty) (x y : V) : Option Bool := match t, x, y with
  | .ptr, .ptr (some (a, i)), .ptr (some (b, j)) =>
    if a = b then some (i == j) else
    match st.mem a, st.mem b with
    | some (.cells _ none), some (.cells _ none) => some false
    | _, _ => none
  | t, x, y => eqV t x y

/-- The index of a key and its value. -/
def findKey (t : Ty) (k : V) (es : List (V × V × Nat)) (i : Nat) : Option (Option (Nat × V)) := match es with
  | [] => some none
  | (k', v, _) :: r => do if ← eqV t k k' then some (some (i, v)) else findKey t k r (i + 1)

def convV (c : Conv) (x : V) (st : St) : Option (V × St) := match c, x with
  | .int k, .int _ n => some (.int k (k.wrap n), st)
  | .str, .str s => some (.str s, st)
  | .strBytes, .str s => some (.slice (some (st.next, 0)) s.length (.opn 1), st.new (.cells (ofBytes s) (some 1)))
  | .bytesStr, .slice none _ _ => some (.str [], st)
  | .bytesStr, .slice (some (b, off)) n _ => do
    let l ← loadN st b off n
    let s ← bytesOf l
    some (.str s, st)
  | .bytesBytes, .slice (some (b, off)) n (.is c) => match st.mem b with
    | some (.cells _ (some 0)) => some (.slice (some (b, off)) n (.is c), st)
    | _ => none
  | _, _ => none

def bound (x : V) (most : Nat) : Option Nat := match x with
  | .int _ i => if 0 ≤ i ∧ i ≤ most then some i.toNat else none
  | _ => none
def boundO (x : Option V) (most dflt : Nat) : Option Nat := match x with | some x => bound x most | none => some dflt

/-- 'x[lo:hi:mx]'. A slice of unknown capacity may be cut up to the cells that are known. -/
def sliceV (s : Shp) (size : Nat) (x : V) (lo hi mx : Option V) : Option V := match s, x with
  | .str, .str l => do
    let h ← boundO hi l.length l.length
    let a ← boundO lo h 0
    if mx.isSome then none else some (.str ((l.drop a).take (h - a)))
  | .slice, .slice none _ _ => do
    let m ← boundO mx 0 0
    let h ← boundO hi m 0
    let l ← boundO lo h 0
    some (.slice none (h - l) (.is (m - l)))
  | .slice, .slice (some (b, off)) n (.is c) => do
    let m ← boundO mx c c
    let h ← boundO hi m n
    let l ← boundO lo h 0
    some (.slice (some (b, if m = l then off else off + l * size)) (h - l) (.is (m - l)))
  | .slice, .slice (some (b, off)) n (.opn sz) => do
    let h ← boundO hi n n
    let l ← boundO lo h 0
    if mx.isNone ∧ sz = size then some (.slice (some (b, off + l * size)) (h - l) (.opn sz)) else none
  | .arr n, .ptr (some (b, off)) => do
    let m ← boundO mx n n
    let h ← boundO hi m n
    let l ← boundO lo h 0
    some (.slice (some (b, if m = l then off else off + l * size)) (h - l) (.is (m - l)))
  | _, _ => none

def asIdx (x : V) (n : Nat) : Option Nat := match x with
  | .int _ i => if 0 ≤ i ∧ i < n then some i.toNat else none
  | _ => none

/-- The cells that are appended or copied. -/
def srcCells (st : St) (size : Nat) (x : V) : Option (List V) := match x with
  | .slice none _ _ => some []
  | .slice (some (b, off)) n _ => loadN st b off (n * size)
  | .str s => if size = 1 then some (ofBytes s) else none
  | _ => none
def srcLen (x : V) : Option Nat := match x with
  | .slice _ n _ => some n
  | .str s => some s.length
  | _ => none

def rep (zs : List V) (n : Nat) : List V := (List.replicate n zs).flatten

/-- Nothing that grows has more bytes than these. -/
def roof : Nat := 2 ^ 40

def fits : V → Bool
  | .slice none _ _ | .slice _ _ (.opn _) => true
  | .slice _ n (.is c) => n ≤ c
  | _ => false

/-- 'append': what is appended, as cells, 'n' elements. If the capacity is known and suffices: in place. If it is known and does not: a new block
whose capacity is open. If it is not known: what is known of the block beyond the slice's end is used; else the slice goes into a new
block number, and the old one is gone. -/
def appendV (st : St) (size bytes : Nat) (s : V) (n : Nat) (new : List V) : Option (V × St) := if n = 0 then (if fits s then some (s, st) else none) else if new.length ≠ n * size then none else match s with
  | .slice base len (.is cap) =>
    if len + n ≤ cap then
      match base with
      | some (b, off) => do
        let st' ← storeN st b (off + len * size) new
        some (.slice base (len + n) (.is cap), st')
      | none => some (.slice none (len + n) (.is cap), st)
    else if (len + n) * bytes ≤ roof ∧ len + n ≤ roof then do
      let old ← srcCells st size s
      some (.slice (some (st.next, 0)) (len + n) (.opn size), st.new (.cells (old ++ new) (some size)))
    else none
  | .slice (some (b, off)) len (.opn sz) =>
    if sz ≠ size then none else
    match st.mem b with
    | some (.cells c (some (_ + 1))) =>
      if off + (len + n) * size ≤ c.length then do
        let st' ← storeN st b (off + len * size) new
        some (.slice (some (b, off)) (len + n) (.opn size), st')
      else if off + len * size ≤ c.length ∧ (len + n) * bytes ≤ roof ∧ len + n ≤ roof ∧ 0 < size then
        some (.slice (some (st.next, 0)) (len + n) (.opn size), (st.set b none).new (.cells ((c.drop off).take (len * size) ++ new) (some size)))
      else none
    | _ => none
  | _ => none

def appendOp (st : St) (size bytes : Nat) (zs : List V) (ofMake : Bool) (s x : V) : Option (V × St) :=
  if ofMake then match x with
    | .int _ i => if 0 ≤ i ∧ i ≤ roof ∧ i * bytes ≤ roof then appendV st size bytes s i.toNat (rep zs i.toNat) else none
    | _ => none
  else do
    let n ← srcLen x
    let new ← srcCells st size x
    appendV st size bytes s n new

def copyOp (st : St) (size : Nat) (d s : V) : Option (V × St) := match d with
  | .slice base len _ => do
    let m ← srcLen s
    let new ← srcCells st size s
    let n := min m len
    match base with
    | some (b, off) => do
      let st' ← storeN st b off (new.take (n * size))
      some (.int .i64 n, st')
    | none => some (.int .i64 n, st)
  | _ => none

/-- Parts (an offset, how many cells, a value) put into cells. -/
def fillAt (parts : List (Nat × Nat × V)) (cells : List V) : Option (List V) := match parts with
  | [] => some cells
  | (off, n, v) :: r => match v.cells with
    | some l => if l.length = n ∧ off + n ≤ cells.length then fillAt r (splice cells off l) else none
    | none => none

def evAll (e : Env) (l : List X) : List V := l.map (·.ev e)

/-- What an operation that runs no code of the program does: its value and the state behind it. -/
def step1 (op : Op) (e : Env) (st : St) : Option (V × St) := match op with
  | .mv x => some (x.ev e, st)
  | .pick c a b => match c.ev e with
    | .bool t => some (if t then a.ev e else b.ev e, st)
    | _ => none
  | .alloc zs => some (.ptr (some (st.next, 0)), st.new (.cells zs none))
  | .box x => (x.ev e).cells.map fun c => (.ptr (some (st.next, 0)), st.new (.cells c none))
  | .build zs parts => (fillAt (parts.map fun p => (p.1, p.2.1, p.2.2.ev e)) zs).map fun c => (.agg c, st)
  | .buildSlice len size zs parts => (fillAt (parts.map fun p => (p.1 * size, size, p.2.ev e)) (rep zs len)).map fun c =>
        (.slice (some (st.next, 0)) len (.is len), st.new (.cells c (some 0)))
  | .load n agg a => match a.ev e with
    | .ptr (some (b, off)) => do
      let l ← loadN st b off n
      let v ← pack agg l
      some (v, st)
    | _ => none
  | .store n a x => match a.ev e with
    | .ptr (some (b, off)) => match (x.ev e).cells with
      | some l => if l.length = n then (storeN st b off l).map fun st' => (.undef, st') else none
      | none => none
    | _ => none
  | .nilCheck x => match x.ev e with
    | .ptr none | .nilIface | .nilFunc => none
    | v => some (v, st)
  | .bin op x y => (bin op (x.ev e) (y.ev e)).map fun v => (v, st)
  | .eq neg t x y => (eqS st t (x.ev e) (y.ev e)).map fun b => (.bool (if neg then !b else b), st)
  | .un op x => (un op (x.ev e)).map fun v => (v, st)
  | .conv c x => convV c (x.ev e) st
  | .mkIface t x => some (.iface t (x.ev e), st)
  | .mkFunc f first captured => some (.func f (evAll e first) (evAll e captured), st)
  | .mkMap => some (.map (some st.next), st.new (.map [] 0))
  | .mkSlice size bytes zs len cap => match len.ev e, cap.ev e with
    | .int _ l, .int _ c =>
      if 0 ≤ l ∧ l ≤ c ∧ c * bytes ≤ roof ∧ c ≤ roof then
        some (.slice (some (st.next, 0)) l.toNat (.is c.toNat), st.new (.cells (rep zs c.toNat) none))
      else none
    | _, _ => none
  | .slice s size x lo hi mx => (sliceV s size (x.ev e) (lo.map (·.ev e)) (hi.map (·.ev e)) (mx.map (·.ev e))).map fun v => (v, st)
  | .fieldAddr off x => match x.ev e with
    | .ptr (some (b, o)) => some (.ptr (some (b, o + off)), st)
    | _ => none
  | .field off n agg x => match x.ev e with
    | .agg cs => (pack agg ((cs.drop off).take n)).map fun v => (v, st)
    | _ => none
  | .indexAddr s size x i => match s, x.ev e with
    | .arr n, .ptr (some (b, off)) => (asIdx (i.ev e) n).map fun k => (.ptr (some (b, off + k * size)), st)
    | .slice, .slice (some (b, off)) n _ => (asIdx (i.ev e) n).map fun k => (.ptr (some (b, off + k * size)), st)
    | _, _ => none
  | .index s size agg x i => match s, x.ev e with
    | .arr n, .agg cs => do
      let k ← asIdx (i.ev e) n
      let v ← pack agg ((cs.drop (k * size)).take size)
      some (v, st)
    | .str, .str l => do
      let k ← asIdx (i.ev e) l.length
      let b ← l[k]?
      some (.int .u8 b.toNat, st)
    | _, _ => none
  | .lookup t zero ok m k => do
    let es ← match m.ev e with
      | .map none => some []
      | .map (some r) => match st.mem r with
        | some (.map es _) => some es
        | _ => none
      | _ => none
    let r ← findKey t (k.ev e) es 0
    let (v, is) := match r with | some (_, v) => (v, true) | none => (zero, false)
    some (if ok then .tuple [v, .bool is] else v, st)
  | .mapUpdate t m k v => match m.ev e with
    | .map (some r) => match st.mem r with
      | some (.map es clock) => do
        match ← findKey t (k.ev e) es 0 with
        | some (i, _) => some (.undef, st.set r (some (.map (es.modify i fun (k', _, b) => (k', v.ev e, b)) clock)))
        | none => some (.undef, st.set r (some (.map (es ++ [(k.ev e, v.ev e, clock)]) (clock + 1))))
      | _ => none
    | _ => none
  | .mapEntry t zero m k => match m.ev e with
    | .map (some r) => match st.mem r with
      | some (.map es clock) => do
        match ← findKey t (k.ev e) es 0 with
        | some (i, v) => do
          let (_, _, born) ← es[i]?
          some (.tuple [v, .int .i64 born], st)
        | none => some (.tuple [zero, .int .i64 clock], st.set r (some (.map (es ++ [(k.ev e, zero, clock)]) (clock + 1))))
      | _ => none
    | _ => none
  | .entryStore m s v => match m.ev e, s.ev e with
    | .map (some r), .int _ n => match st.mem r with
      | some (.map es clock) => do
        let i ← es.findIdx? (fun (_, _, b) => (b : Int) == n)
        some (.undef, st.set r (some (.map (es.modify i fun (k, _, b) => (k, v.ev e, b)) clock)))
      | _ => none
    | _, _ => none
  | .delete t m k => match m.ev e with
    | .map none => some (.undef, st)
    | .map (some r) => match st.mem r with
      | some (.map es clock) => do
        match ← findKey t (k.ev e) es 0 with
        | some (i, _) => some (.undef, st.set r (some (.map (es.eraseIdx i) clock)))
        | none => some (.undef, st)
      | _ => none
    | _ => none
  | .rangeStr x => match x.ev e with
    | .str s => some (.ptr (some (st.next, 0)), st.new (.strIter s 0))
    | _ => none
  | .rangeMap x => match x.ev e with
    | .map none => some (.ptr (some (st.next, 0)), st.new (.mapIter none 0 [] 0))
    | .map (some m) => match st.mem m with
      | some (.map _ clock) => some (.ptr (some (st.next, 0)), st.new (.mapIter (some m) clock [] clock))
      | _ => none
    | _ => none
  | .nextStr x => match x.ev e with
    | .ptr (some (r, 0)) => match st.mem r with
      | some (.strIter s pos) =>
        if pos < s.length then
          let (c, width) := Go.Utf8.decode ⟨⟨s⟩⟩ pos
          some (.tuple [.bool true, .int .i64 pos, .int .i32 c], st.set r (some (.strIter s (pos + width))))
        else some (.tuple [.bool false], st)
      | _ => none
    | _ => none
  | .entry x => match x.ev e with
    | .ptr (some (r, 0)) => match st.mem r with
      | some (.mapIter (some m) _ seen stepped) => match st.mem m with
        | some (.map es clock) => if clock = stepped then do
            let stamp ← seen.head?
            let (k, v, _) ← es.find? (fun (_, _, b) => b == stamp)
            some (.tuple [k, v], st)
          else none
        | _ => none
      | _ => none
    | _ => none
  | .extract x i => match x.ev e with
    | .tuple vs => (vs[i]?).map fun v => (v, st)
    | _ => none
  | .len s x => match s, x.ev e with
    | .str, .str l => some (.int .i64 l.length, st)
    | .slice, .slice _ n _ => some (.int .i64 n, st)
    | .arr n, _ => some (.int .i64 n, st)
    | .map, .map none => some (.int .i64 0, st)
    | .map, .map (some r) => match st.mem r with
      | some (.map es _) => some (.int .i64 es.length, st)
      | _ => none
    | _, _ => none
  | .append size bytes zs ofMake s x => appendOp st size bytes zs ofMake (s.ev e) (x.ev e)
  | .copy size d s => copyOp st size (d.ev e) (s.ev e)
  | .clear zs x => match x.ev e with
    | .map none | .slice none _ _ | .slice _ 0 _ => some (.undef, st)
    | .map (some r) => match st.mem r with
      | some (.map _ clock) => some (.undef, st.set r (some (.map [] clock)))
      | _ => none
    | .slice (some (b, off)) n _ => if zs.isEmpty then none else (storeN st b off (rep zs n)).map fun st' => (.undef, st')
    | _ => none
  | .minmax mx x y => match x.ev e, y.ev e with
    | .int k a, .int _ b => some (.int k (if mx then (if b > a then b else a) else (if b < a then b else a)), st)
    | _, _ => none
  | .typeAssert t zero ok x => match x.ev e with
    | .iface t' v => if t' = t then some (if ok then .tuple [v, .bool true] else v, st)
      else if ok then some (.tuple [zero, .bool false], st) else none
    | .nilIface => if ok then some (.tuple [zero, .bool false], st) else none
    | _ => none
  | .nextMap _ | .call _ _ | .callv _ _ | .panic _ | .bad => none

/-- A read reads the same behind a change. -/
def Same (op : Op) (e : Env) (st st' : St) : Prop := ∀ v, step1 op e st = some (v, st) → step1 op e st' = some (v, st')

end Cub

/- The meaning of own code: 'Ex XP task st Q': from the state st on, every way of the task ends, in a result and a state of which Q holds. -/
namespace Cub

inductive Out where
  | normal
  | exit (id : Nat)
  | goto (l : Nat)
  | ret
  deriving Inhabited, DecidableEq

/-- What a frame has: temporaries, and the calls that were deferred (the last one first). -/
structure Fr where
  env : Env
  dfr : List (V × List V)

def Fr.put (fr : Fr) (i : Option Nat) (v : V) : Fr := { fr with env := updO fr.env i v }

inductive Task where
  | code (c : Code) (fr : Fr)
  | steps (l : List Step) (fr : Fr)
  | call (f : Nat) (args : List V)
  | callv (f : V) (args : List V)
  | inScope (c d : Code) (fr : Fr)

inductive Rs where
  | code (o : Out) (fr : Fr)
  | vals (v : V)

def Step.wanted (s : Step) (e : Env) : Prop := match s.guard with | none => True | some (t, b) => e t = .bool b

def resOne (e : Env) (st : St) : ResVar → Option V
  | .t i => some (e i)
  | .cell i n agg => match e i with
    | .ptr (some (b, off)) => do pack agg (← loadN st b off n)
    | _ => none
def resAll (e : Env) (st : St) : List ResVar → Option (List V)
  | [] => some []
  | r :: rs => do
    let v ← resOne e st r
    let vs ← resAll e st rs
    some (v :: vs)
/-- What a function hands back. -/
def resV (rs : List ResVar) (e : Env) (st : St) : Option V := do
  match ← resAll e st rs with
  | [v] => some v
  | vs => some (.tuple vs)

def enterEnv (args : List V) : Env := fun i => args.getD i .undef

def findLabel : Code → Nat → Option Code
  | .seq a b, l => match findLabel a l with
    | some rest => some (.seq rest b)
    | none => findLabel b l
  | .label l', l => if l' = l then some .skip else none
  | _, _ => none

def setParams (e : Env) : List Nat → List V → Env
  | p :: ps, v :: vs => setParams (upd e p v) ps vs
  | _, _ => e

/-- The jump that a round of a loop over a function leaves, or none. -/
def jumpOf : Out → Option Code
  | .normal => none
  | .ret => some .ret
  | .exit id => some (.exit id)
  | .goto l => some (.goto l)

/-- The entries that an iterator may go to next (none: the end). -/
def nextOf (es : List (V × V × Nat)) (since : Nat) (seen : List Nat) : List (Option (V × V × Nat)) :=
  let left := es.filter fun (_, _, b) => !seen.contains b
  let old := left.filter fun (_, _, b) => b < since
  let new := left.filter fun (_, _, b) => since ≤ b
  (if old.isEmpty then [none] else []) ++ (old ++ new).map some

mutual
-- A value that holds no address.
def noAddr : V → Bool
  | .bool _ | .int _ _ | .str _ | .nilFunc | .nilIface => true
  | .ptr a => a.isNone
  | .slice a _ _ => a.isNone
  | .map a => a.isNone
  | .func _ a b => noAddrs a && noAddrs b
  | .yield _ => false
  | .iface _ v => noAddr v
  | .agg l => noAddrs l
  | .tuple l => noAddrs l
def noAddrs : List V → Bool
  | [] => true
  | v :: l => noAddr v && noAddrs l
end

mutual
-- A value with other numbers of blocks.
def ren (ρ : Nat → Nat) : V → V
  | .bool b => .bool b
  | .int k n => .int k n
  | .str s => .str s
  | .ptr none => .ptr none
  | .ptr (some (b, o)) => .ptr (some (ρ b, o))
  | .slice none n c => .slice none n c
  | .slice (some (b, o)) n c => .slice (some (ρ b, o)) n c
  | .map none => .map none
  | .map (some r) => .map (some (ρ r))
  | .func f a b => .func f (rens ρ a) (rens ρ b)
  | .yield l => .yield (ρ l)
  | .nilFunc => .nilFunc
  | .iface t v => .iface t (ren ρ v)
  | .nilIface => .nilIface
  | .agg l => .agg (rens ρ l)
  | .tuple l => .tuple (rens ρ l)
def rens (ρ : Nat → Nat) : List V → List V
  | [] => []
  | v :: l => ren ρ v :: rens ρ l
end
theorem rens_map (ρ : Nat → Nat) : ∀ l, rens ρ l = l.map (ren ρ)
  | [] => rfl
  | v :: l => by simp [rens, rens_map ρ l]

def isCells (o : Option Obj) : Prop := match o with
  | some (.cells _ _) => True
  | some (.ro _) => True
  | _ => False
inductive Ex (XP : Nat → Option Fun) : Task → St → (Rs → St → Prop) → Prop
  -- the steps of a region
  | nil {fr : Fr} {st : St} {Q : Rs → St → Prop} (h : Q (.code .normal fr) st) : Ex XP (.steps [] fr) st Q
  | unwanted {s : Step} {l : List Step} {fr : Fr} {st : St} {Q : Rs → St → Prop} (hw : ¬ s.wanted fr.env)
      (h : Ex XP (.steps l (fr.put s.dst .undef)) st Q) : Ex XP (.steps (s :: l) fr) st Q
  | one {s : Step} {l : List Step} {fr : Fr} {st st' : St} {v : V} {Q : Rs → St → Prop} (hw : s.wanted fr.env)
      (h1 : step1 s.op fr.env st = some (v, st')) (hs : ∀ r ∈ s.stable, Same r fr.env st st')
      (h : Ex XP (.steps l (fr.put s.dst v)) st' Q) : Ex XP (.steps (s :: l) fr) st Q
  | stepCall {s : Step} {l : List Step} {fr : Fr} {st : St} {Q Q1 : Rs → St → Prop} {f : Nat} {args : List X} (hw : s.wanted fr.env)
      (ho : s.op = .call f args) (h1 : Ex XP (.call f (evAll fr.env args)) st Q1)
      (hv : ∀ r st', Q1 r st' → ∃ v, r = .vals v) (hs : ∀ v st', Q1 (.vals v) st' → ∀ o ∈ s.stable, Same o fr.env st st')
      (h : ∀ v st', Q1 (.vals v) st' → Ex XP (.steps l (fr.put s.dst v)) st' Q) :
      Ex XP (.steps (s :: l) fr) st Q
  | stepCallv {s : Step} {l : List Step} {fr : Fr} {st : St} {Q Q1 : Rs → St → Prop} {f : X} {args : List X} (hw : s.wanted fr.env)
      (ho : s.op = .callv f args) (h1 : Ex XP (.callv (f.ev fr.env) (evAll fr.env args)) st Q1)
      (hv : ∀ r st', Q1 r st' → ∃ v, r = .vals v) (hs : ∀ v st', Q1 (.vals v) st' → ∀ o ∈ s.stable, Same o fr.env st st')
      (h : ∀ v st', Q1 (.vals v) st' → Ex XP (.steps l (fr.put s.dst v)) st' Q) :
      Ex XP (.steps (s :: l) fr) st Q
  | nextMapNil {s : Step} {l : List Step} {fr : Fr} {st : St} {Q : Rs → St → Prop} {x : X} {r since : Nat} {seen : List Nat} {stepped : Nat} (hw : s.wanted fr.env)
      (ho : s.op = .nextMap x) (hx : x.ev fr.env = .ptr (some (r, 0))) (hr : st.mem r = some (.mapIter none since seen stepped))
      (h : Ex XP (.steps l (fr.put s.dst (.tuple [.bool false]))) st Q) : Ex XP (.steps (s :: l) fr) st Q
  | nextMap {s : Step} {l : List Step} {fr : Fr} {st : St} {Q : Rs → St → Prop} {x : X} {r m since : Nat} {seen : List Nat} {stepped : Nat}
      {es : List (V × V × Nat)} {clock : Nat} (hw : s.wanted fr.env)
      (ho : s.op = .nextMap x) (hx : x.ev fr.env = .ptr (some (r, 0))) (hr : st.mem r = some (.mapIter (some m) since seen stepped))
      (hm : st.mem m = some (.map es clock)) (hgone : (!seen.isEmpty && !es.isEmpty && es.all (fun (_, _, b) => stepped ≤ b)) = false)
      (hs : s.stable = [])
      (hend : none ∈ nextOf es since seen → Ex XP (.steps l (fr.put s.dst (.tuple [.bool false]))) st Q)
      (hone : ∀ k v b, some (k, v, b) ∈ nextOf es since seen →
        Ex XP (.steps l (fr.put s.dst (.tuple [.bool true, k, v]))) (st.set r (some (.mapIter (some m) since (b :: seen) clock))) Q) :
      Ex XP (.steps (s :: l) fr) st Q
  -- code
  | skip {fr : Fr} {st : St} {Q : Rs → St → Prop} (h : Q (.code .normal fr) st) : Ex XP (.code .skip fr) st Q
  | label {n : Nat} {fr : Fr} {st : St} {Q : Rs → St → Prop} (h : Q (.code .normal fr) st) : Ex XP (.code (.label n) fr) st Q
  | exit {id : Nat} {fr : Fr} {st : St} {Q : Rs → St → Prop} (h : Q (.code (.exit id) fr) st) : Ex XP (.code (.exit id) fr) st Q
  | goto {l : Nat} {fr : Fr} {st : St} {Q : Rs → St → Prop} (h : Q (.code (.goto l) fr) st) : Ex XP (.code (.goto l) fr) st Q
  | ret {fr : Fr} {st : St} {Q : Rs → St → Prop} (h : Q (.code .ret fr) st) : Ex XP (.code .ret fr) st Q
  | region {l : List Step} {fr : Fr} {st : St} {Q : Rs → St → Prop} (h : Ex XP (.steps l fr) st Q) : Ex XP (.code (.region l) fr) st Q
  | seq {a b : Code} {fr : Fr} {st : St} {Q Q1 : Rs → St → Prop} (h1 : Ex XP (.code a fr) st Q1)
      (hn : ∀ fr' st', Q1 (.code .normal fr') st' → Ex XP (.code b fr') st' Q)
      (ho : ∀ o fr' st', o ≠ .normal → Q1 (.code o fr') st' → Q (.code o fr') st') : Ex XP (.code (.seq a b) fr) st Q
  | cond {c : X} {a b : Code} {fr : Fr} {st : St} {Q : Rs → St → Prop} {t : Bool} (hc : c.ev fr.env = .bool t)
      (h : Ex XP (.code (if t then a else b) fr) st Q) : Ex XP (.code (.cond c a b) fr) st Q
  | block {id : Nat} {c : Code} {fr : Fr} {st : St} {Q Q1 : Rs → St → Prop} (h1 : Ex XP (.code c fr) st Q1)
      (h : ∀ o fr' st', Q1 (.code o fr') st' → Q (.code (if o = .exit id then .normal else o) fr') st') : Ex XP (.code (.block id c) fr) st Q
  | loop {c : Code} {fr : Fr} {st : St} {Q Q1 : Rs → St → Prop} (h1 : Ex XP (.code c fr) st Q1)
      (hn : ∀ fr' st', Q1 (.code .normal fr') st' → Ex XP (.code (.loop c) fr') st' Q)
      (ho : ∀ o fr' st', o ≠ .normal → Q1 (.code o fr') st' → Q (.code o fr') st') : Ex XP (.code (.loop c) fr) st Q
  | scope {c : Code} {fr : Fr} {st : St} {Q : Rs → St → Prop} (h : Ex XP (.inScope c c fr) st Q) : Ex XP (.code (.scope c) fr) st Q
  | inScope {c d : Code} {fr : Fr} {st : St} {Q Q1 : Rs → St → Prop} (h1 : Ex XP (.code d fr) st Q1)
      (hg : ∀ l rest fr' st', Q1 (.code (.goto l) fr') st' → findLabel c l = some rest → Ex XP (.inScope c rest fr') st' Q)
      (ho : ∀ o fr' st', Q1 (.code o fr') st' → (∀ l, o = .goto l → findLabel c l = none) → Q (.code o fr') st') : Ex XP (.inScope c d fr) st Q
  | rangeFunc {f : X} {ps : List Nat} {assign body : Code} {fr : Fr} {st : St} {Q Q1 : Rs → St → Prop}
      (h1 : Ex XP (.callv (f.ev fr.env) [.yield st.next]) (st.new (.loop .ready none fr.env ps assign body)) Q1)
      (hr : ∀ r st', Q1 r st' → ∃ v s j e ps' a b, r = .vals v ∧ st'.mem st.next = some (.loop s j e ps' a b) ∧ s ≠ .busy)
      (hn : ∀ v st' s e ps' a b, Q1 (.vals v) st' → st'.mem st.next = some (.loop s none e ps' a b) →
        Q (.code .normal fr) (st'.set st.next (some (.loop .exhausted none e ps' a b))))
      (hj : ∀ v st' s c e ps' a b, Q1 (.vals v) st' → st'.mem st.next = some (.loop s (some c) e ps' a b) →
        Ex XP (.code c fr) (st'.set st.next (some (.loop .exhausted (some c) e ps' a b))) Q) :
      Ex XP (.code (.rangeFunc f ps assign body) fr) st Q
  -- calls
  | call {f : Nat} {args : List V} {st : St} {Q Q1 : Rs → St → Prop} {fn : Fun} (hf : XP f = some fn)
      (h1 : Ex XP (.code fn.body ⟨enterEnv args, []⟩) st Q1)
      (h : ∀ r st', Q1 r st' → ∃ o fr v, r = .code o fr ∧ (o = .normal ∨ o = .ret) ∧ fr.dfr = [] ∧ resV fn.results fr.env st' = some v ∧ Q (.vals v) st') :
      Ex XP (.call f args) st Q
  -- a call that changes nothing of what is there, from a state that has what it may read alone (blocks by other numbers)
  | pure {f : Nat} {args : List V} {st st0 : St} {Q Q0 : Rs → St → Prop} (ρ : Nat → Nat) (h0 : Ex XP (.call f args) st0 Q0) (h64 : ∀ i, i < 64 → ρ i = i) (hn : 64 ≤ st0.next)
      (hρ : ∀ i, st0.next ≤ i → st.next ≤ ρ i) (hinj : ∀ i j, st0.mem i ≠ none → st0.mem j ≠ none → ρ i = ρ j → i = j)
      (hs : ∀ i o, st0.mem i = some o → i < st0.next ∧ isCells (st.mem (ρ i)) ∧ ∃ c, o = .ro c ∧ ∀ j v, c j = some v → v.flat = true ∧ loadN st (ρ i) j 1 = some [ren ρ v])
      (hq : ∀ r st', Q0 r st' → ∃ v, r = .vals v ∧ noAddr v = true ∧ Q (.vals v) st) : Ex XP (.call f (args.map (ren ρ))) st Q
  | callf {f : Nat} {first captured args : List V} {st : St} {Q : Rs → St → Prop} (h : Ex XP (.call f (first ++ args ++ captured)) st Q) :
      Ex XP (.callv (.func f first captured) args) st Q
  | round {l : Nat} {args : List V} {st : St} {Q Q1 Q2 : Rs → St → Prop} {j : Option Code} {e : Env} {ps : List Nat} {assign body : Code}
      (hl : st.mem l = some (.loop .ready j e ps assign body)) (hp : args.length = ps.length)
      (h1 : Ex XP (.code assign ⟨setParams e ps args, []⟩) st Q1)
      (hv1 : ∀ r st1, Q1 r st1 → ∃ fr j1 e1 ps1 a1 b1, r = .code .normal fr ∧ fr.dfr = [] ∧ st1.mem l = some (.loop .ready j1 e1 ps1 a1 b1))
      (h2 : ∀ fr st1 j1 e1 ps1 a1 b1, Q1 (.code .normal fr) st1 → st1.mem l = some (.loop .ready j1 e1 ps1 a1 b1) → Ex XP (.code body fr) (st1.set l (some (.loop .busy j1 e1 ps1 a1 b1))) Q2)
      (h3 : ∀ r st2, Q2 r st2 → ∃ o fr j2 e2 ps2 a2 b2, r = .code o fr ∧ fr.dfr = [] ∧ st2.mem l = some (.loop .busy j2 e2 ps2 a2 b2) ∧
        Q (.vals (.bool (jumpOf o).isNone)) (st2.set l (some (.loop (if (jumpOf o).isNone then .ready else .done) (jumpOf o) e2 ps2 a2 b2)))) :
      Ex XP (.callv (.yield l) args) st Q

/-- What is known of the end may be weakened. -/
theorem Ex.mono {XP : Nat → Option Fun} {t : Task} {st : St} {Q Q' : Rs → St → Prop} (h : Ex XP t st Q) (hq : ∀ r st', Q r st' → Q' r st') : Ex XP t st Q' := by
  induction h generalizing Q' with
  | nil h => exact .nil (hq _ _ h)
  | unwanted hw _ ih => exact .unwanted hw (ih hq)
  | one hw h1 hs _ ih => exact .one hw h1 hs (ih hq)
  | stepCall hw ho h1 hv hs _ _ ih => exact .stepCall hw ho h1 hv hs fun v st' h => ih v st' h hq
  | stepCallv hw ho h1 hv hs _ _ ih => exact .stepCallv hw ho h1 hv hs fun v st' h => ih v st' h hq
  | nextMapNil hw ho hx hr _ ih => exact .nextMapNil hw ho hx hr (ih hq)
  | nextMap hw ho hx hr hm hg hs _ _ ih1 ih2 => exact .nextMap hw ho hx hr hm hg hs (fun h => ih1 h hq) (fun k v b h => ih2 k v b h hq)
  | skip h => exact .skip (hq _ _ h)
  | label h => exact .label (hq _ _ h)
  | exit h => exact .exit (hq _ _ h)
  | goto h => exact .goto (hq _ _ h)
  | ret h => exact .ret (hq _ _ h)
  | region _ ih => exact .region (ih hq)
  | seq h1 _ ho _ ihn => exact .seq h1 (fun fr' st' h => ihn fr' st' h hq) (fun o fr' st' hne h => hq _ _ (ho o fr' st' hne h))
  | cond hc _ ih => exact .cond hc (ih hq)
  | block h1 h _ => exact .block h1 fun o fr' st' hh => hq _ _ (h o fr' st' hh)
  | loop h1 _ ho _ ihn => exact .loop h1 (fun fr' st' h => ihn fr' st' h hq) (fun o fr' st' hne h => hq _ _ (ho o fr' st' hne h))
  | scope _ ih => exact .scope (ih hq)
  | inScope h1 _ ho _ ihg => exact .inScope h1 (fun l r fr' st' h e => ihg l r fr' st' h e hq) (fun o fr' st' h e => hq _ _ (ho o fr' st' h e))
  | rangeFunc h1 hr hn _ _ ihj => exact .rangeFunc h1 hr (fun v st' s e ps a b h e1 => hq _ _ (hn v st' s e ps a b h e1)) (fun v st' s c e ps a b h e1 => ihj v st' s c e ps a b h e1 hq)
  | call hf h1 h _ =>
    exact .call hf h1 fun r st' hh => by
      obtain ⟨o, fr, v, e1, e2, e3, e4, e5⟩ := h r st' hh
      exact ⟨o, fr, v, e1, e2, e3, e4, hq _ _ e5⟩
  | pure ρ h0 h64 hn hρ hinj hs hv _ =>
    exact .pure ρ h0 h64 hn hρ hinj hs fun r st' hh => by
      obtain ⟨v, e1, e2, e3⟩ := hv r st' hh
      exact ⟨v, e1, e2, hq _ _ e3⟩
  | callf _ ih => exact .callf (ih hq)
  | round hl hp h1 hv1 h2 h3 _ _ =>
    exact .round hl hp h1 hv1 h2 fun r st2 hh => by
      obtain ⟨o, fr, j2, x1, x2, x3, x4, e1, e2, e3, e4⟩ := h3 r st2 hh
      exact ⟨o, fr, j2, x1, x2, x3, x4, e1, e2, e3, hq _ _ e4⟩

end Cub

/- How own values, states and frames stand to those of the model. -/
namespace Cub
open Go (Value World Addr TypeId FuncId Program)

/-- Where a block lies: the block of the model, from which offset on; of an open one: the cells of an element, and how many cells there are. -/
structure Loc where
  blk : Nat
  off : Nat
  sz : Nat
  tot : Nat

abbrev Sg := Nat → Option Loc

/-- A translation: the program, and the numbers that functions, types of interface values and globals have in it. -/
structure Seat where
  P : Program
  φ : Nat → FuncId
  τ : Nat → TypeId
  γ : Nat → Option Nat

def AR (σ : Sg) (a : Nat × Nat) (a' : Addr) : Prop := ∃ l, σ a.1 = some l ∧ a' = ⟨l.blk, l.off + a.2, none⟩

mutual
def VR (S : Seat) (σ : Sg) (v : V) (u : Value) : Prop := match v with
  | .bool b => u = .bool b
  | .int k n => u = .int k n
  | .str s => u = .string ⟨⟨s⟩⟩
  | .ptr none => u = .pointer none
  | .ptr (some a) => ∃ a', u = .pointer (some a') ∧ AR σ a a'
  | .slice none n c => u = .slice none 0 0 ∧ n = 0 ∧ c = .is 0
  | .slice (some a) n (.is c) => ∃ a', u = .slice (some a') n c ∧ AR σ a a'
  | .slice (some a) n (.opn sz) => ∃ l, σ a.1 = some l ∧ l.sz = sz ∧
      ((∃ c, u = .slice (some ⟨l.blk, l.off + a.2, none⟩) n c ∧ a.2 + c * l.sz = l.tot ∧ n ≤ c) ∨ (n = 0 ∧ a.2 = l.tot ∧ ∃ a', u = .slice (some a') 0 0))
  | .map none => u = .map none
  | .map (some r) => ∃ l, σ r = some l ∧ u = .map (some l.blk)
  | .func f first captured => ∃ first' captured', u = .func (.func (S.φ f)) first' captured' ∧ VRs S σ first first'.toList ∧ VRs S σ captured captured'.toList
  | .yield r => ∃ l, σ r = some l ∧ u = .func (.yield l.blk) #[] #[]
  | .nilFunc => u = .nilFunc
  | .iface t x => ∃ y, u = .iface (S.τ t) y ∧ VR S σ x y
  | .nilIface => u = .nilIface
  | .agg cs => ∃ cs', u = .agg cs' ∧ VRs S σ cs cs'.toList ∧ cs.all V.flat = true
  | .tuple vs => ∃ vs', u = .tuple vs' ∧ VRs S σ vs vs'.toList
def VRs (S : Seat) (σ : Sg) (l : List V) (us : List Value) : Prop := match l with
  | [] => us = []
  | v :: r => ∃ u us', us = u :: us' ∧ VR S σ v u ∧ VRs S σ r us'
end

def Sg.le (σ σ' : Sg) : Prop := ∀ i l, σ i = some l → σ' i = some l
theorem Sg.le_refl (σ : Sg) : σ.le σ := fun _ _ h => h
theorem Sg.le_trans {a b c : Sg} (h : a.le b) (h' : b.le c) : a.le c := fun i l e => h' i l (h i l e)

theorem AR.le {σ σ' : Sg} (h : σ.le σ') {a : Nat × Nat} {a' : Addr} (r : AR σ a a') : AR σ' a a' := by
  obtain ⟨l, e, e'⟩ := r
  exact ⟨l, h _ _ e, e'⟩

mutual
theorem VR.le {S : Seat} {σ σ' : Sg} (h : σ.le σ') : ∀ (v : V) (u : Value), VR S σ v u → VR S σ' v u
  | .bool b, u, r => by simpa only [VR] using r
  | .int k n, u, r => by simpa only [VR] using r
  | .str s, u, r => by simpa only [VR] using r
  | .ptr none, u, r => by simpa only [VR] using r
  | .ptr (some a), u, r => by
    simp only [VR] at r ⊢
    obtain ⟨a', e, x⟩ := r
    exact ⟨a', e, x.le h⟩
  | .slice none n c, u, r => by simpa only [VR] using r
  | .slice (some a) n (.is c), u, r => by
    simp only [VR] at r ⊢
    obtain ⟨a', e, x⟩ := r
    exact ⟨a', e, x.le h⟩
  | .slice (some a) n (.opn sz), u, r => by
    simp only [VR] at r ⊢
    obtain ⟨l, e, x⟩ := r
    exact ⟨l, h _ _ e, x⟩
  | .map none, u, r => by simpa only [VR] using r
  | .map (some b), u, r => by
    simp only [VR] at r ⊢
    obtain ⟨l, e, x⟩ := r
    exact ⟨l, h _ _ e, x⟩
  | .func f first captured, u, r => by
    simp only [VR] at r ⊢
    obtain ⟨a, b, e, x, y⟩ := r
    exact ⟨a, b, e, VRs.le h _ _ x, VRs.le h _ _ y⟩
  | .yield b, u, r => by
    simp only [VR] at r ⊢
    obtain ⟨l, e, x⟩ := r
    exact ⟨l, h _ _ e, x⟩
  | .nilFunc, u, r => by simpa only [VR] using r
  | .iface t x, u, r => by
    simp only [VR] at r ⊢
    obtain ⟨y, e, z⟩ := r
    exact ⟨y, e, VR.le h _ _ z⟩
  | .nilIface, u, r => by simpa only [VR] using r
  | .agg cs, u, r => by
    simp only [VR] at r ⊢
    obtain ⟨y, e, z, f⟩ := r
    exact ⟨y, e, VRs.le h _ _ z, f⟩
  | .tuple vs, u, r => by
    simp only [VR] at r ⊢
    obtain ⟨y, e, z⟩ := r
    exact ⟨y, e, VRs.le h _ _ z⟩
theorem VRs.le {S : Seat} {σ σ' : Sg} (h : σ.le σ') : ∀ (l : List V) (us : List Value), VRs S σ l us → VRs S σ' l us
  | [], us, r => by simpa only [VRs] using r
  | v :: l, us, r => by
    simp only [VRs] at r ⊢
    obtain ⟨u, us', e, x, y⟩ := r
    exact ⟨u, us', e, VR.le h _ _ x, VRs.le h _ _ y⟩
end

section lists
variable {S : Seat} {σ : Sg}
theorem VRs.length : ∀ {l : List V} {us : List Value}, VRs S σ l us → us.length = l.length
  | [], us, r => by simp only [VRs] at r; subst r; rfl
  | v :: l, us, r => by
    simp only [VRs] at r
    obtain ⟨u, us', rfl, _, y⟩ := r
    simp [VRs.length y]
theorem VRs.get : ∀ {l : List V} {us : List Value}, VRs S σ l us → ∀ (i : Nat) (v : V), l[i]? = some v → ∃ u, us[i]? = some u ∧ VR S σ v u
  | [], us, r, i, v, e => by simp at e
  | v :: l, us, r, i, x, e => by
    simp only [VRs] at r
    obtain ⟨u, us', rfl, h, y⟩ := r
    cases i with
    | zero => simp at e; subst e; exact ⟨u, by simp, h⟩
    | succ i => simpa using VRs.get y i x (by simpa using e)
theorem VRs.append : ∀ {l m : List V} {us vs : List Value}, VRs S σ l us → VRs S σ m vs → VRs S σ (l ++ m) (us ++ vs)
  | [], m, us, vs, r, r' => by simp only [VRs] at r; subst r; simpa using r'
  | v :: l, m, us, vs, r, r' => by
    simp only [VRs] at r
    obtain ⟨u, us', rfl, h, y⟩ := r
    simp only [List.cons_append, VRs]
    exact ⟨u, us' ++ vs, rfl, h, y.append r'⟩
theorem VRs.of_get : ∀ {l : List V} {us : List Value}, us.length = l.length → (∀ (i : Nat) (v : V) (u : Value), l[i]? = some v → us[i]? = some u → VR S σ v u) → VRs S σ l us
  | [], us, h, _ => by simp only [VRs]; exact List.eq_nil_of_length_eq_zero (by simpa using h)
  | v :: l, [], h, _ => by simp at h
  | v :: l, u :: us, h, g => by
    simp only [VRs]
    exact ⟨u, us, rfl, g 0 v u rfl rfl, VRs.of_get (by simpa using h) fun i x y e e' => g (i + 1) x y (by simpa using e) (by simpa using e')⟩
theorem VRs.take {l : List V} {us : List Value} (h : VRs S σ l us) (n : Nat) : VRs S σ (l.take n) (us.take n) := by
  refine VRs.of_get (by simp [h.length]) fun i v u e e' => ?_
  rw [List.getElem?_take] at e e'
  split at e
  · rename_i hi
    simp [hi] at e'
    obtain ⟨u', hu, hv⟩ := h.get i v e
    rw [hu] at e'; cases e'; exact hv
  · cases e
theorem VRs.drop {l : List V} {us : List Value} (h : VRs S σ l us) (n : Nat) : VRs S σ (l.drop n) (us.drop n) := by
  refine VRs.of_get (by simp [h.length]) fun i v u e e' => ?_
  rw [List.getElem?_drop] at e e'
  obtain ⟨u', hu, hv⟩ := h.get _ v e
  rw [hu] at e'; cases e'; exact hv
theorem VRs.nil : VRs S σ [] [] := by simp only [VRs]
theorem VRs.cons {v : V} {u : Value} {l : List V} {us : List Value} (h : VR S σ v u) (h' : VRs S σ l us) : VRs S σ (v :: l) (u :: us) := by
  simp only [VRs]; exact ⟨u, us, rfl, h, h'⟩
theorem VRs.replicate {v : List V} {u : List Value} (h : VRs S σ v u) : ∀ n, VRs S σ (List.replicate n v).flatten (List.replicate n u).flatten
  | 0 => by simpa using VRs.nil
  | n + 1 => by simpa [List.replicate_succ] using h.append (VRs.replicate h n)
theorem VRs.map {α : Type} {f : α → V} {g : α → Value} : ∀ (l : List α), (∀ x ∈ l, VR S σ (f x) (g x)) → VRs S σ (l.map f) (l.map g)
  | [], _ => by simpa using VRs.nil
  | x :: l, h => by simpa using VRs.cons (h x (by simp)) (VRs.map l fun y hy => h y (by simp [hy]))
/-- The cells of related values are related. -/
theorem VR.cells {v : V} {u : Value} (h : VR S σ v u) {l : List V} (hl : v.cells = some l) : VRs S σ l u.cells.toList ∧ l.all V.flat = true := by
  cases v with
  | agg cs =>
    simp only [VR] at h
    obtain ⟨cs', rfl, hc, hf⟩ := h
    cases hl
    exact ⟨hc, hf⟩
  | tuple vs => cases hl
  | ptr a => cases hl; cases a <;> (simp only [VR] at h; first | (subst h; exact ⟨.cons (by simp only [VR]) .nil, rfl⟩) | (obtain ⟨a', rfl, x⟩ := h; exact ⟨.cons (by simp only [VR]; exact ⟨a', rfl, x⟩) .nil, rfl⟩))
  | slice a n c =>
    cases hl
    have hu : ∃ x y z, u = .slice x y z := by
      cases a with
      | none => simp only [VR] at h; exact ⟨_, _, _, h.1⟩
      | some a => cases c with
        | is c => simp only [VR] at h; obtain ⟨a', e, _⟩ := h; exact ⟨_, _, _, e⟩
        | opn sz =>
          simp only [VR] at h
          obtain ⟨l, _, _, ⟨c, e, _⟩ | ⟨_, _, a', e⟩⟩ := h <;> exact ⟨_, _, _, e⟩
    obtain ⟨x, y, z, rfl⟩ := hu
    exact ⟨.cons h .nil, rfl⟩
  | map r => cases hl; cases r <;> (simp only [VR] at h; first | (subst h; exact ⟨.cons (by simp only [VR]) .nil, rfl⟩) | (obtain ⟨l, e, rfl⟩ := h; exact ⟨.cons (by simp only [VR]; exact ⟨l, e, rfl⟩) .nil, rfl⟩))
  | func f a b => cases hl; have h' := h; simp only [VR] at h'; obtain ⟨_, _, rfl, _⟩ := h'; exact ⟨.cons h .nil, rfl⟩
  | yield r => cases hl; have h' := h; simp only [VR] at h'; obtain ⟨_, _, rfl⟩ := h'; exact ⟨.cons h .nil, rfl⟩
  | iface t x => cases hl; have h' := h; simp only [VR] at h'; obtain ⟨_, rfl, _⟩ := h'; exact ⟨.cons h .nil, rfl⟩
  | _ => cases hl; simp only [VR] at h; subst h; exact ⟨.cons (by simp only [VR]) .nil, rfl⟩
/-- A flat value stands to one that lies in one cell. -/
theorem VR.flat {v : V} {u : Value} (h : VR S σ v u) (hf : v.flat = true) : (∀ c, u ≠ .agg c) ∧ (∀ c, u ≠ .tuple c) := by
  cases v with
  | agg cs => cases hf
  | tuple vs => cases hf
  | ptr a => cases a <;> simp only [VR] at h <;> first | (subst h; simp) | (obtain ⟨a', rfl, x⟩ := h; simp)
  | slice a n c =>
    cases a with
      | none => simp only [VR] at h; simp [h.1]
      | some a => cases c with
        | is c => simp only [VR] at h; obtain ⟨a', rfl, _⟩ := h; simp
        | opn sz =>
          simp only [VR] at h
          obtain ⟨l, _, _, ⟨c, rfl, _⟩ | ⟨_, _, a', rfl⟩⟩ := h <;> simp
  | map r => cases r <;> simp only [VR] at h <;> first | (subst h; simp) | (obtain ⟨l, e, rfl⟩ := h; simp)
  | func f a b => simp only [VR] at h; obtain ⟨_, _, rfl, _⟩ := h; simp
  | yield r => simp only [VR] at h; obtain ⟨_, _, rfl⟩ := h; simp
  | iface t x => simp only [VR] at h; obtain ⟨_, rfl, _⟩ := h; simp
  | _ => simp only [VR] at h; subst h; simp
end lists

end Cub

/- When own code is the code of a translation: operation by operation. -/
namespace Cub
open Go (Value World Addr TypeId FuncId Program Oper Operand TypeDesc)

/-- Operands, where own temporaries are of a set. -/
def XM (S : Seat) (T : Nat → Prop) (a : Operand) (x : X) : Prop := match a, x with
  | .tmp t, .t i => t = i ∧ T i
  | .const u, .c v => VR S (fun _ => none) v u
  | .global g, .g i => S.γ i = some g
  | .func f, .f i => f = S.φ i
  | _, _ => False

def Op.opnds : Op → List X
  | .mv x | .box x | .load _ _ x | .nilCheck x | .un _ x | .conv _ x | .mkIface _ x | .fieldAddr _ x | .field _ _ _ x
  | .rangeStr x | .rangeMap x | .nextStr x | .nextMap x | .entry x | .extract x _ | .len _ x | .clear _ x | .typeAssert _ _ _ x | .panic x => [x]
  | .pick c a b => [c, a, b]
  | .alloc _ | .mkMap | .bad => []
  | .build _ ps => ps.map (·.2.2)
  | .buildSlice _ _ _ ps => ps.map (·.2)
  | .store _ a x | .bin _ a x | .eq _ _ a x | .mkSlice _ _ _ a x | .indexAddr _ _ a x | .index _ _ _ a x | .lookup _ _ _ a x | .mapEntry _ _ a x
  | .delete _ a x | .append _ _ _ _ a x | .copy _ a x | .minmax _ a x => [a, x]
  | .mkFunc _ a b => a ++ b
  | .slice _ _ x l h m => [x] ++ l.toList ++ h.toList ++ m.toList
  | .mapUpdate _ m k v | .entryStore m k v => [m, k, v]
  | .call f as => .f f :: as
  | .callv f as => f :: as

/-- A type's zero value, as cells. -/
def ZeroM (S : Seat) (t : TypeId) (zs : List V) : Prop := ∃ i z, S.P.info? t = some i ∧ i.zero = some z ∧ VRs S (fun _ => none) zs z.cells.toList ∧ zs.all V.flat = true
def ZeroV (S : Seat) (t : TypeId) (v : V) : Prop := ∃ i z, S.P.info? t = some i ∧ i.zero = some z ∧ VR S (fun _ => none) v z
def SizeM (S : Seat) (t : TypeId) (n : Nat) : Prop := ∃ i, S.P.info? t = some i ∧ i.size = n
def BytesM (S : Seat) (t : TypeId) (n : Nat) : Prop := ∃ i, S.P.info? t = some i ∧ i.bytes = n
def Und (S : Seat) (t : TypeId) (d : TypeDesc) : Prop := S.P.underlying t = some d
def aggB : TypeDesc → Bool
  | .struct _ | .array _ _ => true
  | _ => false
/-- Whether a type's values are aggregates, and of how many cells they are. -/
def PackM (S : Seat) (t : TypeId) (n : Nat) (agg : Bool) : Prop := ∃ d, Und S t d ∧ aggB d = agg ∧ SizeM S t n ∧ (agg = false → n = 1)

mutual
def TyM (S : Seat) (lit : Bool) (t : TypeId) (y : Ty) : Prop := match y with
  | .bool => Und S t .bool
  | .int => ∃ k, Und S t (.int k)
  | .str => Und S t .string
  | .ptr => ∃ e n, Und S t (.pointer e) ∧ SizeM S e n ∧ n ≠ 0
  | .slice => ∃ e, Und S t (.slice e)
  | .map => ∃ k e, Und S t (.map k e)
  | .func => ∃ a b c, Und S t (.func a b c)
  | .iface m => ∃ ms, Und S t (.interface ms) ∧ m = (!ms.isEmpty && !lit)
  | .struct fs => ∃ fields, Und S t (.struct fields) ∧ S.P.stoodInHeld t = false ∧ S.P.eqGuardType S.P.depth t = false ∧ FsM S fields.toList fs
  | .none => False
def FsM (S : Seat) (fields : List Go.Field) (y : Fs) : Prop := match y with
  | .nil => fields = []
  | .cons off n agg t r => ∃ f rest, fields = f :: rest ∧ f.name ≠ "_" ∧ f.offset = off ∧ PackM S f.type n agg ∧ TyM S false f.type t ∧ FsM S rest r
end

-- How deep a type is.
mutual
def tyD : Ty → Nat
  | .struct fs => fsD fs + 1
  | _ => 1
def fsD : Fs → Nat
  | .nil => 0
  | .cons _ _ _ t r => max (tyD t) (fsD r)
end

def KeyTy : Ty → Bool
  | .int | .str | .bool => true
  | _ => false

def isC : Operand → Bool
  | .const _ => true
  | _ => false

/-- What an operation's own words are, its operands apart. -/
def OpSh (S : Seat) (fns : Nat → Prop) (o : Oper) (x : Op) : Prop := match x with
  | .mv _ => (∃ a, o.op = .move a) ∨ (∃ a, o.op = .assign a)
  | .pick _ _ _ => ∃ c a b, o.op = .pick c a b
  | .alloc zs => ∃ t, o.op = .alloc t ∧ ZeroM S t zs
  | .box _ => ∃ t a, o.op = .box t a
  | .build zs ps => ∃ t qs, o.op = .build t qs ∧ ZeroM S t zs ∧ qs.size = ps.length ∧
      ((∃ fields, Und S t (.struct fields) ∧ (∀ f ∈ fields, ∃ n, SizeM S f.type n) ∧
        ∀ (i j : Nat) a p, qs[i]? = some (j, a) → ps[i]? = some p → ∃ f, fields[j]? = some f ∧ f.offset = p.1 ∧ SizeM S f.type p.2.1) ∨
       (∃ n e s, Und S t (.array n e) ∧ SizeM S e s ∧ ∀ (i j : Nat) a p, qs[i]? = some (j, a) → ps[i]? = some p → p.1 = j * s ∧ p.2.1 = s))
  | .buildSlice len size zs ps => ∃ t qs e, o.op = .buildSlice t len qs ∧ Und S t (.slice e) ∧ SizeM S e size ∧ ZeroM S e zs ∧ zs.length = size ∧ len * size ≤ 2 ^ 24 ∧
      qs.size = ps.length ∧ ∀ (i j : Nat) a p, qs[i]? = some (j, a) → ps[i]? = some p → p.1 = j
  | .load n agg _ => ∃ t a, o.op = .load t a ∧ PackM S t n agg
  | .store n _ _ => ∃ t a b, o.op = .store t a b ∧ SizeM S t n
  | .nilCheck _ => ∃ a, o.op = .nilCheck a
  | .bin op _ _ => ∃ t t' a b, o.op = .binOp op t a b t'
  | .eq neg y _ _ => ∃ t t' a b, o.op = .binOp (if neg then .neq else .eql) t a b t' ∧ TyM S (isC a || isC b) t y ∧ tyD y ≤ 100
  | .un op _ => ∃ t a, o.op = .unOp op t a
  | .conv c _ => ∃ s d a, o.op = .convert s d a ∧ match c with
      | .int k => Und S d (.int k) ∧ ∃ k', Und S s (.int k')
      | .str => Und S d .string ∧ Und S s .string
      | .strBytes => Und S s .string ∧ ∃ e, Und S d (.slice e) ∧ Und S e (.int .u8)
      | .bytesStr => Und S d .string ∧ ∃ e, Und S s (.slice e) ∧ Und S e (.int .u8)
      | .bytesBytes => ∃ e, Und S d (.slice e) ∧ Und S e (.int .u8) ∧ s = d
  | .mkIface t _ => ∃ u a d, o.op = .makeInterface u a ∧ u = S.τ t ∧ Und S u d ∧ (∀ ms, d ≠ .interface ms)
  | .mkFunc f a b => ∃ fs cs, o.op = .makeFunc (.func (S.φ f)) fs cs ∧ fs.size = a.length ∧ cs.size = b.length ∧ fns f
  | .mkMap => ∃ t, o.op = .makeMap t none
  | .mkSlice size bytes zs _ _ => ∃ t a b e, o.op = .makeSlice t a b ∧ Und S t (.slice e) ∧ SizeM S e size ∧ BytesM S e bytes ∧ ZeroM S e zs ∧ zs.length = size
  | .slice s size _ lo hi mx => ∃ t a l h m, o.op = .slice t a l h m ∧ l.isSome = lo.isSome ∧ h.isSome = hi.isSome ∧ m.isSome = mx.isSome ∧ (mx.isSome → hi.isSome) ∧ match s with
      | .str => Und S t .string
      | .slice => ∃ e, Und S t (.slice e) ∧ SizeM S e size
      | .arr n => ∃ e, Und S t (.array n e) ∧ SizeM S e size
      | .map => False
  | .fieldAddr off _ => ∃ t a i fields f n, o.op = .fieldAddr t a i ∧ Und S t (.struct fields) ∧ fields[i]? = some f ∧ f.offset = off ∧ SizeM S f.type n ∧ n ≠ 0
  | .field off n agg _ => ∃ t a i fields f, o.op = .field t a i ∧ Und S t (.struct fields) ∧ fields[i]? = some f ∧ f.offset = off ∧ PackM S f.type n agg
  | .indexAddr s size _ _ => ∃ t a b e, o.op = .indexAddr t a b ∧ SizeM S e size ∧ match s with
      | .slice => Und S t (.slice e)
      | .arr n => Und S t (.array n e)
      | _ => False
  | .index s size agg _ _ => ∃ t a b, o.op = .index t a b ∧ match s with
      | .str => Und S t .string
      | .arr n => ∃ e, Und S t (.array n e) ∧ PackM S e size agg
      | _ => False
  | .lookup y zero ok _ _ => ∃ t a b k e, o.op = .lookup t a b ok ∧ Und S t (.map k e) ∧ TyM S false k y ∧ KeyTy y = true ∧ ZeroV S e zero
  | .mapUpdate y _ _ _ => ∃ t a b c k e, (o.op = .mapUpdate t a b c ∨ o.op = .insert t a b c) ∧ Und S t (.map k e) ∧ TyM S false k y ∧ KeyTy y = true
  | .mapEntry y zero _ _ => ∃ t a b k e, o.op = .mapEntry t a b ∧ Und S t (.map k e) ∧ TyM S false k y ∧ KeyTy y = true ∧ ZeroV S e zero
  | .entryStore _ _ _ => ∃ t a b c, o.op = .entryStore t a b c
  | .delete y _ _ => ∃ a b t k e, o.op = .call { callee := .builtin .delete, args := #[a, b], argTypes := t } ∧ (∃ t0, t[0]? = some t0 ∧ Und S t0 (.map k e)) ∧ TyM S false k y ∧ KeyTy y = true
  | .rangeStr _ => ∃ t a, o.op = .range t a ∧ Und S t .string
  | .rangeMap _ => ∃ t a k e, o.op = .range t a ∧ Und S t (.map k e)
  | .nextStr _ => ∃ a, o.op = .next a true
  | .nextMap _ => ∃ a, o.op = .next a false
  | .entry _ => ∃ a, o.op = .entry a
  | .extract _ i => ∃ a, o.op = .extract a i
  | .len s _ => ∃ a t, o.op = .call { callee := .builtin .len, args := #[a], argTypes := t } ∧ ∃ t0, t[0]? = some t0 ∧ match s with
      | .str => Und S t0 .string
      | .slice => ∃ e, Und S t0 (.slice e)
      | .arr n => ∃ e, Und S t0 (.array n e)
      | .map => ∃ k e, Und S t0 (.map k e)
  | .append size bytes zs mk _ _ => ∃ a b t e, o.op = .call { callee := .builtin .append, args := #[a, b], argTypes := t } ∧ (∃ t0, t[0]? = some t0 ∧ Und S t0 (.slice e)) ∧
      SizeM S e size ∧ BytesM S e bytes ∧ ZeroM S e zs ∧ zs.length = size ∧ 0 < size ∧
      (match t[1]? with | some t1 => ∃ d, Und S t1 d ∧ (mk = true ↔ ∃ k, d = .int k) | none => mk = false)
  | .copy size _ _ => ∃ a b t e, o.op = .call { callee := .builtin .copy, args := #[a, b], argTypes := t } ∧ (∃ t0, t[0]? = some t0 ∧ Und S t0 (.slice e)) ∧ SizeM S e size
  | .clear zs _ => ∃ a t t0 d, o.op = .call { callee := .builtin .clear, args := #[a], argTypes := t } ∧ t[0]? = some t0 ∧ Und S t0 d ∧ (∀ e, d = .slice e → ZeroM S e zs) ∧ ((∃ e, d = .slice e) ∨ (zs = [] ∧ ∃ k e, d = .map k e))
  | .minmax mx _ _ => ∃ a b t, o.op = .call { callee := .builtin (if mx then .max else .min), args := #[a, b], argTypes := t }
  | .typeAssert t zero ok _ => ∃ a u u' d, o.op = .typeAssert a u u' ok ∧ u' = S.τ t ∧ Und S u' d ∧ (∀ ms, d ≠ .interface ms) ∧ ZeroV S u' zero
  | .call f args => ∃ g as t, o.op = .call { callee := .value g, args := as, argTypes := t } ∧ as.size = args.length ∧ fns f
  | .callv _ args => ∃ g as t, o.op = .call { callee := .value g, args := as, argTypes := t } ∧ as.size = args.length
  | .panic _ => ∃ a, o.op = .panic a
  | .bad => False

/-- Two lists are alike, one by one. -/
def All2 {α β : Type} (R : α → β → Prop) : List α → List β → Prop
  | [], [] => True
  | a :: as, b :: bs => R a b ∧ All2 R as bs
  | _, _ => False

/-- What an operation does to a state. -/
inductive Kind where
  | pure | read | alloc | eff
  deriving DecidableEq
def Op.kind : Op → Kind
  | .alloc _ | .box _ | .buildSlice _ _ _ _ | .mkMap | .mkSlice _ _ _ _ _ | .rangeStr _ | .conv .strBytes _ => .alloc
  | .load _ _ _ | .lookup _ _ _ _ _ | .len .map _ | .conv .bytesStr _ | .conv .bytesBytes _ | .entry _ | .eq _ .ptr _ _ => .read
  | .rangeMap _ | .store _ _ _ | .mapUpdate _ _ _ _ | .mapEntry _ _ _ _ | .entryStore _ _ _ | .delete _ _ _ | .append _ _ _ _ _ _ | .copy _ _ _ | .clear _ _
  | .call _ _ | .callv _ _ | .nextStr _ | .nextMap _ | .panic _ | .bad => .eff
  | _ => .pure

def X.tmps : X → List Nat
  | .t i => [i]
  | _ => []
def Step.reads (s : Step) : List Nat := s.op.opnds.flatMap X.tmps ++ (match s.guard with | some (t, _) => [t] | none => [])

def edge (ops : Array Oper) (i j : Nat) : Prop := ∃ o e, ops[j]? = some o ∧ e ∈ o.after ∧ Go.Region.binds .any e = true ∧ e.on = i
/-- In every order, the one operation comes before the other. -/
inductive Pre (ops : Array Oper) : Nat → Nat → Prop
  | one {i j : Nat} (h : edge ops i j) : Pre ops i j
  | more {i j k : Nat} (h : Pre ops i j) (h' : edge ops j k) : Pre ops i k

def StepM (S : Seat) (fns : Nat → Prop) (n : Nat) (ops : Array Oper) (o : Oper) (s : Step) : Prop :=
  s.dst = o.dst ∧ (∀ d, s.dst = some d → d < n) ∧ OpSh S fns o s.op ∧ All2 (XM S (· < n)) o.op.operands.toList s.op.opnds ∧
  (match s.guard with
   | none => o.guard = none
   | some (t, b) => t < n ∧ ∃ j, o.guard = some (j, b) ∧ (ops[j]?).bind (·.dst) = some t)

/-- Steps are a region's operations in one of their orders, in which everything that may wait for no change comes ahead of it. -/
def RegM (S : Seat) (fns : Nat → Prop) (n : Nat) (ops : Array Oper) (l : List Step) : Prop :=
  ∃ ord : List Nat, ord.length = l.length ∧ ord.length = ops.size ∧ ord.Nodup ∧ (∀ i ∈ ord, i < ops.size) ∧
    (∀ (q i : Nat) (s : Step), ord[q]? = some i → l[q]? = some s → ∃ o, ops[i]? = some o ∧ StepM S fns n ops o s) ∧
    (∀ (i : Nat) (o : Oper) (e : Go.Edge), ops[i]? = some o → e ∈ o.after → Go.Region.binds .any e = true → e.on < i) ∧
    (∀ (p q : Nat) (i j : Nat) (s t : Step), p < q → ord[p]? = some i → ord[q]? = some j → l[p]? = some s → l[q]? = some t →
      ¬ Pre ops j i ∧
      (s.op.kind = .eff → Pre ops i j) ∧
      (s.op.kind = .read → t.op.kind = .eff → Pre ops i j ∨
        (s.op ∈ t.stable ∧ ∀ (r : Nat) (x : Step), p ≤ r → r < q → l[r]? = some x → ∀ d, x.dst = some d → d ∉ s.reads)) ∧
      (∀ d, s.dst = some d → (d ∈ t.reads ∨ t.dst = some d) → Pre ops i j) ∧
      (∀ d, t.dst = some d → d ∈ s.reads → Pre ops i j))

def CodeM (S : Seat) (fns : Nat → Prop) (n : Nat) (c : Go.Code) (x : Code) : Prop := match c, x with
  | .skip, .skip => True
  | .region _ ops _, .region l => RegM S fns n ops l
  | .seq a b, .seq a' b' => CodeM S fns n a a' ∧ CodeM S fns n b b'
  | .cond c a b, .cond c' a' b' => XM S (· < n) c c' ∧ CodeM S fns n a a' ∧ CodeM S fns n b b'
  | .block i c, .block i' c' => i = i' ∧ CodeM S fns n c c'
  | .loop c, .loop c' => CodeM S fns n c c'
  | .rangeFunc f ps a b, .rangeFunc f' ps' a' b' => XM S (· < n) f f' ∧ ps.toList = ps' ∧ (∀ p ∈ ps', p < n) ∧ CodeM S fns n a a' ∧ CodeM S fns n b b'
  | .exit i, .exit i' => i = i'
  | .scope c, .scope c' => CodeM S fns n c c'
  | .label i, .label i' => i = i'
  | .goto i, .goto i' => i = i'
  | .ret, .ret => True
  | _, _ => False

def ResM (S : Seat) (n : Nat) (r : Go.ResultVar) (x : ResVar) : Prop := match r, x with
  | .tmp t, .t i => t = i ∧ i < n
  | .cell t ty, .cell i m agg => t = i ∧ i < n ∧ PackM S ty m agg
  | _, _ => False

def FunM (S : Seat) (fns : Nat → Prop) (fn : Go.Func) (x : Fun) : Prop :=
  (∃ c, fn.body = some c ∧ CodeM S fns fn.ntmps c x.body) ∧ All2 (ResM S fn.ntmps) fn.results.toList x.results ∧ fn.name ≠ "runtime.NumGoroutine"

/-- The own functions of a set are the translation's. -/
structure SeatOk (S : Seat) (XP : Nat → Option Fun) (fns : Nat → Prop) : Prop where
  fun_ : ∀ f x, XP f = some x → ∃ fn, S.P.funcs[S.φ f]? = some fn ∧ FunM S fns fn x
  mixed : S.P.follows .mixedOrders = true
  τ_inj : ∀ a b, S.τ a = S.τ b → a = b
  glob_lt : ∀ i g, S.γ i = some g → i < 64

end Cub

/- States and worlds. -/
namespace Cub
open Go (Value World Addr TypeId FuncId Program Oper Operand)

def EnvR (S : Seat) (n : Nat) (σ : Sg) (e : Env) (tmps : Array Value) : Prop := n ≤ tmps.size ∧ ∀ t, t < n → VR S σ (e t) (tmps.getD t Go.undef)

def LoopSt.up : LoopSt → Go.LoopState
  | .ready => .ready
  | .busy => .busy
  | .done => .done
  | .exhausted => .exhausted

def JumpM (c : Option Go.Code) (x : Option Code) : Prop := match c, x with
  | none, none => True
  | some .ret, some .ret => True
  | some (.exit i), some (.exit j) => i = j
  | some (.goto i), some (.goto j) => i = j
  | _, _ => False

def EntM (S : Seat) (σ : Sg) (x : V × V × Nat) (e : Go.MapEntry) : Prop := VR S σ x.1 e.key ∧ VR S σ x.2.1 e.val ∧ e.born = x.2.2

/-- What lies in a block of the model. -/
def ObjR (S : Seat) (fns : Nat → Prop) (σ : Sg) (o : Obj) (l : Loc) (h : Option Go.Obj) : Prop := match o with
  | .cells c opn => ∃ arr ty lo hi, h = some (.cells arr ty (lo, hi)) ∧ c.all V.flat = true ∧ l.off + c.length ≤ arr.size ∧
      VRs S σ c ((arr.toList.drop l.off).take c.length) ∧
      (match opn with
       | none => hi ≤ lo
       | some sz => (sz = 0 ∨ (sz = l.sz ∧ arr.size = l.off + l.tot)) ∧ (arr.size ≤ lo ∨ lo = hi))
  | .ro c => ∃ arr ty fz, h = some (.cells arr ty fz) ∧ ∀ i v, c i = some v → v.flat = true ∧ ∃ u, arr[l.off + i]? = some u ∧ VR S σ v u
  | .map es clock => ∃ es', h = some (.map es' clock) ∧ All2 (EntM S σ) es es'.toList
  | .strIter s pos => h = some (.stringIter ⟨⟨s⟩⟩ pos)
  | .mapIter m since seen stepped => ∃ m' seen', h = some (.mapIter m' since seen' stepped) ∧ seen'.toList = seen.reverse ∧
      (match m with | none => m' = none | some r => ∃ k, σ r = some k ∧ m' = some k.blk)
  | .loop s p e ps a b => ∃ (r : Go.Loop) (n : Nat), h = some (.loop r) ∧ r.state = s.up ∧ JumpM r.pending p ∧ EnvR S n σ e r.tmps ∧ r.params.toList = ps ∧ (∀ p ∈ ps, p < n) ∧
      CodeM S fns n r.assign a ∧ CodeM S fns n r.body b

def NotCells (o : Obj) : Prop := (∀ c n, o ≠ .cells c n) ∧ (∀ c, o ≠ .ro c)
structure Rel (S : Seat) (fns : Nat → Prop) (σ : Sg) (st : St) (w : World) : Prop where
  glob : ∀ i g, S.γ i = some g → σ i = some ⟨g, 0, 0, 0⟩
  obj : ∀ i o l, st.mem i = some o → σ i = some l → ObjR S fns σ o l w.heap[l.blk]?
  inj : ∀ i j l m, st.mem i ≠ none → st.mem j ≠ none → σ i = some l → σ j = some m → l.blk = m.blk → i = j
  lt : ∀ i l, σ i = some l → i < st.next ∧ l.blk < w.heap.size
  mem : ∀ i, st.mem i ≠ none → i < st.next
  zero : ∀ i o l, st.mem i = some o → σ i = some l → NotCells o → l.off = 0

/-- What may change. -/
def Wr (o : Option Obj) : Prop := match o with
  | none => False
  | some (.ro _) => False
  | _ => True

/-- What has become of a state and a world. -/
structure Goes (σ : Sg) (st : St) (w : World) (σ' : Sg) (st' : St) (w' : World) : Prop where
  le : σ.le σ'
  new : ∀ i l, σ i = none → σ' i = some l → st.next ≤ i ∧ (w.heap.size ≤ l.blk ∨ ∃ j m, σ j = some m ∧ m.blk = l.blk ∧ Wr (st.mem j))
  ro : ∀ i l, σ i = some l → ¬ Wr (st.mem i) → st'.mem i = st.mem i
  un : ∀ i, i < st.next → σ i = none → st'.mem i = st.mem i
  next : st.next ≤ st'.next
  size : w.heap.size ≤ w'.heap.size
  keep : ∀ (b : Nat), b < w.heap.size → (∀ i l, σ i = some l → Wr (st.mem i) → l.blk ≠ b) → w'.heap[b]? = w.heap[b]?
  loop : ∀ (b : Nat) (r : Go.Loop), w.heap[b]? = some (Go.Obj.loop r) → ∃ r' : Go.Loop, w'.heap[b]? = some (Go.Obj.loop r') ∧ r'.defers = r.defers
  os : w'.os = w.os
  tape : w'.tape = w.tape
  output : w'.output = w.output

theorem Goes.refl (σ : Sg) (st : St) (w : World) : Goes σ st w σ st w where
  le := Sg.le_refl σ
  new i l h h' := by rw [h] at h'; cases h'
  ro _ _ _ _ := rfl
  un _ _ _ := rfl
  next := Nat.le_refl _
  size := Nat.le_refl _
  keep _ _ _ := rfl
  loop b r h := ⟨r, h, rfl⟩
  os := rfl
  tape := rfl
  output := rfl

theorem Goes.trans {a b c : Sg} {s t u : St} {x y z : World} (h : Goes a s x b t y) (h' : Goes b t y c u z) : Goes a s x c u z where
  le := Sg.le_trans h.le h'.le
  new i l e e' := by
    cases hb : b i with
    | none =>
      obtain ⟨h1, h2⟩ := h'.new i l hb e'
      refine ⟨Nat.le_trans h.next h1, ?_⟩
      rcases h2 with h2 | ⟨j, m, e1, e2, e3⟩
      · exact .inl (Nat.le_trans h.size h2)
      · cases ha : a j with
        | none =>
          obtain ⟨_, h4⟩ := h.new j m ha e1
          rw [e2] at h4
          exact h4
        | some m' =>
          have := h.le j m' ha
          rw [e1] at this; cases this
          refine .inr ⟨j, m, ha, e2, ?_⟩
          by_cases hw : Wr (s.mem j)
          · exact hw
          · rw [h.ro j m ha hw] at e3; exact e3
    | some m =>
      have := h'.le i m hb
      rw [e'] at this; cases this
      exact h.new i l e hb
  ro i l e hw := by
    have h1 := h.ro i l e hw
    rw [h'.ro i l (h.le i l e) (by rw [h1]; exact hw), h1]
  un i hi e := by
    have hb : b i = none := by
      cases hb : b i with
      | none => rfl
      | some l => exact absurd (h.new i l e hb).1 (by omega)
    rw [h'.un i (Nat.lt_of_lt_of_le hi h.next) hb, h.un i hi e]
  next := Nat.le_trans h.next h'.next
  size := Nat.le_trans h.size h'.size
  keep k hk hn := by
    rw [h'.keep k (Nat.lt_of_lt_of_le hk h.size) (fun i l e hw => ?_), h.keep k hk hn]
    cases ha : a i with
    | none =>
      rcases (h.new i l ha e).2 with h4 | ⟨j, m, e1, e2, e4⟩
      · intro e; omega
      · exact fun e3 => hn j m e1 e4 (e2.trans e3)
    | some m =>
      have := h.le i m ha
      rw [e] at this; cases this
      refine hn i l ha ?_
      by_cases hws : Wr (s.mem i)
      · exact hws
      · rw [h.ro i l ha hws] at hw; exact hw
  loop k r e := by
    obtain ⟨r', e', d⟩ := h.loop k r e
    obtain ⟨r'', e'', d'⟩ := h'.loop k r' e'
    exact ⟨r'', e'', d'.trans d⟩
  os := h'.os.trans h.os
  tape := h'.tape.trans h.tape
  output := h'.output.trans h.output

theorem EnvR.le {S : Seat} {n : Nat} {σ σ' : Sg} (h : σ.le σ') {e : Env} {tmps : Array Value} (r : EnvR S n σ e tmps) : EnvR S n σ' e tmps :=
  ⟨r.1, fun t ht => (r.2 t ht).le h⟩
theorem EntM.le {S : Seat} {σ σ' : Sg} (h : σ.le σ') {x : V × V × Nat} {e : Go.MapEntry} (r : EntM S σ x e) : EntM S σ' x e :=
  ⟨r.1.le h, r.2.1.le h, r.2.2⟩
theorem All2.imp {α β : Type} {R R' : α → β → Prop} (h : ∀ a b, R a b → R' a b) : ∀ {l : List α} {m : List β}, All2 R l m → All2 R' l m
  | [], [], _ => trivial
  | _ :: _, _ :: _, r => ⟨h _ _ r.1, All2.imp h r.2⟩
  | [], _ :: _, r => r.elim
  | _ :: _, [], r => r.elim
theorem All2.length {α β : Type} {R : α → β → Prop} : ∀ {l : List α} {m : List β}, All2 R l m → m.length = l.length
  | [], [], _ => rfl
  | _ :: _, _ :: _, r => by simp [All2.length r.2]
  | [], _ :: _, r => r.elim
  | _ :: _, [], r => r.elim
theorem All2.get {α β : Type} {R : α → β → Prop} : ∀ {l : List α} {m : List β}, All2 R l m → ∀ (i : Nat) (a : α), l[i]? = some a → ∃ b, m[i]? = some b ∧ R a b
  | [], [], _, i, a, e => by simp at e
  | _ :: _, _ :: _, r, 0, a, e => by simp at e; subst e; exact ⟨_, by simp, r.1⟩
  | _ :: _, _ :: _, r, i + 1, a, e => by simpa using All2.get r.2 i a (by simpa using e)
  | [], _ :: _, r, _, _, _ => r.elim
  | _ :: _, [], r, _, _, _ => r.elim
theorem All2.append {α β : Type} {R : α → β → Prop} : ∀ {l l' : List α} {m m' : List β}, All2 R l m → All2 R l' m' → All2 R (l ++ l') (m ++ m')
  | [], _, [], _, _, r' => r'
  | _ :: _, _, _ :: _, _, r, r' => ⟨r.1, All2.append r.2 r'⟩
  | [], _, _ :: _, _, r, _ => r.elim
  | _ :: _, _, [], _, r, _ => r.elim

theorem ObjR.le {S : Seat} {fns : Nat → Prop} {σ σ' : Sg} (h : σ.le σ') {o : Obj} {l : Loc} {x : Option Go.Obj} (r : ObjR S fns σ o l x) : ObjR S fns σ' o l x := by
  cases o with
  | cells c opn =>
    obtain ⟨arr, ty, lo, hi, e, f, g, v, k⟩ := r
    exact ⟨arr, ty, lo, hi, e, f, g, v.le h, k⟩
  | ro c =>
    obtain ⟨arr, ty, fz, e, f⟩ := r
    exact ⟨arr, ty, fz, e, fun i v hi => by
      obtain ⟨g1, u, g2, g3⟩ := f i v hi
      exact ⟨g1, u, g2, g3.le h⟩⟩
  | map es clock =>
    obtain ⟨es', e, a⟩ := r
    exact ⟨es', e, a.imp fun _ _ => EntM.le h⟩
  | strIter s pos => exact r
  | mapIter m since seen stepped =>
    obtain ⟨m', seen', e, a, b⟩ := r
    refine ⟨m', seen', e, a, ?_⟩
    cases m with
    | none => exact b
    | some r => obtain ⟨k, e1, e2⟩ := b; exact ⟨k, h _ _ e1, e2⟩
  | loop s p e ps a b =>
    obtain ⟨r, n, e1, e2, e3, e4, e5⟩ := r
    exact ⟨r, n, e1, e2, e3, e4.le h, e5⟩

/-- The draws do not matter. -/
theorem Rel.drawn {S : Seat} {fns : Nat → Prop} {σ : Sg} {st : St} {w : World} (h : Rel S fns σ st w) (k : Nat) : Rel S fns σ st { w with drawn := k } :=
  ⟨h.glob, h.obj, h.inj, h.lt, h.mem, h.zero⟩
theorem Goes.drawn {σ σ' : Sg} {st st' : St} {w w' : World} (h : Goes σ st w σ' st' w') (k : Nat) : Goes σ st w σ' st' { w' with drawn := k } :=
  ⟨h.le, h.new, h.ro, h.un, h.next, h.size, h.keep, h.loop, h.os, h.tape, h.output⟩

/-- A new own block of which the model has nothing yet. -/
theorem Rel.new {S : Seat} {fns : Nat → Prop} {σ : Sg} {st : St} {w : World} (h : Rel S fns σ st w) (o : Obj) : Rel S fns σ (st.new o) w where
  glob := h.glob
  obj i o' l e e' := by
    have hi := (h.lt i l e').1
    simp only [St.new] at e
    rw [if_neg (by omega)] at e
    exact h.obj i o' l e e'
  inj i j l m hi hj e e' he := by
    have h1 := (h.lt i l e).1
    have h2 := (h.lt j m e').1
    refine h.inj i j l m ?_ ?_ e e' he
    · simpa only [St.new, if_neg (show i ≠ st.next by omega)] using hi
    · simpa only [St.new, if_neg (show j ≠ st.next by omega)] using hj
  lt i l e := ⟨Nat.lt_succ_of_lt (h.lt i l e).1, (h.lt i l e).2⟩
  mem i hi := by
    simp only [St.new] at hi ⊢
    by_cases e : i = st.next
    · omega
    · rw [if_neg e] at hi; exact Nat.lt_succ_of_lt (h.mem i hi)
  zero i o' l e e' := by
    have hi := (h.lt i l e').1
    simp only [St.new] at e
    rw [if_neg (by omega)] at e
    exact h.zero i o' l e e'
theorem Goes.newOwn (σ : Sg) (st : St) (w : World) (o : Obj) (hf : σ st.next = none) : Goes σ st w σ (st.new o) w where
  le := Sg.le_refl σ
  new i l h h' := by rw [h] at h'; cases h'
  ro i l h _ := by simp only [St.new]; rw [if_neg (fun e => by rw [e, hf] at h; cases h)]
  un i hi _ := by simp only [St.new]; rw [if_neg (by omega)]
  next := Nat.le_succ _
  size := Nat.le_refl _
  keep _ _ _ := rfl
  loop b r h := ⟨r, h, rfl⟩
  os := rfl
  tape := rfl
  output := rfl

def Sg.put (σ : Sg) (i : Nat) (l : Loc) : Sg := fun j => if j = i then some l else σ j
theorem Sg.put_le {σ : Sg} {i : Nat} {l : Loc} (h : σ i = none) : σ.le (σ.put i l) := fun j m e => by
  unfold Sg.put
  by_cases hj : j = i
  · subst hj; rw [h] at e; cases e
  · rw [if_neg hj]; exact e
theorem Sg.put_same (σ : Sg) (i : Nat) (l : Loc) : σ.put i l i = some l := by simp [Sg.put]

/-- An own block gets a new block of the model. -/
theorem Rel.put {S : Seat} {fns : Nat → Prop} {σ : Sg} {st : St} {w : World} (h : Rel S fns σ st w) {i : Nat} {o : Obj} (hi : st.mem i = some o) (hσ : σ i = none) (x : Go.Obj) (k sz tot : Nat)
    (hx : ObjR S fns (σ.put i ⟨w.heap.size, k, sz, tot⟩) o ⟨w.heap.size, k, sz, tot⟩ (some x)) (hz : NotCells o → k = 0) : Rel S fns (σ.put i ⟨w.heap.size, k, sz, tot⟩) st { w with heap := w.heap.push x } where
  glob j g e := by
    have := h.glob j g e
    exact Sg.put_le hσ _ _ this
  obj j o' l e e' := by
    unfold Sg.put at e'
    by_cases hj : j = i
    · subst hj
      rw [if_pos rfl] at e'; cases e'
      rw [hi] at e; cases e
      simpa using hx
    · rw [if_neg hj] at e'
      have := (h.lt j l e').2
      simp only [Array.getElem?_push]
      rw [if_neg (by omega)]
      exact (h.obj j o' l e e').le (Sg.put_le hσ)
  inj a b l m ha hb e e' he := by
    unfold Sg.put at e e'
    by_cases h1 : a = i <;> by_cases h2 : b = i
    · rw [h1, h2]
    · rw [if_pos h1] at e; rw [if_neg h2] at e'; cases e
      have := (h.lt b m e').2
      simp at he; omega
    · rw [if_neg h1] at e; rw [if_pos h2] at e'; cases e'
      have := (h.lt a l e).2
      simp at he; omega
    · rw [if_neg h1] at e; rw [if_neg h2] at e'
      exact h.inj a b l m ha hb e e' he
  lt j l e := by
    unfold Sg.put at e
    by_cases hj : j = i
    · rw [if_pos hj] at e; cases e
      exact ⟨hj ▸ h.mem i (by simp [hi]), by simp⟩
    · rw [if_neg hj] at e
      have := h.lt j l e
      exact ⟨this.1, by simp; omega⟩
  mem := h.mem
  zero j o' l e e' := by
    unfold Sg.put at e'
    by_cases hj : j = i
    · rw [if_pos hj] at e'; cases e'
      subst hj
      rw [hi] at e; cases e
      exact hz
    · rw [if_neg hj] at e'; exact h.zero j o' l e e'
theorem Goes.put {σ : Sg} {st : St} {w : World} {σ0 : Sg} {st0 : St} {w0 : World} (g : Goes σ0 st0 w0 σ st w) {i : Nat} (hσ : σ i = none) (hi : st0.next ≤ i) (x : Go.Obj) (k sz tot : Nat) :
    Goes σ0 st0 w0 (σ.put i ⟨w.heap.size, k, sz, tot⟩) st { w with heap := w.heap.push x } where
  le := Sg.le_trans g.le (Sg.put_le hσ)
  new j l e e' := by
    unfold Sg.put at e'
    by_cases hj : j = i
    · rw [if_pos hj] at e'; cases e'
      exact ⟨hj ▸ hi, .inl g.size⟩
    · rw [if_neg hj] at e'; exact g.new j l e e'
  ro := g.ro
  un := g.un
  next := g.next
  size := Nat.le_trans g.size (by simp)
  keep b hb hn := by
    rw [← g.keep b hb hn]
    have := g.size
    simp only [Array.getElem?_push]
    rw [if_neg (by omega)]
  loop b r e := by
    obtain ⟨r', e', d⟩ := g.loop b r e
    refine ⟨r', ?_, d⟩
    have : b < w.heap.size := (Array.getElem?_eq_some_iff.1 e').1
    simp only [Array.getElem?_push]
    rw [if_neg (by omega)]; exact e'
  os := g.os
  tape := g.tape
  output := g.output

/-- One own block and its block of the model change together. -/
theorem Rel.set {S : Seat} {fns : Nat → Prop} {σ : Sg} {st : St} {w : World} (h : Rel S fns σ st w) {i : Nat} {l : Loc} (hσ : σ i = some l) (hm : st.mem i ≠ none) {o : Obj} {heap : Array Go.Obj}
    (hs : heap.size = w.heap.size) (hk : ∀ (b : Nat), b ≠ l.blk → heap[b]? = w.heap[b]?) (hx : ObjR S fns σ o l heap[l.blk]?) (hz : NotCells o → l.off = 0) : Rel S fns σ (st.set i (some o)) { w with heap := heap } where
  glob := h.glob
  obj j o' m e e' := by
    simp only [St.set] at e
    by_cases hj : j = i
    · rw [if_pos hj] at e; cases e
      subst hj; rw [hσ] at e'; cases e'
      exact hx
    · rw [if_neg hj] at e
      have hne : m.blk ≠ l.blk := fun he => hj (h.inj j i m l (by simp [e]) hm e' hσ he)
      show ObjR S fns σ o' m heap[m.blk]?
      rw [hk _ hne]; exact h.obj j o' m e e'
  inj a b x y ha hb e e' he := by
    refine h.inj a b x y ?_ ?_ e e' he
    · simp only [St.set] at ha
      by_cases h1 : a = i
      · rw [h1]; exact hm
      · rwa [if_neg h1] at ha
    · simp only [St.set] at hb
      by_cases h1 : b = i
      · rw [h1]; exact hm
      · rwa [if_neg h1] at hb
  lt j m e := by
    have := h.lt j m e
    exact ⟨this.1, by show m.blk < heap.size; omega⟩
  mem j hj := by
    simp only [St.set] at hj ⊢
    by_cases h1 : j = i
    · rw [h1]; exact h.mem i hm
    · rw [if_neg h1] at hj; exact h.mem j hj
  zero j o' m e e' := by
    simp only [St.set] at e
    by_cases hj : j = i
    · rw [if_pos hj] at e; cases e
      subst hj; rw [hσ] at e'; cases e'
      exact hz
    · rw [if_neg hj] at e; exact h.zero j o' m e e'
theorem Goes.set {σ : Sg} {st : St} {w : World} {i : Nat} {l : Loc} (hσ : σ i = some l) (hw : Wr (st.mem i)) (o : Option Obj) {heap : Array Go.Obj} (hs : heap.size = w.heap.size)
    (hk : ∀ (b : Nat), b ≠ l.blk → heap[b]? = w.heap[b]?) (hl : ∀ r : Go.Loop, w.heap[l.blk]? = some (Go.Obj.loop r) → ∃ r' : Go.Loop, heap[l.blk]? = some (Go.Obj.loop r') ∧ r'.defers = r.defers) :
    Goes σ st w σ (st.set i o) { w with heap := heap } where
  le := Sg.le_refl σ
  new j m e e' := by rw [e] at e'; cases e'
  ro j m _ e := by
    simp only [St.set]
    rw [if_neg (fun h => by subst h; exact e hw)]
  un j _ e := by
    simp only [St.set]
    rw [if_neg (fun h => by subst h; rw [hσ] at e; cases e)]
  next := Nat.le_refl _
  size := by show w.heap.size ≤ heap.size; omega
  keep b _ hn := hk b fun e => hn i l hσ hw e.symm
  loop b r e := by
    by_cases hb : b = l.blk
    · subst hb; exact hl r e
    · exact ⟨r, (hk b hb).trans e, rfl⟩
  os := rfl
  tape := rfl
  output := rfl

/-- An own block is given up. -/
theorem Rel.drop {S : Seat} {fns : Nat → Prop} {σ : Sg} {st : St} {w : World} (h : Rel S fns σ st w) (i : Nat) : Rel S fns σ (st.set i none) w where
  glob := h.glob
  obj j o l e e' := by
    simp only [St.set] at e
    by_cases hj : j = i
    · rw [if_pos hj] at e; cases e
    · rw [if_neg hj] at e; exact h.obj j o l e e'
  inj a b l m ha hb e e' he := by
    refine h.inj a b l m ?_ ?_ e e' he
    · simp only [St.set] at ha; by_cases h1 : a = i <;> simp_all
    · simp only [St.set] at hb; by_cases h1 : b = i <;> simp_all
  lt := h.lt
  mem j hj := by
    simp only [St.set] at hj ⊢
    by_cases h1 : j = i
    · simp [h1] at hj
    · rw [if_neg h1] at hj; exact h.mem j hj
  zero j o l e e' := by
    simp only [St.set] at e
    by_cases hj : j = i
    · rw [if_pos hj] at e; cases e
    · rw [if_neg hj] at e; exact h.zero j o l e e'

end Cub

/- Loads and stores of cells, in a state and in a world. -/
namespace Cub
open Go (Value World Addr TypeId FuncId Program Oper Operand Sem Result)
variable {S : Seat} {fns : Nat → Prop} {σ : Sg} {st : St} {w : World}

theorem addr_add (b o j : Nat) : (⟨b, o, none⟩ : Addr).add j = ⟨b, o + j, none⟩ := by
  unfold Addr.add
  split
  · rename_i h; subst h; rfl
  · rfl

theorem cellsAt_some {b : Nat} {c : List V} (h : cellsAt st b = some c) : ∃ opn, st.mem b = some (.cells c opn) := by
  unfold cellsAt at h
  split at h
  · rename_i c' o hm; cases h; exact ⟨o, hm⟩
  · cases h
theorem rdN_mono {f g : Nat → Option V} (h : ∀ i v, f i = some v → g i = some v) : ∀ {n off : Nat} {l : List V}, rdN f off n = some l → rdN g off n = some l
  | 0, off, l, e => e
  | n + 1, off, l, e => by
    simp only [rdN] at e ⊢
    split at e
    · rename_i v l' h1 h2
      rw [h _ _ h1, rdN_mono h h2]; exact e
    · cases e
theorem rdN_get {f : Nat → Option V} : ∀ {n off : Nat} {l : List V}, rdN f off n = some l → l.length = n ∧ ∀ i v, l[i]? = some v → f (off + i) = some v
  | 0, off, l, e => by simp only [rdN, Option.some.injEq] at e; subst e; simp
  | n + 1, off, l, e => by
    simp only [rdN] at e
    split at e
    · rename_i v l' h1 h2
      cases e
      obtain ⟨g1, g2⟩ := rdN_get h2
      refine ⟨by simp [g1], fun i w hw => ?_⟩
      cases i with
      | zero => simp at hw; subst hw; exact h1
      | succ i => rw [show off + (i + 1) = off + 1 + i by omega]; exact g2 i w (by simpa using hw)
    · cases e
theorem rdN_of {f : Nat → Option V} : ∀ {l : List V} {off : Nat}, (∀ i v, l[i]? = some v → f (off + i) = some v) → rdN f off l.length = some l
  | [], off, _ => rfl
  | v :: l, off, h => by
    have h0 := h 0 v rfl
    have h1 := rdN_of (l := l) (off := off + 1) fun i w hw => by
      have := h (i + 1) w (by simpa using hw)
      rw [show off + 1 + i = off + (i + 1) by omega]; exact this
    simp only [List.length_cons, rdN]
    rw [h1]
    rw [Nat.add_zero] at h0
    rw [h0]
theorem loadN_cells {b off n : Nat} {c : List V} {o : Option Nat} (hm : st.mem b = some (.cells c o)) : loadN st b off n = if off + n ≤ c.length then some ((c.drop off).take n) else none := by
  unfold loadN; rw [hm]
theorem loadN_ro {b off n : Nat} {f : Nat → Option V} (hm : st.mem b = some (.ro f)) : loadN st b off n = rdN f off n := by
  unfold loadN; rw [hm]
theorem loadN_at {b off n : Nat} {c : List V} (h : cellsAt st b = some c) : loadN st b off n = if off + n ≤ c.length then some ((c.drop off).take n) else none := by
  obtain ⟨o, hm⟩ := cellsAt_some h
  exact loadN_cells hm
theorem loadN_cases {b off n : Nat} {vs : List V} (h : loadN st b off n = some vs) :
    (∃ c o, st.mem b = some (.cells c o) ∧ off + n ≤ c.length ∧ vs = (c.drop off).take n) ∨ (∃ f, st.mem b = some (.ro f) ∧ rdN f off n = some vs) := by
  unfold loadN at h
  split at h
  · rename_i c o hm
    split at h
    · rename_i hle; cases h; exact .inl ⟨c, o, hm, hle, rfl⟩
    · cases h
  · rename_i f hm; exact .inr ⟨f, hm, h⟩
  · cases h
theorem loadN_length {b off n : Nat} {vs : List V} (h : loadN st b off n = some vs) : vs.length = n := by
  rcases loadN_cases h with ⟨c, o, _, hle, rfl⟩ | ⟨f, _, h⟩
  · simp; omega
  · exact (rdN_get h).1

theorem all_take {p : V → Bool} {c : List V} (h : c.all p = true) (n : Nat) : (c.take n).all p = true := by
  rw [List.all_eq_true] at *
  exact fun x hx => h x (List.mem_of_mem_take hx)
theorem all_drop {p : V → Bool} {c : List V} (h : c.all p = true) (n : Nat) : (c.drop n).all p = true := by
  rw [List.all_eq_true] at *
  exact fun x hx => h x (List.mem_of_mem_drop hx)

/-- Cells that are loaded. -/
theorem load_rel (hR : Rel S fns σ st w) {b off n : Nat} {l : Loc} {vs : List V} (hσ : σ b = some l) (h : loadN st b off n = some vs) :
    ∃ us : List Value, (Go.loadCells ⟨l.blk, l.off + off, none⟩ n).run S.P w = .ok us.toArray w ∧ VRs S σ vs us ∧ vs.all V.flat = true ∧ vs.length = n ∧
      (∀ (i : Nat) (u : Value), us[i]? = some u → w.cell? ⟨l.blk, l.off + off + i, none⟩ = some u) := by
  have key : ∃ us : List Value, VRs S σ vs us ∧ vs.all V.flat = true ∧ vs.length = n ∧ (∀ (i : Nat) (u : Value), us[i]? = some u → w.cell? ⟨l.blk, l.off + off + i, none⟩ = some u) := by
    rcases loadN_cases h with ⟨c, o, hm, hle, rfl⟩ | ⟨f, hm, h⟩
    · obtain ⟨arr, ty, lo, hi, he, hf, hs, hv, _⟩ := hR.obj b _ l hm hσ
      have hlen : ((c.drop off).take n).length = n := by simp; omega
      have hv' := (hv.drop off).take n
      refine ⟨_, hv', all_take (all_drop hf _) _, hlen, ?_⟩
      intro i u hu
      rw [List.getElem?_take] at hu
      split at hu
      · rw [List.getElem?_drop, List.getElem?_take] at hu
        split at hu
        · rw [List.getElem?_drop] at hu
          simp only [World.cell?, he]
          simp only [Option.isSome_none, Bool.false_eq_true, if_false]
          rw [← Array.getElem?_toList, Nat.add_assoc]
          exact hu
        · cases hu
      · cases hu
    · obtain ⟨arr, ty, fz, he, hf⟩ := hR.obj b _ l hm hσ
      obtain ⟨g1, g2⟩ := rdN_get h
      have hcells : ∀ (vs : List V) (o : Nat), (∀ i v, vs[i]? = some v → f (o + i) = some v) →
          ∃ us : List Value, VRs S σ vs us ∧ vs.all V.flat = true ∧ (∀ (i : Nat) (u : Value), us[i]? = some u → w.cell? ⟨l.blk, l.off + o + i, none⟩ = some u) := by
        intro vs
        induction vs with
        | nil => intro o _; exact ⟨[], .nil, rfl, fun i u hu => by simp at hu⟩
        | cons v vs ih =>
          intro o ho
          obtain ⟨k1, u, k2, k3⟩ := hf _ v (ho 0 v rfl)
          obtain ⟨us, k4, k5, k6⟩ := ih (o + 1) fun i x hx => by
            have := ho (i + 1) x (by simpa using hx)
            rw [show o + 1 + i = o + (i + 1) by omega]; exact this
          refine ⟨u :: us, .cons k3 k4, by simp [k1, k5], fun i x hx => ?_⟩
          cases i with
          | zero =>
            simp at hx; subst hx
            simp only [World.cell?, he]
            simp only [Option.isSome_none, Bool.false_eq_true, if_false]
            rw [Nat.add_zero, ← k2]; congr 1
          | succ i =>
            have := k6 i x (by simpa using hx)
            rw [show l.off + o + (i + 1) = l.off + (o + 1) + i by omega]; exact this
      obtain ⟨us, k4, k5, k6⟩ := hcells vs off g2
      exact ⟨us, k4, k5, g1, k6⟩
  obtain ⟨us, h1, h2, h3, h4⟩ := key
  refine ⟨us, ?_, h1, h2, h3, h4⟩
  have := Go.run_loadCells_list (P := S.P) (w := w) ⟨l.blk, l.off + off, none⟩ us (fun j v hj => by rw [addr_add]; exact h4 j v hj)
  rw [h1.length, h3] at this
  exact this

theorem splice_length {c l : List V} {off : Nat} (h : off + l.length ≤ c.length) : (splice c off l).length = c.length := by
  unfold splice; simp; omega

/-- Cells that are stored, in the model. -/
theorem run_storeCells_gen (P : Program) (blk o : Nat) (ty : TypeId) (lo hi : Nat) : ∀ (us : List Value) (i : Nat) (arr : Array Value) (w : World), w.heap[blk]? = some (.cells arr ty (lo, hi)) →
    o + i + us.length ≤ arr.size → (arr.size ≤ lo ∨ hi ≤ lo) → (∀ u ∈ us, (∀ c, u ≠ .agg c) ∧ (∀ c, u ≠ .tuple c)) →
    ∃ heap : Array Go.Obj, (Go.storeCells ⟨blk, o, none⟩ us i).run P w = .ok () { w with heap := heap } ∧ heap.size = w.heap.size ∧ (∀ (b : Nat), b ≠ blk → heap[b]? = w.heap[b]?) ∧
      heap[blk]? = some (.cells (arr.toList.take (o + i) ++ us ++ arr.toList.drop (o + i + us.length)).toArray ty (lo, hi))
  | [], i, arr, w, h, hl, _, _ => by
    refine ⟨w.heap, by simp [Go.storeCells], rfl, fun _ _ => rfl, ?_⟩
    rw [h]; simp
  | u :: us, i, arr, w, h, hl, hfz, hu => by
    have hlt : o + i < arr.size := by simp at hl; omega
    have hcell : w.cell? ((⟨blk, o, none⟩ : Addr).add i) = some arr[o + i] := by rw [addr_add]; simp [World.cell?, h, hlt]
    have hfr : w.frozen? ((⟨blk, o, none⟩ : Addr).add i) = false := by
      rw [addr_add]; simp [World.frozen?, h]; omega
    have hset : w.setCell ((⟨blk, o, none⟩ : Addr).add i) u = { w with heap := w.heap.setIfInBounds blk (.cells (arr.setIfInBounds (o + i) u) ty (lo, hi)) } := by
      rw [addr_add]
      have hb : blk < w.heap.size := (Array.getElem?_eq_some_iff.1 h).1
      simp only [World.setCell]
      congr 1
      apply Array.ext_getElem?
      intro k
      rw [Array.getElem?_modify, Array.getElem?_setIfInBounds]
      by_cases hk : blk = k
      · subst hk; have h' := (Array.getElem?_eq_some_iff.1 h).2; simp [hb, h']
      · simp [hk]
    have hb : blk < w.heap.size := (Array.getElem?_eq_some_iff.1 h).1
    obtain ⟨heap, hr, hs, hk, hx⟩ := run_storeCells_gen P blk o ty lo hi us (i + 1) (arr.setIfInBounds (o + i) u) { w with heap := w.heap.setIfInBounds blk (.cells (arr.setIfInBounds (o + i) u) ty (lo, hi)) }
      (by simp [Array.getElem?_setIfInBounds, hb]) (by simp at hl ⊢; omega) (by simpa using hfz) (fun x hx => hu x (by simp [hx]))
    refine ⟨heap, ?_, by simpa using hs, fun b hb' => ?_, ?_⟩
    · rw [Go.storeCells]
      have hu' := hu u (by simp)
      have h1 : (Go.store ((⟨blk, o, none⟩ : Addr).add i) u).run P w = .ok () (w.setCell ((⟨blk, o, none⟩ : Addr).add i) u) := by
        simp only [Go.store, Sem.run]
        cases u <;> first | exact absurd rfl (hu'.1 _) | exact absurd rfl (hu'.2 _) | simp [Sem.run, hcell, hfr]
      rw [Sem.run_bind, h1, Result.andThen_ok, hset, hr]
    · rw [hk b hb']
      simp only [Array.getElem?_setIfInBounds]
      rw [if_neg (Ne.symm hb')]
    · rw [hx]
      congr 2
      simp only [Array.toList_setIfInBounds]
      congr 1
      apply List.ext_getElem?
      intro k
      simp only [List.getElem?_append, List.length_append, List.length_take, List.length_set, List.length_cons, List.getElem?_take, List.getElem?_drop, List.getElem?_set, List.getElem?_cons, Array.length_toList]
      simp at hl
      have e1 : min (o + (i + 1)) arr.size = o + i + 1 := by omega
      have e2 : min (o + i) arr.size = o + i := by omega
      rw [e1, e2]
      by_cases hk1 : k < o + i
      · simp [hk1, show k < o + i + 1 + us.length by omega, show k < o + i + 1 by omega, show k < o + i + (us.length + 1) by omega, show o + i ≠ k by omega, show k < o + (i + 1) by omega]
      · by_cases hk2 : k = o + i
        · subst hk2
          simp [hlt]
          omega
        · by_cases hk3 : k < o + i + 1 + us.length
          · have hsub : k - (o + i) = (k - (o + i + 1)) + 1 := by omega
            simp [hk1, hk3, show ¬ k < o + i + 1 by omega, show k < o + i + (us.length + 1) by omega, hsub]
          · simp [hk1, hk3, show ¬ k < o + i + 1 by omega, show ¬ k < o + i + (us.length + 1) by omega]
            have e3 : o + (i + 1) + us.length + (k - (o + i + 1 + us.length)) = k := by omega
            have e4 : o + i + (us.length + 1) + (k - (o + i + (us.length + 1))) = k := by omega
            rw [e3, e4, if_neg (by omega)]


/-- Cells that are stored, in both. -/
theorem store_rel (hR : Rel S fns σ st w) {b off : Nat} {l : Loc} {vs : List V} {us : List Value} {st' : St} (hσ : σ b = some l) (h : storeN st b off vs = some st') (hv : VRs S σ vs us) (hf : vs.all V.flat = true) :
    ∃ heap : Array Go.Obj, (Go.storeCells ⟨l.blk, l.off + off, none⟩ us).run S.P w = .ok () { w with heap := heap } ∧ Rel S fns σ st' { w with heap := heap } ∧ Goes σ st w σ st' { w with heap := heap } ∧
      (∃ o, st' = st.set b (some o)) := by
  unfold storeN at h
  split at h
  · rename_i c opn hm
    split at h
    · rename_i hle
      cases h
      obtain ⟨arr, ty, lo, hi, he, hcf, hs, hcv, hk⟩ := hR.obj b _ l hm hσ
      have hul := hv.length
      have hfz : arr.size ≤ lo ∨ hi ≤ lo := by
        cases opn with
        | none => exact .inr hk
        | some sz => exact hk.2.imp id (fun h => by omega)
      have hus : ∀ u ∈ us, (∀ c, u ≠ .agg c) ∧ (∀ c, u ≠ .tuple c) := by
        intro u hu
        obtain ⟨i, hi⟩ := List.mem_iff_getElem?.1 hu
        have hlt : i < vs.length := by rw [← hul]; exact (List.getElem?_eq_some_iff.1 hi).1
        obtain ⟨u', hu', hr⟩ := hv.get i _ (List.getElem?_eq_getElem hlt)
        rw [hi] at hu'; cases hu'
        exact hr.flat (List.all_eq_true.1 hf _ (List.getElem_mem hlt))
      obtain ⟨heap, hr, hsz, hkeep, hx⟩ := run_storeCells_gen S.P l.blk (l.off + off) ty lo hi us 0 arr w he (by omega) hfz hus
      have hobj : ObjR S fns σ (.cells (splice c off vs) opn) l heap[l.blk]? := by
        refine ⟨_, ty, lo, hi, hx, ?_, ?_, ?_, ?_⟩
        · unfold splice
          rw [List.all_append, List.all_append, Bool.and_eq_true, Bool.and_eq_true]
          exact ⟨⟨all_take hcf _, hf⟩, all_drop hcf _⟩
        · rw [splice_length hle]; simp; omega
        · rw [splice_length hle]
          have hall := ((hcv.take off).append hv).append (hcv.drop (off + vs.length))
          unfold splice
          refine cast (congrArg (VRs S σ _) ?_) hall
          apply List.ext_getElem?
          intro k
          simp only [Nat.add_zero, List.getElem?_append, List.length_append, List.length_take, List.length_drop, List.getElem?_take, List.getElem?_drop, Array.length_toList, hul]
          (repeat' split) <;> first | rfl | (exfalso; omega) | (congr 1; omega)
        · cases opn with
          | none =>
            have : ((List.take (l.off + off + 0) arr.toList ++ us ++ List.drop (l.off + off + 0 + us.length) arr.toList).toArray).size = arr.size := by simp; omega
            exact hk
          | some sz =>
            have : ((List.take (l.off + off + 0) arr.toList ++ us ++ List.drop (l.off + off + 0 + us.length) arr.toList).toArray).size = arr.size := by simp; omega
            simp only; rw [this]; exact hk
      refine ⟨heap, hr, hR.set hσ (by simp [hm]) hsz hkeep hobj (fun h => absurd rfl (h.1 _ _)), .set hσ (by simp [hm, Wr]) _ hsz hkeep (fun r e => ?_), _, rfl⟩
      rw [he] at e; cases e
    · cases h
  · cases h

end Cub

/- Operations: what they do to values alone. -/
namespace Cub
open Go (Value World Addr TypeId FuncId Program Oper Operand Sem Result)

def Does (S : Seat) (fns : Nat → Prop) (ρ : Operand → Value) (o : Oper) (σ : Sg) (st : St) (w : World) (v : V) (st' : St) : Prop :=
  ∃ u w' σ', ((Go.execOp ρ o).run S.P w = .ok (.value u) w' ∨ ((Go.execOp ρ o).run S.P w = .ok .skip w' ∧ u = Go.undef)) ∧ VR S σ' v u ∧ Rel S fns σ' st' w' ∧ Goes σ st w σ' st' w'

variable {S : Seat} {fns : Nat → Prop} {ρ : Operand → Value} {o : Oper} {σ : Sg} {st st' : St} {w : World} {e : Env} {v : V}

theorem Does.value (hR : Rel S fns σ st w) {u : Value} (h : (Go.execOp ρ o).run S.P w = .ok (.value u) w) (hv : VR S σ v u) : Does S fns ρ o σ st w v st :=
  ⟨u, w, σ, .inl h, hv, hR, Goes.refl _ _ _⟩

section types
variable {P : Program}
theorem run_und {t : TypeId} {d : Go.TypeDesc} (h : P.underlying t = some d) (w : World) : (Go.underlying t).run P w = .ok d w := by
  simp [Go.underlying, Go.program, Sem.run, h]
theorem run_info {t : TypeId} {i : Go.TypeInfo} (h : P.info? t = some i) (w : World) : (Go.typeInfo t).run P w = .ok i w := by
  simp [Go.typeInfo, Go.program, Sem.run, h]
theorem run_size {t : TypeId} {i : Go.TypeInfo} (h : P.info? t = some i) (w : World) : (Go.sizeOf t).run P w = .ok i.size w := by
  simp [Go.sizeOf, run_info h]
theorem run_zero {t : TypeId} {i : Go.TypeInfo} {z : Value} (h : P.info? t = some i) (hz : i.zero = some z) (w : World) : (Go.zeroValue t).run P w = .ok z w := by
  simp [Go.zeroValue, run_info h, hz]
theorem run_isAgg {t : TypeId} {d : Go.TypeDesc} (h : P.underlying t = some d) (w : World) : (Go.isAgg t).run P w = .ok (aggB d) w := by
  simp only [Go.isAgg, Sem.run_bind, run_und h, Result.andThen_ok]
  cases d <;> rfl
end types

theorem vrs1 {x : V} {us : List Value} (h : VRs S σ [x] us) : ∃ u, us = [u] ∧ VR S σ x u := by
  simp only [VRs] at h
  obtain ⟨u, us', rfl, a, rfl⟩ := h
  exact ⟨u, rfl, a⟩
theorem vrs2 {x y : V} {a b : Value} (h : VRs S σ [x, y] [a, b]) : VR S σ x a ∧ VR S σ y b := by
  simp only [VRs] at h
  obtain ⟨u, us', e, h1, u', us'', rfl, h2, rfl⟩ := h
  cases e; exact ⟨h1, h2⟩
theorem vrs3 {x y z : V} {a b c : Value} (h : VRs S σ [x, y, z] [a, b, c]) : VR S σ x a ∧ VR S σ y b ∧ VR S σ z c := by
  simp only [VRs] at h
  obtain ⟨u, us', e, h1, u', us'', rfl, h2, u3, us3, rfl, h3, rfl⟩ := h
  cases e; exact ⟨h1, h2, h3⟩
theorem vrs1' {x : V} {a : Value} (h : VRs S σ [x] [a]) : VR S σ x a := by
  obtain ⟨u, e, h⟩ := vrs1 h
  cases e; exact h

/-- A part of an aggregate. -/
theorem run_part {t : TypeId} {n : Nat} {agg : Bool} (hp : PackM S t n agg) {cs : Array Value} {off : Nat} {vs : List V} (hv : VRs S σ vs ((cs.toList.drop off).take n)) (hf : vs.all V.flat = true) {v : V}
    (h : pack agg vs = some v) (hoff : off + n ≤ cs.size) : ∃ u, (Go.part t cs off).run S.P w = .ok u w ∧ VR S σ v u := by
  obtain ⟨d, hd, ha, ⟨i, hi, hn⟩, h1⟩ := hp
  simp only [Go.part, Sem.run_bind, run_isAgg hd, Result.andThen_ok, ha]
  cases agg with
  | true =>
    simp only [pack, if_true, Option.some.injEq] at h
    subst h
    simp only [if_true, Sem.run_bind, run_size hi, Result.andThen_ok, Sem.run_pure, hn]
    refine ⟨_, rfl, ?_⟩
    simp only [VR]
    refine ⟨_, rfl, ?_, hf⟩
    refine cast (congrArg (VRs S σ vs) ?_) hv
    simp [Array.toList_extract, List.extract]
  | false =>
    have hn1 := h1 rfl
    subst hn1
    simp only [pack, Bool.false_eq_true, if_false] at h
    split at h
    · rename_i x
      cases h
      obtain ⟨u, hu, hx⟩ := vrs1 hv
      have hlt : off < cs.size := by omega
      have e : cs[off]? = some u := by
        have := congrArg (fun l => l[0]?) hu
        simpa [List.getElem?_take, hlt] using this
      simp only [Bool.false_eq_true, if_false, e]
      exact ⟨u, rfl, hx⟩
    · cases h

theorem run_part' {t : TypeId} {n : Nat} {agg : Bool} (hp : PackM S t n agg) {cs : Array Value} {off : Nat} {vs : List V} (hv : VRs S σ vs ((cs.toList.drop off).take n)) (hf : vs.all V.flat = true) {v : V}
    (h : pack agg vs = some v) (hoff : agg = false → off + n ≤ cs.size) : ∃ u, (Go.part t cs off).run S.P w = .ok u w ∧ VR S σ v u := by
  cases agg with
  | false => exact run_part hp hv hf h (hoff rfl)
  | true =>
    obtain ⟨d, hd, ha, ⟨i, hi, hn⟩, h1⟩ := hp
    simp only [Go.part, Sem.run_bind, run_isAgg hd, Result.andThen_ok, ha]
    simp only [pack, if_true, Option.some.injEq] at h
    subst h
    simp only [if_true, Sem.run_bind, run_size hi, Result.andThen_ok, Sem.run_pure, hn]
    refine ⟨_, rfl, ?_⟩
    simp only [VR]
    refine ⟨_, rfl, ?_, hf⟩
    refine cast (congrArg (VRs S σ vs) ?_) hv
    simp [Array.toList_extract, List.extract]

theorem does_mv {x : X} (hR : Rel S fns σ st w) (ho : OpSh S fns o (.mv x)) (hv : VRs S σ ((Op.mv x).opnds.map (·.ev e)) (o.op.operands.toList.map ρ))
    (h : step1 (.mv x) e st = some (v, st')) : Does S fns ρ o σ st w v st' := by
  simp only [step1, Option.some.injEq, Prod.mk.injEq] at h
  obtain ⟨rfl, rfl⟩ := h
  rcases ho with ⟨a, ha⟩ | ⟨a, ha⟩ <;> (rw [ha] at hv; exact .value hR (by simp only [Go.execOp, ha]; rfl) (vrs1' hv))

theorem does_pick {c a b : X} (hR : Rel S fns σ st w) (ho : OpSh S fns o (.pick c a b)) (hv : VRs S σ ((Op.pick c a b).opnds.map (·.ev e)) (o.op.operands.toList.map ρ))
    (h : step1 (.pick c a b) e st = some (v, st')) : Does S fns ρ o σ st w v st' := by
  obtain ⟨c', a', b', ha⟩ := ho
  rw [ha] at hv
  obtain ⟨h1, h2, h3⟩ : VR S σ (c.ev e) (ρ c') ∧ VR S σ (a.ev e) (ρ a') ∧ VR S σ (b.ev e) (ρ b') := vrs3 hv
  simp only [step1] at h
  split at h
  · rename_i t ht
    cases h
    rw [ht] at h1
    simp only [VR] at h1
    refine .value hR (u := if t then ρ a' else ρ b') (by simp only [Go.execOp, ha, h1, Go.asBool, Sem.run_bind, Sem.run_pure, Result.andThen_ok]) ?_
    cases t
    · exact h3
    · exact h2
  · cases h

theorem does_nilCheck {x : X} (hR : Rel S fns σ st w) (ho : OpSh S fns o (.nilCheck x)) (hv : VRs S σ ((Op.nilCheck x).opnds.map (·.ev e)) (o.op.operands.toList.map ρ))
    (h : step1 (.nilCheck x) e st = some (v, st')) : Does S fns ρ o σ st w v st' := by
  obtain ⟨a, ha⟩ := ho
  rw [ha] at hv
  have h1 : VR S σ (x.ev e) (ρ a) := vrs1' hv
  simp only [step1] at h
  split at h
  · cases h
  · cases h
  · cases h
  · rename_i hn1 hn2 hn3
    cases h
    refine .value hR (u := ρ a) ?_ h1
    simp only [Go.execOp, ha]
    generalize x.ev e = y at h1 hn1 hn2 hn3
    cases y with
    | ptr p => cases p with
      | none => exact absurd rfl hn1
      | some p => simp only [VR] at h1; obtain ⟨_, e1, _⟩ := h1; rw [e1]; rfl
    | nilIface => exact absurd rfl hn2
    | nilFunc => exact absurd rfl hn3
    | slice p n c =>
      cases p with
      | none => simp only [VR] at h1; rw [h1.1]; rfl
      | some p => cases c with
        | is c => simp only [VR] at h1; obtain ⟨_, e1, _⟩ := h1; rw [e1]; rfl
        | opn sz => simp only [VR] at h1; obtain ⟨_, _, _, ⟨_, e1, _⟩ | ⟨_, _, _, e1⟩⟩ := h1 <;> (rw [e1]; rfl)
    | map p => cases p with
      | none => simp only [VR] at h1; rw [h1]; rfl
      | some p => simp only [VR] at h1; obtain ⟨_, _, e1⟩ := h1; rw [e1]; rfl
    | func f p q => simp only [VR] at h1; obtain ⟨_, _, e1, _⟩ := h1; rw [e1]; rfl
    | yield l => simp only [VR] at h1; obtain ⟨_, _, e1⟩ := h1; rw [e1]; rfl
    | iface t z => simp only [VR] at h1; obtain ⟨_, e1, _⟩ := h1; rw [e1]; rfl
    | agg z => simp only [VR] at h1; obtain ⟨_, e1, _⟩ := h1; rw [e1]; rfl
    | tuple z => simp only [VR] at h1; obtain ⟨_, e1, _⟩ := h1; rw [e1]; rfl
    | bool b => simp only [VR] at h1; rw [h1]; rfl
    | int k n => simp only [VR] at h1; rw [h1]; rfl
    | str s => simp only [VR] at h1; rw [h1]; rfl

theorem ba_toList (s : List UInt8) : (ByteArray.mk ⟨s⟩).toList = s := by rw [Go.ByteArray.toList_eq]
theorem ba_append (a b : List UInt8) : (ByteArray.mk ⟨a⟩) ++ (ByteArray.mk ⟨b⟩) = ByteArray.mk ⟨a ++ b⟩ := by
  apply ByteArray.ext; simp

theorem run_binStr {op : Go.BinOp} {s1 s2 : List UInt8} (h : binStr op s1 s2 = some v) (t : TypeId) (xo yo : Operand) :
    ∃ u, (Go.eqGuard op t xo yo (.string ⟨⟨s1⟩⟩) (.string ⟨⟨s2⟩⟩)).run S.P w = .ok () w ∧ (Go.binOp op t (.string ⟨⟨s1⟩⟩) (.string ⟨⟨s2⟩⟩)).run S.P w = .ok u w ∧ VR S σ v u := by
  have hg : (Go.eqGuard op t xo yo (.string ⟨⟨s1⟩⟩) (.string ⟨⟨s2⟩⟩)).run S.P w = .ok () w := by
    unfold Go.eqGuard
    split <;> simp
  refine ⟨(match v with | .str s => .string ⟨⟨s⟩⟩ | .bool b => .bool b | _ => default), hg, ?_, ?_⟩
  all_goals
    cases op <;> simp only [binStr] at h <;> first
      | (simp only [Option.some.injEq] at h; subst h; first | (simp only [VR]; done) | (simp [Go.binOp, Go.Op.stringOp, ba_toList]; done))
      | (by_cases hz : s1.length + s2.length < 2 ^ 62
         · rw [if_pos hz] at h
           simp only [Option.some.injEq] at h; subst h
           first
             | (simp only [VR]; done)
             | (have hn : ¬ (Go.IntKind.i64.max < ((ByteArray.size ⟨⟨s1⟩⟩ + ByteArray.size ⟨⟨s2⟩⟩ : Nat) : Int)) := by
                  have e : (ByteArray.size ⟨⟨s1⟩⟩ + ByteArray.size ⟨⟨s2⟩⟩ : Nat) = s1.length + s2.length := rfl
                  have e2 : Go.IntKind.i64.max = 9223372036854775807 := by decide
                  rw [e, e2]; omega
                simp only [Go.binOp, Go.Op.stringOp]
                simp only [Sem.run_ite, ba_append]
                rw [if_neg hn]; rfl)
         · rw [if_neg hz] at h; cases h)
      | cases h

theorem run_bin {op : Go.BinOp} {x y : V} {a b : Value} (hx : VR S σ x a) (hy : VR S σ y b) (h : bin op x y = some v) (t : TypeId) (xo yo : Operand) :
    ∃ u, (Go.eqGuard op t xo yo a b).run S.P w = .ok () w ∧ (Go.binOp op t a b).run S.P w = .ok u w ∧ VR S σ v u := by
  unfold bin at h
  split at h
  · rename_i k m k' n
    simp only [VR] at hx hy
    subst hx; subst hy
    unfold binShift at h
    split at h
    · cases h
    · rename_i hn
      simp only [Option.some.injEq] at h
      subst h
      refine ⟨_, by simp [Go.eqGuard], by simp [Go.binOp, Go.Op.shift, hn]; rfl, by simp only [VR]⟩
  · rename_i k m k' n
    simp only [VR] at hx hy
    subst hx; subst hy
    unfold binShift at h
    split at h
    · cases h
    · rename_i hn
      simp only [Option.some.injEq] at h
      subst h
      refine ⟨_, by simp [Go.eqGuard], by simp [Go.binOp, Go.Op.shift, hn]; rfl, by simp only [VR]⟩
  · rename_i k m k' n h1 h2
    split at h
    · rename_i hk
      subst hk
      simp only [VR] at hx hy
      subst hx; subst hy
      have hg : (Go.eqGuard op t xo yo (.int k m) (.int k n)).run S.P w = .ok () w := by
        unfold Go.eqGuard
        split <;> simp
      refine ⟨(match v with | .int k n => .int k n | .bool b => .bool b | _ => default), hg, ?_, ?_⟩
      all_goals
        cases op <;> simp only [binInt] at h <;> first
          | (simp only [Option.some.injEq] at h; subst h; first | (simp only [VR]; done) | (simp [Go.binOp, Go.Op.intArith, Go.Op.intBits, Go.Op.intCmp]; done))
          | (split at h
             · cases h
             · rename_i hz; simp only [Option.some.injEq] at h; subst h; first | (simp only [VR]; done) | (simp [Go.binOp, Go.Op.intDiv, hz]; done))
          | cases h
    · cases h
  · simp only [VR] at hx hy
    subst hx; subst hy
    exact run_binStr h t xo yo
  · cases h


theorem fieldsOf_eq {P : Program} {t : TypeId} {fs : Array Go.Field} (h : P.underlying t = some (.struct fs)) : P.fieldsOf t = fs := by
  simp [Go.Program.fieldsOf, h]

-- Equality.
mutual
theorem run_eqV (w : World) (y : Ty) : ∀ (t : TypeId) (lit : Bool) (d : Nat) (x1 x2 : V) (a b : Value) (r : Bool), TyM S lit t y → tyD y ≤ d → VR S σ x1 a → VR S σ x2 b →
    eqV y x1 x2 = some r → (Go.Op.equalIn d t a b).run S.P w = .ok r w := by
  intro t lit d x1 x2 a b r ht hd h1 h2 h
  cases y with
  | none => simp only [TyM] at ht
  | struct fs =>
    simp only [tyD] at hd
    obtain ⟨d, rfl⟩ : ∃ d', d = d' + 1 := ⟨d - 1, by omega⟩
    simp only [TyM] at ht
    obtain ⟨fields, hu, hs, _, hf⟩ := ht
    simp only [eqV] at h
    split at h
    · rename_i xs ys
      simp only [VR] at h1 h2
      obtain ⟨xs', rfl, hx, hxf⟩ := h1
      obtain ⟨ys', rfl, hy, hyf⟩ := h2
      have hu' : S.P.underlying t = some (.struct (S.P.fieldsOf t)) := by rw [fieldsOf_eq hu]; exact hu
      rw [Go.run_equalIn_struct w d t xs' ys' hu' hs, fieldsOf_eq hu]
      exact run_eqFs w fs fields.toList d xs ys xs' ys' r hf (by omega) hx hy hxf hyf h
    · cases h
  | ptr =>
    simp only [tyD] at hd
    obtain ⟨d, rfl⟩ : ∃ d', d = d' + 1 := ⟨d - 1, by omega⟩
    simp only [TyM] at ht
    obtain ⟨el, n, hu, _⟩ := ht
    simp only [eqV] at h
    split at h
    · rename_i q
      cases h
      simp only [VR] at h1; subst h1
      cases q with
      | none => simp only [VR] at h2; subst h2; simp [Go.Op.equalIn, run_und hu]
      | some q => simp only [VR] at h2; obtain ⟨_, rfl, _⟩ := h2; simp [Go.Op.equalIn, run_und hu]
    · rename_i q hq
      cases h
      simp only [VR] at h2; subst h2
      cases q with
      | none => simp at hq
      | some q => simp only [VR] at h1; obtain ⟨_, rfl, _⟩ := h1; simp [Go.Op.equalIn, run_und hu]
    · cases h
  | slice =>
    simp only [tyD] at hd
    obtain ⟨d, rfl⟩ : ∃ d', d = d' + 1 := ⟨d - 1, by omega⟩
    simp only [TyM] at ht
    obtain ⟨el, hu⟩ := ht
    have sl : ∀ {q : Option (Nat × Nat)} {n : Nat} {c : Cap} {u : Value}, VR S σ (.slice q n c) u → ∃ q' n' c', u = .slice q' n' c' ∧ q'.isNone = q.isNone := by
      intro q n c u hq
      cases q with
      | none => simp only [VR] at hq; exact ⟨_, _, _, hq.1, rfl⟩
      | some q => cases c with
        | is c => simp only [VR] at hq; obtain ⟨_, e1, _⟩ := hq; exact ⟨_, _, _, e1, rfl⟩
        | opn sz => simp only [VR] at hq; obtain ⟨_, _, _, ⟨_, e1, _⟩ | ⟨_, _, _, e1⟩⟩ := hq <;> exact ⟨_, _, _, e1, rfl⟩
    simp only [eqV] at h
    split at h
    · cases h
      obtain ⟨q1, n1, c1, rfl, e1⟩ := sl h1
      obtain ⟨q2, n2, c2, rfl, e2⟩ := sl h2
      cases q1 with
      | some _ => cases e1
      | none => simp [Go.Op.equalIn, run_und hu, e2]
    · rename_i hq
      cases h
      obtain ⟨q1, n1, c1, rfl, e1⟩ := sl h1
      obtain ⟨q2, n2, c2, rfl, e2⟩ := sl h2
      cases q2 with
      | some _ => cases e2
      | none =>
        cases q1 with
        | none =>
          rename_i q _ _ _ _ 
          cases q with
          | none => simp at hq
          | some _ => cases e1
        | some _ => simp [Go.Op.equalIn, run_und hu]
    · cases h
  | map =>
    simp only [tyD] at hd
    obtain ⟨d, rfl⟩ : ∃ d', d = d' + 1 := ⟨d - 1, by omega⟩
    simp only [TyM] at ht
    obtain ⟨k, el, hu⟩ := ht
    simp only [eqV] at h
    split at h
    · rename_i q
      cases h
      simp only [VR] at h1; subst h1
      cases q with
      | none => simp only [VR] at h2; subst h2; simp [Go.Op.equalIn, run_und hu]
      | some q => simp only [VR] at h2; obtain ⟨_, _, rfl⟩ := h2; simp [Go.Op.equalIn, run_und hu]
    · rename_i q hq
      cases h
      simp only [VR] at h2; subst h2
      cases q with
      | none => simp at hq
      | some q => simp only [VR] at h1; obtain ⟨_, _, rfl⟩ := h1; simp [Go.Op.equalIn, run_und hu]
    · cases h
  | func =>
    simp only [tyD] at hd
    obtain ⟨d, rfl⟩ : ∃ d', d = d' + 1 := ⟨d - 1, by omega⟩
    simp only [TyM] at ht
    obtain ⟨_, _, _, hu⟩ := ht
    simp only [eqV] at h
    split at h <;> cases h
    · simp only [VR] at h1 h2; subst h1; subst h2; simp [Go.Op.equalIn, run_und hu]
    · simp only [VR] at h1 h2; subst h1; obtain ⟨_, _, rfl, _⟩ := h2; simp [Go.Op.equalIn, run_und hu]
    · simp only [VR] at h1 h2; subst h2; obtain ⟨_, _, rfl, _⟩ := h1; simp [Go.Op.equalIn, run_und hu]
  | iface m =>
    simp only [tyD] at hd
    obtain ⟨d, rfl⟩ : ∃ d', d = d' + 1 := ⟨d - 1, by omega⟩
    simp only [TyM] at ht
    obtain ⟨ms, hu, _⟩ := ht
    simp only [eqV] at h
    split at h
    · split at h
      · cases h
      · cases h; simp only [VR] at h1 h2; subst h1; subst h2; simp [Go.Op.equalIn, run_und hu]
    · cases h; simp only [VR] at h1 h2; subst h1; obtain ⟨_, rfl, _⟩ := h2; simp [Go.Op.equalIn, run_und hu]
    · cases h; simp only [VR] at h1 h2; subst h2; obtain ⟨_, rfl, _⟩ := h1; simp [Go.Op.equalIn, run_und hu]
    · cases h
  | bool =>
    simp only [tyD] at hd
    obtain ⟨d, rfl⟩ : ∃ d', d = d' + 1 := ⟨d - 1, by omega⟩
    simp only [TyM] at ht
    simp only [eqV] at h
    split at h
    · cases h; simp only [VR] at h1 h2; subst h1; subst h2; simp [Go.Op.equalIn, run_und ht]
    · cases h
  | int =>
    simp only [tyD] at hd
    obtain ⟨d, rfl⟩ : ∃ d', d = d' + 1 := ⟨d - 1, by omega⟩
    simp only [TyM] at ht
    obtain ⟨k0, hu⟩ := ht
    simp only [eqV] at h
    split at h
    · split at h
      · rename_i hk; subst hk
        cases h; simp only [VR] at h1 h2; subst h1; subst h2; simp [Go.Op.equalIn, run_und hu]
      · cases h
    · cases h
  | str =>
    simp only [tyD] at hd
    obtain ⟨d, rfl⟩ : ∃ d', d = d' + 1 := ⟨d - 1, by omega⟩
    simp only [TyM] at ht
    simp only [eqV] at h
    split at h
    · cases h; simp only [VR] at h1 h2; subst h1; subst h2
      rw [Go.run_equalIn_string w d t _ _ ht, ba_toList, ba_toList]
    · cases h
theorem run_eqFs (w : World) (fs : Fs) : ∀ (fields : List Go.Field) (d : Nat) (xs ys : List V) (xs' ys' : Array Value) (r : Bool), FsM S fields fs → fsD fs ≤ d → VRs S σ xs xs'.toList → VRs S σ ys ys'.toList →
    xs.all V.flat = true → ys.all V.flat = true → eqFs fs xs ys = some r → (Go.Op.eqFields d xs' ys' fields).run S.P w = .ok r w := by
  intro fields d xs ys xs' ys' r hf hd hx hy hxf hyf h
  cases fs with
  | nil =>
    simp only [FsM] at hf; subst hf
    simp only [eqFs, Option.some.injEq] at h; subst h
    simp [Go.Op.eqFields]
  | cons off n agg t rest =>
    simp only [FsM] at hf
    obtain ⟨f, fields', rfl, hn, ho, hp, ht, hr⟩ := hf
    simp only [fsD] at hd
    simp only [eqFs] at h
    split at h
    · rename_i a b ha hb
      have len : ∀ {zs : List V} {zs' : Array Value} {z : V}, VRs S σ zs zs'.toList → pack agg ((zs.drop off).take n) = some z → (agg = false → n = 1) → off + n ≤ zs'.size ∨ True := fun _ _ _ => .inr trivial
      cases hq : eqV t a b with
      | none => rw [hq] at h; cases h
      | some q =>
        rw [hq] at h
        obtain ⟨d1, hd1, hag, hsz, h1⟩ := id hp
        have bnd : ∀ {zs : List V} {zs' : Array Value} {z : V}, VRs S σ zs zs'.toList → pack agg ((zs.drop off).take n) = some z → agg = false → off + n ≤ zs'.size := by
          intro zs zs' z hz hpk hag
          have h1' := h1 hag
          subst h1'
          subst hag
          simp only [pack, Bool.false_eq_true, if_false] at hpk
          have hl := hz.length
          simp at hl
          split at hpk
          · rename_i v0 he
            have := congrArg List.length he
            simp at this
            omega
          · cases hpk
        have part_ok : ∀ {zs : List V} {zs' : Array Value} {z : V}, VRs S σ zs zs'.toList → zs.all V.flat = true → pack agg ((zs.drop off).take n) = some z → ∃ u, (Go.part f.type zs' f.offset).run S.P w = .ok u w ∧ VR S σ z u := by
          intro zs zs' z hz hzf hpk
          rw [ho]
          exact run_part' hp ((hz.drop off).take n) (all_take (all_drop hzf _) _) hpk (fun hag => bnd hz hpk hag)
        obtain ⟨u1, e1, v1⟩ := part_ok hx hxf ha
        obtain ⟨u2, e2, v2⟩ := part_ok hy hyf hb
        have e3 := run_eqV w t f.type false d a b u1 u2 q ht (by omega) v1 v2 hq
        simp only [Go.Op.eqFields]
        rw [if_pos hn]
        simp only [Sem.run_bind, e1, Result.andThen_ok, e2, e3]
        cases q with
        | false =>
          simp only [Option.some.injEq] at h; subst h
          simp
        | true =>
          simp only at h
          simp only [Bool.not_true, Bool.false_eq_true, if_false]
          exact run_eqFs w rest fields' d xs ys xs' ys' r hr (by omega) hx hy hxf hyf h
    · cases h
end

end Cub

/- Operations that read, or do nothing to the state. -/
namespace Cub
open Go (Value World Addr TypeId FuncId Program Oper Operand Sem Result)
variable {S : Seat} {fns : Nat → Prop} {ρ : Operand → Value} {o : Oper} {σ : Sg} {st st' : St} {w : World} {e : Env} {v : V}

theorem does_bin {op : Go.BinOp} {x y : X} (hR : Rel S fns σ st w) (ho : OpSh S fns o (.bin op x y)) (hv : VRs S σ ((Op.bin op x y).opnds.map (·.ev e)) (o.op.operands.toList.map ρ))
    (h : step1 (.bin op x y) e st = some (v, st')) : Does S fns ρ o σ st w v st' := by
  obtain ⟨t, t', a, b, ha⟩ := ho
  rw [ha] at hv
  obtain ⟨h1, h2⟩ : VR S σ (x.ev e) (ρ a) ∧ VR S σ (y.ev e) (ρ b) := vrs2 hv
  simp only [step1] at h
  cases hb : bin op (x.ev e) (y.ev e) with
  | none => rw [hb] at h; cases h
  | some r =>
    rw [hb] at h
    simp only [Option.map_some, Option.some.injEq, Prod.mk.injEq] at h
    obtain ⟨rfl, rfl⟩ := h
    obtain ⟨u, e1, e2, e3⟩ := run_bin (S := S) (w := w) h1 h2 hb t a b
    exact .value hR (by simp only [Go.execOp, ha, Sem.run_bind, e1, e2, Result.andThen_ok, Sem.run_pure]) e3

theorem binOp_eq (op : Go.BinOp) (hop : op = .eql ∨ op = .neq) (t : TypeId) (a b : Value) (h1 : ∀ k n, a ≠ .int k n) (h2 : ∀ s, a ≠ .string s) (h3 : ∀ k n, a ≠ .float k n) (h4 : ∀ k n m, a ≠ .complex k n m) :
    Go.binOp op t a b = (do let r ← Go.Op.equal t a b; pure (.bool (if op = .neq then !r else r))) := by
  rcases hop with rfl | rfl
  · cases a <;> first | exact absurd rfl (h1 _ _) | exact absurd rfl (h2 _) | exact absurd rfl (h3 _ _) | exact absurd rfl (h4 _ _ _) | (cases b <;> rfl)
  · cases a <;> first | exact absurd rfl (h1 _ _) | exact absurd rfl (h2 _) | exact absurd rfl (h3 _ _) | exact absurd rfl (h4 _ _ _) | (cases b <;> rfl)

/-- Equality by its words, the guard too. -/
theorem run_eqOp {neg : Bool} {y : Ty} {x1 x2 : V} {a b : Value} {r : Bool} {t : TypeId} {xo yo : Operand} (ht : TyM S (isC xo || isC yo) t y) (hd : tyD y ≤ 100) (h1 : VR S σ x1 a) (h2 : VR S σ x2 b) (h : eqV y x1 x2 = some r) (w : World) :
    (Go.eqGuard (if neg then .neq else .eql) t xo yo a b).run S.P w = .ok () w ∧ (Go.binOp (if neg then .neq else .eql) t a b).run S.P w = .ok (.bool (if neg then !r else r)) w := by
  have heq := run_eqV w y t _ 10000 x1 x2 a b r ht (by omega) h1 h2 h
  have hop : (if neg then Go.BinOp.neq else .eql) = .eql ∨ (if neg then Go.BinOp.neq else .eql) = .neq := by cases neg <;> simp
  have hneg : ((if neg then Go.BinOp.neq else .eql) = .neq) = (neg = true) := by cases neg <;> simp
  have main : (∀ k n, a ≠ .int k n) → (∀ s, a ≠ .string s) → (∀ k n, a ≠ .float k n) → (∀ k n m, a ≠ .complex k n m) →
      (Go.binOp (if neg then .neq else .eql) t a b).run S.P w = .ok (.bool (if neg then !r else r)) w := by
    intro g1 g2 g3 g4
    rw [binOp_eq _ hop t a b g1 g2 g3 g4]
    simp only [Sem.run_bind, Go.Op.equal, Go.Op.maxDepth, heq, Result.andThen_ok, Sem.run_pure]
    cases neg <;> simp
  have guard : (a = .nilIface → b = .nilIface → (isC xo || isC yo) = true ∨ ∃ ms, Und S t (.interface ms) ∧ ms.isEmpty = true) →
      (∀ p q, a = .agg p → b = .agg q → S.P.eqGuardType S.P.depth t = false) → (Go.eqGuard (if neg then .neq else .eql) t xo yo a b).run S.P w = .ok () w := by
    intro g1 g2
    unfold Go.eqGuard
    rw [if_neg]
    · split
      · rcases g1 rfl rfl with g | ⟨ms, hu, hms⟩
        · rw [if_pos]
          · rfl
          · cases xo <;> cases yo <;> first | rfl | exact Bool.noConfusion (show false = true from g)
        · have : (Go.Op.eqGuardIn Go.Op.maxDepth t .nilIface .nilIface).run S.P w = .ok false w := by
            have : ∀ d, (Go.Op.eqGuardIn (d + 1) t .nilIface .nilIface).run S.P w = .ok false w := fun d => by
              simp [Go.Op.eqGuardIn, run_und hu, hms]
            exact this 9999
          rw [Sem.run_ite]
          split
          · rfl
          · simp [this]
      · have := g2 _ _ rfl rfl
        simp [Go.program, Sem.run, this]
      · rfl
    · cases neg <;> simp
  cases y with
  | none => simp only [TyM] at ht
  | int =>
    simp only [eqV] at h
    split at h
    · rename_i k m k' n
      split at h
      · rename_i hk; subst hk
        cases h
        simp only [VR] at h1 h2; subst h1; subst h2
        refine ⟨guard (by simp) (by simp), ?_⟩
        cases neg <;> simp [Go.binOp, Go.Op.intCmp, bne]
      · cases h
    · cases h
  | str =>
    simp only [eqV] at h
    split at h
    · cases h
      simp only [VR] at h1 h2; subst h1; subst h2
      refine ⟨guard (by simp) (by simp), ?_⟩
      cases neg <;> simp [Go.binOp, Go.Op.stringOp, ba_toList]
    · cases h
  | bool =>
    simp only [eqV] at h
    split at h
    · cases h
      simp only [VR] at h1 h2; subst h1; subst h2
      exact ⟨guard (by simp) (by simp), main (by simp) (by simp) (by simp) (by simp)⟩
    · cases h
  | ptr =>
    simp only [eqV] at h
    have pt : ∀ {q : Option (Nat × Nat)} {u : Value}, VR S σ (.ptr q) u → ∃ q', u = .pointer q' := by
      intro q u hq
      cases q with
      | none => simp only [VR] at hq; exact ⟨_, hq⟩
      | some q => simp only [VR] at hq; obtain ⟨_, e1, _⟩ := hq; exact ⟨_, e1⟩
    have : ∃ q q', x1 = .ptr q ∧ x2 = .ptr q' := by split at h <;> first | exact ⟨_, _, rfl, rfl⟩ | cases h
    obtain ⟨q, q', rfl, rfl⟩ := this
    obtain ⟨_, rfl⟩ := pt h1
    obtain ⟨_, rfl⟩ := pt h2
    exact ⟨guard (by simp) (by simp), main (by simp) (by simp) (by simp) (by simp)⟩
  | slice =>
    have sl : ∀ {q : Option (Nat × Nat)} {n : Nat} {c : Cap} {u : Value}, VR S σ (.slice q n c) u → ∃ q' n' c', u = .slice q' n' c' := by
      intro q n c u hq
      cases q with
      | none => simp only [VR] at hq; exact ⟨_, _, _, hq.1⟩
      | some q => cases c with
        | is c => simp only [VR] at hq; obtain ⟨_, e1, _⟩ := hq; exact ⟨_, _, _, e1⟩
        | opn sz => simp only [VR] at hq; obtain ⟨_, _, _, ⟨_, e1, _⟩ | ⟨_, _, _, e1⟩⟩ := hq <;> exact ⟨_, _, _, e1⟩
    simp only [eqV] at h
    have : ∃ q n c q' n' c', x1 = .slice q n c ∧ x2 = .slice q' n' c' := by split at h <;> first | exact ⟨_, _, _, _, _, _, rfl, rfl⟩ | cases h
    obtain ⟨q, n, c, q', n', c', rfl, rfl⟩ := this
    obtain ⟨_, _, _, rfl⟩ := sl h1
    obtain ⟨_, _, _, rfl⟩ := sl h2
    exact ⟨guard (by simp) (by simp), main (by simp) (by simp) (by simp) (by simp)⟩
  | map =>
    have mp : ∀ {q : Option Nat} {u : Value}, VR S σ (.map q) u → ∃ q', u = .map q' := by
      intro q u hq
      cases q with
      | none => simp only [VR] at hq; exact ⟨_, hq⟩
      | some q => simp only [VR] at hq; obtain ⟨_, _, e1⟩ := hq; exact ⟨_, e1⟩
    simp only [eqV] at h
    have : ∃ q q', x1 = .map q ∧ x2 = .map q' := by split at h <;> first | exact ⟨_, _, rfl, rfl⟩ | cases h
    obtain ⟨q, q', rfl, rfl⟩ := this
    obtain ⟨_, rfl⟩ := mp h1
    obtain ⟨_, rfl⟩ := mp h2
    exact ⟨guard (by simp) (by simp), main (by simp) (by simp) (by simp) (by simp)⟩
  | func =>
    simp only [eqV] at h
    split at h <;> cases h
    · simp only [VR] at h1 h2; subst h1; subst h2; exact ⟨guard (by simp) (by simp), main (by simp) (by simp) (by simp) (by simp)⟩
    · simp only [VR] at h1 h2; subst h1; obtain ⟨_, _, rfl, _⟩ := h2; exact ⟨guard (by simp) (by simp), main (by simp) (by simp) (by simp) (by simp)⟩
    · simp only [VR] at h1 h2; subst h2; obtain ⟨_, _, rfl, _⟩ := h1; exact ⟨guard (by simp) (by simp), main (by simp) (by simp) (by simp) (by simp)⟩
  | iface m =>
    simp only [TyM] at ht
    obtain ⟨ms, hu, hm⟩ := ht
    simp only [eqV] at h
    split at h
    · split at h
      · cases h
      · rename_i hmf
        cases h; simp only [VR] at h1 h2; subst h1; subst h2
        refine ⟨guard (fun _ _ => ?_) (by simp), main (by simp) (by simp) (by simp) (by simp)⟩
        cases hms : ms.isEmpty with
        | true => exact .inr ⟨ms, hu, hms⟩
        | false =>
          refine .inl ?_
          rw [hms] at hm
          cases hl : (isC xo || isC yo) with
          | true => rfl
          | false => rw [hl] at hm; simp at hm; exact absurd hm hmf
    · cases h; simp only [VR] at h1 h2; subst h1; obtain ⟨_, rfl, _⟩ := h2; exact ⟨guard (by simp) (by simp), main (by simp) (by simp) (by simp) (by simp)⟩
    · cases h; simp only [VR] at h1 h2; subst h2; obtain ⟨_, rfl, _⟩ := h1; exact ⟨guard (by simp) (by simp), main (by simp) (by simp) (by simp) (by simp)⟩
    · cases h
  | struct fs =>
    simp only [TyM] at ht
    obtain ⟨fields, hu, hs, hg, hf⟩ := ht
    simp only [eqV] at h
    have : ∃ p q, x1 = .agg p ∧ x2 = .agg q := by split at h <;> first | exact ⟨_, _, rfl, rfl⟩ | cases h
    obtain ⟨p, q, rfl, rfl⟩ := this
    simp only [VR] at h1 h2
    obtain ⟨_, rfl, _⟩ := h1
    obtain ⟨_, rfl, _⟩ := h2
    exact ⟨guard (by simp) (fun _ _ _ _ => hg), main (by simp) (by simp) (by simp) (by simp)⟩

end Cub

/- Operations that read, or do nothing to the state: the rest. -/
namespace Cub
open Go (Value World Addr TypeId FuncId Program Oper Operand Sem Result)
variable {S : Seat} {fns : Nat → Prop} {ρ : Operand → Value} {o : Oper} {σ : Sg} {st st' : St} {w : World} {e : Env} {v : V}

theorem eql_ptr (t : TypeId) {el : TypeId} {n : Nat} (hu : Und S t (.pointer el)) (hs : SizeM S el n) (hn : n ≠ 0) (a b : Addr) (d : Nat) :
    (Go.Op.equalIn (d + 1) t (.pointer (some a)) (.pointer (some b))).run S.P w = (Go.sameAddr a b).run S.P w := by
  obtain ⟨i, hi, hin⟩ := hs
  simp only [Go.Op.equalIn, Sem.run_bind, run_und hu, Result.andThen_ok, run_size hi, hin]
  rw [Sem.run_ite, if_pos hn]

theorem run_sameAddr (hR : Rel S fns σ st w) {a b : Nat × Nat} {a' b' : Addr} {r : Bool} (ha : AR σ a a') (hb : AR σ b b')
    (h : (if a.1 = b.1 then some (a.2 == b.2) else match st.mem a.1, st.mem b.1 with | some (.cells _ none), some (.cells _ none) => some false | _, _ => none) = some r) :
    (Go.sameAddr a' b').run S.P w = .ok r w := by
  obtain ⟨l, hl, rfl⟩ := ha
  obtain ⟨m, hm, rfl⟩ := hb
  split at h
  · rename_i he
    simp only [Option.some.injEq] at h
    subst h
    rw [← he] at hm
    rw [hl] at hm; cases hm
    unfold Go.sameAddr
    simp only [beq_self_eq_true, if_true, Sem.run_pure]
    congr 1
    rw [Bool.eq_iff_iff]; simp
  · rename_i hne
    split at h
    · rename_i c1 c2 h1 h2
      cases h
      have hbl : l.blk ≠ m.blk := fun he => hne (hR.inj _ _ _ _ (by simp [h1]) (by simp [h2]) hl hm he)
      obtain ⟨arr1, ty1, lo1, hi1, e1, _, _, _, k1⟩ := hR.obj _ _ l h1 hl
      obtain ⟨arr2, ty2, lo2, hi2, e2, _, _, _, k2⟩ := hR.obj _ _ m h2 hm
      simp only at k1 k2
      have f1 : ∀ k, w.frozen? ⟨l.blk, k, none⟩ = false := fun k => by simp [World.frozen?, e1]; omega
      have f2 : ∀ k, w.frozen? ⟨m.blk, k, none⟩ = false := fun k => by simp [World.frozen?, e2]; omega
      have s1 : w.shape? l.blk = some (ty1, arr1.size) := by simp [World.shape?, e1]
      have s2 : w.shape? m.blk = some (ty2, arr2.size) := by simp [World.shape?, e2]
      unfold Go.sameAddr
      have hb : (l.blk == m.blk) = false := by simpa using hbl
      simp only [hb, Bool.false_eq_true, if_false]
      simp [Go.frozen, Go.shape, Sem.run, f1, f2, s1, s2, Go.noView, Go.viewAt, Go.mayBeOne, Go.stringish]
    · cases h

theorem does_eq {neg : Bool} {y : Ty} {x1 x2 : X} (hR : Rel S fns σ st w) (ho : OpSh S fns o (.eq neg y x1 x2)) (hv : VRs S σ ((Op.eq neg y x1 x2).opnds.map (·.ev e)) (o.op.operands.toList.map ρ))
    (h : step1 (.eq neg y x1 x2) e st = some (v, st')) : Does S fns ρ o σ st w v st' := by
  obtain ⟨t, t', a, b, ha, ht, hd⟩ := ho
  rw [ha] at hv
  obtain ⟨h1, h2⟩ : VR S σ (x1.ev e) (ρ a) ∧ VR S σ (x2.ev e) (ρ b) := vrs2 hv
  simp only [step1] at h
  cases hb : eqS st y (x1.ev e) (x2.ev e) with
  | none => rw [hb] at h; cases h
  | some r =>
    rw [hb] at h
    simp only [Option.map_some, Option.some.injEq, Prod.mk.injEq] at h
    obtain ⟨rfl, rfl⟩ := h
    have main : ∃ u, (Go.eqGuard (if neg then .neq else .eql) t a b (ρ a) (ρ b)).run S.P w = .ok () w ∧ (Go.binOp (if neg then .neq else .eql) t (ρ a) (ρ b)).run S.P w = .ok u w ∧ VR S σ (.bool (if neg then !r else r)) u := by
      unfold eqS at hb
      split at hb
      · rename_i y1 y2 a1 i1 a2 i2 hy1 hy2
        rw [hy1] at h1; rw [hy2] at h2
        simp only [VR] at h1 h2
        obtain ⟨p, hp, hpa⟩ := h1
        obtain ⟨q, hq, hqa⟩ := h2
        rw [hp, hq]
        simp only [TyM] at ht
        obtain ⟨el, n, hu, hs, hn⟩ := ht
        have hsame := run_sameAddr hR hpa hqa hb
        refine ⟨.bool (if neg then !r else r), ?_, ?_, by simp only [VR]⟩
        · unfold Go.eqGuard
          rw [Sem.run_ite]
          split <;> rfl
        · have hop : (if neg then Go.BinOp.neq else .eql) = .eql ∨ (if neg then Go.BinOp.neq else .eql) = .neq := by cases neg <;> simp
          rw [binOp_eq _ hop t _ _ (by simp) (by simp) (by simp) (by simp)]
          have : (Go.Op.equal t (.pointer (some p)) (.pointer (some q))).run S.P w = .ok r w := by
            show (Go.Op.equalIn (9999 + 1) t (.pointer (some p)) (.pointer (some q))).run S.P w = .ok r w
            rw [eql_ptr t hu hs hn, hsame]
          simp only [Sem.run_bind, this, Result.andThen_ok, Sem.run_pure]
          cases neg <;> simp
      · exact ⟨_, (run_eqOp ht hd h1 h2 hb w).1, (run_eqOp ht hd h1 h2 hb w).2, by simp only [VR]⟩
    obtain ⟨u, e1, e2, e3⟩ := main
    exact .value hR (by simp only [Go.execOp, ha, Sem.run_bind, e1, e2, Result.andThen_ok, Sem.run_pure]) e3

theorem does_un {op : Go.UnOp} {x : X} (hR : Rel S fns σ st w) (ho : OpSh S fns o (.un op x)) (hv : VRs S σ ((Op.un op x).opnds.map (·.ev e)) (o.op.operands.toList.map ρ))
    (h : step1 (.un op x) e st = some (v, st')) : Does S fns ρ o σ st w v st' := by
  obtain ⟨t, a, ha⟩ := ho
  rw [ha] at hv
  have h1 : VR S σ (x.ev e) (ρ a) := vrs1' hv
  simp only [step1] at h
  cases hb : un op (x.ev e) with
  | none => rw [hb] at h; cases h
  | some r =>
    rw [hb] at h
    simp only [Option.map_some, Option.some.injEq, Prod.mk.injEq] at h
    obtain ⟨rfl, rfl⟩ := h
    unfold un at hb
    split at hb
    · rename_i hx; cases hb; rw [hx] at h1; simp only [VR] at h1
      exact .value hR (by simp only [Go.execOp, ha, h1, Go.Op.unary, Go.Op.intArith]; rfl) (by simp only [VR])
    · rename_i hx; cases hb; rw [hx] at h1; simp only [VR] at h1
      exact .value hR (by simp only [Go.execOp, ha, h1, Go.Op.unary, Go.Op.intBits]; rfl) (by simp only [VR])
    · rename_i hx; cases hb; rw [hx] at h1; simp only [VR] at h1
      exact .value hR (by simp only [Go.execOp, ha, h1, Go.Op.unary]; rfl) (by simp only [VR])
    · cases hb

theorem does_mkIface {t : Nat} {x : X} (hR : Rel S fns σ st w) (ho : OpSh S fns o (.mkIface t x)) (hv : VRs S σ ((Op.mkIface t x).opnds.map (·.ev e)) (o.op.operands.toList.map ρ))
    (h : step1 (.mkIface t x) e st = some (v, st')) : Does S fns ρ o σ st w v st' := by
  obtain ⟨u, a, d, ha, hu, hd, hni⟩ := ho
  rw [ha] at hv
  have h1 : VR S σ (x.ev e) (ρ a) := vrs1' hv
  simp only [step1, Option.some.injEq, Prod.mk.injEq] at h
  obtain ⟨rfl, rfl⟩ := h
  refine .value hR (u := .iface u (ρ a)) ?_ ?_
  · simp only [Go.execOp, ha, Go.Instr.makeInterface, Sem.run_bind, run_und hd, Result.andThen_ok]
    cases d <;> first | exact absurd rfl (hni _) | rfl
  · simp only [VR]; exact ⟨_, by rw [hu], h1⟩

theorem evAll_eq (e : Env) (l : List X) : evAll e l = l.map (·.ev e) := rfl

theorem does_mkFunc {f : Nat} {first captured : List X} (hR : Rel S fns σ st w) (ho : OpSh S fns o (.mkFunc f first captured)) (hv : VRs S σ ((Op.mkFunc f first captured).opnds.map (·.ev e)) (o.op.operands.toList.map ρ))
    (h : step1 (.mkFunc f first captured) e st = some (v, st')) : Does S fns ρ o σ st w v st' := by
  obtain ⟨fs, cs, ha, hf, hc, _⟩ := ho
  rw [ha] at hv
  simp only [step1, Option.some.injEq, Prod.mk.injEq] at h
  obtain ⟨rfl, rfl⟩ := h
  refine .value hR (u := .func (.func (S.φ f)) (fs.map ρ) (cs.map ρ)) (by simp only [Go.execOp, ha]; rfl) ?_
  simp only [Op.opnds, List.map_append, Go.Op.operands, Array.toList_append] at hv
  simp only [VR]
  have e1 := hv.take first.length
  have e2 := hv.drop first.length
  rw [List.take_left' (by simp), List.take_left' (by simp [← hf])] at e1
  rw [List.drop_left' (by simp), List.drop_left' (by simp [← hf])] at e2
  exact ⟨_, _, rfl, by simpa [evAll] using e1, by simpa [evAll] using e2⟩

theorem does_field {off n : Nat} {agg : Bool} {x : X} (hR : Rel S fns σ st w) (ho : OpSh S fns o (.field off n agg x)) (hv : VRs S σ ((Op.field off n agg x).opnds.map (·.ev e)) (o.op.operands.toList.map ρ))
    (h : step1 (.field off n agg x) e st = some (v, st')) : Does S fns ρ o σ st w v st' := by
  obtain ⟨t, a, i, fields, f, ha, hu, hf, hoff, hp⟩ := ho
  rw [ha] at hv
  have h1 : VR S σ (x.ev e) (ρ a) := vrs1' hv
  simp only [step1] at h
  split at h
  · rename_i cs hx
    rw [hx] at h1
    simp only [VR] at h1
    obtain ⟨cs', hc, hcs, hcf⟩ := h1
    cases hpk : pack agg ((cs.drop off).take n) with
    | none => rw [hpk] at h; cases h
    | some r =>
      rw [hpk] at h
      simp only [Option.map_some, Option.some.injEq, Prod.mk.injEq] at h
      obtain ⟨rfl, rfl⟩ := h
      have hbnd : agg = false → off + n ≤ cs'.size := by
        intro hag
        have hn1 : n = 1 := by obtain ⟨_, _, _, _, h1⟩ := hp; exact h1 hag
        subst hn1; subst hag
        have hl := hcs.length
        simp at hl
        simp only [pack, Bool.false_eq_true, if_false] at hpk
        split at hpk
        · rename_i v0 he
          have := congrArg List.length he
          simp at this; omega
        · cases hpk
      obtain ⟨u, e1, e2⟩ := run_part' (w := w) hp (cs := cs') ((hcs.drop off).take n) (all_take (all_drop hcf _) _) hpk hbnd
      refine .value hR (u := u) ?_ e2
      simp only [Go.execOp, ha, Go.Instr.field, Sem.run_bind, run_und hu, Result.andThen_ok, hf, hc, Go.asAgg, Sem.run_pure, hoff, e1]
  · cases h

theorem does_fieldAddr {off : Nat} {x : X} (hR : Rel S fns σ st w) (ho : OpSh S fns o (.fieldAddr off x)) (hv : VRs S σ ((Op.fieldAddr off x).opnds.map (·.ev e)) (o.op.operands.toList.map ρ))
    (h : step1 (.fieldAddr off x) e st = some (v, st')) : Does S fns ρ o σ st w v st' := by
  obtain ⟨t, a, i, fields, f, n, ha, hu, hf, hoff, ⟨inf, hi, hin⟩, hn⟩ := ho
  rw [ha] at hv
  have h1 : VR S σ (x.ev e) (ρ a) := vrs1' hv
  simp only [step1] at h
  split at h
  · rename_i b off' hx
    cases h
    rw [hx] at h1
    simp only [VR] at h1
    obtain ⟨a', hc, l, hl, ha'⟩ := h1
    refine .value hR (u := .pointer (some ⟨l.blk, l.off + off' + off, none⟩)) ?_ ?_
    · simp only [Go.execOp, ha, Go.Instr.fieldAt, Sem.run_bind, run_und hu, Result.andThen_ok, hf, hc, Go.Instr.sureAddr, Sem.run_pure, Go.fieldPlace, run_size hi, hin]
      rw [Sem.run_ite, if_neg hn]
      simp only [Sem.run_pure, Result.andThen_ok, ha', addr_add, hoff]
    · simp only [VR]
      exact ⟨_, rfl, l, hl, by simp [Nat.add_assoc]⟩
  · cases h

theorem asIdx_some {x : V} {n k : Nat} (h : asIdx x n = some k) : ∃ kd i, x = .int kd i ∧ 0 ≤ i ∧ i < n ∧ k = i.toNat := by
  unfold asIdx at h
  split at h
  · split at h
    · rename_i hi; cases h; exact ⟨_, _, rfl, hi.1, hi.2, rfl⟩
    · cases h
  · cases h

theorem does_indexAddr {s : Shp} {size : Nat} {x i : X} (hR : Rel S fns σ st w) (ho : OpSh S fns o (.indexAddr s size x i)) (hv : VRs S σ ((Op.indexAddr s size x i).opnds.map (·.ev e)) (o.op.operands.toList.map ρ))
    (h : step1 (.indexAddr s size x i) e st = some (v, st')) : Does S fns ρ o σ st w v st' := by
  obtain ⟨t, a, b, el, ha, ⟨inf, hi, hin⟩, hs⟩ := ho
  rw [ha] at hv
  obtain ⟨h1, h2⟩ : VR S σ (x.ev e) (ρ a) ∧ VR S σ (i.ev e) (ρ b) := vrs2 hv
  simp only [step1] at h
  split at h
  · rename_i n bk off hx
    cases hk : asIdx (i.ev e) n with
    | none => rw [hk] at h; cases h
    | some k =>
      rw [hk] at h
      simp only [Option.map_some, Option.some.injEq, Prod.mk.injEq] at h
      obtain ⟨rfl, rfl⟩ := h
      obtain ⟨kd, j, hj, hj0, hjn, rfl⟩ := asIdx_some hk
      rw [hx] at h1; rw [hj] at h2
      simp only [VR] at h1 h2
      obtain ⟨a', hc, l, hl, ha'⟩ := h1
      refine .value hR (u := .pointer (some ⟨l.blk, l.off + off + j.toNat * size, none⟩)) ?_ ?_
      · simp only [Go.execOp, ha, Go.Instr.indexAt, h2, hc, Go.asIntOf, Sem.run_bind, Sem.run_pure, run_und hs, Result.andThen_ok, Go.Instr.sureAddr]
        rw [Sem.run_ite, if_pos ⟨hj0, hjn⟩]
        simp only [Sem.run_bind, run_size hi, Result.andThen_ok, Sem.run_pure, ha', addr_add, hin]
      · simp only [VR]
        exact ⟨_, rfl, l, hl, by simp [Nat.add_assoc]⟩
  · rename_i bk off n c hx
    cases hk : asIdx (i.ev e) n with
    | none => rw [hk] at h; cases h
    | some k =>
      rw [hk] at h
      simp only [Option.map_some, Option.some.injEq, Prod.mk.injEq] at h
      obtain ⟨rfl, rfl⟩ := h
      obtain ⟨kd, j, hj, hj0, hjn, rfl⟩ := asIdx_some hk
      rw [hx] at h1; rw [hj] at h2
      have hn : n ≠ 0 := by omega
      have hsl : ∃ l c', σ bk = some l ∧ ρ a = .slice (some ⟨l.blk, l.off + off, none⟩) n c' := by
        cases c with
        | is c => simp only [VR] at h1; obtain ⟨a', e1, l, hl, rfl⟩ := h1; exact ⟨l, c, hl, e1⟩
        | opn sz =>
          simp only [VR] at h1
          obtain ⟨l, hl, _, ⟨c, e1, _⟩ | ⟨h0, _⟩⟩ := h1
          · exact ⟨l, c, hl, e1⟩
          · exact absurd h0 hn
      obtain ⟨l, c', hl, hc⟩ := hsl
      simp only [VR] at h2
      refine .value hR (u := .pointer (some ⟨l.blk, l.off + off + j.toNat * size, none⟩)) ?_ ?_
      · simp only [Go.execOp, ha, Go.Instr.indexAt, h2, hc, Go.asIntOf, Sem.run_bind, Sem.run_pure, run_und hs, Result.andThen_ok]
        rw [Sem.run_ite, if_pos ⟨hj0, hjn⟩]
        simp only [Sem.run_bind, run_size hi, Result.andThen_ok, Sem.run_pure, addr_add, hin]
      · simp only [VR]
        exact ⟨_, rfl, l, hl, by simp [Nat.add_assoc]⟩
  · cases h

theorem does_index {s : Shp} {size : Nat} {agg : Bool} {x i : X} (hR : Rel S fns σ st w) (ho : OpSh S fns o (.index s size agg x i)) (hv : VRs S σ ((Op.index s size agg x i).opnds.map (·.ev e)) (o.op.operands.toList.map ρ))
    (h : step1 (.index s size agg x i) e st = some (v, st')) : Does S fns ρ o σ st w v st' := by
  obtain ⟨t, a, b, ha, hs⟩ := ho
  rw [ha] at hv
  obtain ⟨h1, h2⟩ : VR S σ (x.ev e) (ρ a) ∧ VR S σ (i.ev e) (ρ b) := vrs2 hv
  simp only [step1] at h
  split at h
  · rename_i n cs hx
    simp only at hs
    obtain ⟨el, hu, hp⟩ := hs
    cases hk : asIdx (i.ev e) n with
    | none => rw [hk] at h; cases h
    | some k =>
      simp only [hk, Option.bind_eq_bind, Option.bind_some] at h
      cases hpk : pack agg ((cs.drop (k * size)).take size) with
      | none => rw [hpk] at h; cases h
      | some r =>
        simp only [hpk, Option.bind_some, Option.some.injEq, Prod.mk.injEq] at h
        obtain ⟨rfl, rfl⟩ := h
        obtain ⟨kd, j, hj, hj0, hjn, rfl⟩ := asIdx_some hk
        rw [hx] at h1; rw [hj] at h2
        simp only [VR] at h1 h2
        obtain ⟨cs', hc, hcs, hcf⟩ := h1
        have hbnd : agg = false → j.toNat * size + size ≤ cs'.size := by
          intro hag
          have hn1 : size = 1 := by obtain ⟨_, _, _, _, h1⟩ := hp; exact h1 hag
          subst hn1; subst hag
          have hl := hcs.length
          simp at hl
          simp only [pack, Bool.false_eq_true, if_false] at hpk
          split at hpk
          · rename_i v0 he
            have := congrArg List.length he
            simp at this; omega
          · cases hpk
        obtain ⟨u, e1, e2⟩ := run_part' (w := w) hp (cs := cs') ((hcs.drop (j.toNat * size)).take size) (all_take (all_drop hcf _) _) hpk hbnd
        obtain ⟨_, _, _, ⟨inf, hi, hin⟩, _⟩ := hp
        refine .value hR (u := u) ?_ e2
        simp only [Go.execOp, ha, Go.Instr.index, h2, hc, Go.asIntOf, Sem.run_bind, Sem.run_pure, run_und hu, Result.andThen_ok]
        rw [Sem.run_ite, if_pos ⟨hj0, hjn⟩]
        simp only [Sem.run_bind, run_size hi, hin, Result.andThen_ok, e1, Sem.run_pure]
  · rename_i l hx
    simp only at hs
    cases hk : asIdx (i.ev e) l.length with
    | none => rw [hk] at h; cases h
    | some k =>
      simp only [hk, Option.bind_eq_bind, Option.bind_some] at h
      cases hb : l[k]? with
      | none => rw [hb] at h; cases h
      | some c =>
        simp only [hb, Option.bind_some, Option.some.injEq, Prod.mk.injEq] at h
        obtain ⟨rfl, rfl⟩ := h
        obtain ⟨kd, j, hj, hj0, hjn, rfl⟩ := asIdx_some hk
        rw [hx] at h1; rw [hj] at h2
        simp only [VR] at h1 h2
        refine .value hR (u := .int .u8 c.toNat) ?_ (by simp only [VR])
        have hg : (⟨⟨l⟩⟩ : ByteArray)[j.toNat]? = some c := by
          have hlt : j.toNat < l.length := by omega
          have : l[j.toNat] = c := by rw [List.getElem?_eq_getElem hlt] at hb; exact Option.some.inj hb
          rw [getElem?_pos (⟨⟨l⟩⟩ : ByteArray) j.toNat (show j.toNat < ByteArray.size ⟨⟨l⟩⟩ from hlt)]
          exact congrArg some this
        simp only [Go.execOp, ha, Go.Instr.index, h2, h1, Go.asIntOf, Sem.run_bind, Sem.run_pure, run_und hs, Result.andThen_ok, hj0, if_true, hg]
  · cases h

theorem does_extract {x : X} {i : Nat} (hR : Rel S fns σ st w) (ho : OpSh S fns o (.extract x i)) (hv : VRs S σ ((Op.extract x i).opnds.map (·.ev e)) (o.op.operands.toList.map ρ))
    (h : step1 (.extract x i) e st = some (v, st')) : Does S fns ρ o σ st w v st' := by
  obtain ⟨a, ha⟩ := ho
  rw [ha] at hv
  have h1 : VR S σ (x.ev e) (ρ a) := vrs1' hv
  simp only [step1] at h
  split at h
  · rename_i vs hx
    cases hg : (vs[i]? : Option V) with
    | none => rw [hg] at h; cases h
    | some r =>
      rw [hg] at h
      simp only [Option.map_some, Option.some.injEq, Prod.mk.injEq] at h
      obtain ⟨rfl, rfl⟩ := h
      rw [hx] at h1
      simp only [VR] at h1
      obtain ⟨us, hu, hvs⟩ := h1
      obtain ⟨u, h3, h4⟩ := hvs.get i r hg
      refine .value hR (u := u) ?_ h4
      rw [Array.getElem?_toList] at h3
      simp only [Go.execOp, ha, Go.Instr.extract, hu, h3, Sem.run_bind, Sem.run_pure, Result.andThen_ok]
  · cases h

theorem does_minmax {mx : Bool} {x y : X} (hR : Rel S fns σ st w) (ho : OpSh S fns o (.minmax mx x y)) (hv : VRs S σ ((Op.minmax mx x y).opnds.map (·.ev e)) (o.op.operands.toList.map ρ))
    (h : step1 (.minmax mx x y) e st = some (v, st')) : Does S fns ρ o σ st w v st' := by
  obtain ⟨a, b, t, ha⟩ := ho
  rw [ha] at hv
  have hv' : VRs S σ [x.ev e, y.ev e] [ρ a, ρ b] := hv
  obtain ⟨h1, h2⟩ := vrs2 hv'
  simp only [step1] at h
  split at h
  · rename_i k m k' n hx hy
    cases h
    rw [hx] at h1; rw [hy] at h2
    simp only [VR] at h1 h2
    refine .value hR (u := .int k (if mx then (if n > m then n else m) else (if n < m then n else m))) ?_ (by simp only [VR])
    simp only [Go.execOp, ha, Go.resolve, Sem.run_bind, Sem.run_pure, Result.andThen_ok, Go.invoke]
    cases mx
    · simp [Go.builtin, Go.Builtin.min_, Go.Builtin.min2, h1, h2]
    · simp [Go.builtin, Go.Builtin.max_, Go.Builtin.max2, h1, h2]
  · cases h

end Cub

/- Conversions, cuts, lengths, aggregates; loads and look-ups. -/
namespace Cub
open Go (Value World Addr TypeId FuncId Program Oper Operand Sem Result)
variable {S : Seat} {fns : Nat → Prop} {ρ : Operand → Value} {o : Oper} {σ : Sg} {st st' : St} {w : World} {e : Env} {v : V}

theorem bytesOf_map : ∀ {l : List V} {s : List UInt8}, bytesOf l = some s → ∃ ns : List Int, l = ns.map (V.int .u8) ∧ s = ns.map fun n => UInt8.ofNat n.toNat
  | [], s, h => by cases h; exact ⟨[], rfl, rfl⟩
  | x :: r, s, h => by
    unfold bytesOf at h
    split at h
    · exact ⟨[], by simp_all, by simp_all⟩
    · rename_i n r' he
      cases he
      cases hb : bytesOf r with
      | none => rw [hb] at h; cases h
      | some t =>
        rw [hb] at h
        simp only [Option.map_some, Option.some.injEq] at h
        obtain ⟨ns, rfl, rfl⟩ := bytesOf_map hb
        exact ⟨n :: ns, rfl, by rw [← h]; rfl⟩
    · cases h
theorem vrs_ints {k : Go.IntKind} : ∀ {ns : List Int} {us : List Value}, VRs S σ (ns.map (V.int k)) us → us = ns.map (Value.int k)
  | [], us, h => by simpa only [List.map_nil, VRs] using h
  | n :: ns, us, h => by
    simp only [List.map_cons, VRs] at h
    obtain ⟨u, us', rfl, h1, h2⟩ := h
    simp only [VR] at h1
    rw [h1, vrs_ints h2]; rfl
theorem foldl_bytes : ∀ (ns : List Int) (l : List UInt8), ns.foldl (fun (r : ByteArray) n => r.push (UInt8.ofNat n.toNat)) ⟨⟨l⟩⟩ = ⟨⟨l ++ ns.map fun n => UInt8.ofNat n.toNat⟩⟩
  | [], l => by simp
  | n :: ns, l => by
    have : (⟨⟨l⟩⟩ : ByteArray).push (UInt8.ofNat n.toNat) = ⟨⟨l ++ [UInt8.ofNat n.toNat]⟩⟩ := by
      apply ByteArray.ext; simp [ByteArray.push, Array.push]
    rw [List.foldl_cons, this, foldl_bytes]
    simp

/-- The end of an exact block gets a mark. -/
theorem mark_rel (hR : Rel S fns σ st w) {b : Nat} {l : Loc} {c : List V} (hσ : σ b = some l) (hm : st.mem b = some (.cells c (some 0))) :
    ∃ heap : Array Go.Obj, (∀ a : Addr, a.block = l.blk → (Go.markStringish a).run S.P w = .ok () { w with heap := heap }) ∧ Rel S fns σ st { w with heap := heap } ∧ Goes σ st w σ st { w with heap := heap } := by
  obtain ⟨arr, ty, lo, hi, he, hcf, hs, hcv, hk1, hk2⟩ := hR.obj b _ l hm hσ
  have hlt := (hR.lt b l hσ).2
  have hset : st = st.set b (some (.cells c (some 0))) := by
    unfold St.set
    cases st with
    | mk mem next =>
      simp only [St.mk.injEq, and_true]
      funext j
      split
      · rename_i e; subst e; exact hm
      · rfl
  obtain ⟨lo2, hi2, hlh, hlo⟩ : ∃ lo2 hi2, (if lo == hi then (arr.size, arr.size + 1) else (min lo arr.size, max hi (arr.size + 1))) = (lo2, hi2) ∧ arr.size ≤ lo2 := by
    by_cases h : lo = hi
    · exact ⟨_, _, by rw [if_pos (by simpa using h)], Nat.le_refl _⟩
    · exact ⟨_, _, by rw [if_neg (by simpa using h)], by omega⟩
  refine ⟨w.heap.setIfInBounds l.blk (.cells arr ty (lo2, hi2)), fun a ha => ?_, ?_⟩
  · have hsh : World.shape? w a.block = some (ty, arr.size) := by rw [ha]; simp [World.shape?, he]
    simp only [Go.markStringish, Go.shape, Sem.run_bind, Sem.run, hsh, Result.andThen_ok, Go.freeze]
    congr 1
    simp only [World.freeze]
    rw [if_neg (by decide)]
    congr 1
    apply Array.ext_getElem?
    intro k
    rw [Array.getElem?_modify, Array.getElem?_setIfInBounds, ha]
    by_cases hk : l.blk = k
    · subst hk; rw [if_pos rfl, if_pos rfl, if_pos hlt, he]; simp only [Option.map_some]; rw [hlh]
    · rw [if_neg hk, if_neg hk]
  · have a1 : (w.heap.setIfInBounds l.blk (.cells arr ty (lo2, hi2))).size = w.heap.size := by simp
    have a2 : ∀ b, b ≠ l.blk → (w.heap.setIfInBounds l.blk (.cells arr ty (lo2, hi2)))[b]? = w.heap[b]? := by
      intro b hb; rw [Array.getElem?_setIfInBounds, if_neg (Ne.symm hb)]
    have a3 : (w.heap.setIfInBounds l.blk (.cells arr ty (lo2, hi2)))[l.blk]? = some (.cells arr ty (lo2, hi2)) := by
      rw [Array.getElem?_setIfInBounds, if_pos rfl, if_pos hlt]
    have h1 := hR.set hσ (by simp [hm]) a1 a2 (o := .cells c (some 0)) (by rw [a3]; exact ⟨arr, ty, lo2, hi2, rfl, hcf, hs, hcv, hk1, .inl hlo⟩) (fun h => absurd rfl (h.1 _ _))
    have h2 := Goes.set (st := st) hσ (by simp [hm, Wr]) (some (.cells c (some 0))) a1 a2 (fun q hq => by rw [he] at hq; cases hq)
    rw [← hset] at h1 h2
    exact ⟨h1, h2⟩

theorem does_conv {c : Conv} {x : X} (hc : c ≠ .strBytes) (hR : Rel S fns σ st w) (ho : OpSh S fns o (.conv c x)) (hv : VRs S σ ((Op.conv c x).opnds.map (·.ev e)) (o.op.operands.toList.map ρ))
    (h : step1 (.conv c x) e st = some (v, st')) : Does S fns ρ o σ st w v st' := by
  obtain ⟨s, d, a, ha, hs⟩ := ho
  rw [ha] at hv
  have h1 : VR S σ (x.ev e) (ρ a) := vrs1' hv
  simp only [step1] at h
  unfold convV at h
  split at h
  · rename_i k k' n hx
    simp only at hs
    obtain ⟨hd, k2, hs⟩ := hs
    cases h
    rw [hx] at h1; simp only [VR] at h1
    refine .value hR (u := .int k (k.wrap n)) ?_ (by simp only [VR])
    simp only [Go.execOp, ha, h1, Go.convert, Sem.run_bind, run_und hd, run_und hs, Result.andThen_ok]
    rfl
  · rename_i l hx
    simp only at hs
    cases h
    rw [hx] at h1; simp only [VR] at h1
    refine .value hR (u := .string ⟨⟨l⟩⟩) ?_ (by simp only [VR])
    simp only [Go.execOp, ha, h1, Go.convert, Sem.run_bind, run_und hs.1, run_und hs.2, Result.andThen_ok]
    rfl
  · exact absurd rfl hc
  · rename_i n cc hx
    simp only at hs
    obtain ⟨hd, el, hs, he⟩ := hs
    cases h
    rw [hx] at h1; simp only [VR] at h1
    refine .value hR (u := .string ⟨⟨[]⟩⟩) ?_ (by simp only [VR])
    simp only [Go.execOp, ha, h1.1, Go.convert, Sem.run_bind, run_und hd, run_und hs, run_und he, Result.andThen_ok]
    rfl
  · rename_i b off n cc hx
    simp only at hs
    obtain ⟨hd, el, hs, he⟩ := hs
    rw [hx] at h1
    cases hl : loadN st b off n with
    | none => simp [hl] at h
    | some vs =>
      cases hb : bytesOf vs with
      | none => simp [hl, hb] at h
      | some t =>
        simp only [hl, hb, Option.bind_eq_bind, Option.bind_some, Option.some.injEq, Prod.mk.injEq] at h
        obtain ⟨rfl, rfl⟩ := h
        obtain ⟨ns, rfl, rfl⟩ := bytesOf_map hb
        by_cases hn : n = 0
        · subst hn
          have hns : ns = [] := by
            have := loadN_length hl
            simpa using this
          subst hns
          have hsl : ∃ a' c', ρ a = .slice (some a') 0 c' := by
            cases cc with
            | is c => simp only [VR] at h1; obtain ⟨a', e1, _⟩ := h1; exact ⟨_, _, e1⟩
            | opn sz => simp only [VR] at h1; obtain ⟨_, _, _, ⟨_, e1, _⟩ | ⟨_, _, _, e1⟩⟩ := h1 <;> exact ⟨_, _, e1⟩
          obtain ⟨a', c', e1⟩ := hsl
          refine .value hR (u := .string ⟨⟨[]⟩⟩) ?_ (by simp only [List.map_nil, VR])
          have hrun : (Go.loadCells a' 0).run S.P w = .ok (([] : List Int).map (Value.int .u8)).toArray w := by simp [Go.loadCells, Go.loadCellsFrom]
          have hb := Go.run_bytesToString w a' 0 c' [] hrun
          simp only [Go.execOp, ha, e1, Go.convert, Sem.run_bind, run_und hd, run_und hs, run_und he, Result.andThen_ok, hb]
          rfl
        · have hsl : ∃ l c', σ b = some l ∧ ρ a = .slice (some ⟨l.blk, l.off + off, none⟩) n c' := by
            cases cc with
            | is c => simp only [VR] at h1; obtain ⟨a', e1, l, hl, rfl⟩ := h1; exact ⟨l, c, hl, e1⟩
            | opn sz =>
              simp only [VR] at h1
              obtain ⟨l, hl, _, ⟨c, e1, _⟩ | ⟨h0, _⟩⟩ := h1
              · exact ⟨l, c, hl, e1⟩
              · exact absurd h0 hn
          obtain ⟨l, c', hσ, e1⟩ := hsl
          obtain ⟨us, hr, hvs, _, _, _⟩ := load_rel hR hσ hl
          have := vrs_ints hvs
          subst this
          refine .value hR (u := .string ⟨⟨ns.map fun n => UInt8.ofNat n.toNat⟩⟩) ?_ (by simp only [VR])
          have hb := Go.run_bytesToString w _ n c' ns hr
          have he0 : ByteArray.empty = (⟨⟨[]⟩⟩ : ByteArray) := rfl
          rw [he0, foldl_bytes] at hb
          simp only [Go.execOp, ha, e1, Go.convert, Sem.run_bind, run_und hd, run_und hs, run_und he, Result.andThen_ok, hb]
          rfl
  · rename_i b off n cc hx
    simp only at hs
    obtain ⟨el, hd, he, rfl⟩ := hs
    split at h
    · rename_i cs hm
      cases h
      rw [hx] at h1
      have hsl : ∃ a' c', ρ a = .slice (some a') n c' ∧ ∃ l, σ b = some l ∧ a'.block = l.blk := by
        simp only [VR] at h1; obtain ⟨a', e1, l, hl, rfl⟩ := h1; exact ⟨_, _, e1, l, hl, rfl⟩
      obtain ⟨a', c', e1, l, hl, hbl⟩ := hsl
      obtain ⟨heap, hr, hR', hg⟩ := mark_rel hR hl hm
      refine ⟨ρ a, _, σ, .inl ?_, by rw [e1] at h1 ⊢; exact h1, hR', hg⟩
      simp only [Go.execOp, ha, e1, Go.convert, Sem.run_bind, run_und hd, run_und he, Result.andThen_ok, beq_self_eq_true, hr _ hbl]
      rfl
    · cases h
  · cases h

theorem run_bound {x : V} {u : Value} {most k : Nat} (hx : VR S σ x u) (h : bound x most = some k) (code : Go.BoundsCode) : (Go.Instr.sliceBound u most code).run S.P w = .ok k w ∧ k ≤ most := by
  unfold bound at h
  split at h
  · split at h
    · rename_i hi
      cases h
      simp only [VR] at hx; subst hx
      refine ⟨?_, by omega⟩
      simp only [Go.Instr.sliceBound, Go.asIntOf, Sem.run_bind, Sem.run_pure, Result.andThen_ok]
      rw [Sem.run_ite, if_pos hi]; rfl
    · cases h
  · cases h

/-- Operands that may be missing. -/
def VRo (S : Seat) (σ : Sg) (x : Option V) (u : Option Value) : Prop := match x, u with
  | none, none => True
  | some x, some u => VR S σ x u
  | _, _ => False

theorem run_bounds {lo hi mx : Option V} {lo' hi' mx' : Option Value} (h1 : VRo S σ lo lo') (h2 : VRo S σ hi hi') (h3 : VRo S σ mx mx') (hmh : mx.isSome → hi.isSome) (sl : Bool) {len cap l h m : Nat}
    (e1 : boundO mx cap cap = some m) (e2 : boundO hi m len = some h) (e3 : boundO lo h 0 = some l) :
    (Go.Instr.sliceBounds sl len cap lo' hi' mx').run S.P w = .ok (l, h, m) w ∧ l ≤ h ∧ m ≤ cap := by
  unfold Go.Instr.sliceBounds
  have ext : ∀ {x : Option V} {u : Option Value} {most d k : Nat}, VRo S σ x u → boundO x most d = some k →
      (u = none ∧ x = none ∧ k = d) ∨ (∃ y, u = some y ∧ x.isSome ∧ ∀ code, (Go.Instr.sliceBound y most code).run S.P w = .ok k w ∧ k ≤ most) := by
    intro x u most d k h he
    cases x with
    | none => cases u with
      | none => left; simp [boundO] at he; exact ⟨rfl, rfl, he.symm⟩
      | some _ => exact h.elim
    | some x => cases u with
      | none => exact h.elim
      | some u => right; exact ⟨u, rfl, rfl, fun code => run_bound h he code⟩
  rcases ext h3 e1 with ⟨rfl, rfl, rfl⟩ | ⟨y3, rfl, i3, r3⟩
  · rcases ext h2 e2 with ⟨rfl, rfl, rfl⟩ | ⟨y2, rfl, i2, r2⟩
    · rcases ext h1 e3 with ⟨rfl, rfl, rfl⟩ | ⟨y1, rfl, i1, r1⟩
      · exact ⟨by simp, by omega, by omega⟩
      · exact ⟨by simp [fun code => (r1 code).1], (r1 .index).2, by omega⟩
    · rcases ext h1 e3 with ⟨rfl, rfl, rfl⟩ | ⟨y1, rfl, i1, r1⟩
      · exact ⟨by simp [fun code => (r2 code).1], by omega, by omega⟩
      · exact ⟨by simp [fun code => (r1 code).1, fun code => (r2 code).1], (r1 .index).2, by omega⟩
  · rcases ext h2 e2 with ⟨rfl, rfl, rfl⟩ | ⟨y2, rfl, i2, r2⟩
    · exact absurd (hmh i3) (by simp)
    · rcases ext h1 e3 with ⟨rfl, rfl, rfl⟩ | ⟨y1, rfl, i1, r1⟩
      · exact ⟨by simp [fun code => (r2 code).1, fun code => (r3 code).1], by omega, (r3 .index).2⟩
      · exact ⟨by simp [fun code => (r1 code).1, fun code => (r2 code).1, fun code => (r3 code).1], (r1 .index).2, (r3 .index).2⟩

theorem vro_map {lo : Option X} {l : Option Operand} {r : List V} {us : List Value} (hs : l.isSome = lo.isSome)
    (h : VRs S σ (lo.toList.map (·.ev e) ++ r) (l.toList.map ρ ++ us)) : VRo S σ (lo.map (·.ev e)) (l.map ρ) ∧ VRs S σ r us := by
  cases lo <;> cases l <;> first | cases hs | skip
  · exact ⟨trivial, by simpa using h⟩
  · simp only [Option.toList, List.map_cons, List.map_nil, List.cons_append, List.nil_append, VRs] at h
    obtain ⟨u, us', e1, h1, h2⟩ := h
    cases e1
    exact ⟨h1, h2⟩

theorem does_slice {s : Shp} {size : Nat} {x : X} {lo hi mx : Option X} (hR : Rel S fns σ st w) (ho : OpSh S fns o (.slice s size x lo hi mx))
    (hv : VRs S σ ((Op.slice s size x lo hi mx).opnds.map (·.ev e)) (o.op.operands.toList.map ρ)) (h : step1 (.slice s size x lo hi mx) e st = some (v, st')) : Does S fns ρ o σ st w v st' := by
  obtain ⟨t, a, lo', hi', mx', ha, hl, hh, hm, hmh, hs⟩ := ho
  rw [ha] at hv
  have hv' : VRs S σ (x.ev e :: (lo.toList.map (·.ev e) ++ (hi.toList.map (·.ev e) ++ (mx.toList.map (·.ev e) ++ [])))) (ρ a :: (lo'.toList.map ρ ++ (hi'.toList.map ρ ++ (mx'.toList.map ρ ++ [])))) := by
    refine cast ?_ hv
    congr 1
    · simp [Op.opnds]
    · simp [Go.Op.operands]
  simp only [VRs] at hv'
  obtain ⟨u0, us0, e0, h1, hr⟩ := hv'
  cases e0
  obtain ⟨g1, hr⟩ := vro_map hl hr
  obtain ⟨g2, hr⟩ := vro_map hh hr
  obtain ⟨g3, _⟩ := vro_map hm hr
  have hmh' : (mx.map (·.ev e)).isSome → (hi.map (·.ev e)).isSome := by simpa using hmh
  simp only [step1] at h
  cases hsv : sliceV s size (x.ev e) (lo.map (·.ev e)) (hi.map (·.ev e)) (mx.map (·.ev e)) with
  | none => rw [hsv] at h; cases h
  | some r =>
    rw [hsv] at h
    simp only [Option.map_some, Option.some.injEq, Prod.mk.injEq] at h
    obtain ⟨rfl, rfl⟩ := h
    unfold sliceV at hsv
    split at hsv
    · -- a string
      rename_i l hx
      rw [hx] at h1; simp only [VR] at h1
      simp only at hs
      cases b2 : boundO (hi.map (·.ev e)) l.length l.length with
      | none => simp [b2] at hsv
      | some h' =>
        cases b3 : boundO (lo.map (·.ev e)) h' 0 with
        | none => simp [b2, b3] at hsv
        | some l' =>
          simp only [b2, b3, Option.bind_eq_bind, Option.bind_some] at hsv
          split at hsv
          · cases hsv
          · rename_i hmx
            cases hsv
            cases mx with
            | some _ => simp at hmx
            | none =>
              cases mx' with
              | some _ => cases hm
              | none =>
                have hb := (run_bounds (w := w) g1 g2 (mx := none) (mx' := none) trivial (by simp) false (len := l.length) (cap := l.length) (m := l.length) rfl b2 b3).1
                refine .value hR (u := .string ((⟨⟨l⟩⟩ : ByteArray).extract l' h')) ?_ ?_
                · have e1 : (ByteArray.size ⟨⟨l⟩⟩) = l.length := rfl
                  simp only [Go.execOp, ha, h1, Go.Instr.sliceAt, Go.Instr.slice, Sem.run_bind, run_und hs, Result.andThen_ok, Option.map_none, Option.isSome_none, Bool.false_eq_true, if_false, e1, hb, Sem.run_pure]
                · simp only [VR]
                  congr 1
                  apply ByteArray.ext
                  simp [ByteArray.data_extract, List.extract]
    · -- a nil slice
      rename_i n c hx
      rw [hx] at h1; simp only [VR] at h1
      simp only at hs
      obtain ⟨el, hu, ⟨inf, hi0, hin⟩⟩ := hs
      cases b1 : boundO (mx.map (·.ev e)) 0 0 with
      | none => simp [b1] at hsv
      | some m' =>
        cases b2 : boundO (hi.map (·.ev e)) m' 0 with
        | none => simp [b1, b2] at hsv
        | some h' =>
          cases b3 : boundO (lo.map (·.ev e)) h' 0 with
          | none => simp [b1, b2, b3] at hsv
          | some l' =>
            simp only [b1, b2, b3, Option.bind_eq_bind, Option.bind_some, Option.some.injEq] at hsv
            subst hsv
            obtain ⟨hb, hlh, hmc⟩ := run_bounds (w := w) g1 g2 g3 hmh' true b1 b2 b3
            have hhm : h' ≤ m' ∨ h' = 0 := by
              cases hi with
              | none => right; simp [boundO] at b2; omega
              | some y => left; simp only [Option.map_some, boundO] at b2; cases hi' with
                | none => cases hh
                | some z => exact (run_bound (w := w) (S := S) g2 b2 .sliceB).2
            refine .value hR (u := .slice none (h' - l') (m' - l')) ?_ ?_
            · simp only [Go.execOp, ha, h1.1, Go.Instr.sliceAt, Go.Instr.slice, Sem.run_bind, run_und hu, run_size hi0, Result.andThen_ok, hb, Sem.run_pure, Option.map_none]
              simp
            · simp only [VR]
              have : m' - l' = 0 := by omega
              have : h' - l' = 0 := by omega
              simp_all
    · -- a slice whose capacity is known
      rename_i b off n c hx
      rw [hx] at h1; simp only [VR] at h1
      obtain ⟨a', e1, lc, hlc, rfl⟩ := h1
      simp only at hs
      obtain ⟨el, hu, ⟨inf, hi0, hin⟩⟩ := hs
      cases b1 : boundO (mx.map (·.ev e)) c c with
      | none => simp [b1] at hsv
      | some m' =>
        cases b2 : boundO (hi.map (·.ev e)) m' n with
        | none => simp [b1, b2] at hsv
        | some h' =>
          cases b3 : boundO (lo.map (·.ev e)) h' 0 with
          | none => simp [b1, b2, b3] at hsv
          | some l' =>
            simp only [b1, b2, b3, Option.bind_eq_bind, Option.bind_some, Option.some.injEq] at hsv
            subst hsv
            obtain ⟨hb, hlh, hmc⟩ := run_bounds (w := w) g1 g2 g3 hmh' true b1 b2 b3
            refine .value hR (u := .slice (some (if m' = l' then ⟨lc.blk, lc.off + off, none⟩ else ⟨lc.blk, lc.off + off + l' * size, none⟩)) (h' - l') (m' - l')) ?_ ?_
            · simp only [Go.execOp, ha, e1, Go.Instr.sliceAt, Go.Instr.slice, Sem.run_bind, run_und hu, run_size hi0, hin, Result.andThen_ok, hb, Sem.run_pure, Option.map_some, addr_add]
              congr 3
              split <;> rfl
            · simp only [VR]
              refine ⟨_, rfl, lc, hlc, ?_⟩
              split <;> simp [Nat.add_assoc]
    · -- a slice of unknown capacity
      rename_i b off n sz hx
      rw [hx] at h1; simp only [VR] at h1
      obtain ⟨lc, hlc, hsz, h1⟩ := h1
      simp only at hs
      obtain ⟨el, hu, ⟨inf, hi0, hin⟩⟩ := hs
      cases b2 : boundO (hi.map (·.ev e)) n n with
      | none => simp [b2] at hsv
      | some h' =>
        cases b3 : boundO (lo.map (·.ev e)) h' 0 with
        | none => simp [b2, b3] at hsv
        | some l' =>
          simp only [b2, b3, Option.bind_eq_bind, Option.bind_some] at hsv
          split at hsv
          · rename_i hc
            cases hsv
            obtain ⟨hmx, rfl⟩ := hc
            cases mx with
            | some _ => simp at hmx
            | none =>
              cases mx' with
              | some _ => cases hm
              | none =>
                have hhn : h' ≤ n := by
                  cases hi with
                  | none => simp [boundO] at b2; omega
                  | some y => simp only [Option.map_some, boundO] at b2; cases hi' with
                    | none => cases hh
                    | some z => exact (run_bound (w := w) (S := S) g2 b2 .sliceB).2
                have hlh : l' ≤ h' := (run_bounds (w := w) g1 g2 (mx := none) (mx' := none) trivial (by simp) true (len := n) (cap := n) (m := n) rfl b2 b3).2.1
                rcases h1 with ⟨c, e1, hc, hnc⟩ | ⟨hn0, hat, a', e1⟩
                · have b2' : boundO (hi.map (·.ev e)) c n = some h' := by
                    cases hi with
                    | none => simpa [boundO] using b2
                    | some y =>
                      simp only [Option.map_some, boundO, bound] at b2 ⊢
                      split at b2
                      · split at b2
                        · rename_i hb; cases b2; rw [if_pos ⟨hb.1, by omega⟩]
                        · cases b2
                      · cases b2
                  have hb := (run_bounds (w := w) g1 g2 (mx := none) (mx' := none) trivial (by simp) true (len := n) (cap := c) (m := c) rfl b2' b3).1
                  refine .value hR (u := .slice (some (if c = l' then ⟨lc.blk, lc.off + off, none⟩ else ⟨lc.blk, lc.off + off + l' * sz, none⟩)) (h' - l') (c - l')) ?_ ?_
                  · simp only [Go.execOp, ha, e1, Go.Instr.sliceAt, Go.Instr.slice, Sem.run_bind, run_und hu, run_size hi0, hin, Result.andThen_ok, hb, Sem.run_pure, Option.map_some, Option.map_none, addr_add]
                    congr 3
                    split <;> rfl
                  · simp only [VR]
                    refine ⟨lc, hlc, hsz, ?_⟩
                    by_cases hcl : c = l'
                    · right
                      subst hcl
                      refine ⟨by omega, by rw [← hc, hsz], _, by rw [if_pos rfl]; congr 1 <;> omega⟩
                    · left
                      rw [if_neg hcl]
                      refine ⟨c - l', by simp [Nat.add_assoc], ?_, by omega⟩
                      rw [← hc, hsz, Nat.add_assoc, ← Nat.add_mul]
                      congr 2; omega
                · have hz : h' = 0 ∧ l' = 0 := by omega
                  obtain ⟨rfl, rfl⟩ := hz
                  have b2' : boundO (hi.map (·.ev e)) 0 0 = some 0 := by rw [hn0] at b2; exact b2
                  have hb := (run_bounds (w := w) g1 g2 (mx := none) (mx' := none) trivial (by simp) true (len := 0) (cap := 0) (m := 0) rfl b2' b3).1
                  refine .value hR (u := .slice (some a') 0 0) ?_ ?_
                  · simp only [Go.execOp, ha, e1, Go.Instr.sliceAt, Go.Instr.slice, Sem.run_bind, run_und hu, run_size hi0, hin, Result.andThen_ok, hb, Sem.run_pure, Option.map_some, Option.map_none]
                    rfl
                  · simp only [VR]
                    exact ⟨lc, hlc, hsz, .inr ⟨by simp, by simpa using hat, a', by simp⟩⟩
          · cases hsv
    · -- an array
      rename_i n b off hx
      rw [hx] at h1; simp only [VR] at h1
      obtain ⟨a', e1, lc, hlc, rfl⟩ := h1
      simp only at hs
      obtain ⟨el, hu, ⟨inf, hi0, hin⟩⟩ := hs
      cases b1 : boundO (mx.map (·.ev e)) n n with
      | none => simp [b1] at hsv
      | some m' =>
        cases b2 : boundO (hi.map (·.ev e)) m' n with
        | none => simp [b1, b2] at hsv
        | some h' =>
          cases b3 : boundO (lo.map (·.ev e)) h' 0 with
          | none => simp [b1, b2, b3] at hsv
          | some l' =>
            simp only [b1, b2, b3, Option.bind_eq_bind, Option.bind_some, Option.some.injEq] at hsv
            subst hsv
            obtain ⟨hb, hlh, hmc⟩ := run_bounds (w := w) g1 g2 g3 hmh' false b1 b2 b3
            refine .value hR (u := .slice (some (if m' = l' then ⟨lc.blk, lc.off + off, none⟩ else ⟨lc.blk, lc.off + off + l' * size, none⟩)) (h' - l') (m' - l')) ?_ ?_
            · simp only [Go.execOp, ha, e1, Go.Instr.sliceAt, Go.Instr.sureAddr, Sem.run_bind, run_und hu, run_size hi0, hin, Result.andThen_ok, hb, Sem.run_pure, addr_add]
            · simp only [VR]
              refine ⟨_, rfl, lc, hlc, ?_⟩
              split <;> simp [Nat.add_assoc]
    · cases hsv

end Cub

/- Lengths, assertions, aggregates, loads, look-ups. -/
namespace Cub
open Go (Value World Addr TypeId FuncId Program Oper Operand Sem Result)
variable {S : Seat} {fns : Nat → Prop} {ρ : Operand → Value} {o : Oper} {σ : Sg} {st st' : St} {w : World} {e : Env} {v : V}

theorem run_getObj {P : Program} {r : Nat} {x : Go.Obj} (h : w.heap[r]? = some x) (hn : ∀ a b c, x ≠ .cells a b c) : (Go.getObj r).run P w = .ok x w := by
  simp only [Go.getObj, Sem.run, h]

/-- The model's entries of a map. -/
theorem map_rel (hR : Rel S fns σ st w) {r : Nat} {l : Loc} {es : List (V × V × Nat)} {clock : Nat} (hσ : σ r = some l) (hm : st.mem r = some (.map es clock)) :
    ∃ es', w.heap[l.blk]? = some (.map es' clock) ∧ All2 (EntM S σ) es es'.toList := by
  obtain ⟨es', h1, h2⟩ := hR.obj r _ l hm hσ
  exact ⟨es', h1, h2⟩

theorem does_len {s : Shp} {x : X} (hR : Rel S fns σ st w) (ho : OpSh S fns o (.len s x)) (hv : VRs S σ ((Op.len s x).opnds.map (·.ev e)) (o.op.operands.toList.map ρ))
    (h : step1 (.len s x) e st = some (v, st')) : Does S fns ρ o σ st w v st' := by
  obtain ⟨a, t, ha, t0, ht0, hs⟩ := ho
  rw [ha] at hv
  have hv' : VRs S σ [x.ev e] [ρ a] := hv
  have h1 := vrs1' hv'
  have go : ∀ {n : Int}, (Go.Builtin.len_ t o.type #[ρ a]).run S.P w = .ok (.int .i64 n) w → v = .int .i64 n → st' = st → Does S fns ρ o σ st w v st' := by
    intro n hn hv hst
    subst hv; subst hst
    refine .value hR (u := .int .i64 n) ?_ (by simp only [VR])
    simp only [Go.execOp, ha, Go.resolve, Sem.run_bind, Sem.run_pure, Result.andThen_ok, Go.invoke, Go.builtin]
    simp [hn]
  simp only [step1] at h
  split at h
  · rename_i l hx
    cases h
    rw [hx] at h1; simp only [VR] at h1
    refine go (n := l.length) ?_ rfl rfl
    simp only at hs
    simp [Go.Builtin.len_, ht0, h1, run_und hs, Go.goInt]; rfl
  · rename_i q n c hx
    cases h
    rw [hx] at h1
    obtain ⟨el, hs⟩ := hs
    have hsl : ∃ a' c', ρ a = .slice a' n c' := by
      cases q with
      | none => simp only [VR] at h1; exact ⟨_, _, by rw [h1.1, h1.2.1]⟩
      | some q => cases c with
        | is c => simp only [VR] at h1; obtain ⟨a', e1, _⟩ := h1; exact ⟨_, _, e1⟩
        | opn sz => simp only [VR] at h1; obtain ⟨_, _, _, ⟨_, e1, _⟩ | ⟨h0, _, _, e1⟩⟩ := h1 <;> first | exact ⟨_, _, e1⟩ | exact ⟨_, _, by rw [e1, h0]⟩
    obtain ⟨a', c', e1⟩ := hsl
    refine go (n := n) ?_ rfl rfl
    simp [Go.Builtin.len_, ht0, e1, run_und hs, Go.goInt]
  · rename_i n
    cases h
    obtain ⟨el, hs⟩ := hs
    refine go (n := (n : Int)) ?_ rfl rfl
    simp [Go.Builtin.len_, ht0, run_und hs, Go.goInt]
  · rename_i hx
    cases h
    rw [hx] at h1; simp only [VR] at h1
    obtain ⟨k, el, hs⟩ := hs
    refine go (n := 0) ?_ rfl rfl
    simp [Go.Builtin.len_, ht0, h1, run_und hs, Go.goInt]
  · rename_i r hx
    rw [hx] at h1; simp only [VR] at h1
    obtain ⟨l, hl, e1⟩ := h1
    obtain ⟨k, el, hs⟩ := hs
    split at h
    · rename_i es clock hm
      cases h
      obtain ⟨es', h2, h3⟩ := map_rel hR hl hm
      refine go (n := es.length) ?_ rfl rfl
      have := h3.length
      simp [Go.Builtin.len_, ht0, e1, run_und hs, Go.goInt, run_getObj h2, ← this]
    · cases h
  · cases h

theorem does_typeAssert {t : Nat} {zero : V} {ok : Bool} {x : X} (hτ : ∀ a b, S.τ a = S.τ b → a = b) (hR : Rel S fns σ st w) (ho : OpSh S fns o (.typeAssert t zero ok x))
    (hv : VRs S σ ((Op.typeAssert t zero ok x).opnds.map (·.ev e)) (o.op.operands.toList.map ρ)) (h : step1 (.typeAssert t zero ok x) e st = some (v, st')) : Does S fns ρ o σ st w v st' := by
  obtain ⟨a, u, u', d, ha, hu, hd, hni, i, z, hi, hz, hzv⟩ := ho
  rw [ha] at hv
  have h1 : VR S σ (x.ev e) (ρ a) := vrs1' hv
  have hzv' : VR S σ zero z := hzv.le (fun _ _ h => by cases h)
  have hd' : ∀ (f : Sem Value), (match d, Value.nilIface with | .interface _, .nilIface => f | .interface want, .iface t _ => f | _, _ => f) = f := by intro f; cases d <;> rfl
  simp only [step1] at h
  split at h
  · rename_i t' x' hx
    rw [hx] at h1; simp only [VR] at h1
    obtain ⟨y, e1, h2⟩ := h1
    split at h
    · rename_i heq
      subst heq
      cases h
      refine .value hR (u := if ok then .tuple #[y, .bool true] else y) ?_ ?_
      · simp only [Go.execOp, ha, Go.Instr.typeAssert, e1, Sem.run_bind, run_und hd, Result.andThen_ok]
        cases d <;> first | exact absurd rfl (hni _) | (cases ok <;> simp [hu])
      · cases ok
        · exact h2
        · simp only [if_true, VR]
          exact ⟨_, rfl, .cons h2 (.cons (by simp only [VR]) .nil)⟩
    · rename_i hne
      split at h
      · rename_i hok
        cases h
        subst hok
        have hne' : ¬ S.τ t' = u' := fun he => hne (hτ _ _ (he.trans hu))
        refine .value hR (u := .tuple #[z, .bool false]) ?_ ?_
        · simp only [Go.execOp, ha, Go.Instr.typeAssert, e1, Sem.run_bind, run_und hd, Result.andThen_ok]
          cases d <;> first | exact absurd rfl (hni _) | simp [hne', run_zero hi hz]
        · simp only [VR]
          exact ⟨_, rfl, .cons hzv' (.cons (by simp only [VR]) .nil)⟩
      · cases h
  · rename_i hx
    rw [hx] at h1; simp only [VR] at h1
    split at h
    · rename_i hok
      cases h
      subst hok
      refine .value hR (u := .tuple #[z, .bool false]) ?_ ?_
      · simp only [Go.execOp, ha, Go.Instr.typeAssert, h1, Sem.run_bind, run_und hd, Result.andThen_ok]
        cases d <;> first | exact absurd rfl (hni _) | simp [run_zero hi hz]
      · simp only [VR]
        exact ⟨_, rfl, .cons hzv' (.cons (by simp only [VR]) .nil)⟩
    · cases h
  · cases h

theorem fold_set (off : Nat) : ∀ (l : List Value) (k : Nat) (cs : Array Value), off + k + l.length ≤ cs.size →
    ((l.zipIdx k).foldl (fun (cs : Array Value) x => cs.setIfInBounds (off + x.2) x.1) cs).toList = cs.toList.take (off + k) ++ l ++ cs.toList.drop (off + k + l.length)
  | [], k, cs, _ => by simp
  | x :: l, k, cs, h => by
    simp at h
    rw [List.zipIdx_cons, List.foldl_cons, fold_set off l (k + 1) _ (by simp; omega)]
    simp only [Array.toList_setIfInBounds]
    apply List.ext_getElem?
    intro j
    simp only [List.getElem?_append, List.length_append, List.length_take, List.length_set, List.length_cons, List.getElem?_take, List.getElem?_drop, List.getElem?_set, List.getElem?_cons, Array.length_toList]
    have e1 : min (off + (k + 1)) cs.size = off + k + 1 := by omega
    have e2 : min (off + k) cs.size = off + k := by omega
    rw [e1, e2]
    by_cases h1 : j < off + k
    · simp [h1, show j < off + k + 1 + l.length by omega, show j < off + k + 1 by omega, show j < off + k + (l.length + 1) by omega, show off + k ≠ j by omega, show j < off + (k + 1) by omega]
    · by_cases h2 : j = off + k
      · subst h2
        have hlt : off + k < cs.size := by omega
        simp [hlt]; omega
      · by_cases h3 : j < off + k + 1 + l.length
        · have hsub : j - (off + k) = (j - (off + k + 1)) + 1 := by omega
          simp [h1, h3, show ¬ j < off + k + 1 by omega, show j < off + k + (l.length + 1) by omega, hsub]
        · simp [h1, h3, show ¬ j < off + k + 1 by omega, show ¬ j < off + k + (l.length + 1) by omega]
          have e3 : off + (k + 1) + l.length + (j - (off + k + 1 + l.length)) = j := by omega
          have e4 : off + k + (l.length + 1) + (j - (off + k + (l.length + 1))) = j := by omega
          rw [e3, e4, if_neg (by omega)]

/-- Parts that are put into cells. -/
theorem fill_rel (place : Nat → Option (Nat × Nat)) : ∀ (ps : List (Nat × Nat × V)) (qs : List (Nat × Value)) (cells : List V) (cs : Array Value) (r : List V), qs.length = ps.length →
    (∀ (i : Nat) p q, ps[i]? = some p → qs[i]? = some q → place q.1 = some (p.1, p.2.1) ∧ VR S σ p.2.2 q.2) → VRs S σ cells cs.toList → cells.all V.flat = true → fillAt ps cells = some r →
    ∃ rs : Array Value, Go.Instr.fill place cs qs = some rs ∧ VRs S σ r rs.toList ∧ r.all V.flat = true ∧ r.length = cells.length
  | [], [], cells, cs, r, _, _, hc, hf, h => by
    cases h
    exact ⟨cs, rfl, hc, hf, rfl⟩
  | [], _ :: _, _, _, _, hl, _, _, _, _ => by simp at hl
  | _ :: _, [], _, _, _, hl, _, _, _, _ => by simp at hl
  | (off, n, x) :: ps, (j, u) :: qs, cells, cs, r, hl, hp, hc, hf, h => by
    obtain ⟨h1, h2⟩ := hp 0 _ _ rfl rfl
    simp only at h1 h2
    unfold fillAt at h
    split at h
    · rename_i l hcl
      split at h
      · rename_i hle
        obtain ⟨hlv, hlf⟩ := h2.cells hcl
        have hsz : u.cells.size = n := by have := hlv.length; simp at this; omega
        have hcs := hc.length
        simp at hcs
        have hfold := fold_set off u.cells.toList 0 cs (by simp; omega)
        have hfl : (u.cells.zipIdx.foldl (fun (cs : Array Value) x => cs.setIfInBounds (off + x.2) x.1) cs).toList = cs.toList.take off ++ u.cells.toList ++ cs.toList.drop (off + u.cells.toList.length) := by
          rw [← Array.foldl_toList, Array.toList_zipIdx]
          simpa using hfold
        have hnew : VRs S σ (splice cells off l) (u.cells.zipIdx.foldl (fun (cs : Array Value) x => cs.setIfInBounds (off + x.2) x.1) cs).toList := by
          rw [hfl]
          unfold splice
          have hlen := hlv.length
          rw [hlen]
          exact ((hc.take off).append hlv).append (hc.drop _)
        obtain ⟨rs, e1, e2, e3, e4⟩ := fill_rel place ps qs (splice cells off l) _ r (by simpa using hl) (fun i p q h3 h4 => hp (i + 1) p q (by simpa using h3) (by simpa using h4)) hnew
          (by unfold splice; rw [List.all_append, List.all_append, Bool.and_eq_true, Bool.and_eq_true]; exact ⟨⟨all_take hf _, hlf⟩, all_drop hf _⟩) h
        refine ⟨rs, ?_, e2, e3, by rw [e4, splice_length (by omega)]⟩
        rw [Go.Instr.fill, h1]
        simp only
        rw [if_neg (by simp; omega)]
        exact e1
      · cases h
    · cases h

theorem run_mapM {α β : Type} {P : Program} (f : α → Sem β) (g : α → β) : ∀ (l : List α), (∀ x ∈ l, (f x).run P w = .ok (g x) w) → (l.mapM f).run P w = .ok (l.map g) w
  | [], _ => by simp
  | x :: l, h => by
    rw [List.mapM_cons]
    simp only [Sem.run_bind, h x (by simp), Result.andThen_ok, run_mapM f g l (fun y hy => h y (by simp [hy])), Sem.run_pure, List.map_cons]

theorem ZeroM.rel {t : TypeId} {zs : List V} (h : ZeroM S t zs) : ∃ i z, S.P.info? t = some i ∧ i.zero = some z ∧ VRs S σ zs z.cells.toList ∧ zs.all V.flat = true := by
  obtain ⟨i, z, h1, h2, h3, h4⟩ := h
  exact ⟨i, z, h1, h2, h3.le (fun _ _ h => by cases h), h4⟩

theorem does_build {zs : List V} {ps : List (Nat × Nat × X)} (hR : Rel S fns σ st w) (ho : OpSh S fns o (.build zs ps)) (hv : VRs S σ ((Op.build zs ps).opnds.map (·.ev e)) (o.op.operands.toList.map ρ))
    (h : step1 (.build zs ps) e st = some (v, st')) : Does S fns ρ o σ st w v st' := by
  obtain ⟨t, qs, ha, hz, hql, hty⟩ := ho
  rw [ha] at hv
  obtain ⟨iz, z, hiz, hzz, hzr, hzf⟩ := hz.rel (σ := σ)
  simp only [step1] at h
  cases hf : fillAt (ps.map fun p => (p.1, p.2.1, p.2.2.ev e)) zs with
  | none => rw [hf] at h; cases h
  | some r =>
    rw [hf] at h
    simp only [Option.map_some, Option.some.injEq, Prod.mk.injEq] at h
    obtain ⟨rfl, rfl⟩ := h
    have hvs : ∀ (i : Nat) p j a, ps[i]? = some p → qs[i]? = some (j, a) → VR S σ (p.2.2.ev e) (ρ a) := by
      intro i p j a hp hq
      have hv' : VRs S σ (ps.map fun p => p.2.2.ev e) (qs.toList.map fun q => ρ q.2) := by
        refine cast ?_ hv
        congr 1
        · simp [Op.opnds]
        · simp [Go.Op.operands]
      obtain ⟨u, h1, h2⟩ := hv'.get i (p.2.2.ev e) (by simp [hp])
      have : qs.toList[i]? = some (j, a) := by rw [Array.getElem?_toList]; exact hq
      rw [List.getElem?_map, this] at h1
      rw [show ρ a = u from Option.some.inj h1]; exact h2
    have hq2 : ∀ (i : Nat) q, (qs.toList.map fun q => (q.1, ρ q.2))[i]? = some q → ∃ a, qs[i]? = some (q.1, a) ∧ q.2 = ρ a := by
      intro i q hq
      rw [List.getElem?_map] at hq
      cases hqq : qs.toList[i]? with
      | none => rw [hqq] at hq; cases hq
      | some y =>
        rw [hqq] at hq
        cases hq
        exact ⟨y.2, by rw [← Array.getElem?_toList]; exact hqq, rfl⟩
    have main : ∀ (place : Nat → Option (Nat × Nat)), (∀ (i : Nat) p j a, ps[i]? = some p → qs[i]? = some (j, a) → place j = some (p.1, p.2.1)) →
        ∃ rs : Array Value, Go.Instr.fill place z.cells (qs.toList.map fun q => (q.1, ρ q.2)) = some rs ∧ VRs S σ r rs.toList ∧ r.all V.flat = true := by
      intro place hplace
      obtain ⟨rs, e1, e2, e3, _⟩ := fill_rel (S := S) (σ := σ) place (ps.map fun p => (p.1, p.2.1, p.2.2.ev e)) (qs.toList.map fun q => (q.1, ρ q.2)) zs z.cells r (by simp [← hql]) (by
        intro i p q hp hq
        rw [List.getElem?_map] at hp
        cases hpp : ps[i]? with
        | none => rw [hpp] at hp; cases hp
        | some p0 =>
          rw [hpp] at hp; cases hp
          obtain ⟨a, hqa, hqv⟩ := hq2 i q hq
          exact ⟨hplace i p0 q.1 a hpp hqa, by rw [hqv]; exact hvs i p0 q.1 a hpp hqa⟩) hzr hzf hf
      exact ⟨rs, e1, e2, e3⟩
    have hmap : (qs.map fun (x : Nat × Operand) => (x.1, ρ x.2)).toList = qs.toList.map fun q => (q.1, ρ q.2) := by simp
    rcases hty with ⟨fields, hu, hsz, hpl⟩ | ⟨n, el, s, hu, ⟨is, his, hiss⟩, hpl⟩
    · have hmapM : (fields.mapM fun f => (do pure (f.offset, ← Go.sizeOf f.type) : Sem (Nat × Nat))).run S.P w = .ok (fields.map fun f => (f.offset, ((S.P.info? f.type).map (·.size)).getD 0)) w := by
        rw [Array.mapM_eq_mapM_toList]
        have := run_mapM (w := w) (P := S.P) (fun (f : Go.Field) => (do pure (f.offset, ← Go.sizeOf f.type) : Sem (Nat × Nat))) (fun f => (f.offset, ((S.P.info? f.type).map (·.size)).getD 0)) fields.toList (by
          intro f hf
          obtain ⟨n, i, hi, hin⟩ := hsz f (by simpa using hf)
          simp [run_size hi, hi])
        simp only [Sem.run_map, this, Result.andThen_ok]
        congr 1
        apply Array.toList_inj.1
        simp only [Array.toList_map]
      obtain ⟨rs, e1, e2, e3⟩ := main (fun j => (fields.map fun f => (f.offset, ((S.P.info? f.type).map (·.size)).getD 0))[j]?) (by
        intro i p j a hp hq
        obtain ⟨f, hfj, hfo, i2, hi2, hsz2⟩ := hpl i j a p hq hp
        simp [Array.getElem?_map, hfj, hfo, hi2, hsz2])
      refine .value hR (u := .agg rs) ?_ (by simp only [VR]; exact ⟨_, rfl, e2, e3⟩)
      simp only [Go.execOp, ha, Go.Instr.build, Sem.run_bind, run_zero hiz hzz, run_und hu, Result.andThen_ok, hmapM, hmap, e1, Sem.run_pure]
    · obtain ⟨rs, e1, e2, e3⟩ := main (fun j => some (j * s, s)) (by
        intro i p j a hp hq
        obtain ⟨h1, h2⟩ := hpl i j a p hq hp
        rw [h1, h2])
      refine .value hR (u := .agg rs) ?_ (by simp only [VR]; exact ⟨_, rfl, e2, e3⟩)
      simp only [Go.execOp, ha, Go.Instr.build, Sem.run_bind, run_zero hiz hzz, run_und hu, Result.andThen_ok, run_size his, hiss, hmap, e1, Sem.run_pure]

theorem does_load {n : Nat} {agg : Bool} {a : X} (hR : Rel S fns σ st w) (ho : OpSh S fns o (.load n agg a)) (hv : VRs S σ ((Op.load n agg a).opnds.map (·.ev e)) (o.op.operands.toList.map ρ))
    (h : step1 (.load n agg a) e st = some (v, st')) : Does S fns ρ o σ st w v st' := by
  obtain ⟨t, a', ha, d, hd, hag, ⟨i, hi, hin⟩, h1n⟩ := ho
  rw [ha] at hv
  have h1 : VR S σ (a.ev e) (ρ a') := vrs1' hv
  simp only [step1] at h
  split at h
  · rename_i b off hx
    cases hl : loadN st b off n with
    | none => simp [hl] at h
    | some vs =>
      cases hp : pack agg vs with
      | none => simp [hl, hp] at h
      | some r =>
        simp only [hl, hp, Option.bind_eq_bind, Option.bind_some, Option.some.injEq, Prod.mk.injEq] at h
        obtain ⟨rfl, rfl⟩ := h
        rw [hx] at h1; simp only [VR] at h1
        obtain ⟨p, e1, l, hσ, rfl⟩ := h1
        obtain ⟨us, hr, hvs, hfl, hlen, hcell⟩ := load_rel hR hσ hl
        cases agg with
        | true =>
          simp only [pack, if_true, Option.some.injEq] at hp
          subst hp
          refine .value hR (u := .agg us.toArray) ?_ (by simp only [VR]; exact ⟨_, rfl, hvs, hfl⟩)
          simp only [Go.execOp, ha, Go.Instr.loadAt, e1, Go.Instr.sureAddr, Sem.run_bind, Sem.run_pure, Result.andThen_ok, Go.loadVar, run_isAgg hd, hag, if_true, run_size hi, hin, hr]
        | false =>
          have := h1n rfl
          subst this
          simp only [pack, Bool.false_eq_true, if_false] at hp
          split at hp
          · rename_i x
            cases hp
            obtain ⟨u, rfl, hu⟩ := vrs1 hvs
            refine .value hR (u := u) ?_ hu
            have hc := hcell 0 u rfl
            simp only [Nat.add_zero] at hc
            simp only [Go.execOp, ha, Go.Instr.loadAt, e1, Go.Instr.sureAddr, Sem.run_bind, Sem.run_pure, Result.andThen_ok, Go.loadVar, run_isAgg hd, hag, Bool.false_eq_true, if_false, Go.run_load, hc]
          · cases hp
  · cases h

theorem findKey_rel {y : Ty} (hk : KeyTy y = true) {d : Go.TypeDesc} {t : TypeId} {lit : Bool} (ht : TyM S lit t y) (hd : Und S t d) {k : V} {k' : Value} (hkv : VR S σ k k') :
    ∀ (es : List (V × V × Nat)) (es' : List Go.MapEntry) (i : Nat) (r : Option (Nat × V)), All2 (EntM S σ) es es' → findKey y k es i = some r →
    ∃ r', Go.Instr.findNow d k' es' i = some r' ∧ (match r, r' with | none, none => True | some (j, v), some (j', v') => j = j' ∧ VR S σ v v' ∧ i ≤ j ∧ ∃ en en', es[j - i]? = some en ∧ es'[j - i]? = some en' ∧ eqV y k en.1 = some true | _, _ => False)
  | [], [], i, r, _, h => by cases h; exact ⟨none, rfl, trivial⟩
  | [], _ :: _, _, _, h, _ => h.elim
  | _ :: _, [], _, _, h, _ => h.elim
  | (k1, v1, b1) :: es, en' :: es', i, r, ⟨⟨hk1, hv1, hb1⟩, ha⟩, h => by
    unfold findKey at h
    cases hq : eqV y k k1 with
    | none => simp [hq] at h
    | some q =>
      have hsame : Go.Instr.sameNow d k' en'.key = some q := by
        simp only at hk1
        cases y <;> simp [KeyTy] at hk <;> simp only [eqV] at hq
        · simp only [TyM] at ht
          have hd' : d = .bool := Option.some.inj (hd.symm.trans ht)
          subst hd'
          split at hq
          · cases hq
            simp only [VR] at hkv hk1
            rw [hkv, hk1]; rfl
          · cases hq
        · simp only [TyM] at ht
          obtain ⟨kk, ht⟩ := ht
          have hd' : d = .int kk := Option.some.inj (hd.symm.trans ht)
          subst hd'
          split at hq
          · split at hq
            · rename_i hkk
              subst hkk
              cases hq
              simp only [VR] at hkv hk1
              rw [hkv, hk1]; simp [Go.Instr.sameNow]
            · cases hq
          · cases hq
        · simp only [TyM] at ht
          have hd' : d = .string := Option.some.inj (hd.symm.trans ht)
          subst hd'
          split at hq
          · cases hq
            simp only [VR] at hkv hk1
            rw [hkv, hk1]
            simp only [Go.Instr.sameNow]
            rw [Go.beq_toListBytes, ba_toList, ba_toList]
          · cases hq
      simp only [hq, Option.bind_eq_bind, Option.bind_some] at h
      cases q with
      | true =>
        simp only [if_true, Option.some.injEq] at h
        subst h
        refine ⟨some (i, en'.val), by simp [Go.Instr.findNow, hsame], rfl, hv1, Nat.le_refl _, _, _, by simp; rfl, by simp; rfl, hq⟩
      | false =>
        simp only [Bool.false_eq_true, if_false] at h
        obtain ⟨r', h1, h2⟩ := findKey_rel hk ht hd hkv es es' (i + 1) r ha h
        refine ⟨r', by simp [Go.Instr.findNow, hsame, h1], ?_⟩
        cases r with
        | none => cases r' with
          | none => trivial
          | some _ => exact h2.elim
        | some p => cases r' with
          | none => exact h2.elim
          | some p' =>
            obtain ⟨g1, g2, g3, en, en2, g4, g5, g6⟩ := h2
            have hj : p.1 - i = (p.1 - (i + 1)) + 1 := by omega
            exact ⟨g1, g2, by omega, en, en2, by rw [hj]; simpa using g4, by rw [hj]; simpa using g5, g6⟩

theorem run_checkKey {y : Ty} (hk : KeyTy y = true) {t : TypeId} {lit : Bool} (ht : TyM S lit t y) (b : Bool) (k : Value) (d : Nat) : (Go.Instr.checkKey b (d + 1) t k).run S.P w = .ok () w := by
  cases y <;> simp [KeyTy] at hk
  · simp only [TyM] at ht; simp [Go.Instr.checkKey, run_und ht]
  · simp only [TyM] at ht; obtain ⟨_, ht⟩ := ht; simp [Go.Instr.checkKey, run_und ht]
  · simp only [TyM] at ht; simp [Go.Instr.checkKey, run_und ht]

theorem und_of_key {y : Ty} (hk : KeyTy y = true) {t : TypeId} {lit : Bool} (ht : TyM S lit t y) : ∃ d, Und S t d := by
  cases y <;> simp [KeyTy] at hk <;> simp only [TyM] at ht
  · exact ⟨_, ht⟩
  · exact ⟨_, ht.choose_spec⟩
  · exact ⟨_, ht⟩

theorem run_lookup {t kt et : TypeId} {x k : Value} {ok : Bool} {es' : Array Go.MapEntry} (hu : Und S t (.map kt et))
    (hx : (x = .map none ∧ es' = #[]) ∨ ∃ r c, x = .map (some r) ∧ w.heap[r]? = some (.map es' c)) (hck : ∀ b, (Go.Instr.checkKey b 10000 kt k).run S.P w = .ok () w)
    {r' : Option (Nat × Value)} (hf : (Go.Instr.findKey kt k es'.toList).run S.P w = .ok r' w) {u : Value}
    (hz : r' = none → (Go.zeroValue et).run S.P w = .ok u w) (hs : ∀ p, r' = some p → u = p.2) :
    (Go.Instr.lookup t x k ok).run S.P w = .ok (if ok then .tuple #[u, .bool r'.isSome] else u) w := by
  rcases hx with ⟨rfl, rfl⟩ | ⟨r, c, rfl, hr⟩
  · simp only [Go.Instr.lookup, Sem.run_bind, run_und hu, Result.andThen_ok, Sem.run_pure, hck, hf]
    cases r' with
    | none => simp [hz rfl]
    | some p => simp [hs p rfl]
  · simp only [Go.Instr.lookup, Sem.run_bind, run_und hu, Result.andThen_ok, Sem.run_pure, run_getObj hr (by simp), hck, hf]
    cases r' with
    | none => simp [hz rfl]
    | some p => simp [hs p rfl]

theorem does_lookup {y : Ty} {zero : V} {ok : Bool} {m k : X} (hR : Rel S fns σ st w) (ho : OpSh S fns o (.lookup y zero ok m k))
    (hv : VRs S σ ((Op.lookup y zero ok m k).opnds.map (·.ev e)) (o.op.operands.toList.map ρ)) (h : step1 (.lookup y zero ok m k) e st = some (v, st')) : Does S fns ρ o σ st w v st' := by
  obtain ⟨t, a, b, kt, et, ha, hu, hkt, hk, i, z, hi, hz, hzv⟩ := ho
  rw [ha] at hv
  obtain ⟨h1, h2⟩ : VR S σ (m.ev e) (ρ a) ∧ VR S σ (k.ev e) (ρ b) := vrs2 hv
  have hzv' : VR S σ zero z := hzv.le (fun _ _ h => by cases h)
  obtain ⟨kd, hkd⟩ := und_of_key hk hkt
  have hck : ∀ bb, (Go.Instr.checkKey bb 10000 kt (ρ b)).run S.P w = .ok () w := fun bb => run_checkKey (S := S) (w := w) hk hkt bb (ρ b) 9999
  simp only [step1] at h
  have main : ∀ (es : List (V × V × Nat)) (es' : Array Go.MapEntry), All2 (EntM S σ) es es'.toList →
      ((ρ a = .map none ∧ es' = #[]) ∨ ∃ r c, ρ a = .map (some r) ∧ w.heap[r]? = some (.map es' c)) →
      ∀ r, findKey y (k.ev e) es 0 = some r → (let (v, is) := match r with | some (_, v) => (v, true) | none => (zero, false); (if ok then V.tuple [v, .bool is] else v, st)) = (v, st') →
      Does S fns ρ o σ st w v st' := by
    intro es es' hes hx r hf hh
    obtain ⟨r', hr1, hr2⟩ := findKey_rel (S := S) (σ := σ) hk hkt hkd h2 es es'.toList 0 r hes hf
    have hfk : (Go.Instr.findKey kt (ρ b) es'.toList).run S.P w = .ok r' w := by
      simp only [Go.Instr.findKey, Sem.run_bind, run_und hkd, Result.andThen_ok, hr1, Sem.run_pure]
    cases r with
    | none =>
      cases r' with
      | some _ => exact hr2.elim
      | none =>
        simp only [Prod.mk.injEq] at hh
        obtain ⟨rfl, rfl⟩ := hh
        refine .value hR (u := if ok then .tuple #[z, .bool false] else z) ?_ ?_
        · have := run_lookup (S := S) (w := w) (ok := ok) hu hx hck hfk (u := z) (fun _ => run_zero hi hz w) (fun p hp => by cases hp)
          simp only [Go.execOp, ha, Sem.run_bind, this, Result.andThen_ok, Sem.run_pure]; rfl
        · cases ok
          · exact hzv'
          · simp only [if_true, VR]; exact ⟨_, rfl, .cons hzv' (.cons (by simp [VR]) .nil)⟩
    | some p =>
      cases r' with
      | none => exact hr2.elim
      | some p' =>
        obtain ⟨_, hvv, _⟩ := hr2
        simp only [Prod.mk.injEq] at hh
        obtain ⟨rfl, rfl⟩ := hh
        refine .value hR (u := if ok then .tuple #[p'.2, .bool true] else p'.2) ?_ ?_
        · have := run_lookup (S := S) (w := w) (ok := ok) hu hx hck hfk (u := p'.2) (fun h => by cases h) (fun p hp => by cases hp; rfl)
          simp only [Go.execOp, ha, Sem.run_bind, this, Result.andThen_ok, Sem.run_pure]; rfl
        · cases ok
          · exact hvv
          · simp only [if_true, VR]; exact ⟨_, rfl, .cons hvv (.cons (by simp [VR]) .nil)⟩
  cases hm : m.ev e with
  | map q =>
    rw [hm] at h1
    cases q with
    | none =>
      simp only [VR] at h1
      simp only [hm, Option.bind_eq_bind, Option.bind_some] at h
      cases hf : findKey y (k.ev e) [] 0 with
      | none => simp [hf] at h
      | some r =>
        simp only [hf, Option.bind_some, Option.some.injEq] at h
        exact main [] #[] trivial (.inl ⟨h1, rfl⟩) r hf h
    | some r =>
      simp only [VR] at h1
      obtain ⟨l, hl, e1⟩ := h1
      cases hmr : st.mem r with
      | none => simp [hm, hmr] at h
      | some ob =>
        cases ob with
        | map es clock =>
          simp only [hm, hmr, Option.bind_eq_bind, Option.bind_some] at h
          obtain ⟨es', h3, h4⟩ := map_rel hR hl hmr
          cases hf : findKey y (k.ev e) es 0 with
          | none => simp [hf] at h
          | some r =>
            simp only [hf, Option.bind_some, Option.some.injEq] at h
            exact main es es' h4 (.inr ⟨_, _, e1, h3⟩) r hf h
        | _ => simp [hm, hmr] at h
  | _ => simp [hm] at h

theorem does_entry {x : X} (hR : Rel S fns σ st w) (ho : OpSh S fns o (.entry x)) (hv : VRs S σ ((Op.entry x).opnds.map (·.ev e)) (o.op.operands.toList.map ρ))
    (h : step1 (.entry x) e st = some (v, st')) : Does S fns ρ o σ st w v st' := by
  obtain ⟨a, ha⟩ := ho
  rw [ha] at hv
  have h1 : VR S σ (x.ev e) (ρ a) := vrs1' hv
  simp only [step1] at h
  split at h
  · rename_i r hx
    split at h
    · rename_i m since seen stepped hmr
      split at h
      · rename_i es clock hmm
        split at h
        · rename_i hcl
          subst hcl
          rw [hx] at h1; simp only [VR] at h1
          obtain ⟨p, e1, l, hl, rfl⟩ := h1
          have hl0 : l.off = 0 := hR.zero r _ l hmr hl (by simp [NotCells])
          obtain ⟨m', seen', h2, h3, h4⟩ := hR.obj r _ l hmr hl
          obtain ⟨lm, hlm, rfl⟩ := h4
          obtain ⟨es', h5, h6⟩ := map_rel hR hlm hmm
          cases hs : seen.head? with
          | none => simp [hs] at h
          | some stamp =>
            cases hf : es.find? (fun (_, _, b) => b == stamp) with
            | none => simp [hs, hf] at h
            | some en =>
              simp only [hs, hf, Option.bind_eq_bind, Option.bind_some, Option.some.injEq, Prod.mk.injEq] at h
              obtain ⟨rfl, rfl⟩ := h
              have hback : seen'.back? = some stamp := by
                rw [← Array.getLast?_toList, h3, List.getLast?_reverse]; exact hs
              have hfind : ∀ (es : List (V × V × Nat)) (es' : List Go.MapEntry), All2 (EntM S σ) es es' → es.find? (fun (_, _, b) => b == stamp) = some en →
                  ∃ en', es'.find? (·.born == stamp) = some en' ∧ EntM S σ en en' := by
                intro es
                induction es with
                | nil => intro es' _ hf; cases hf
                | cons x es ih =>
                  intro es' hal hf
                  cases es' with
                  | nil => exact hal.elim
                  | cons y es' =>
                    obtain ⟨hxy, hal⟩ := hal
                    rw [List.find?_cons] at hf ⊢
                    have hb : (y.born == stamp) = (x.2.2 == stamp) := by rw [hxy.2.2]
                    rw [hb]
                    split at hf
                    · rename_i hq
                      cases hf
                      simp only at hq
                      rw [hq]
                      exact ⟨y, rfl, hxy⟩
                    · rename_i hq
                      simp only at hq
                      rw [hq]
                      exact ih es' hal hf
              obtain ⟨en', h7, h8, h9, _⟩ := hfind es es'.toList h6 hf
              have h7' : es'.find? (·.born == stamp) = some en' := by rw [← Array.find?_toList]; exact h7
              refine .value hR (u := .tuple #[en'.key, en'.val]) ?_ ?_
              · have hr1 := run_getObj (P := S.P) h2 (by simp)
                have hr2 := run_getObj (P := S.P) h5 (by simp)
                simp [Go.execOp, ha, Go.Instr.entry, e1, hl0, hr1, hr2, hback, h7']
              · simp only [VR]; exact ⟨_, rfl, .cons h8 (.cons h9 .nil)⟩
        · cases h
      · cases h
    · cases h
  · cases h

end Cub

/- Operations that make memory. -/
namespace Cub
open Go (Value World Addr TypeId FuncId Program Oper Operand Sem Result)
variable {S : Seat} {fns : Nat → Prop} {ρ : Operand → Value} {o : Oper} {σ : Sg} {st st' : St} {w : World} {e : Env} {v : V}

theorem rep_succ (zs : List V) (n : Nat) : rep zs (n + 1) = zs ++ rep zs n := by simp [rep, List.replicate_succ]
theorem rep_length (zs : List V) (n : Nat) : (rep zs n).length = n * zs.length := by simp [rep]
theorem rep_flat {zs : List V} (h : zs.all V.flat = true) : ∀ n, (rep zs n).all V.flat = true
  | 0 => by simp [rep]
  | n + 1 => by rw [rep_succ, List.all_append, h, rep_flat h n]; rfl
theorem rep_get (zs : List V) : ∀ (n i : Nat), i < n * zs.length → (rep zs n)[i]? = zs[i % zs.length]?
  | 0, i, h => by simp at h
  | n + 1, i, h => by
    rw [rep_succ, List.getElem?_append]
    rw [Nat.add_mul, Nat.one_mul] at h
    split
    · rename_i hi; rw [Nat.mod_eq_of_lt hi]
    · rename_i hi
      rw [rep_get zs n (i - zs.length) (by omega), ← Nat.mod_eq_sub_mod (by omega)]
/-- A zero value's cells, again and again. -/
theorem rep_rel {zs : List V} {z : Array Value} (h : VRs S σ zs z.toList) (n m : Nat) (hm : m = n * zs.length) : VRs S σ (rep zs n) ((Array.range m).map (fun i => z[i % z.size]!)).toList := by
  have hl := h.length
  simp at hl
  refine VRs.of_get (by simp [rep_length, hm]) fun i x u e1 e2 => ?_
  have hi : i < n * zs.length := by
    rw [← rep_length]; exact (List.getElem?_eq_some_iff.1 e1).1
  rw [rep_get zs n i hi] at e1
  obtain ⟨u', h1, h2⟩ := h.get _ x e1
  have : u = u' := by
    rw [Array.toList_map, List.getElem?_map] at e2
    simp [hm, hi] at e2
    rw [Array.getElem?_toList, ← hl] at h1
    rw [← e2, getElem!_def, h1]
  rw [this]; exact h2

theorem wrap_i64 {n : Int} (h0 : 0 ≤ n) (h1 : n < 2 ^ 63) : Go.IntKind.i64.wrap n = n := by
  have hm : n % (2 ^ 64 : Int) = n := Int.emod_eq_of_lt h0 (by omega)
  show (if (true && decide (n % (2 ^ 64 : Int) ≥ (2 ^ 63 : Int))) = true then n % (2 ^ 64 : Int) - 2 ^ 64 else n % (2 ^ 64 : Int)) = n
  rw [if_neg]
  · exact hm
  · rw [hm]; simp; omega

/-- What an operation lays, and its value. -/
def allocOf (op : Op) (e : Env) : Option (Obj × (Nat → V)) := match op with
  | .alloc zs => some (.cells zs none, fun i => .ptr (some (i, 0)))
  | .box x => (x.ev e).cells.map fun c => (.cells c none, fun i => .ptr (some (i, 0)))
  | .buildSlice len size zs parts => (fillAt (parts.map fun p => (p.1 * size, size, p.2.ev e)) (rep zs len)).map fun c => (.cells c (some 0), fun i => .slice (some (i, 0)) len (.is len))
  | .mkMap => some (.map [] 0, fun i => .map (some i))
  | .mkSlice _ bytes zs len cap => match len.ev e, cap.ev e with
    | .int _ l, .int _ c => if 0 ≤ l ∧ l ≤ c ∧ c * bytes ≤ roof ∧ c ≤ roof then some (.cells (rep zs c.toNat) none, fun i => .slice (some (i, 0)) l.toNat (.is c.toNat)) else none
    | _, _ => none
  | .rangeStr x => match x.ev e with
    | .str s => some (.strIter s 0, fun i => .ptr (some (i, 0)))
    | _ => none
  | .conv .strBytes x => match x.ev e with
    | .str s => some (.cells (ofBytes s) (some 1), fun i => .slice (some (i, 0)) s.length (.opn 1))
    | _ => none
  | _ => none

theorem step1_alloc {op : Op} (hk : op.kind = .alloc) : step1 op e st = (allocOf op e).map fun x => (x.2 st.next, st.new x.1) := by
  cases op <;> first | (simp [Op.kind] at hk; done) | skip
  case eq neg t x y => cases t <;> simp [Op.kind] at hk
  case len s x => cases s <;> simp [Op.kind] at hk
  case alloc => rfl
  case box x => simp only [step1, allocOf]; cases (x.ev e).cells <;> rfl
  case buildSlice len size zs ps => simp only [step1, allocOf]; cases fillAt (ps.map fun p => (p.1 * size, size, p.2.ev e)) (rep zs len) <;> rfl
  case mkMap => rfl
  case mkSlice size bytes zs len cap =>
    simp only [step1, allocOf]
    generalize len.ev e = p
    generalize cap.ev e = q
    cases p <;> cases q <;> first | rfl | (simp only; split <;> rfl)
  case rangeStr x => simp only [step1, allocOf]; cases x.ev e <;> rfl
  case conv c x =>
    cases c <;> simp [Op.kind] at hk
    simp only [step1, allocOf, convV]
    cases x.ev e <;> rfl

/-- A new block in the model. -/
def Lays (S : Seat) (fns : Nat → Prop) (ρ : Operand → Value) (o : Oper) (σ : Sg) (w : World) (obj : Obj) (mk : Nat → V) : Prop :=
  ∃ (x : Go.Obj) (d : Nat) (u : Value) (sz tot : Nat), (Go.execOp ρ o).run S.P w = .ok (.value u) { w with heap := w.heap.push x, drawn := d } ∧
    ∀ (σ' : Sg) (i : Nat), σ.le σ' → σ' i = some ⟨w.heap.size, 0, sz, tot⟩ → VR S σ' (mk i) u ∧ ObjR S fns σ' obj ⟨w.heap.size, 0, sz, tot⟩ (some x)

theorem run_new {P : Program} (x : Go.Obj) : (Go.newObj x).run P w = .ok w.heap.size { w with heap := w.heap.push x } := by simp [Go.newObj, Sem.run]
theorem run_newRow {P : Program} (t : TypeId) (cs : Array Value) : (Go.newRow t cs).run P w = .ok ⟨w.heap.size, 0, none⟩ { w with heap := w.heap.push (.cells cs t) } := by
  simp [Go.newRow, run_new]

theorem run_mark {P : Program} (h : Array Go.Obj) (cs : Array Value) (ty : TypeId) (w : World) :
    (Go.markStringish ⟨h.size, 0, none⟩).run P { w with heap := h.push (.cells cs ty) } = .ok () { w with heap := h.push (.cells cs ty (cs.size, cs.size + 1)) } := by
  have hs : World.shape? { w with heap := h.push (.cells cs ty) } h.size = some (ty, cs.size) := by simp [World.shape?]
  have hf : World.freeze { w with heap := h.push (.cells cs ty) } { block := h.size, off := cs.size } 1 = { w with heap := h.push (.cells cs ty (cs.size, cs.size + 1)) } := by
    simp only [World.freeze]
    rw [if_neg (by decide)]
    congr 1
    apply Array.ext_getElem?
    intro k
    rw [Array.getElem?_modify]
    by_cases hk : h.size = k
    · subst hk; simp
    · simp [hk, Ne.symm hk, Array.getElem?_push]
  simp only [Go.markStringish, Go.shape, Sem.run_bind, Sem.run, hs, Result.andThen_ok, Go.freeze, hf]

/-- A row of cells that is laid exactly. -/
theorem lays_cells {c : List V} {cs : Array Value} {mk : Nat → V} {u : Value} (t : TypeId)
    (hrun : (Go.execOp ρ o).run S.P w = .ok (.value u) { w with heap := w.heap.push (.cells cs t) })
    (hc : VRs S σ c cs.toList) (hf : c.all V.flat = true) (hu : ∀ (σ' : Sg) (i : Nat), σ.le σ' → σ' i = some ⟨w.heap.size, 0, 0, 0⟩ → VR S σ' (mk i) u) {opn : Option Nat} (hopn : opn = none ∨ opn = some 0) : Lays S fns ρ o σ w (.cells c opn) mk := by
  refine ⟨_, w.drawn, u, 0, 0, hrun, fun σ' i hle hi => ⟨hu σ' i hle hi, _, t, 0, 0, rfl, hf, ?_, ?_, by rcases hopn with rfl | rfl <;> simp⟩⟩
  · have := hc.length; simp at this; simp; omega
  · have := hc.length
    rw [List.drop_zero, ← this, List.take_length]
    exact hc.le hle

theorem lays {op : Op} (hk : op.kind = .alloc) (hR : Rel S fns σ st w) (ho : OpSh S fns o op) (hv : VRs S σ (op.opnds.map (·.ev e)) (o.op.operands.toList.map ρ)) {obj : Obj} {mk : Nat → V}
    (h : allocOf op e = some (obj, mk)) : Lays S fns ρ o σ w obj mk := by
  cases op <;> first | (simp [Op.kind] at hk; done) | skip
  case eq neg t x y => cases t <;> simp [Op.kind] at hk
  case len s x => cases s <;> simp [Op.kind] at hk
  case alloc zs =>
    obtain ⟨t, ha, hz⟩ := ho
    obtain ⟨i, z, hi, hzz, hzr, hzf⟩ := hz.rel (σ := σ)
    cases h
    refine lays_cells t (cs := z.cells) (u := .pointer (some ⟨w.heap.size, 0, none⟩)) ?_ hzr hzf (fun σ' i _ hi => by simp only [VR]; exact ⟨_, rfl, _, hi, rfl⟩) (by simp)
    simp only [Go.execOp, ha, Go.Instr.alloc, Sem.run_bind, run_zero hi hzz, Result.andThen_ok, Go.newVar, run_newRow, Sem.run_pure]
  case box x =>
    obtain ⟨t, a, ha⟩ := ho
    rw [ha] at hv
    have h1 : VR S σ (x.ev e) (ρ a) := vrs1' hv
    simp only [allocOf] at h
    cases hc : (x.ev e).cells with
    | none => rw [hc] at h; cases h
    | some c =>
      rw [hc] at h
      cases h
      obtain ⟨g1, g2⟩ := h1.cells hc
      refine lays_cells t (cs := (ρ a).cells) (u := .pointer (some ⟨w.heap.size, 0, none⟩)) ?_ g1 g2 (fun σ' i _ hi => by simp only [VR]; exact ⟨_, rfl, _, hi, rfl⟩) (by simp)
      simp only [Go.execOp, ha, Go.Instr.box, Sem.run_bind, Go.newVar, run_newRow, Result.andThen_ok, Sem.run_pure]
  case buildSlice len size zs ps =>
    obtain ⟨t, qs, el, ha, hu, ⟨is, his, hiss⟩, hz, hzl, hroom, hql, hpl⟩ := ho
    rw [ha] at hv
    obtain ⟨iz, z, hiz, hzz, hzr, hzf⟩ := hz.rel (σ := σ)
    simp only [allocOf] at h
    cases hf : fillAt (ps.map fun p => (p.1 * size, size, p.2.ev e)) (rep zs len) with
    | none => rw [hf] at h; cases h
    | some r =>
      rw [hf] at h
      cases h
      have hvs : ∀ (i : Nat) p j a, ps[i]? = some p → qs[i]? = some (j, a) → VR S σ (p.2.ev e) (ρ a) := by
        intro i p j a hp hq
        have hv' : VRs S σ (ps.map fun p => p.2.ev e) (qs.toList.map fun q => ρ q.2) := by
          refine cast ?_ hv
          congr 1
          · simp [Op.opnds]
          · simp [Go.Op.operands]
        obtain ⟨u, h1, h2⟩ := hv'.get i (p.2.ev e) (by simp [hp])
        have : qs.toList[i]? = some (j, a) := by rw [Array.getElem?_toList]; exact hq
        rw [List.getElem?_map, this] at h1
        rw [show ρ a = u from Option.some.inj h1]; exact h2
      have hq2 : ∀ (i : Nat) q, (qs.toList.map fun q => (q.1, ρ q.2))[i]? = some q → ∃ a, qs[i]? = some (q.1, a) ∧ q.2 = ρ a := by
        intro i q hq
        rw [List.getElem?_map] at hq
        cases hqq : qs.toList[i]? with
        | none => rw [hqq] at hq; cases hq
        | some y =>
          rw [hqq] at hq
          cases hq
          exact ⟨y.2, by rw [← Array.getElem?_toList]; exact hqq, rfl⟩
      have hzrun : (if len * size = 0 then (pure #[] : Sem (Array Value)) else do pure (← Go.zeroValue el).cells).run S.P w = .ok (if len * size = 0 then #[] else z.cells) w := by
        rw [Sem.run_ite]
        split
        · rfl
        · simp [run_zero hiz hzz]
      have hrow : VRs S σ (rep zs len) ((Array.range (len * size)).map (fun i => (if len * size = 0 then #[] else z.cells)[i % (if len * size = 0 then #[] else z.cells).size]!)).toList := by
        by_cases h0 : len * size = 0
        · have : rep zs len = [] := by apply List.eq_nil_of_length_eq_zero; rw [rep_length, hzl]; exact h0
          rw [this, h0]; simp [VRs]
        · rw [if_neg h0]; exact rep_rel hzr len _ (by rw [hzl])
      obtain ⟨rs, e1, e2, e3, _⟩ := fill_rel (S := S) (σ := σ) (fun i => some (i * size, size)) (ps.map fun p => (p.1 * size, size, p.2.ev e)) (qs.toList.map fun q => (q.1, ρ q.2)) (rep zs len) _ r (by simp [← hql]) (by
        intro i p q hp hq
        rw [List.getElem?_map] at hp
        cases hpp : ps[i]? with
        | none => rw [hpp] at hp; cases hp
        | some p0 =>
          rw [hpp] at hp; cases hp
          obtain ⟨a, hqa, hqv⟩ := hq2 i q hq
          have := hpl i q.1 a p0 hqa hpp
          exact ⟨by show some (q.1 * size, size) = some (p0.1 * size, size); rw [this], by rw [hqv]; exact hvs i p0 q.1 a hpp hqa⟩) hrow (rep_flat hzf _) hf
      refine lays_cells el (cs := rs) (u := .slice (some ⟨w.heap.size, 0, none⟩) len len) ?_ e2 e3 (fun σ' i _ hi => by simp only [VR]; exact ⟨_, rfl, _, hi, rfl⟩) (by simp)
      have hmap : (qs.map fun (x : Nat × Operand) => (x.1, ρ x.2)).toList = qs.toList.map fun q => (q.1, ρ q.2) := by simp
      simp only [Go.execOp, ha, Go.Instr.buildSlice, Sem.run_bind, run_und hu, Result.andThen_ok, run_size his, hiss]
      rw [Sem.run_ite, if_neg (by omega)]
      by_cases h0 : len * size = 0
      · simp only [h0, if_true] at e1
        simp only [h0, if_true, Sem.run_bind, Sem.run_pure, Result.andThen_ok, hmap, e1, run_newRow]
      · simp only [h0, if_false] at e1
        simp only [h0, if_false, Sem.run_bind, Sem.run_pure, Result.andThen_ok, run_zero hiz hzz, hmap, e1, run_newRow]
  case mkMap =>
    obtain ⟨t, ha⟩ := ho
    cases h
    refine ⟨.map #[] 0, w.drawn, .map (some w.heap.size), 0, 0, ?_, fun σ' i hle hi => ⟨by simp only [VR]; exact ⟨_, hi, rfl⟩, #[], rfl, trivial⟩⟩
    simp only [Go.execOp, ha, Go.Instr.makeMap, Sem.run_bind, run_new, Result.andThen_ok, Sem.run_pure, Option.map_none]
  case mkSlice size bytes zs len cap =>
    obtain ⟨t, a, b, el, ha, hu, ⟨is, his, hiss⟩, ⟨ib, hib, hibb⟩, hz, hzl⟩ := ho
    rw [ha] at hv
    obtain ⟨h1, h2⟩ : VR S σ (len.ev e) (ρ a) ∧ VR S σ (cap.ev e) (ρ b) := vrs2 hv
    obtain ⟨iz, z, hiz, hzz, hzr, hzf⟩ := hz.rel (σ := σ)
    simp only [allocOf] at h
    split at h
    · rename_i k1 l k2 c hl hc
      split at h
      · rename_i hcond
        cases h
        obtain ⟨hl0, hlc, hcb, hcr⟩ := hcond
        rw [hl] at h1; rw [hc] at h2
        simp only [VR] at h1 h2
        unfold roof at hcb hcr
        have wl := wrap_i64 (n := l) hl0 (by omega)
        have wc := wrap_i64 (n := c) (by omega) (by omega)
        have hrow : VRs S σ (rep zs c.toNat) ((Array.range (c.toNat * size)).map (fun i => (if c.toNat * size = 0 then #[] else z.cells)[i % (if c.toNat * size = 0 then #[] else z.cells).size]!)).toList := by
          by_cases h0 : c.toNat * size = 0
          · have : rep zs c.toNat = [] := by apply List.eq_nil_of_length_eq_zero; rw [rep_length, hzl]; exact h0
            rw [this, h0]; simp [VRs]
          · rw [if_neg h0]; exact rep_rel hzr _ _ (by rw [hzl])
        refine lays_cells el (u := .slice (some ⟨w.heap.size, 0, none⟩) l.toNat c.toNat) ?_ hrow (rep_flat hzf _) (fun σ' i _ hi => by simp only [VR]; exact ⟨_, rfl, _, hi, rfl⟩) (by simp)
        have hb1 : (ib.bytes : Int) * c = c * bytes := by rw [hibb, Int.mul_comm]
        have ht : ¬ ((decide (c < 0) || decide (2 ^ 48 < (ib.bytes : Int) * c) || decide (l < 0) || decide (l > c)) = true) := by
          simp; omega
        simp only [Go.execOp, ha, Go.Instr.makeSlice, Sem.run_bind, run_und hu, Result.andThen_ok, h1, h2, Go.asInt, Go.asIntOf, Sem.run_pure, run_info hib, wl, wc]
        rw [Sem.run_ite, if_neg (by simp; omega)]
        have hask : (Go.askRoom (c.toNat * ib.bytes)).run S.P w = .ok () w := by
          unfold Go.askRoom; rw [Sem.run_ite]; split <;> rfl
        simp only [Sem.run_bind, Sem.run_pure, Result.andThen_ok, hask, run_size his, hiss]
        by_cases h0 : c.toNat * size = 0
        · simp only [h0, if_true, Sem.run_bind, Sem.run_pure, Result.andThen_ok, run_newRow]
        · simp only [h0, if_false, Sem.run_bind, run_zero hiz hzz, Result.andThen_ok, Sem.run_pure, run_newRow]
      · cases h
    · cases h
  case rangeStr x =>
    obtain ⟨t, a, ha, hu⟩ := ho
    rw [ha] at hv
    have h1 : VR S σ (x.ev e) (ρ a) := vrs1' hv
    simp only [allocOf] at h
    split at h
    · rename_i s hx
      cases h
      rw [hx] at h1; simp only [VR] at h1
      refine ⟨.stringIter ⟨⟨s⟩⟩ 0, w.drawn, .pointer (some ⟨w.heap.size, 0, none⟩), 0, 0, ?_, fun σ' i hle hi => ⟨by simp only [VR]; exact ⟨_, rfl, _, hi, rfl⟩, rfl⟩⟩
      simp only [Go.execOp, ha, Go.Instr.range, Sem.run_bind, run_und hu, Result.andThen_ok, h1, Sem.run_pure, run_new]
    · cases h
  case conv c x =>
    cases c <;> simp [Op.kind] at hk
    obtain ⟨s, d, a, ha, hs, el, hd, he⟩ := ho
    rw [ha] at hv
    have h1 : VR S σ (x.ev e) (ρ a) := vrs1' hv
    simp only [allocOf] at h
    split at h
    · rename_i l hx
      cases h
      rw [hx] at h1; simp only [VR] at h1
      generalize hq : w.tape w.drawn (.appendCap l.length 0 el) % (2 ^ 63 - l.length) = q
      have hsize : (⟨⟨l⟩⟩ : ByteArray).size = l.length := rfl
      refine ⟨.cells ((l.toArray.map fun b => (.int .u8 b.toNat : Value)) ++ Array.replicate q (.int .u8 0)) el (l.length + q, l.length + q + 1), w.drawn + 1, .slice (some ⟨w.heap.size, 0, none⟩) l.length (l.length + q), 1, l.length + q, ?_, fun σ' i hle hi => ⟨?_, ?_⟩⟩
      · have hchoose : (Go.choose (.appendCap l.length 0 el)).run S.P w = .ok (l.length + q) { w with drawn := w.drawn + 1 } := by
          simp only [Go.choose, Sem.run, Go.Question.forced, Go.Question.cut, hq]
          simp
        simp only [Go.execOp, ha, h1, Go.convert, Sem.run_bind, run_und hs, run_und hd, run_und he, Result.andThen_ok, Go.Conv.stringToBytes, hsize, hchoose, run_newRow]
        have hsub : l.length + q - l.length = q := by omega
        rw [hsub]
        have hm := run_mark (P := S.P) w.heap ((l.toArray.map fun b => (.int .u8 b.toNat : Value)) ++ Array.replicate q (.int .u8 0)) el { w with drawn := w.drawn + 1 }
        have hsz : ((l.toArray.map fun (b : UInt8) => (Value.int .u8 b.toNat : Value)) ++ Array.replicate q (Value.int .u8 0)).size = l.length + q := by simp
        rw [hsz] at hm
        rw [hm]
        rfl
      · simp only [VR]
        exact ⟨_, hi, rfl, .inl ⟨l.length + q, by simp, by simp, by omega⟩⟩
      · refine ⟨_, el, _, _, rfl, ?_, ?_, ?_, .inr ⟨rfl, by simp⟩, .inl (by simp)⟩
        · simp [ofBytes, V.flat]
        · simp [ofBytes]
        · simp only [List.drop_zero, ofBytes, List.length_map]
          rw [Array.toList_append, List.take_left' (by simp)]
          simp only [Array.toList_map]
          exact VRs.map l fun b _ => by simp only [VR]
    · cases h

end Cub
