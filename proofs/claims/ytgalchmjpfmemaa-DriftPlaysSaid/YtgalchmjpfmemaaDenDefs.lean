/- The evaluator 'Den': a pure, executable reading of the model's code over a logical memory. Definitions alone; nothing is claimed here. -/
import Derived.WalkKit
import Derived.KernelRfl
namespace Go.Proofs.Ytgalchmjpfmemaa.Den
open Go

/-- Data without places: numbers, bools, strings, nils, and rows that no one changes, by value. -/
inductive D where
  | bool (b : Bool)
  | int (k : IntKind) (n : Int)
  | str (s : ByteArray)
  | nilp
  | nils
  | nilf
  | nili
  | rs (flat : Bool) (s : Nat) (rows : List (List D)) (tight : Bool)
  | rp (cells : List D)
  deriving Inhabited

/-- Values: data, and what names a block of the logical memory. -/
inductive V where
  | d (x : D)
  | un
  | ptr (id n row off : Nat)
  | sl (id n off len : Nat)
  | sa (id n row off s len : Nat)
  | pa (id n off len : Nat)
  | fn (f : Fn) (first captured : List V)
  | yl (id : Nat)
  | ifc (t : TypeId) (v : V)
  | agg (cells : List V)
  | tup (vs : List V)
  deriving Inhabited

abbrev V.bool (b : Bool) : V := .d (.bool b)
abbrev V.int (k : IntKind) (n : Int) : V := .d (.int k n)
abbrev V.i (n : Int) : V := .d (.int .i64 n)
abbrev V.str (s : ByteArray) : V := .d (.str s)

inductive O where
  | t (i : Nat)
  | v (x : V)
  | g (g : Nat)
  deriving Inhabited

inductive Ck where
  | int (k : IntKind)
  | same
  | ofStr (elem : TypeId)
  | toStr
  | mark
  deriving Inhabited

inductive Eqk where
  | ptr
  | slc
  | bool
  | cells
  deriving Inhabited

inductive I where
  | mov (x : O)
  | pick (c a b : O)
  | alloc (elem : TypeId) (zero : List D) (flat : Bool)
  | box (elem : TypeId) (flat : Bool) (size : Nat) (x : O)
  | build (zero : List D) (parts : List (Nat × Nat × O))
  | bslice (elem : TypeId) (flat : Bool) (size len : Nat) (zero : List D) (parts : List (Nat × O))
  | load (agg : Bool) (size : Nat) (x : O)
  | store (size : Nat) (x v : O)
  | nilck (x : O)
  | bin (op : BinOp) (x y : O)
  | beq (k : Eqk) (neg : Bool) (x y : O)
  | unop (op : UnOp) (x : O)
  | conv (k : Ck) (x : O)
  | mkfn (f : Fn) (first captured : List O)
  | mkif (t : TypeId) (x : O)
  | mksl (elem : TypeId) (flat : Bool) (zero : List D) (bytes : Nat) (len cap : O)
  | slice (size : Nat) (x : O) (lo hi mx : Option O)
  | slstr (x : O) (lo hi : Option O)
  | slarr (n size : Nat) (x : O) (lo hi mx : Option O)
  | fieldA (off : Nat) (x : O)
  | field (agg : Bool) (off size : Nat) (x : O)
  | idxA (size : Nat) (x i : O)
  | idxAA (n size : Nat) (x i : O)
  | idx (agg : Bool) (n size : Nat) (x i : O)
  | idxs (x i : O)
  | arrP (n size : Nat) (x : O)
  | extract (i : Nat) (x : O)
  | call (f : O) (args : List O)
  | len (x : O)
  | lens (x : O)
  | lenc (n : Nat)
  | append (elem : TypeId) (flat : Bool) (size bytes : Nat) (s x : O)
  | copy (size : Nat) (s x : O)
  | mx (xs : List O)
  | mn (xs : List O)
  deriving Inhabited

structure OpC where
  dst : Option Nat
  guard : Option (Nat × Bool)
  ins : I
  deriving Inhabited

inductive C where
  | skip
  | reg (qs ts : List OpC)
  | seq (a b : C)
  | cond (c : O) (a b : C)
  | block (id : Nat) (b : C)
  | loop (b : C)
  | rfun (f : O) (params : List Nat) (assign body : C)
  | exit (id : Nat)
  | scope (b : C)
  | ret
  deriving Inhabited

inductive RV where
  | tmp (i : Nat)
  | cell (agg : Bool) (size : Nat) (i : Nat)
  deriving Inhabited

structure CFunc where
  ntmps : Nat
  results : List RV
  body : C
  deriving Inhabited

inductive Blk where
  | flat (elem : TypeId) (s : Nat) (rows : List (List D)) (prot : Bool)
  | gen (elem : TypeId) (s : Nat) (rows : List (List V)) (prot : Bool)
  | loop (st : LoopState) (pend : Option C) (tmps : List V) (params : List Nat) (assign body : C) (prot : Bool)
  deriving Inhabited

abbrev Mem := List Blk

structure S where
  t : Nat → V
  m : Mem

inductive X where
  | normal
  | exit (id : Nat)
  | ret

abbrev CallT := FuncId → List V → Mem → Option (List V × Mem)

structure Env where
  cf : FuncId → Option CFunc
  ext : CallT
  gl : Nat → Option (List D)

/-! ### values -/

def D.scalar : D → Bool
  | .bool _ | .int _ _ | .str _ => true
  | _ => false

def V.cells : V → List V
  | .agg cs => cs
  | v => [v]

/-- May a value lie in one cell of memory? -/
def V.cellOk : V → Bool
  | .un | .agg _ | .tup _ => false
  | _ => true

def V.cellsOk : V → Bool
  | .agg _ => true
  | v => v.cellOk

def toDs : List V → Option (List D)
  | [] => some []
  | .d x :: r => (toDs r).map (x :: ·)
  | _ :: _ => none

def toSs : List V → Option (List D)
  | [] => some []
  | .d x :: r => if x.scalar then (toSs r).map (x :: ·) else none
  | _ :: _ => none

mutual
def V.ids : V → List Nat
  | .d _ => []
  | .un => []
  | .ptr id _ _ _ => [id]
  | .sl id _ _ _ => [id]
  | .sa id _ _ _ _ _ => [id]
  | .pa id _ _ _ => [id]
  | .fn _ a b => V.idss a ++ V.idss b
  | .yl id => [id]
  | .ifc _ v => v.ids
  | .agg cs => V.idss cs
  | .tup cs => V.idss cs
def V.idss : List V → List Nat
  | [] => []
  | v :: r => v.ids ++ V.idss r
end

mutual
def V.ren (ρ : Nat → Option Nat) : V → V
  | .d x => .d x
  | .un => .un
  | .ptr id n r o => match ρ id with | some j => .ptr j n r o | none => .un
  | .sl id n o l => match ρ id with | some j => .sl j n o l | none => .un
  | .sa id n r o s l => match ρ id with | some j => .sa j n r o s l | none => .un
  | .pa id n o l => match ρ id with | some j => .pa j n o l | none => .un
  | .fn f a b => .fn f (V.rens ρ a) (V.rens ρ b)
  | .yl id => match ρ id with | some j => .yl j | none => .un
  | .ifc t v => .ifc t (v.ren ρ)
  | .agg cs => .agg (V.rens ρ cs)
  | .tup cs => .tup (V.rens ρ cs)
def V.rens (ρ : Nat → Option Nat) : List V → List V
  | [] => []
  | v :: r => v.ren ρ :: V.rens ρ r
end

def D.noRs : D → Bool
  | .rs _ _ _ _ | .rp _ => false
  | _ => true

mutual
/-- No row by value in it. -/
def V.noRs : V → Bool
  | .d x => x.noRs
  | .fn _ a b => V.noRss a && V.noRss b
  | .ifc _ v => v.noRs
  | .agg cs => V.noRss cs
  | .tup cs => V.noRss cs
  | _ => true
def V.noRss : List V → Bool
  | [] => true
  | v :: r => v.noRs && V.noRss r
end

def Blk.ids : Blk → List Nat
  | .flat .. => []
  | .gen _ _ rows _ => (rows.map V.idss).flatten
  | .loop _ _ ts _ _ _ _ => V.idss ts

def Blk.noRs : Blk → Bool
  | .flat .. => true
  | .gen _ _ rows _ => rows.all V.noRss
  | .loop _ _ ts _ _ _ _ => V.noRss ts

def Blk.ren (ρ : Nat → Option Nat) : Blk → Blk
  | .flat e s rows p => .flat e s rows p
  | .gen e s rows p => .gen e s (rows.map (V.rens ρ)) p
  | .loop st pe ts ps a b p => .loop st pe (V.rens ρ ts) ps a b p

def Blk.prot : Blk → Bool
  | .flat _ _ _ p => p
  | .gen _ _ _ p => p
  | .loop _ _ _ _ _ _ p => p

def Blk.setProt (p : Bool) : Blk → Blk
  | .flat e s rows _ => .flat e s rows p
  | .gen e s rows _ => .gen e s rows p
  | .loop st pe ts ps a b _ => .loop st pe ts ps a b p

def Blk.len : Blk → Nat
  | .flat _ _ rows _ => rows.length
  | .gen _ _ rows _ => rows.length
  | .loop .. => 1

def Blk.size : Blk → Nat
  | .flat _ s _ _ => s
  | .gen _ s _ _ => s
  | .loop .. => 1

/-- The row of a block, as values. -/
def Blk.row? (b : Blk) (n r : Nat) : Option (List V) :=
  match b with
  | .flat _ _ rows _ => if n = rows.length then (rows[r]?).map (List.map V.d) else none
  | .gen _ _ rows _ => if n = rows.length then rows[r]? else none
  | .loop .. => none

def setRow {α : Type} (rows : List (List α)) (r off : Nat) (xs : List α) : Option (List (List α)) :=
  match rows[r]? with
  | some c => if off + xs.length ≤ c.length then some (rows.set r (c.take off ++ xs ++ c.drop (off + xs.length))) else none
  | none => none

/-- The block with cells 'xs' of row 'r' from 'off' on. -/
def Blk.put? (b : Blk) (n r off : Nat) (xs : List V) : Option Blk :=
  match b with
  | .flat e s rows false =>
    if n = rows.length then (toSs xs).bind fun ys => (setRow rows r off ys).map fun rows' => .flat e s rows' false else none
  | .gen e s rows false => if n = rows.length then (setRow rows r off xs).map fun rows' => .gen e s rows' false else none
  | _ => none

def allSs : List (List V) → Option (List (List D))
  | [] => some []
  | r :: l => match toSs r, allSs l with | some a, some b => some (a :: b) | _, _ => none

def mkBlk (elem : TypeId) (flat : Bool) (size : Nat) (rows : List (List V)) : Option Blk :=
  if flat then (allSs rows).map fun r => .flat elem size r false else some (.gen elem size rows false)

def seg {α : Type} (l : List α) (off n : Nat) : Option (List α) := if off + n ≤ l.length then some ((l.drop off).take n) else none

def part (agg : Bool) (cells : List V) (off size : Nat) : Option V :=
  if agg then (seg cells off size).map V.agg else cells[off]?

/-! ### what single instructions do -/

def ev (E : Env) (t : Nat → V) : O → V
  | .t i => t i
  | .v x => x
  | .g g => match E.gl g with | some cs => .d (.rp cs) | none => .un

def evs (E : Env) (t : Nat → V) (l : List O) : List V := l.map (ev E t)

/-- The rows that a slice has. -/
def rowsOf (m : Mem) : V → Option (List (List V))
  | .d .nils => some []
  | .d (.rs _ _ rows _) => some (rows.map (List.map V.d))
  | .sl id n off len => (m[id]?).bind fun b => match b with
    | .flat _ _ rows _ => if n = rows.length ∧ off + len ≤ n then some (((rows.drop off).take len).map (List.map V.d)) else none
    | .gen _ _ rows _ => if n = rows.length ∧ off + len ≤ n then some ((rows.drop off).take len) else none
    | .loop .. => none
  | _ => none

/-- The rows that a slice of plain data has. -/
def flatRowsOf (m : Mem) : V → Option (List (List D))
  | .d .nils => some []
  | .d (.rs true _ rows _) => some rows
  | .sl id n off len => (m[id]?).bind fun b => match b with
    | .flat _ _ rows _ => if n = rows.length ∧ off + len ≤ n then some ((rows.drop off).take len) else none
    | _ => none
  | _ => none

/-- The size of a slice's elements, where it has some. -/
def sizeOk (m : Mem) (size : Nat) : V → Bool
  | .d .nils => true
  | .d (.rs _ s _ _) => s == size
  | .sl id _ _ _ => match m[id]? with | some b => b.size == size | none => false
  | .sa _ _ _ _ s _ => s == size
  | _ => false

def loadV (m : Mem) (agg : Bool) (size : Nat) : V → Option V
  | .d (.rp cells) => part agg (cells.map V.d) 0 size
  | .ptr id n row off => (m[id]?).bind fun b => (b.row? n row).bind fun cs => part agg cs off size
  | .pa id n off len => if agg then (rowsOf m (.sl id n off len)).bind fun rows => if rows.flatten.length = size then some (.agg rows.flatten) else none else none
  | _ => none

def storeV (m : Mem) (size : Nat) (x v : V) : Option Mem :=
  match x with
  | .ptr id n row off => if v.cells.length = size ∧ v.cellsOk then (m[id]?).bind fun b => (b.put? n row off v.cells).map fun b' => m.set id b' else none
  | _ => none

def nilckV : V → Option V
  | .ptr id n r o => some (.ptr id n r o)
  | .d (.rp c) => some (.d (.rp c))
  | .fn (.func f) a b => some (.fn (.func f) a b)
  | .yl i => some (.yl i)
  | _ => none

def intBits (op : BinOp) (k : IntKind) (x y : Int) : Option Int :=
  let a := BitVec.ofInt k.bits x
  let b := BitVec.ofInt k.bits y
  match op with
  | .and => some (k.wrap (a &&& b).toNat)
  | .or => some (k.wrap (a ||| b).toNat)
  | .xor => some (k.wrap (a ^^^ b).toNat)
  | .andNot => some (k.wrap (a &&& ~~~b).toNat)
  | _ => none

def binInt (op : BinOp) (k : IntKind) (a b : Int) : Option D :=
  match op with
  | .add => some (.int k (k.wrap (a + b)))
  | .sub => some (.int k (k.wrap (a - b)))
  | .mul => some (.int k (k.wrap (a * b)))
  | .quo => if b = 0 then none else some (.int k (k.wrap (a.tdiv b)))
  | .rem => if b = 0 then none else some (.int k (a.tmod b))
  | .eql => some (.bool (a == b))
  | .neq => some (.bool (a != b))
  | .lss => some (.bool (decide (a < b)))
  | .leq => some (.bool (decide (a ≤ b)))
  | .gtr => some (.bool (decide (a > b)))
  | .geq => some (.bool (decide (a ≥ b)))
  | .shl => none
  | .shr => none
  | .and => (intBits .and k a b).map (D.int k)
  | .or => (intBits .or k a b).map (D.int k)
  | .xor => (intBits .xor k a b).map (D.int k)
  | .andNot => (intBits .andNot k a b).map (D.int k)

def shiftInt (op : BinOp) (k : IntKind) (x y : Int) : Option D :=
  if y < 0 then none else
  match op with
  | .shl => some (.int k (k.wrap (x * 2 ^ (min y.toNat k.bits))))
  | .shr => some (.int k (x.fdiv (2 ^ (min y.toNat k.bits))))
  | _ => none

def binStr (op : BinOp) (x y : ByteArray) : Option D :=
  match op with
  | .add => if x.size + y.size ≤ 9223372036854775807 then some (.str (x ++ y)) else none
  | .eql => some (.bool (x.toList == y.toList))
  | .neq => some (.bool !(x.toList == y.toList))
  | .lss => some (.bool (Op.bytesLess x.toList y.toList))
  | .leq => some (.bool (Op.bytesLess x.toList y.toList || x.toList == y.toList))
  | .gtr => some (.bool !(Op.bytesLess x.toList y.toList || x.toList == y.toList))
  | .geq => some (.bool !(Op.bytesLess x.toList y.toList))
  | _ => none

def eqD : D → D → Option Bool
  | .bool a, .bool b => some (a == b)
  | .int k a, .int k' b => if k = k' then some (a == b) else none
  | .str a, .str b => some (a == b)
  | _, _ => none

def eqDs : List V → List V → Option Bool
  | [], [] => some true
  | .d a :: r, .d b :: s => match eqD a b, eqDs r s with | some x, some y => some (x && y) | _, _ => none
  | _, _ => none

def isPtr : V → Bool
  | .d (.rp _) => true
  | .ptr .. => true
  | .pa .. => true
  | _ => false

def isSlc : V → Bool
  | .d (.rs _ _ _ _) => true
  | .sl .. => true
  | .sa .. => true
  | _ => false

/-- '==': where one side is nil, or between bools, or between structs and arrays of plain cells. -/
def eqV (k : Eqk) (x y : V) : Option Bool :=
  match k with
  | .ptr => match x, y with
    | .d .nilp, .d .nilp => some true
    | .d .nilp, y => if isPtr y then some false else none
    | x, .d .nilp => if isPtr x then some false else none
    | _, _ => none
  | .slc => match x, y with
    | .d .nils, .d .nils => some true
    | .d .nils, y => if isSlc y then some false else none
    | x, .d .nils => if isSlc x then some false else none
    | _, _ => none
  | .bool => match x, y with
    | .d (.bool a), .d (.bool b) => some (a == b)
    | _, _ => none
  | .cells => match x, y with
    | .agg cs, .agg ds => eqDs cs ds
    | _, _ => none

def binV (op : BinOp) (x y : V) : Option V :=
  match x, y with
  | .d (.int k a), .d (.int k' b) => match op with
    | .shl => (shiftInt .shl k a b).map V.d
    | .shr => (shiftInt .shr k a b).map V.d
    | op => if k = k' then (binInt op k a b).map V.d else none
  | .d (.str a), .d (.str b) => (binStr op a b).map V.d
  | _, _ => none

def unV (op : UnOp) (x : V) : Option V :=
  match op, x with
  | .neg, .d (.int k n) => some (.d (.int k (k.wrap (0 - n))))
  | .xor, .d (.int k n) => (intBits .xor k (if k.signed then -1 else k.max) n).map fun r => .d (.int k r)
  | .not, .d (.bool b) => some (.d (.bool !b))
  | _, _ => none

def byteRow (s : ByteArray) : List (List D) := s.data.toList.map fun b => [.int .u8 b.toNat]

/-- Bytes as a string. -/
def strOf : List (List D) → Option (List UInt8)
  | [] => some []
  | [.int .u8 n] :: r => (strOf r).map (UInt8.ofNat n.toNat :: ·)
  | _ => none

def asNat (x : V) : Option Nat :=
  match x with
  | .d (.int _ n) => if 0 ≤ n then some n.toNat else none
  | _ => none

def optNat (E : Env) (t : Nat → V) (o : Option O) (dflt : Nat) : Option Nat :=
  match o with
  | some x => asNat (ev E t x)
  | none => some dflt

def lenV : V → Option Nat
  | .d .nils => some 0
  | .d (.rs _ _ rows _) => some rows.length
  | .sl _ _ _ len => some len
  | .sa _ _ _ _ _ len => some len
  | _ => none

/-- The parts of a value laid over zero cells. -/
def fillV (E : Env) (t : Nat → V) : List (Nat × Nat × O) → List V → Option (List V)
  | [], cells => some cells
  | (off, size, x) :: r, cells =>
    if (ev E t x).cells.length = size ∧ off + size ≤ cells.length ∧ (ev E t x).cellsOk then
      fillV E t r (cells.take off ++ (ev E t x).cells ++ cells.drop (off + size)) else none

def fillRows (E : Env) (t : Nat → V) (size : Nat) : List (Nat × O) → List (List V) → Option (List (List V))
  | [], rows => some rows
  | (i, x) :: r, rows =>
    if (ev E t x).cells.length = size ∧ i < rows.length ∧ (ev E t x).cellsOk then fillRows E t size r (rows.set i (ev E t x).cells) else none

def newBlk (m : Mem) (b : Blk) : V × Mem := (.ptr m.length 1 0 0, m ++ [b])

def sliceV (m : Mem) (x : V) (lo hi : Nat) (mx : Option Nat) : Option (V × Mem) :=
  match x with
  | .d .nils => if lo = 0 ∧ hi = 0 ∧ (mx = none ∨ mx = some 0) then some (.d .nils, m) else none
  | .d (.rs fl s rows tight) =>
    if lo ≤ hi ∧ hi ≤ rows.length then
      match mx with
      | none => some (.d (.rs fl s ((rows.drop lo).take (hi - lo)) (tight && hi == rows.length)), m)
      | some k => if hi ≤ k ∧ k ≤ rows.length then some (.d (.rs fl s ((rows.drop lo).take (hi - lo)) (hi == k)), m) else none
    else none
  | .sl id n off len =>
    if lo ≤ hi ∧ hi ≤ len then
      match mx with
      | none => if lo < hi then some (.sl id n (off + lo) (hi - lo), m) else (m[id]?).bind fun b => if n = b.len then some (.d (.rs false b.size [] false), m) else none
      | some k =>
        if hi ≤ k ∧ k ≤ len ∧ lo = hi then (m[id]?).bind fun b => if n = b.len then some (.d (.rs false b.size [] (hi == k)), m) else none
        else none
    else none
  | _ => none

def appendV (elem : TypeId) (flat : Bool) (size bytes : Nat) (m : Mem) (s x : V) : Option (V × Mem) :=
  match s with
  | .sl id n off len =>
    if sizeOk m size x ∧ off = 0 ∧ len = n then
      (m[id]?).bind fun b => match b with
      | .flat e z rows false => if n = rows.length ∧ z = size ∧ e = elem then (flatRowsOf m x).bind fun ys =>
          if (n + ys.length) * bytes ≤ 140737488355328 then
            if ys.length = 0 then some (.sl id n 0 n, m) else some (.sl id (n + ys.length) 0 (n + ys.length), m.set id (.flat e z (rows ++ ys) false))
          else none
        else none
      | .gen e z rows false => if n = rows.length ∧ z = size ∧ e = elem then (rowsOf m x).bind fun ys =>
          if (n + ys.length) * bytes ≤ 140737488355328 then
            if ys.length = 0 then some (.sl id n 0 n, m) else some (.sl id (n + ys.length) 0 (n + ys.length), m.set id (.gen e z (rows ++ ys) false))
          else none
        else none
      | _ => none
    else none
  | .d .nils =>
    if sizeOk m size x then
      if flat then (flatRowsOf m x).bind fun ys =>
        if ys.length * bytes ≤ 140737488355328 then
          if ys.length = 0 then some (.d .nils, m) else some (.sl m.length ys.length 0 ys.length, m ++ [.flat elem size ys false])
        else none
      else (rowsOf m x).bind fun ys =>
        if ys.length * bytes ≤ 140737488355328 then
          if ys.length = 0 then some (.d .nils, m) else some (.sl m.length ys.length 0 ys.length, m ++ [.gen elem size ys false])
        else none
    else none
  | .d (.rs fl z rows true) =>
    if sizeOk m size x ∧ z = size ∧ rows.length = 0 then
      if flat then (flatRowsOf m x).bind fun ys =>
        if ys.length * bytes ≤ 140737488355328 then
          if ys.length = 0 then some (.d (.rs fl z rows true), m) else some (.sl m.length ys.length 0 ys.length, m ++ [.flat elem size ys false])
        else none
      else (rowsOf m x).bind fun ys =>
        if ys.length * bytes ≤ 140737488355328 then
          if ys.length = 0 then some (.d (.rs fl z rows true), m) else some (.sl m.length ys.length 0 ys.length, m ++ [.gen elem size ys false])
        else none
    else none
  | _ => none

def copyV (size : Nat) (m : Mem) (s x : V) : Option (V × Mem) :=
  match s with
  | .sl id n off len =>
    if sizeOk m size x then
      (m[id]?).bind fun b => match b with
      | .flat e z rows false => if n = rows.length ∧ off + len ≤ n ∧ z = size then (flatRowsOf m x).bind fun ys =>
          some (V.i ((min ys.length len : Nat) : Int), m.set id (.flat e z (rows.take off ++ ys.take (min ys.length len) ++ rows.drop (off + min ys.length len)) false)) else none
      | _ => none
    else none
  | _ => none

def foldInt (f : Int → Int → Int) : List V → Option V
  | .d (.int k n) :: r => go k n r
  | _ => none
where
  go (k : IntKind) (n : Int) : List V → Option V
    | [] => some (.d (.int k n))
    | .d (.int k' n') :: r => if k = k' then go k (f n n') r else none
    | _ => none

/-! ### calls: what a callee is handed, and what comes back -/

/-- A slice by value. -/
def byvalS (m : Mem) (v : V) : V :=
  match v with
  | .sl id n off len => match m[id]? with
    | some (.flat _ s rows _) => if n = rows.length ∧ off + len ≤ n then .d (.rs true s ((rows.drop off).take len) false) else .un
    | some (.gen _ s rows _) => if n = rows.length ∧ off + len ≤ n then match ((rows.drop off).take len).mapM toDs with | some r => .d (.rs false s r false) | none => .un else .un
    | _ => .un
  | .sa id n row off s len => match (m[id]?).bind (·.row? n row) with
    | some cs => if 0 < s ∧ off + len * s ≤ cs.length then match toDs cs with
      | some ds => .d (.rs (ds.all D.scalar) s ((List.range len).map fun i => (ds.drop (off + i * s)).take s) false)
      | none => .un else .un
    | none => .un
  | v => v

mutual
def V.byval (m : Mem) : V → V
  | .sl id n off len => byvalS m (.sl id n off len)
  | .sa id n row off s len => byvalS m (.sa id n row off s len)
  | .agg cs => .agg (V.byvals m cs)
  | v => v
def V.byvals (m : Mem) : List V → List V
  | [] => []
  | v :: r => v.byval m :: V.byvals m r
end

mutual
def V.slids : V → List Nat
  | .sl id _ _ _ => [id]
  | .sa id _ _ _ _ _ => [id]
  | .agg cs => V.slidss cs
  | _ => []
def V.slidss : List V → List Nat
  | [] => []
  | v :: r => v.slids ++ V.slidss r
end

def reach (m : Mem) : Nat → List Nat → List Nat → List Nat
  | 0, _, acc => acc
  | _, [], acc => acc
  | k + 1, i :: r, acc => if acc.contains i then reach m k r acc else reach m k (((m[i]?).map Blk.ids).getD [] ++ r) (acc ++ [i])

def idxFrom : Nat → List Nat → Nat → Option Nat
  | _, [], _ => none
  | k, x :: l, i => if x = i then some k else idxFrom (k + 1) l i

def idxOf (l : List Nat) (i : Nat) : Option Nat := idxFrom 0 l i

def pickBlks (m : Mem) (ρ : Nat → Option Nat) : List Nat → Option Mem
  | [] => some []
  | i :: r => match m[i]?, pickBlks m ρ r with
    | some b, some l => some (b.ren ρ :: l)
    | _, _ => none

/-- Blocks number 'j', 'j + 1', .. of 'mc' laid back over the places 'ids' of 'm'. -/
def layBack (mc : Mem) (ρ : Nat → Option Nat) : Nat → List Nat → Mem → Option Mem
  | _, [], m => some m
  | j, i :: r, m => match mc[j]? with
    | some b => layBack mc ρ (j + 1) r (m.set i (b.ren ρ))
    | none => none

def distinct : List Nat → Bool
  | [] => true
  | i :: r => !r.contains i && distinct r

/-- Blocks number 'k' and on, all of them. -/
def restBlks (mc : Mem) (ρ : Nat → Option Nat) (k : Nat) : Mem := (mc.drop k).map (Blk.ren ρ)

def backRen (ids : List Nat) (ml : Nat) : Nat → Option Nat := fun j => if j < ids.length then ids[j]? else some (ml + (j - ids.length))

def callV (call : CallT) (f : FuncId) (args : List V) (m : Mem) : Option (List V × Mem) :=
  let bv := V.slidss args
  let args1 := V.byvals m args
  let ids := reach m 1000 (V.idss args1) []
  if distinct ids && bv.all (fun i => !ids.contains i) then
    (pickBlks m (idxOf ids) ids).bind fun mc =>
    (call f (V.rens (idxOf ids) args1) mc).bind fun r =>
    if bv.isEmpty || (V.noRss r.1 && r.2.all Blk.noRs) then
      (layBack r.2 (backRen ids m.length) 0 ids m).map fun m1 => (V.rens (backRen ids m.length) r.1, m1 ++ restBlks r.2 (backRen ids m.length) ids.length)
    else none
  else none

def tidyRen (k : Nat) (fresh : List Nat) : Nat → Option Nat := fun j => if j < k then some j else (idxOf fresh j).map (· + k)

/-- What a call leaves: of its own blocks those alone that can be reached. -/
def tidy (k : Nat) (r : List V × Mem) : Option (List V × Mem) :=
  if r.2.length = k then some r else
  let fresh := (reach r.2 1000 (V.idss r.1 ++ List.range k) []).filter (k ≤ ·)
  if distinct fresh then
    (pickBlks r.2 (tidyRen k fresh) fresh).map fun nb => (V.rens (tidyRen k fresh) r.1, (r.2.take k).map (Blk.ren (tidyRen k fresh)) ++ nb)
  else none

def packV : List V → V
  | [v] => v
  | vs => .tup vs

def callOf (call : CallT) (f : V) (args : List V) (m : Mem) : Option (V × Mem) :=
  match f with
  | .fn (.func g) first captured => (callV call g (first ++ args ++ captured) m).map fun r => (packV r.1, r.2)
  | _ => none

def fieldAV (off : Nat) : V → Option V
  | .ptr id n r o => some (.ptr id n r (o + off))
  | .d (.rp cells) => some (.d (.rp (cells.drop off)))
  | _ => none

def fieldV (agg : Bool) (off size : Nat) : V → Option V
  | .agg cs => part agg cs off size
  | _ => none

def idxSV (j : Nat) : V → Option V
  | .d (.rs _ _ rows _) => (rows[j]?).map fun r => .d (.rp r)
  | .sl id n off len => if j < len then some (.ptr id n (off + j) 0) else none
  | .sa id n row off s len => if j < len then some (.ptr id n row (off + j * s)) else none
  | _ => none

def idxAV (j size : Nat) : V → Option V
  | .ptr id k r o => some (.ptr id k r (o + j * size))
  | .d (.rp cells) => some (.d (.rp (cells.drop (j * size))))
  | _ => none

def arrPV (n : Nat) : V → Option V
  | .d (.rs _ _ rows _) => if 0 < n ∧ n ≤ rows.length then some (.d (.rp (rows.take n).flatten)) else none
  | .sl id k off len => if n ≤ len then some (.pa id k off n) else none
  | _ => none

def slarrV (n size l h : Nat) : V → Option V
  | .d (.rp cells) => if n * size ≤ cells.length then some (.d (.rs (cells.all D.scalar) size ((List.range (h - l)).map fun i => (cells.drop ((l + i) * size)).take size) (h == n))) else none
  | .ptr id k row off => some (.sa id k row (off + l * size) size (h - l))
  | _ => none

def strIdx (j : Nat) : V → Option V
  | .d (.str s) => (s.data.toList[j]?).map fun b => .d (.int .u8 b.toNat)
  | _ => none

def doI (E : Env) (call : CallT) (i : I) (t : Nat → V) (m : Mem) : Option (V × Mem) :=
  match i with
  | .mov x => some (ev E t x, m)
  | .pick c a b => match ev E t c with | .d (.bool true) => some (ev E t a, m) | .d (.bool false) => some (ev E t b, m) | _ => none
  | .alloc e zero flat => (mkBlk e flat zero.length [zero.map V.d]).map (newBlk m)
  | .box e flat size x => if (ev E t x).cells.length = size ∧ (ev E t x).cellsOk then (mkBlk e flat size [(ev E t x).cells]).map (newBlk m) else none
  | .build zero parts => (fillV E t parts (zero.map V.d)).map fun cs => (.agg cs, m)
  | .bslice e flat size len zero parts =>
    (fillRows E t size parts (List.replicate len (zero.map V.d))).bind fun rows => (mkBlk e flat size rows).map fun b => (.sl m.length len 0 len, m ++ [b])
  | .load agg size x => (loadV m agg size (ev E t x)).map fun v => (v, m)
  | .store size x v => (storeV m size (ev E t x) (ev E t v)).map fun m' => (.tup [], m')
  | .nilck x => (nilckV (ev E t x)).map fun v => (v, m)
  | .bin op x y => (binV op (ev E t x) (ev E t y)).map fun v => (v, m)
  | .beq k neg x y => (eqV k (ev E t x) (ev E t y)).map fun b => (.d (.bool (neg != b)), m)
  | .unop op x => (unV op (ev E t x)).map fun v => (v, m)
  | .conv k x => match k with
    | .int k => match ev E t x with | .d (.int _ n) => some (.d (.int k (k.wrap n)), m) | _ => none
    | .same => match ev E t x with | .d (.str s) => some (.d (.str s), m) | _ => none
    | .ofStr e => match ev E t x with
      | .d (.str s) => if s.size ≤ 140737488355328 then some (.sl m.length s.size 0 s.size, m ++ [.flat e 1 (byteRow s) false]) else none
      | _ => none
    | .toStr => if sizeOk m 1 (ev E t x) then (flatRowsOf m (ev E t x)).bind fun rows => (strOf rows).map fun l => (.d (.str ⟨l.toArray⟩), m) else none
    | .mark => match ev E t x with
      | .sl id n off len => match m[id]? with
        | some (.flat _ _ rows false) => if n = rows.length then some (.sl id n off len, m) else none
        | _ => none
      | _ => none
  | .mkfn f a b => some (.fn f (evs E t a) (evs E t b), m)
  | .mkif ty x => some (.ifc ty (ev E t x), m)
  | .mksl e flat zero bytes len cap =>
    match asNat (ev E t len), asNat (ev E t cap) with
    | some n, some c => if n = c ∧ c * bytes ≤ 140737488355328 then (mkBlk e flat zero.length (List.replicate n (zero.map V.d))).map fun b => (.sl m.length n 0 n, m ++ [b]) else none
    | _, _ => none
  | .slice size x lo hi mx =>
    if sizeOk m size (ev E t x) then
      (lenV (ev E t x)).bind fun n => (optNat E t lo 0).bind fun l => (optNat E t hi n).bind fun h =>
      match mx with
      | none => sliceV m (ev E t x) l h none
      | some k => (asNat (ev E t k)).bind fun k => sliceV m (ev E t x) l h (some k)
    else none
  | .slstr x lo hi => match ev E t x with
    | .d (.str s) => (optNat E t lo 0).bind fun l => (optNat E t hi s.size).bind fun h => if l ≤ h ∧ h ≤ s.size then some (.d (.str (s.extract l h)), m) else none
    | _ => none
  | .slarr n size x lo hi mx =>
    match mx with
    | some _ => none
    | none => (optNat E t lo 0).bind fun l => (optNat E t hi n).bind fun h =>
      if l < h ∧ h ≤ n then (slarrV n size l h (ev E t x)).map fun v => (v, m) else none
  | .fieldA off x => (fieldAV off (ev E t x)).map fun v => (v, m)
  | .field agg off size x => (fieldV agg off size (ev E t x)).map fun v => (v, m)
  | .idxA size x i => if sizeOk m size (ev E t x) then (asNat (ev E t i)).bind fun j => (idxSV j (ev E t x)).map fun v => (v, m) else none
  | .idxAA n size x i => (asNat (ev E t i)).bind fun j => if j < n then (idxAV j size (ev E t x)).map fun v => (v, m) else none
  | .idx agg n size x i => (asNat (ev E t i)).bind fun j => if j < n then (fieldV agg (j * size) size (ev E t x)).map fun v => (v, m) else none
  | .idxs x i => (asNat (ev E t i)).bind fun j => (strIdx j (ev E t x)).map fun v => (v, m)
  | .arrP n size x => if sizeOk m size (ev E t x) then (arrPV n (ev E t x)).map fun v => (v, m) else none
  | .extract i x => match ev E t x with | .tup vs => (vs[i]?).map fun v => (v, m) | _ => none
  | .call f args => callOf call (ev E t f) (evs E t args) m
  | .len x => (lenV (ev E t x)).map fun (n : Nat) => (V.i (n : Int), m)
  | .lens x => match ev E t x with | .d (.str s) => some (V.i (s.size : Int), m) | _ => none
  | .lenc n => some (V.i (n : Int), m)
  | .append e flat size bytes s x => appendV e flat size bytes m (ev E t s) (ev E t x)
  | .copy size s x => copyV size m (ev E t s) (ev E t x)
  | .mx xs => (foldInt (fun a b => if b > a then b else a) (evs E t xs)).map fun v => (v, m)
  | .mn xs => (foldInt (fun a b => if b < a then b else a) (evs E t xs)).map fun v => (v, m)

def upd (t : Nat → V) (i : Nat) (v : V) : Nat → V := fun j => if j = i then v else t j

def putT (t : Nat → V) (d : Option Nat) (v : V) : Nat → V := match d with | some i => upd t i v | none => t

def wantedC (g : Option (Nat × Bool)) (t : Nat → V) : Option Bool :=
  match g with
  | none => some true
  | some (j, want) => match t j with | .d (.bool b) => some (b == want) | .tup [] => some false | _ => none

def restore (m m' : Mem) : Mem := m ++ m'.drop m.length

def doQ (E : Env) (call : CallT) (i : I) (t : Nat → V) (m : Mem) : Option (V × Mem) :=
  (doI E call i t (m.map (Blk.setProt true))).map fun r => (r.1, restore m r.2)

def opsC (step : I → (Nat → V) → Mem → Option (V × Mem)) : List OpC → S → Option S
  | [], s => some s
  | o :: r, s => match wantedC o.guard s.t with
    | some true => match step o.ins s.t s.m with
      | some (v, m') => opsC step r ⟨putT s.t o.dst v, m'⟩
      | none => none
    | some false => opsC step r ⟨putT s.t o.dst (.tup []), s.m⟩
    | none => none

def iter (f : S → Option (X × S)) : Nat → S → Option (X × S)
  | 0, _ => none
  | k + 1, s => match f s with
    | some (.normal, s') => iter f k s'
    | r => r

def bound : Nat := 1152921504606846976

def runC (E : Env) (call : CallT) : C → S → Option (X × S)
  | .skip, s => some (.normal, s)
  | .reg qs ts, s => match opsC (doQ E call) qs s with
    | some s1 => match opsC (doI E call) ts s1 with
      | some s2 => some (.normal, s2)
      | none => none
    | none => none
  | .seq a b, s => match runC E call a s with
    | some (.normal, s') => runC E call b s'
    | r => r
  | .cond c a b, s => match ev E s.t c with
    | .d (.bool true) => runC E call a s
    | .d (.bool false) => runC E call b s
    | _ => none
  | .block id b, s => match runC E call b s with
    | some (.exit i, s') => if i = id then some (.normal, s') else some (.exit i, s')
    | r => r
  | .loop b, s => iter (runC E call b) bound s
  | .rfun _ _ _ _, _ => none
  | .exit id, s => some (.exit id, s)
  | .scope b, s => runC E call b s
  | .ret, s => some (.ret, s)

def resV (s : S) : RV → Option V
  | .tmp i => some (s.t i)
  | .cell agg size i => loadV s.m agg size (s.t i)

def resVs (s : S) : List RV → Option (List V)
  | [] => some []
  | r :: l => match resV s r, resVs s l with
    | some v, some vs => some (v :: vs)
    | _, _ => none

def initT (args : List V) : Nat → V := fun i => args.getD i (.tup [])

def runF (E : Env) (call : CallT) (F : CFunc) (args : List V) (m : Mem) : Option (List V × Mem) :=
  if args.length ≤ F.ntmps then
    match runC E call F.body ⟨initT args, m⟩ with
    | some (.normal, s) => (resVs s F.results).bind fun vs => tidy m.length (vs, s.m)
    | some (.ret, s) => (resVs s F.results).bind fun vs => tidy m.length (vs, s.m)
    | _ => none
  else none

def callD (E : Env) : Nat → CallT
  | 0 => fun _ _ _ => none
  | n + 1 => fun f args m => match E.ext f args m with
    | some r => some r
    | none => match E.cf f with
      | some F => runF E (callD E n) F args m
      | none => none

end Go.Proofs.Ytgalchmjpfmemaa.Den
