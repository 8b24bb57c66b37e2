/- TripBackCard: part 1 of what its proof rests on: an evaluator of the program's code, proved sound; plain functions printed from the code by a program of this session, with proofs; plain laws. No condition. -/
import Derived.WalkKit
import Derived.KernelRfl
import Derived.CheckFast
import Derived.Below
import Derived.Deep.AppendSrc
import Derived.Deep.Upon
import Derived.Lib.AppendZerosOnto

namespace Go.Proofs.YtlenjioebdmooaaDoor.Den
open Go
inductive D where
  | bool (b : Bool)
  | int (k : IntKind) (n : Int)
  | str (s : ByteArray)
  | nilp
  | nils
  | nilf
  | nili
  | rs (flat : Bool) (s : Nat) (rows : List (List D)) (tight : Bool)
  | rp (cells : List D)
  deriving Inhabited
inductive V where
  | d (x : D)
  | un
  | ptr (id n row off : Nat)
  | sl (id n off len : Nat)
  | so (nil : Bool) (id n : Nat)
  | sa (id n row off s len : Nat)
  | pa (id n off len : Nat)
  | fn (f : Fn) (first captured : List V)
  | yl (id : Nat)
  | ifc (t : TypeId) (v : V)
  | agg (cells : List V)
  | tup (vs : List V)
  deriving Inhabited
abbrev V.bool (b : Bool) : V := .d (.bool b)
abbrev V.int (k : IntKind) (n : Int) : V := .d (.int k n)
abbrev V.i (n : Int) : V := .d (.int .i64 n)
abbrev V.str (s : ByteArray) : V := .d (.str s)
inductive O where
  | t (i : Nat)
  | v (x : V)
  | g (g : Nat)
  deriving Inhabited
inductive Ck where
  | int (k : IntKind)
  | same
  | ofStr (elem : TypeId)
  | toStr
  | mark
  deriving Inhabited
inductive Kd where
  | b
  | i (k : IntKind)
  | s
  deriving Inhabited
inductive Eqk where
  | ptr
  | slc
  | bool
  | ifc
  | cells (ks : List Kd)
  deriving Inhabited
inductive I where
  | mov (x : O)
  | pick (c a b : O)
  | alloc (elem : TypeId) (zero : List D) (flat : Bool)
  | nsl (elem : TypeId) (flat : Bool) (size : Nat)
  | allocn (t elem : TypeId) (flat : Bool) (size : Nat)
  | box (elem : TypeId) (flat : Bool) (size : Nat) (x : O)
  | build (zero : List D) (parts : List (Nat × Nat × O))
  | bslice (elem : TypeId) (flat : Bool) (size len : Nat) (zero : List D) (parts : List (Nat × O))
  | load (agg : Bool) (size : Nat) (x : O)
  | store (size : Nat) (x v : O)
  | nilck (x : O)
  | bin (op : BinOp) (x y : O)
  | beq (k : Eqk) (neg : Bool) (x y : O)
  | unop (op : UnOp) (x : O)
  | conv (k : Ck) (x : O)
  | mkfn (f : Fn) (first captured : List O)
  | mkif (t : TypeId) (x : O)
  | mksl (elem : TypeId) (flat : Bool) (zero : List D) (bytes : Nat) (len cap : O)
  | slice (size : Nat) (x : O) (lo hi mx : Option O)
  | slstr (x : O) (lo hi : Option O)
  | slarr (n size : Nat) (x : O) (lo hi mx : Option O)
  | fieldA (off : Nat) (x : O)
  | field (agg : Bool) (off size : Nat) (x : O)
  | idxA (size : Nat) (x i : O)
  | idxAA (n size : Nat) (x i : O)
  | idx (agg : Bool) (n size : Nat) (x i : O)
  | idxs (x i : O)
  | arrP (n size : Nat) (x : O)
  | extract (i : Nat) (x : O)
  | call (f : O) (args : List O)
  | inv (tbl : List (TypeId × FuncId)) (x : O) (args : List O)
  | len (x : O)
  | lens (x : O)
  | lenc (n : Nat)
  | append (elem : TypeId) (flat : Bool) (size bytes : Nat) (s x : O)
  | copy (size : Nat) (s x : O)
  | mx (xs : List O)
  | mn (xs : List O)
  | chk (a : Nat) (x : O) (b : Nat) (y : O)
  | del (f : FuncId) (x i j : O)
  | appz (elem : TypeId) (size bytes : Nat) (zero : List D) (s n : O)
  deriving Inhabited
structure OpC where
  dst : Option Nat
  guard : Option (Nat × Bool)
  ins : I
  deriving Inhabited
inductive C where
  | skip
  | reg (qs ts : List OpC)
  | mix (l : List OpC) (un : List (List Nat)) (qf : List Bool)
  | seq (a b : C)
  | cond (c : O) (a b : C)
  | block (id : Nat) (b : C)
  | loop (lv lx : List Nat) (b : C)
  | rfun (nt : Nat) (lv : List Nat) (f : O) (params : List Nat) (assign body : C)
  | cut (lv lx ln : List Nat) (a b : C)
  | seq1 (a b : C)
  | exit (id : Nat)
  | scope (b : C)
  | ret
  deriving Inhabited
inductive RV where
  | tmp (i : Nat)
  | cell (agg : Bool) (size : Nat) (i : Nat)
  deriving Inhabited
structure CFunc where
  ntmps : Nat
  results : List RV
  body : C
  deriving Inhabited
inductive Blk where
  | flat (elem : TypeId) (s : Nat) (rows : List (List D)) (prot : Bool)
  | gen (elem : TypeId) (s : Nat) (rows : List (List V)) (prot : Bool)
  | loop (st : LoopState) (pend : Option C) (tmps : List V) (params : List Nat) (assign body : C) (prot : Bool)
  deriving Inhabited
abbrev Mem := List Blk
structure S where
  t : Nat → V
  m : Mem
inductive X where
  | normal
  | exit (id : Nat)
  | ret
abbrev CallT := FuncId → List V → Mem → Option (List V × Mem)
structure Env where
  cf : FuncId → Option CFunc
  ext : CallT
  gl : Nat → Option (List D)
  del : FuncId → Bool
  ref : FuncId → Bool
  gw : List (Nat × (Array Value → Prop)) := []
def D.scalar : D → Bool
  | .bool _ | .int _ _ | .str _ => true
  | _ => false
def V.cells : V → List V
  | .agg cs => cs
  | v => [v]
def V.cellOk : V → Bool
  | .un | .agg _ | .tup _ => false
  | _ => true
def V.cellsOk : V → Bool
  | .agg _ => true
  | v => v.cellOk
def toDs : List V → Option (List D)
  | [] => some []
  | .d x :: r => (toDs r).map (x :: ·)
  | _ :: _ => none
def toSs : List V → Option (List D)
  | [] => some []
  | .d x :: r => if x.scalar then (toSs r).map (x :: ·) else none
  | _ :: _ => none
mutual
def V.ids : V → List Nat
  | .d _ => []
  | .un => []
  | .ptr id _ _ _ => [id]
  | .sl id _ _ _ => [id]
  | .so _ id _ => [id]
  | .sa id _ _ _ _ _ => [id]
  | .pa id _ _ _ => [id]
  | .fn _ a b => V.idss a ++ V.idss b
  | .yl id => [id]
  | .ifc _ v => v.ids
  | .agg cs => V.idss cs
  | .tup cs => V.idss cs
def V.idss : List V → List Nat
  | [] => []
  | v :: r => v.ids ++ V.idss r
end
mutual
def V.ren (ρ : Nat → Option Nat) : V → V
  | .d x => .d x
  | .un => .un
  | .ptr id n r o => match ρ id with | some j => .ptr j n r o | none => .un
  | .sl id n o l => match ρ id with | some j => .sl j n o l | none => .un
  | .so b id n => match ρ id with | some j => .so b j n | none => .un
  | .sa id n r o s l => match ρ id with | some j => .sa j n r o s l | none => .un
  | .pa id n o l => match ρ id with | some j => .pa j n o l | none => .un
  | .fn f a b => .fn f (V.rens ρ a) (V.rens ρ b)
  | .yl id => match ρ id with | some j => .yl j | none => .un
  | .ifc t v => .ifc t (v.ren ρ)
  | .agg cs => .agg (V.rens ρ cs)
  | .tup cs => .tup (V.rens ρ cs)
def V.rens (ρ : Nat → Option Nat) : List V → List V
  | [] => []
  | v :: r => v.ren ρ :: V.rens ρ r
end
def D.noRs : D → Bool
  | .rs _ _ _ _ | .rp _ => false
  | _ => true
mutual
def V.noRs : V → Bool
  | .d x => x.noRs
  | .fn _ a b => V.noRss a && V.noRss b
  | .ifc _ v => v.noRs
  | .agg cs => V.noRss cs
  | .tup cs => V.noRss cs
  | _ => true
def V.noRss : List V → Bool
  | [] => true
  | v :: r => v.noRs && V.noRss r
end
def Blk.ids : Blk → List Nat
  | .flat .. => []
  | .gen _ _ rows _ => (rows.map V.idss).flatten
  | .loop _ _ ts _ _ _ _ => V.idss ts
def Blk.noRs : Blk → Bool
  | .flat .. => true
  | .gen _ _ rows _ => rows.all V.noRss
  | .loop _ _ ts _ _ _ _ => V.noRss ts
def Blk.ren (ρ : Nat → Option Nat) : Blk → Blk
  | .flat e s rows p => .flat e s rows p
  | .gen e s rows p => .gen e s (rows.map (V.rens ρ)) p
  | .loop st pe ts ps a b p => .loop st pe (V.rens ρ ts) ps a b p
def Blk.prot : Blk → Bool
  | .flat _ _ _ p => p
  | .gen _ _ _ p => p
  | .loop _ _ _ _ _ _ p => p
def Blk.setProt (p : Bool) : Blk → Blk
  | .flat e s rows _ => .flat e s rows p
  | .gen e s rows _ => .gen e s rows p
  | .loop st pe ts ps a b _ => .loop st pe ts ps a b p
def Blk.len : Blk → Nat
  | .flat _ _ rows _ => rows.length
  | .gen _ _ rows _ => rows.length
  | .loop .. => 1
def Blk.size : Blk → Nat
  | .flat _ s _ _ => s
  | .gen _ s _ _ => s
  | .loop .. => 1
def Blk.row? (b : Blk) (n r : Nat) : Option (List V) :=
  match b with
  | .flat _ _ rows _ => if n = rows.length then (rows[r]?).map (List.map V.d) else none
  | .gen _ _ rows _ => if n = rows.length then rows[r]? else none
  | .loop .. => none
def setRow {α : Type} (rows : List (List α)) (r off : Nat) (xs : List α) : Option (List (List α)) :=
  match rows[r]? with
  | some c => if off + xs.length ≤ c.length then some (rows.set r (c.take off ++ xs ++ c.drop (off + xs.length))) else none
  | none => none
def Blk.put? (b : Blk) (n r off : Nat) (xs : List V) : Option Blk :=
  match b with
  | .flat e s rows false =>
    if n = rows.length then (toSs xs).bind fun ys => (setRow rows r off ys).map fun rows' => .flat e s rows' false else none
  | .gen e s rows false => if n = rows.length then (setRow rows r off xs).map fun rows' => .gen e s rows' false else none
  | _ => none
def allSs : List (List V) → Option (List (List D))
  | [] => some []
  | r :: l => match toSs r, allSs l with | some a, some b => some (a :: b) | _, _ => none
def mkBlk (elem : TypeId) (flat : Bool) (size : Nat) (rows : List (List V)) : Option Blk :=
  if flat then (allSs rows).map fun r => .flat elem size r false else some (.gen elem size rows false)
def seg {α : Type} (l : List α) (off n : Nat) : Option (List α) := if off + n ≤ l.length then some ((l.drop off).take n) else none
def part (agg : Bool) (cells : List V) (off size : Nat) : Option V :=
  if agg then (seg cells off size).map V.agg else cells[off]?
def ev (E : Env) (t : Nat → V) : O → V
  | .t i => t i
  | .v x => x
  | .g g => match E.gl g with | some cs => .d (.rp cs) | none => .un
def evs (E : Env) (t : Nat → V) (l : List O) : List V := l.map (ev E t)
def rowsOf (m : Mem) : V → Option (List (List V))
  | .d .nils => some []
  | .d (.rs _ _ rows _) => some (rows.map (List.map V.d))
  | .sl id n off len => (m[id]?).bind fun b => match b with
    | .flat _ _ rows _ => if n = rows.length ∧ off + len ≤ n then some (((rows.drop off).take len).map (List.map V.d)) else none
    | .gen _ _ rows _ => if n = rows.length ∧ off + len ≤ n then some ((rows.drop off).take len) else none
    | .loop .. => none
  | .so _ id n => (m[id]?).bind fun b => match b with
    | .flat _ _ rows _ => if n = rows.length then some (rows.map (List.map V.d)) else none
    | .gen _ _ rows _ => if n = rows.length then some rows else none
    | .loop .. => none
  | _ => none
def flatRowsOf (m : Mem) : V → Option (List (List D))
  | .d .nils => some []
  | .d (.rs true _ rows _) => some rows
  | .d (.rs false _ [] _) => some []
  | .sl id n off len => (m[id]?).bind fun b => match b with
    | .flat _ _ rows _ => if n = rows.length ∧ off + len ≤ n then some ((rows.drop off).take len) else none
    | _ => none
  | .so _ id n => (m[id]?).bind fun b => match b with
    | .flat _ _ rows _ => if n = rows.length then some rows else none
    | _ => none
  | _ => none
def sizeOk (m : Mem) (size : Nat) : V → Bool
  | .d .nils => true
  | .d (.rs _ s _ _) => s == size
  | .sl id _ _ _ => match m[id]? with | some b => b.size == size | none => false
  | .so _ id _ => match m[id]? with | some b => b.size == size | none => false
  | .sa _ _ _ _ s _ => s == size
  | _ => false
def loadV (m : Mem) (agg : Bool) (size : Nat) : V → Option V
  | .d (.rp cells) => part agg (cells.map V.d) 0 size
  | .ptr id n row off => (m[id]?).bind fun b => (b.row? n row).bind fun cs => part agg cs off size
  | .pa id n off len => if agg then (rowsOf m (.sl id n off len)).bind fun rows => if rows.flatten.length = size then some (.agg rows.flatten) else none else none
  | _ => none
def storeV (m : Mem) (size : Nat) (x v : V) : Option Mem :=
  match x with
  | .ptr id n row off => if v.cells.length = size ∧ v.cellsOk then (m[id]?).bind fun b => (b.put? n row off v.cells).map fun b' => m.set id b' else none
  | _ => none
def nilckV : V → Option V
  | .ptr id n r o => some (.ptr id n r o)
  | .d (.rp c) => some (.d (.rp c))
  | .fn (.func f) a b => some (.fn (.func f) a b)
  | .yl i => some (.yl i)
  | .ifc t v => some (.ifc t v)
  | _ => none
def intBits (op : BinOp) (k : IntKind) (x y : Int) : Option Int :=
  let a := BitVec.ofInt k.bits x
  let b := BitVec.ofInt k.bits y
  match op with
  | .and => some (k.wrap (a &&& b).toNat)
  | .or => some (k.wrap (a ||| b).toNat)
  | .xor => some (k.wrap (a ^^^ b).toNat)
  | .andNot => some (k.wrap (a &&& ~~~b).toNat)
  | _ => none
def binInt (op : BinOp) (k : IntKind) (a b : Int) : Option D :=
  match op with
  | .add => some (.int k (k.wrap (a + b)))
  | .sub => some (.int k (k.wrap (a - b)))
  | .mul => some (.int k (k.wrap (a * b)))
  | .quo => if b = 0 then none else some (.int k (k.wrap (a.tdiv b)))
  | .rem => if b = 0 then none else some (.int k (a.tmod b))
  | .eql => some (.bool (a == b))
  | .neq => some (.bool (a != b))
  | .lss => some (.bool (decide (a < b)))
  | .leq => some (.bool (decide (a ≤ b)))
  | .gtr => some (.bool (decide (a > b)))
  | .geq => some (.bool (decide (a ≥ b)))
  | .shl => none
  | .shr => none
  | .and => (intBits .and k a b).map (D.int k)
  | .or => (intBits .or k a b).map (D.int k)
  | .xor => (intBits .xor k a b).map (D.int k)
  | .andNot => (intBits .andNot k a b).map (D.int k)
def shiftInt (op : BinOp) (k : IntKind) (x y : Int) : Option D :=
  if y < 0 then none else
  match op with
  | .shl => some (.int k (k.wrap (x * 2 ^ (min y.toNat k.bits))))
  | .shr => some (.int k (x.fdiv (2 ^ (min y.toNat k.bits))))
  | _ => none
def binStr (op : BinOp) (x y : ByteArray) : Option D :=
  match op with
  | .add => if x.size + y.size ≤ 9223372036854775807 then some (.str (x ++ y)) else none
  | .eql => some (.bool (x.toList == y.toList))
  | .neq => some (.bool !(x.toList == y.toList))
  | .lss => some (.bool (Op.bytesLess x.toList y.toList))
  | .leq => some (.bool (Op.bytesLess x.toList y.toList || x.toList == y.toList))
  | .gtr => some (.bool !(Op.bytesLess x.toList y.toList || x.toList == y.toList))
  | .geq => some (.bool !(Op.bytesLess x.toList y.toList))
  | _ => none
def eqD : Kd → D → D → Option Bool
  | .b, .bool a, .bool b => some (a == b)
  | .i q, .int k a, .int k' b => if k = q ∧ k' = q then some (a == b) else none
  | .s, .str a, .str b => some (a == b)
  | _, _, _ => none
def eqDs : List Kd → List V → List V → Option Bool
  | [], [], [] => some true
  | k :: ks, .d a :: r, .d b :: s => match eqD k a b, eqDs ks r s with | some x, some y => some (x && y) | _, _ => none
  | _, _, _ => none
def isPtr : V → Bool
  | .d (.rp _) => true
  | .ptr .. => true
  | .pa .. => true
  | _ => false
def isSlc : V → Bool
  | .d (.rs _ _ _ _) => true
  | .sl .. => true
  | .sa .. => true
  | _ => false
def eqV (k : Eqk) (x y : V) : Option Bool :=
  match k with
  | .ptr => match x, y with
    | .d .nilp, .d .nilp => some true
    | .d .nilp, y => if isPtr y then some false else none
    | x, .d .nilp => if isPtr x then some false else none
    | _, _ => none
  | .slc => match x, y with
    | .d .nils, .d .nils => some true
    | .so b _ _, .d .nils => some b
    | .d .nils, .so b _ _ => some b
    | .d .nils, y => if isSlc y then some false else none
    | x, .d .nils => if isSlc x then some false else none
    | _, _ => none
  | .bool => match x, y with
    | .d (.bool a), .d (.bool b) => some (a == b)
    | _, _ => none
  | .ifc => match x, y with
    | .d .nili, .d .nili => some true
    | .d .nili, .ifc _ _ => some false
    | .ifc _ _, .d .nili => some false
    | _, _ => none
  | .cells ks => match x, y with
    | .agg cs, .agg ds => eqDs ks cs ds
    | _, _ => none
def binV (op : BinOp) (x y : V) : Option V :=
  match x, y with
  | .d (.int k a), .d (.int k' b) => match op with
    | .shl => (shiftInt .shl k a b).map V.d
    | .shr => (shiftInt .shr k a b).map V.d
    | op => if k = k' then (binInt op k a b).map V.d else none
  | .d (.str a), .d (.str b) => (binStr op a b).map V.d
  | _, _ => none
def unV (op : UnOp) (x : V) : Option V :=
  match op, x with
  | .neg, .d (.int k n) => some (.d (.int k (k.wrap (0 - n))))
  | .xor, .d (.int k n) => (intBits .xor k (if k.signed then -1 else k.max) n).map fun r => .d (.int k r)
  | .not, .d (.bool b) => some (.d (.bool !b))
  | _, _ => none
def byteRow (s : ByteArray) : List (List D) := s.data.toList.map fun b => [.int .u8 b.toNat]
def strOf : List (List D) → Option (List UInt8)
  | [] => some []
  | [.int .u8 n] :: r => (strOf r).map (UInt8.ofNat n.toNat :: ·)
  | _ => none
def asNat (x : V) : Option Nat :=
  match x with
  | .d (.int _ n) => if 0 ≤ n then some n.toNat else none
  | _ => none
def optNat (E : Env) (t : Nat → V) (o : Option O) (dflt : Nat) : Option Nat :=
  match o with
  | some x => asNat (ev E t x)
  | none => some dflt
def lenV : V → Option Nat
  | .d .nils => some 0
  | .d (.rs _ _ rows _) => some rows.length
  | .sl _ _ _ len => some len
  | .so _ _ n => some n
  | .sa _ _ _ _ _ len => some len
  | _ => none
def fillV (E : Env) (t : Nat → V) : List (Nat × Nat × O) → List V → Option (List V)
  | [], cells => some cells
  | (off, size, x) :: r, cells =>
    if (ev E t x).cells.length = size ∧ off + size ≤ cells.length ∧ (ev E t x).cellsOk then
      fillV E t r (cells.take off ++ (ev E t x).cells ++ cells.drop (off + size)) else none
def fillRows (E : Env) (t : Nat → V) (size : Nat) : List (Nat × O) → List (List V) → Option (List (List V))
  | [], rows => some rows
  | (i, x) :: r, rows =>
    if (ev E t x).cells.length = size ∧ i < rows.length ∧ (ev E t x).cellsOk then fillRows E t size r (rows.set i (ev E t x).cells) else none
def newBlk (m : Mem) (b : Blk) : V × Mem := (.ptr m.length 1 0 0, m ++ [b])
def sliceV (m : Mem) (x : V) (lo hi : Nat) (mx : Option Nat) : Option (V × Mem) :=
  match x with
  | .d .nils => if lo = 0 ∧ hi = 0 ∧ (mx = none ∨ mx = some 0) then some (.d .nils, m) else none
  | .d (.rs fl s rows tight) =>
    if lo ≤ hi ∧ hi ≤ rows.length then
      match mx with
      | none => some (.d (.rs fl s ((rows.drop lo).take (hi - lo)) (tight && hi == rows.length)), m)
      | some k => if hi ≤ k ∧ k ≤ rows.length then some (.d (.rs fl s ((rows.drop lo).take (hi - lo)) (hi == k)), m) else none
    else none
  | .sl id n off len =>
    if lo ≤ hi ∧ hi ≤ len then
      match mx with
      | none => if lo < hi then some (.sl id n (off + lo) (hi - lo), m) else (m[id]?).bind fun b => if n = b.len then some (.d (.rs false b.size [] false), m) else none
      | some k =>
        if hi ≤ k ∧ k ≤ len ∧ lo = hi then (m[id]?).bind fun b => if n = b.len then some (.d (.rs false b.size [] (hi == k)), m) else none
        else none
    else none
  | .so _ id n =>
    if lo < hi ∧ hi ≤ n then
      match mx with
      | none => some (.sl id n lo (hi - lo), m)
      | some _ => none
    else none
  | _ => none
def appendV (elem : TypeId) (flat : Bool) (size bytes : Nat) (m : Mem) (s x : V) : Option (V × Mem) :=
  match s with
  | .sl id n off len =>
    if sizeOk m size x ∧ off = 0 ∧ len = n then
      (m[id]?).bind fun b => match b with
      | .flat e z rows false => if n = rows.length ∧ z = size ∧ e = elem then (flatRowsOf m x).bind fun ys =>
          if (n + ys.length) * bytes ≤ 140737488355328 then
            if ys.length = 0 then some (.sl id n 0 n, m) else some (.sl id (n + ys.length) 0 (n + ys.length), m.set id (.flat e z (rows ++ ys) false))
          else none
        else none
      | .gen e z rows false => if n = rows.length ∧ z = size ∧ e = elem then (rowsOf m x).bind fun ys =>
          if (n + ys.length) * bytes ≤ 140737488355328 then
            if ys.length = 0 then some (.sl id n 0 n, m) else some (.sl id (n + ys.length) 0 (n + ys.length), m.set id (.gen e z (rows ++ ys) false))
          else none
        else none
      | _ => none
    else none
  | .so nl id n =>
    if sizeOk m size x then
      (m[id]?).bind fun b => match b with
      | .flat e z rows false => if n = rows.length ∧ z = size ∧ e = elem then (flatRowsOf m x).bind fun ys =>
          if (n + ys.length) * bytes ≤ 140737488355328 then some (.so (ys.isEmpty && nl) id (n + ys.length), m.set id (.flat e z (rows ++ ys) false)) else none
        else none
      | .gen e z rows false => if n = rows.length ∧ z = size ∧ e = elem then (rowsOf m x).bind fun ys =>
          if (n + ys.length) * bytes ≤ 140737488355328 then some (.so (ys.isEmpty && nl) id (n + ys.length), m.set id (.gen e z (rows ++ ys) false)) else none
        else none
      | _ => none
    else none
  | .d .nils =>
    if sizeOk m size x then
      if flat then (flatRowsOf m x).bind fun ys =>
        if ys.length * bytes ≤ 140737488355328 then
          if ys.length = 0 then some (.d .nils, m) else some (.sl m.length ys.length 0 ys.length, m ++ [.flat elem size ys false])
        else none
      else (rowsOf m x).bind fun ys =>
        if ys.length * bytes ≤ 140737488355328 then
          if ys.length = 0 then some (.d .nils, m) else some (.sl m.length ys.length 0 ys.length, m ++ [.gen elem size ys false])
        else none
    else none
  | .d (.rs fl z rows true) =>
    if sizeOk m size x ∧ z = size ∧ rows.length = 0 then
      if flat then (flatRowsOf m x).bind fun ys =>
        if ys.length * bytes ≤ 140737488355328 then
          if ys.length = 0 then some (.d (.rs fl z rows true), m) else some (.sl m.length ys.length 0 ys.length, m ++ [.flat elem size ys false])
        else none
      else (rowsOf m x).bind fun ys =>
        if ys.length * bytes ≤ 140737488355328 then
          if ys.length = 0 then some (.d (.rs fl z rows true), m) else some (.sl m.length ys.length 0 ys.length, m ++ [.gen elem size ys false])
        else none
    else none
  | _ => none
def appendZ (elem : TypeId) (size bytes : Nat) (zero : List D) (m : Mem) (s : V) (k : Nat) : Option (V × Mem) :=
  match s with
  | .so nl id n =>
    (m[id]?).bind fun b => match b with
    | .flat e z rows false => if n = rows.length ∧ z = size ∧ e = elem ∧ (n + k) * bytes ≤ 140737488355328 ∧ zero.all D.scalar = true then
        some (.so ((List.replicate k zero).isEmpty && nl) id (n + k), m.set id (.flat e z (rows ++ List.replicate k zero) false)) else none
    | _ => none
  | _ => none
def copyV (size : Nat) (m : Mem) (s x : V) : Option (V × Mem) :=
  match s with
  | .sl id n off len =>
    if sizeOk m size x then
      (m[id]?).bind fun b => match b with
      | .flat e z rows false => if n = rows.length ∧ off + len ≤ n ∧ z = size then (flatRowsOf m x).bind fun ys =>
          some (V.i ((min ys.length len : Nat) : Int), m.set id (.flat e z (rows.take off ++ ys.take (min ys.length len) ++ rows.drop (off + min ys.length len)) false)) else none
      | _ => none
    else none
  | _ => none
def foldInt (f : Int → Int → Int) : List V → Option V
  | .d (.int k n) :: r => go k n r
  | _ => none
where
  go (k : IntKind) (n : Int) : List V → Option V
    | [] => some (.d (.int k n))
    | .d (.int k' n') :: r => if k = k' then go k (f n n') r else none
    | _ => none
def D.ofRows (b fl : Bool) (s : Nat) (rows : List (List D)) : D :=
  match b, rows with
  | true, [] => .nils
  | _, _ => .rs fl s rows false
def byvalS (m : Mem) (v : V) : V :=
  match v with
  | .sl id n off len => match m[id]? with
    | some (.flat _ s rows _) => if n = rows.length ∧ off + len ≤ n then .d (.rs true s ((rows.drop off).take len) false) else .un
    | some (.gen _ s rows _) => if n = rows.length ∧ off + len ≤ n then match ((rows.drop off).take len).mapM toDs with | some r => .d (.rs false s r false) | none => .un else .un
    | _ => .un
  | .so b id n => match m[id]? with
    | some (.flat _ s rows _) => if n = rows.length then .d (D.ofRows b true s rows) else .un
    | some (.gen _ s rows _) => if n = rows.length then match rows.mapM toDs with | some r => .d (D.ofRows b false s r) | none => .un else .un
    | _ => .un
  | .sa id n row off s len => match (m[id]?).bind (·.row? n row) with
    | some cs => if 0 < s ∧ off + len * s ≤ cs.length then match toDs cs with
      | some ds => .d (.rs (ds.all D.scalar) s ((List.range len).map fun i => (ds.drop (off + i * s)).take s) false)
      | none => .un else .un
    | none => .un
  | v => v
mutual
def V.byval (m : Mem) : V → V
  | .sl id n off len => byvalS m (.sl id n off len)
  | .so b id n => byvalS m (.so b id n)
  | .sa id n row off s len => byvalS m (.sa id n row off s len)
  | .agg cs => .agg (V.byvals m cs)
  | v => v
def V.byvals (m : Mem) : List V → List V
  | [] => []
  | v :: r => v.byval m :: V.byvals m r
end
mutual
def V.slids : V → List Nat
  | .sl id _ _ _ => [id]
  | .so _ id _ => [id]
  | .sa id _ _ _ _ _ => [id]
  | .agg cs => V.slidss cs
  | _ => []
def V.slidss : List V → List Nat
  | [] => []
  | v :: r => v.slids ++ V.slidss r
end
def reach (m : Mem) : Nat → List Nat → List Nat → List Nat
  | 0, _, acc => acc
  | _, [], acc => acc
  | k + 1, i :: r, acc => if acc.contains i then reach m k r acc else reach m k (((m[i]?).map Blk.ids).getD [] ++ r) (acc ++ [i])
def idxFrom : Nat → List Nat → Nat → Option Nat
  | _, [], _ => none
  | k, x :: l, i => if x = i then some k else idxFrom (k + 1) l i
def idxOf (l : List Nat) (i : Nat) : Option Nat := idxFrom 0 l i
def pickBlks (m : Mem) (ρ : Nat → Option Nat) : List Nat → Option Mem
  | [] => some []
  | i :: r => match m[i]?, pickBlks m ρ r with
    | some b, some l => some (b.ren ρ :: l)
    | _, _ => none
def layBack (mc : Mem) (ρ : Nat → Option Nat) : Nat → List Nat → Mem → Option Mem
  | _, [], m => some m
  | j, i :: r, m => match mc[j]? with
    | some b => layBack mc ρ (j + 1) r (m.set i (b.ren ρ))
    | none => none
def distinct : List Nat → Bool
  | [] => true
  | i :: r => !r.contains i && distinct r
def restBlks (mc : Mem) (ρ : Nat → Option Nat) (k : Nat) : Mem := (mc.drop k).map (Blk.ren ρ)
def backRen (ids : List Nat) (ml : Nat) : Nat → Option Nat := fun j => if j < ids.length then ids[j]? else some (ml + (j - ids.length))
def byIds (br : Bool) (args : List V) : List Nat := match br with | true => [] | false => V.slidss args
def byArgs (br : Bool) (m : Mem) (args : List V) : List V := match br with | true => args | false => V.byvals m args
def callV (br : Bool) (call : CallT) (f : FuncId) (args : List V) (m : Mem) : Option (List V × Mem) :=
  let bv := byIds br args
  let args1 := byArgs br m args
  let ids := reach m 1000 (V.idss args1) []
  if distinct ids && bv.all (fun i => !ids.contains i) then
    (pickBlks m (idxOf ids) ids).bind fun mc =>
    (call f (V.rens (idxOf ids) args1) mc).bind fun r =>
    if bv.isEmpty || (V.noRss r.1 && r.2.all Blk.noRs) then
      (layBack r.2 (backRen ids m.length) 0 ids m).map fun m1 => (V.rens (backRen ids m.length) r.1, m1 ++ restBlks r.2 (backRen ids m.length) ids.length)
    else none
  else none
def tidyRen (k : Nat) (fresh : List Nat) : Nat → Option Nat := fun j => if j < k then some j else (idxOf fresh j).map (· + k)
def tidy (k : Nat) (r : List V × Mem) : Option (List V × Mem) :=
  if r.2.length = k then some r else
  let fresh := (reach r.2 1000 (V.idss r.1 ++ List.range k) []).filter (k ≤ ·)
  if distinct fresh then
    (pickBlks r.2 (tidyRen k fresh) fresh).map fun nb => (V.rens (tidyRen k fresh) r.1, (r.2.take k).map (Blk.ren (tidyRen k fresh)) ++ nb)
  else none
def packV : List V → V
  | [v] => v
  | vs => .tup vs
def yfn : FuncId := 18446744073709551616
def callOf (ref : FuncId → Bool) (call : CallT) (f : V) (args : List V) (m : Mem) : Option (V × Mem) :=
  match f with
  | .fn (.func g) first captured => if g = yfn then none else (callV (ref g) call g (first ++ args ++ captured) m).map fun r => (packV r.1, r.2)
  | .yl id => (callV false call yfn (.yl id :: args) m).map fun r => (packV r.1, r.2)
  | _ => none
def fieldAV (off : Nat) : V → Option V
  | .ptr id n r o => some (.ptr id n r (o + off))
  | .d (.rp cells) => some (.d (.rp (cells.drop off)))
  | _ => none
def fieldV (agg : Bool) (off size : Nat) : V → Option V
  | .agg cs => part agg cs off size
  | _ => none
def idxSV (j : Nat) : V → Option V
  | .d (.rs _ _ rows _) => (rows[j]?).map fun r => .d (.rp r)
  | .sl id n off len => if j < len then some (.ptr id n (off + j) 0) else none
  | .so _ id n => if j < n then some (.ptr id n j 0) else none
  | .sa id n row off s len => if j < len then some (.ptr id n row (off + j * s)) else none
  | _ => none
def idxAV (j size : Nat) : V → Option V
  | .ptr id k r o => some (.ptr id k r (o + j * size))
  | .d (.rp cells) => some (.d (.rp (cells.drop (j * size))))
  | _ => none
def arrPV (n : Nat) : V → Option V
  | .d (.rs _ _ rows _) => if 0 < n ∧ n ≤ rows.length then some (.d (.rp (rows.take n).flatten)) else none
  | .sl id k off len => if n ≤ len then some (.pa id k off n) else none
  | _ => none
def slarrV (n size l h : Nat) : V → Option V
  | .d (.rp cells) => if n * size ≤ cells.length then some (.d (.rs (cells.all D.scalar) size ((List.range (h - l)).map fun i => (cells.drop ((l + i) * size)).take size) (h == n))) else none
  | .ptr id k row off => some (.sa id k row (off + l * size) size (h - l))
  | _ => none
def strIdx (j : Nat) : V → Option V
  | .d (.str s) => (s.data.toList[j]?).map fun b => .d (.int .u8 b.toNat)
  | _ => none
def deSo : V → V
  | .so false id n => .sl id n 0 n
  | .so true _ _ => .d .nils
  | v => v
def V.rid : V → Option Nat
  | .ptr id _ _ _ => some id
  | .sl id _ _ _ => some id
  | .so _ id _ => some id
  | .sa id _ _ _ _ _ => some id
  | .pa id _ _ _ => some id
  | _ => none
def farV (a : Nat) (x : V) (b : Nat) (y : V) : Bool :=
  match x.rid with
  | none => true
  | some i => match y.rid with
    | none => true
    | some j => match Nat.beq i j with
      | false => true
      | true => match x, y with
        | .ptr _ _ _ o, .ptr _ _ _ o' => Nat.ble (o + a) o' || Nat.ble (o' + b) o
        | _, _ => false
def lookM : List (TypeId × FuncId) → TypeId → Option FuncId
  | [], _ => none
  | (i, f) :: r, t => match Nat.beq t i with | true => some f | false => lookM r t
def isI64 : List D → Bool
  | [.int .i64 _] => true
  | _ => false
def delV (m : Mem) (x i j : V) : Option (V × Mem) :=
  match x, i, j with
  | .so false id n, .d (.int .i64 a), .d (.int .i64 b) => match m[id]? with
    | some (.flat e z rows false) =>
      if n = rows.length ∧ z = 1 ∧ 0 ≤ a ∧ a ≤ b ∧ b ≤ n ∧ n ≤ 4611686018427387904 ∧ rows.all isI64 = true then
        some (.sl id n 0 (n - (b.toNat - a.toNat)), m.set id (.flat e z (rows.take a.toNat ++ rows.drop b.toNat ++ List.replicate (b.toNat - a.toNat) [.int .i64 0]) false))
      else none
    | _ => none
  | _, _, _ => none
def doI (E : Env) (call : CallT) (i : I) (t : Nat → V) (m : Mem) : Option (V × Mem) :=
  match i with
  | .mov x => some (ev E t x, m)
  | .pick c a b => match ev E t c with | .d (.bool true) => some (ev E t a, m) | .d (.bool false) => some (ev E t b, m) | _ => none
  | .nsl e flat size => (mkBlk e flat size []).map fun b => (.so true m.length 0, m ++ [b])
  | .allocn t e flat size => (mkBlk e flat size []).bind fun b1 => (mkBlk t false 1 [[.so true m.length 0]]).map fun b2 => (.ptr (m.length + 1) 1 0 0, (m ++ [b1]) ++ [b2])
  | .alloc e zero flat => (mkBlk e flat zero.length [zero.map V.d]).map (newBlk m)
  | .box e flat size x => if (ev E t x).cells.length = size ∧ (ev E t x).cellsOk then (mkBlk e flat size [(ev E t x).cells]).map (newBlk m) else none
  | .build zero parts => (fillV E t parts (zero.map V.d)).map fun cs => (.agg cs, m)
  | .bslice e flat size len zero parts =>
    (fillRows E t size parts (List.replicate len (zero.map V.d))).bind fun rows => (mkBlk e flat size rows).map fun b => (.so false m.length len, m ++ [b])
  | .load agg size x => (loadV m agg size (ev E t x)).map fun v => (v, m)
  | .store size x v => (storeV m size (ev E t x) (ev E t v)).map fun m' => (.tup [], m')
  | .nilck x => (nilckV (ev E t x)).map fun v => (v, m)
  | .bin op x y => (binV op (ev E t x) (ev E t y)).map fun v => (v, m)
  | .beq k neg x y => (eqV k (ev E t x) (ev E t y)).map fun b => (.d (.bool (neg != b)), m)
  | .unop op x => (unV op (ev E t x)).map fun v => (v, m)
  | .conv k x => match k with
    | .int k => match ev E t x with | .d (.int _ n) => some (.d (.int k (k.wrap n)), m) | _ => none
    | .same => match ev E t x with | .d (.str s) => some (.d (.str s), m) | _ => none
    | .ofStr e => match ev E t x with
      | .d (.str s) => if s.size ≤ 140737488355328 then some (.sl m.length s.size 0 s.size, m ++ [.flat e 1 (byteRow s) false]) else none
      | _ => none
    | .toStr => if sizeOk m 1 (ev E t x) then (flatRowsOf m (ev E t x)).bind fun rows => (strOf rows).map fun l => (.d (.str ⟨l.toArray⟩), m) else none
    | .mark => match deSo (ev E t x) with
      | .sl id n off len => match m[id]? with
        | some (.flat _ _ rows false) => if n = rows.length then some (.sl id n off len, m) else none
        | _ => none
      | _ => none
  | .mkfn f a b => some (.fn f (evs E t a) (evs E t b), m)
  | .mkif ty x => some (.ifc ty (ev E t x), m)
  | .mksl e flat zero bytes len cap =>
    match asNat (ev E t len), asNat (ev E t cap) with
    | some n, some c => if n = c ∧ c * bytes ≤ 140737488355328 then (mkBlk e flat zero.length (List.replicate n (zero.map V.d))).map fun b => (.so false m.length n, m ++ [b]) else none
    | _, _ => none
  | .slice size x lo hi mx =>
    if sizeOk m size (deSo (ev E t x)) then
      (lenV (deSo (ev E t x))).bind fun n => (optNat E t lo 0).bind fun l => (optNat E t hi n).bind fun h =>
      match mx with
      | none => sliceV m (deSo (ev E t x)) l h none
      | some k => (asNat (ev E t k)).bind fun k => sliceV m (deSo (ev E t x)) l h (some k)
    else none
  | .slstr x lo hi => match ev E t x with
    | .d (.str s) => (optNat E t lo 0).bind fun l => (optNat E t hi s.size).bind fun h => if l ≤ h ∧ h ≤ s.size then some (.d (.str (s.extract l h)), m) else none
    | _ => none
  | .slarr n size x lo hi mx =>
    match mx with
    | some _ => none
    | none => (optNat E t lo 0).bind fun l => (optNat E t hi n).bind fun h =>
      if l < h ∧ h ≤ n then (slarrV n size l h (ev E t x)).map fun v => (v, m) else none
  | .fieldA off x => (fieldAV off (ev E t x)).map fun v => (v, m)
  | .field agg off size x => (fieldV agg off size (ev E t x)).map fun v => (v, m)
  | .idxA size x i => if sizeOk m size (ev E t x) then (asNat (ev E t i)).bind fun j => (idxSV j (ev E t x)).map fun v => (v, m) else none
  | .idxAA n size x i => (asNat (ev E t i)).bind fun j => if j < n then (idxAV j size (ev E t x)).map fun v => (v, m) else none
  | .idx agg n size x i => (asNat (ev E t i)).bind fun j => if j < n then (fieldV agg (j * size) size (ev E t x)).map fun v => (v, m) else none
  | .idxs x i => (asNat (ev E t i)).bind fun j => (strIdx j (ev E t x)).map fun v => (v, m)
  | .arrP n size x => if sizeOk m size (deSo (ev E t x)) then (arrPV n (deSo (ev E t x))).map fun v => (v, m) else none
  | .extract i x => match ev E t x with | .tup vs => (vs[i]?).map fun v => (v, m) | _ => none
  | .call f args => callOf E.ref call (ev E t f) (evs E t args) m
  | .inv tbl x args => match ev E t x with
    | .ifc ty v => match lookM tbl ty with
      | some g => callOf (fun _ => false) call (.fn (.func g) [v] []) (evs E t args) m
      | none => none
    | _ => none
  | .len x => (lenV (ev E t x)).map fun (n : Nat) => (V.i (n : Int), m)
  | .lens x => match ev E t x with | .d (.str s) => some (V.i (s.size : Int), m) | _ => none
  | .lenc n => some (V.i (n : Int), m)
  | .append e flat size bytes s x => appendV e flat size bytes m (ev E t s) (ev E t x)
  | .copy size s x => copyV size m (deSo (ev E t s)) (ev E t x)
  | .mx xs => (foldInt (fun a b => if b > a then b else a) (evs E t xs)).map fun v => (v, m)
  | .mn xs => (foldInt (fun a b => if b < a then b else a) (evs E t xs)).map fun v => (v, m)
  | .chk a x b y => match farV a (ev E t x) b (ev E t y) with | true => some (.tup [], m) | false => none
  | .appz e size bytes zero s n => match ev E t n with | .d (.int _ k) => if 0 ≤ k then appendZ e size bytes zero m (ev E t s) k.toNat else none | _ => none
  | .del f x i j => match E.del f with | true => delV m (ev E t x) (ev E t i) (ev E t j) | false => none
def upd (t : Nat → V) (i : Nat) (v : V) : Nat → V := fun j => if j = i then v else t j
def putT (t : Nat → V) (d : Option Nat) (v : V) : Nat → V := match d with | some i => upd t i v | none => t
def wantedC (g : Option (Nat × Bool)) (t : Nat → V) : Option Bool :=
  match g with
  | none => some true
  | some (j, want) => match t j with | .d (.bool b) => some (b == want) | .tup [] => some false | _ => none
def restore (m m' : Mem) : Mem := m ++ m'.drop m.length
def doQ (E : Env) (call : CallT) (i : I) (t : Nat → V) (m : Mem) : Option (V × Mem) :=
  (doI E call i t (m.map (Blk.setProt true))).map fun r => (r.1, restore m r.2)
def opsC (step : I → (Nat → V) → Mem → Option (V × Mem)) : List OpC → S → Option S
  | [], s => some s
  | o :: r, s => match wantedC o.guard s.t with
    | some true => match step o.ins s.t s.m with
      | some (v, m') => opsC step r ⟨putT s.t o.dst v, m'⟩
      | none => none
    | some false => opsC step r ⟨putT s.t o.dst (.tup []), s.m⟩
    | none => none
def O.tmp? : O → Option Nat
  | .t i => some i
  | _ => none
def I.ops : I → List O
  | .mov x => [x]
  | .pick c a b => [c, a, b]
  | .alloc .. => []
  | .nsl .. => []
  | .allocn .. => []
  | .box _ _ _ x => [x]
  | .build _ parts => parts.map (·.2.2)
  | .bslice _ _ _ _ _ parts => parts.map (·.2)
  | .load _ _ x => [x]
  | .store _ x v => [x, v]
  | .nilck x => [x]
  | .bin _ x y => [x, y]
  | .beq _ _ x y => [x, y]
  | .unop _ x => [x]
  | .conv _ x => [x]
  | .mkfn _ a b => a ++ b
  | .mkif _ x => [x]
  | .mksl _ _ _ _ l c => [l, c]
  | .slice _ x lo hi mz => x :: (lo.toList ++ hi.toList ++ mz.toList)
  | .slstr x lo hi => x :: (lo.toList ++ hi.toList)
  | .slarr _ _ x lo hi mz => x :: (lo.toList ++ hi.toList ++ mz.toList)
  | .fieldA _ x => [x]
  | .field _ _ _ x => [x]
  | .idxA _ x i => [x, i]
  | .idxAA _ _ x i => [x, i]
  | .idx _ _ _ x i => [x, i]
  | .idxs x i => [x, i]
  | .arrP _ _ x => [x]
  | .extract _ x => [x]
  | .call f args => f :: args
  | .inv _ x args => x :: args
  | .len x => [x]
  | .lens x => [x]
  | .lenc _ => []
  | .append _ _ _ _ s x => [s, x]
  | .copy _ s x => [s, x]
  | .mx xs => xs
  | .mn xs => xs
  | .chk _ x _ y => [x, y]
  | .del _ x i j => [x, i, j]
  | .appz _ _ _ _ s n => [s, n]
def pureI : I → Bool
  | .mov _ | .pick .. | .build .. | .bin .. | .beq .. | .unop .. | .conv (.int _) _ | .conv .same _ | .mkfn .. | .mkif .. => true
  | .slstr .. | .slarr .. | .fieldA .. | .field .. | .idxAA .. | .idx .. | .idxs .. | .extract .. | .len _ | .lens _ | .lenc _ | .mx _ | .mn _ | .nilck _ | .chk .. => true
  | _ => false
def rdI : I → Option (Nat × O)
  | .load g s x => some (bif g then s else 1, x)
  | .slice s x _ _ _ => some (s, x)
  | .idxA s x _ => some (s, x)
  | _ => none
def wrI : I → Option (Nat × O)
  | .store s x _ => some (s, x)
  | .append _ _ _ s x _ => some (s, x)
  | .copy s x _ => some (s, x)
  | _ => none
def opAt' (l : List OpC) (k : Nat) : OpC := l.getD k default
mutual
def D.beq : D → D → Bool
  | .bool a, .bool b => decide (a = b)
  | .int k n, .int k' n' => decide (k = k') && decide (n = n')
  | .str a, .str b => decide (a = b)
  | .nilp, .nilp => true
  | .nils, .nils => true
  | .nilf, .nilf => true
  | .nili, .nili => true
  | .rs a b c d, .rs a' b' c' d' => decide (a = a') && decide (b = b') && decide (d = d') && D.beqss c c'
  | .rp a, .rp b => D.beqs a b
  | _, _ => false
def D.beqs : List D → List D → Bool
  | [], [] => true
  | a :: r, b :: s => D.beq a b && D.beqs r s
  | _, _ => false
def D.beqss : List (List D) → List (List D) → Bool
  | [], [] => true
  | a :: r, b :: s => D.beqs a b && D.beqss r s
  | _, _ => false
end
mutual
def V.beq : V → V → Bool
  | .d a, .d b => D.beq a b
  | .un, .un => true
  | .ptr a b c z, .ptr a' b' c' z' => decide (a = a') && decide (b = b') && decide (c = c') && decide (z = z')
  | .sl a b c z, .sl a' b' c' z' => decide (a = a') && decide (b = b') && decide (c = c') && decide (z = z')
  | .so a b c, .so a' b' c' => decide (a = a') && decide (b = b') && decide (c = c')
  | .sa a b c z e g, .sa a' b' c' z' e' g' => decide (a = a') && decide (b = b') && decide (c = c') && decide (z = z') && decide (e = e') && decide (g = g')
  | .pa a b c z, .pa a' b' c' z' => decide (a = a') && decide (b = b') && decide (c = c') && decide (z = z')
  | .fn f a b, .fn f' a' b' => decide (f = f') && V.beqs a a' && V.beqs b b'
  | .yl a, .yl b => decide (a = b)
  | .ifc t v, .ifc t' v' => decide (t = t') && V.beq v v'
  | .agg a, .agg b => V.beqs a b
  | .tup a, .tup b => V.beqs a b
  | _, _ => false
def V.beqs : List V → List V → Bool
  | [], [] => true
  | a :: r, b :: s => V.beq a b && V.beqs r s
  | _, _ => false
end
def clsI (i : I) : Nat := match pureI i with | true => 0 | false => match (rdI i).isSome with | true => 1 | false => 2
def subL (a b : List Nat) : Bool := a.all fun i => b.contains i
def disjL (a b : List Nat) : Bool := a.all fun i => !(b.contains i)
def closedL (m : Mem) (l : List Nat) : Bool := l.all fun i => subL (((m[i]?).map Blk.ids).getD []) l
def newIds (k k' : Nat) : List Nat := (List.range (k' - k)).map (· + k)
def footR (E : Env) (i : I) (t : Nat → V) (m : Mem) : List Nat := reach m 1000 (V.idss (evs E t i.ops)) []
def callArgs (E : Env) (i : I) (t : Nat → V) : List V :=
  match i with
  | .call f args => match ev E t f with
    | .fn _ first cap => first ++ evs E t args ++ cap
    | .yl id => .yl id :: evs E t args
    | _ => []
  | .inv _ x args => match ev E t x with
    | .ifc _ v => [v] ++ evs E t args ++ []
    | _ => []
  | _ => []
mutual
def V.bids : V → List Nat
  | .sl _ _ _ _ => []
  | .so _ _ _ => []
  | .sa _ _ _ _ _ _ => []
  | .agg cs => V.bidss cs
  | v => v.ids
def V.bidss : List V → List Nat
  | [] => []
  | v :: r => v.bids ++ V.bidss r
end
def refI (E : Env) (i : I) (t : Nat → V) : Bool :=
  match i with
  | .call f _ => match ev E t f with
    | .fn (.func g) _ _ => E.ref g
    | _ => false
  | _ => false
def footC (E : Env) (i : I) (t : Nat → V) (m : Mem) : List Nat := reach m 1000 (match refI E i t with | true => V.idss (callArgs E i t) | false => V.bidss (callArgs E i t)) []
def mq (q : Bool) (m : Mem) : Mem := match q with | true => m.map (Blk.setProt true) | false => m
def rq (q : Bool) (m m' : Mem) : Mem := match q with | true => restore m m' | false => m'
def qOf (q : Bool) (i : I) : Bool := match clsI i with | 2 => q | _ => false
def stepM (E : Env) (call : CallT) (q : Bool) (i : I) (t : Nat → V) (m : Mem) : Option (V × Mem) :=
  match doI E call i t (mq (qOf q i) m) with
  | some (v, m') => some (v, rq (qOf q i) m m')
  | none => none
def footW (E : Env) (q : Bool) (i : I) (t : Nat → V) (m : Mem) : List Nat :=
  match q with
  | true => []
  | false => match i with
    | .store _ x _ => (ev E t x).ids
    | .append _ _ _ _ x _ => (ev E t x).ids
    | .copy _ x _ => (ev E t x).ids
    | .del _ x _ _ => (ev E t x).ids
    | .appz _ _ _ _ x _ => (ev E t x).ids
    | .call .. => footR E i t m
    | .inv .. => footR E i t m
    | _ => []
def resOf (o : OpC) (s' : S) : V := match o.dst with | some d => s'.t d | none => .un
def strictB (E : Env) (q : Bool) (o : OpC) (s s' : S) : Bool :=
  match clsI o.ins with
  | 2 => match wantedC o.guard s.t with
    | some true =>
      (footR E o.ins s.t s.m).all (fun i => Nat.blt i s.m.length) && closedL s.m (footR E o.ins s.t s.m) && subL (V.idss (evs E s.t o.ins.ops)) (footR E o.ins s.t s.m) && subL (footC E o.ins s.t (mq q s.m)) (footR E o.ins s.t s.m) &&
      subL (footW E q o.ins s.t s.m) (footR E o.ins s.t s.m) && Nat.ble s.m.length s'.m.length && closedL s'.m (footR E o.ins s.t s.m ++ newIds s.m.length s'.m.length) &&
      subL (resOf o s').ids (footR E o.ins s.t s.m ++ newIds s.m.length s'.m.length) && (s'.m.drop s.m.length).all (fun b => !b.prot)
    | _ => true
  | _ => true
def wroteO (E : Env) (q : Bool) (o : OpC) (s s' : S) : List Nat :=
  match clsI o.ins with
  | 2 => match wantedC o.guard s.t with
    | some true => footW E q o.ins s.t s.m ++ newIds s.m.length s'.m.length
    | _ => []
  | _ => []
def touchedO (E : Env) (o : OpC) (s : S) : List Nat :=
  match clsI o.ins with
  | 2 => match wantedC o.guard s.t with
    | some true => footR E o.ins s.t s.m
    | _ => []
  | _ => []
def rdV (E : Env) (i : I) (t : Nat → V) (m : Mem) : Option V := (doI E (fun _ _ _ => none) i t m).map (·.1)
def readN (E : Env) (o : OpC) (s : S) (ws : List Nat) (m2 : Mem) : Option (Option (V × V)) :=
  match wantedC o.guard s.t with
  | some true => match rdI o.ins with
    | some (_, x) => match (match (ev E s.t x).rid with | none => true | some id => !(ws.contains id)) with
      | true => some none
      | false => match rdV E o.ins s.t s.m, rdV E o.ins s.t m2 with
        | some a, some b => some (some (a, b))
        | _, _ => none
    | none => none
  | _ => some none
def pairN (E : Env) (qx qy : Bool) (x y : OpC) (sx sx' sy sy' : S) : Option (Option (V × V)) :=
  match clsI x.ins, clsI y.ins with
  | 0, _ => some none
  | _, 0 => some none
  | 1, 1 => some none
  | 1, _ => readN E x sx (wroteO E qy y sy sy') sy'.m
  | _, 1 => readN E y sy (wroteO E qx x sx sx') sx.m
  | _, _ => match disjL (wroteO E qx x sx sx') (touchedO E y sy) && disjL (touchedO E x sx) (wroteO E qy y sy sy') with
    | true => some none
    | false => none
def pairB (r : Option (Option (V × V))) : Bool :=
  match r with
  | some none => true
  | some (some (a, b)) => V.beq a b
  | none => false
def op1 (step : I → (Nat → V) → Mem → Option (V × Mem)) (o : OpC) (s : S) : Option S :=
  match wantedC o.guard s.t with
  | some true => match step o.ins s.t s.m with
    | some (v, m') => some ⟨putT s.t o.dst v, m'⟩
    | none => none
  | some false => some ⟨putT s.t o.dst (.tup []), s.m⟩
  | none => none
def traceC (E : Env) (call : CallT) (qf : List Bool) : Nat → List OpC → S → Option (List S)
  | _, [], s => some [s]
  | k, o :: r, s => match op1 (stepM E call (qf.getD k false)) o s with
    | some s1 => match traceC E call qf (k + 1) r s1 with
      | some l => some (s :: l)
      | none => none
    | none => none
def S.nil : S := ⟨fun _ => .un, []⟩
def atS (tr : List S) (k : Nat) : S := tr.getD k S.nil
def mixB (E : Env) (l : List OpC) (un : List (List Nat)) (qf : List Bool) (tr : List S) : Bool :=
  (List.range l.length).all fun k => strictB E (qf.getD k false) (opAt' l k) (atS tr k) (atS tr (k + 1)) &&
    (un.getD k []).all fun i => pairB (pairN E (qf.getD i false) (qf.getD k false) (opAt' l i) (opAt' l k) (atS tr i) (atS tr (i + 1)) (atS tr k) (atS tr (k + 1)))
def bound : Nat := 1152921504606846976
def look : List Nat → List V → Nat → V
  | i :: l, v :: r, j => if j = i then v else look l r j
  | _, _, _ => .un
def roundG (f : S → Option (X × S)) (lv lx : List Nat) (k : Nat) (h : List V × Mem) : Option (X × (List V × Mem)) :=
  match f ⟨look lv h.1, h.2⟩ with
  | some (.normal, s) => (tidy k (lv.map s.t, s.m)).map fun h' => (.normal, h')
  | some (x, s) => (tidy k (lx.map s.t, s.m)).map fun h' => (x, h')
  | none => none
def loopG (f : List V × Mem → Option (X × (List V × Mem))) : Nat → List V × Mem → Option (X × (List V × Mem))
  | 0, _ => none
  | k + 1, h => match f h with
    | some (.normal, h') => loopG f k h'
    | r => r
def segG (f : S → Option (X × S)) (lv lx ln : List Nat) (k : Nat) (h : List V × Mem) : Option (X × (List V × Mem)) :=
  match f ⟨look lv h.1, h.2⟩ with
  | some (.normal, s) => (tidy k (ln.map s.t, s.m)).map fun h' => (.normal, h')
  | some (x, s) => (tidy k (lx.map s.t, s.m)).map fun h' => (x, h')
  | none => none
def runC (E : Env) (call : CallT) : C → S → Option (X × S)
  | .skip, s => some (.normal, s)
  | .reg qs ts, s => match opsC (doQ E call) qs s with
    | some s1 => match opsC (doI E call) ts s1 with
      | some s2 => some (.normal, s2)
      | none => none
    | none => none
  | .mix l un qf, s => match traceC E call qf 0 l s with
    | some tr => match mixB E l un qf tr with
      | true => some (.normal, atS tr l.length)
      | false => none
    | none => none
  | .seq a b, s => match runC E call a s with
    | some (.normal, s') => runC E call b s'
    | r => r
  | .cond c a b, s => match ev E s.t c with
    | .d (.bool true) => runC E call a s
    | .d (.bool false) => runC E call b s
    | _ => none
  | .block id b, s => match runC E call b s with
    | some (.exit i, s') => if i = id then some (.normal, s') else some (.exit i, s')
    | r => r
  | .loop lv lx b, s => match loopG (roundG (runC E call b) lv lx s.m.length) bound (lv.map s.t, s.m) with
    | some (x, h) => some (x, ⟨look lx h.1, h.2⟩)
    | none => none
  | .rfun nt lv f ps a b, s => match ev E s.t f with
    | .fn (.func g) first captured => if g = yfn then none else
      match callV false call g (first ++ [.yl s.m.length] ++ captured) (s.m ++ [.loop .ready none ((List.range nt).map (look lv (lv.map s.t))) ps a b false]) with
      | some (_, m2) => match m2[s.m.length]? with
        | some (.loop .ready none ts qs a' b' false) => some (.normal, ⟨s.t, m2.set s.m.length (.loop .exhausted none ts qs a' b' false)⟩)
        | some (.loop .done (some .ret) ts qs a' b' false) => some (.ret, ⟨s.t, m2.set s.m.length (.loop .exhausted (some .ret) ts qs a' b' false)⟩)
        | some (.loop .done (some (.exit i)) ts qs a' b' false) => some (.exit i, ⟨s.t, m2.set s.m.length (.loop .exhausted (some (.exit i)) ts qs a' b' false)⟩)
        | _ => none
      | none => none
    | _ => none
  | .seq1 a b, s => match runC E call a s with
    | some (.normal, s') => runC E call b s'
    | r => r
  | .cut lv lx ln a b, s => match segG (runC E call a) lv lx ln s.m.length (lv.map s.t, s.m) with
    | some (.normal, h) => runC E call b ⟨look ln h.1, h.2⟩
    | some (x, h) => some (x, ⟨look lx h.1, h.2⟩)
    | none => none
  | .exit id, s => some (.exit id, s)
  | .scope b, s => runC E call b s
  | .ret, s => some (.ret, s)
mutual
def C.er : C → C
  | .seq a b => .seq a.er b.er
  | .seq1 a b => .seq a.er b.er
  | .cond c a b => .cond c a.er b.er
  | .block id b => .block id b.er
  | .loop _ _ b => .loop [] [] b.er
  | .rfun nt _ f ps a b => .rfun nt [] f ps a.er b.er
  | .scope b => .scope b.er
  | .cut _ _ _ a b => C.erA a b.er
  | .skip => .skip
  | .reg qs ts => .reg qs ts
  | .mix l un _ => .mix l un []
  | .exit id => .exit id
  | .ret => .ret
def C.erA : C → C → C
  | .seq x y, z => .seq x.er (C.erA y z)
  | .seq1 a b, z => .seq (.seq a.er b.er) z
  | .cond c a b, z => .seq (.cond c a.er b.er) z
  | .block id b, z => .seq (.block id b.er) z
  | .loop _ _ b, z => .seq (.loop [] [] b.er) z
  | .rfun nt _ f ps a b, z => .seq (.rfun nt [] f ps a.er b.er) z
  | .scope b, z => .seq (.scope b.er) z
  | .cut _ _ _ a b, z => .seq (C.erA a b.er) z
  | .skip, z => .seq .skip z
  | .reg qs ts, z => .seq (.reg qs ts) z
  | .mix l un _, z => .seq (.mix l un []) z
  | .exit id, z => .seq (.exit id) z
  | .ret, z => .seq .ret z
end
def CFunc.er (F : CFunc) : CFunc := ⟨F.ntmps, F.results, F.body.er⟩
def resV (s : S) : RV → Option V
  | .tmp i => some (s.t i)
  | .cell agg size i => loadV s.m agg size (s.t i)
def resVs (s : S) : List RV → Option (List V)
  | [] => some []
  | r :: l => match resV s r, resVs s l with
    | some v, some vs => some (v :: vs)
    | _, _ => none
def initT (args : List V) : Nat → V := fun i => args.getD i (.tup [])
def runF (E : Env) (call : CallT) (F : CFunc) (args : List V) (m : Mem) : Option (List V × Mem) :=
  if args.length ≤ F.ntmps then
    match runC E call F.body ⟨initT args, m⟩ with
    | some (.normal, s) => (resVs s F.results).bind fun vs => tidy m.length (vs, s.m)
    | some (.ret, s) => (resVs s F.results).bind fun vs => tidy m.length (vs, s.m)
    | _ => none
  else none
def putPs : List Nat → List V → (Nat → V) → Nat → V
  | i :: r, v :: vs, t => putPs r vs (upd t i v)
  | _, _, t => t
def pendOf : X → Option C
  | .normal => none
  | .exit i => some (.exit i)
  | .ret => some .ret
def runY (E : Env) (call : CallT) (args : List V) (m : Mem) : Option (List V × Mem) :=
  match args with
  | .yl id :: args => match m[id]? with
    | some (.loop .ready none ts ps a b false) =>
      if args.length = ps.length ∧ ps.all (· < ts.length) then
        match runC E call a ⟨putPs ps args (look (List.range ts.length) ts), m⟩ with
        | some (.normal, s1) => match s1.m[id]? with
          | some (.loop .ready none ts1 ps1 a1 b1 false) =>
            match runC E call b ⟨s1.t, s1.m.set id (.loop .busy none ts1 ps1 a1 b1 false)⟩ with
            | some (x, s2) => match s2.m[id]? with
              | some (.loop .busy none ts2 ps2 a2 b2 false) =>
                tidy m.length ([.d (.bool (pendOf x).isNone)], s2.m.set id (.loop (if (pendOf x).isNone then .ready else .done) (pendOf x) ts2 ps2 a2 b2 false))
              | _ => none
            | none => none
          | _ => none
        | _ => none
      else none
    | _ => none
  | _ => none
def callD (E : Env) : Nat → CallT
  | 0 => fun _ _ _ => none
  | n + 1 => fun f args m => if f = yfn then runY E (callD E n) args m else match E.ext f args m with
    | some r => some r
    | none => match E.cf f with
      | some F => runF E (callD E n) F args m
      | none => none
end Go.Proofs.YtlenjioebdmooaaDoor.Den

namespace Go.Proofs.YtlenjioebdmooaaDoor.Den
open Go
def D.ofConst : Value → Option D
  | .bool b => some (.bool b)
  | .int k n => some (.int k n)
  | .string s => some (.str s)
  | .pointer none => some .nilp
  | .slice none 0 0 => some .nils
  | .nilFunc => some .nilf
  | .nilIface => some .nili
  | _ => none
def constCells : List Value → Option (List D)
  | [] => some []
  | v :: r => match D.ofConst v, constCells r with | some d, some l => some (d :: l) | _, _ => none
def V.ofConst (v : Value) : Option V :=
  match v with
  | .agg cs => (constCells cs.toList).map fun l => .agg (l.map V.d)
  | .tuple vs => if vs.size = 0 then some (.tup []) else none
  | v => (D.ofConst v).map V.d
def cO : Operand → Option O
  | .tmp i => some (.t i)
  | .const v => (V.ofConst v).map O.v
  | .global g => some (.g g)
  | .func f => some (.v (.fn (.func f) [] []))
def cOs : List Operand → Option (List O)
  | [] => some []
  | x :: r => match cO x, cOs r with | some a, some l => some (a :: l) | _, _ => none
def cOpt : Option Operand → Option (Option O)
  | none => some none
  | some x => (cO x).map some
section
variable (P : Program)
def aggOf (t : TypeId) : Option Bool :=
  match P.underlying t with
  | some (.struct _) | some (.array _ _) => some true
  | some _ => some false
  | none => none
def sizeOfT (t : TypeId) : Option Nat := (P.info? t).map (·.size)
def zeroOf (t : TypeId) : Option (List D) := (P.info? t).bind fun i => i.zero.bind fun z => constCells z.cells.toList
def flatT : Nat → TypeId → Bool
  | 0, _ => false
  | n + 1, t => match P.underlying t with
    | some .bool | some (.int _) | some .string => true
    | some (.struct fs) => fs.toList.all fun f => flatT n f.type
    | some (.array _ e) => flatT n e
    | _ => false
def isFlat (t : TypeId) : Bool := flatT P 20 t
def contigE (fs : List Field) (o total : Nat) : Bool :=
  match fs with
  | [] => o == total
  | f :: r => f.offset == o && contigE r (o + P.cellsOf f.type) total
def eqKs : Nat → TypeId → Option (List Kd)
  | 0, _ => none
  | n + 1, t => match P.underlying t with
    | some .bool => if P.cellsOf t = 1 then some [.b] else none
    | some (.int k) => if P.cellsOf t = 1 then some [.i k] else none
    | some .string => if P.cellsOf t = 1 then some [.s] else none
    | some (.struct fs) => if P.stoodInHeld t = false ∧ fs.toList.all (fun f => f.name != "_") = true ∧ contigE P fs.toList 0 (P.cellsOf t) = true then
        match fs.toList.mapM (fun f => eqKs n f.type) with
        | some l => if l.flatten.length = P.cellsOf t then some l.flatten else none
        | none => none
      else none
    | some (.array m e) => match eqKs n e with
      | some l => if m * P.cellsOf e = P.cellsOf t ∧ l.length = P.cellsOf e then some (List.replicate m l).flatten else none
      | none => none
    | _ => none
def cParts (fields : Array Field) : List (Nat × Operand) → Option (List (Nat × Nat × O))
  | [] => some []
  | (i, x) :: r => match fields[i]?, cO x, cParts fields r with
    | some f, some o, some l => match sizeOfT P f.type with
      | some s => some ((f.offset, s, o) :: l)
      | none => none
    | _, _, _ => none
def cPartsA (size : Nat) : List (Nat × Operand) → Option (List (Nat × Nat × O))
  | [] => some []
  | (i, x) :: r => match cO x, cPartsA size r with
    | some o, some l => some ((i * size, size, o) :: l)
    | _, _ => none
def cPartsS : List (Nat × Operand) → Option (List (Nat × O))
  | [] => some []
  | (i, x) :: r => match cO x, cPartsS r with
    | some o, some l => some ((i, o) :: l)
    | _, _ => none
def isNili : O → Bool
  | .v (.d .nili) => true
  | _ => false
def cBin (op : BinOp) (t : TypeId) (x y : O) : Option I :=
  match P.underlying t with
  | some (.int _) => some (.bin op x y)
  | some .string => some (.bin op x y)
  | some .bool => match op with | .eql => some (.beq .bool false x y) | .neq => some (.beq .bool true x y) | _ => none
  | some (.pointer _) => match op with | .eql => some (.beq .ptr false x y) | .neq => some (.beq .ptr true x y) | _ => none
  | some (.slice _) => match op with | .eql => some (.beq .slc false x y) | .neq => some (.beq .slc true x y) | _ => none
  | some (.interface _) => if isNili x || isNili y then match op with | .eql => some (.beq .ifc false x y) | .neq => some (.beq .ifc true x y) | _ => none else none
  | some (.struct _) | some (.array _ _) =>
    if P.eqGuardType P.depth t = false then match eqKs P 20 t, op with | some ks, .eql => some (.beq (.cells ks) false x y) | some ks, .neq => some (.beq (.cells ks) true x y) | _, _ => none else none
  | _ => none
def methOf (name : String) (t : TypeId) : Option FuncId :=
  match P.info? t with
  | none => none
  | some i => match i.methods.find? (·.name == name) with
    | none => none
    | some m => if m.path.size = 0 then match m.func, P.underlying t with
        | some (f, false), some (.struct _) | some (f, false), some (.int _) | some (f, false), some .string | some (f, false), some .bool => some f
        | some (f, true), some (.pointer _) => some f
        | _, _ => none
      else none
def methT (name : String) : List (TypeId × FuncId) := (List.range P.types.size).filterMap fun t => (methOf P name t).map fun f => (t, f)
def isDel (f : Operand) : Option FuncId :=
  match f with
  | .func g => match P.funcs[g]? with
    | some fn => if fn.name == "slices.Delete[[]int,int]" then some g else none
    | none => none
  | _ => none
def cCall (c : Call) (_type : TypeId) : Option I :=
  match c.callee with
  | .value f => match isDel P f with
    | some g => (match cOs c.args.toList with | some [x, i, j] => some (.del g x i j) | _ => none)
    | none => (match cO f, cOs c.args.toList with | some g, some l => some (.call g l) | _, _ => none)
  | .invoke x name => match cO x, cOs c.args.toList with | some o, some l => some (.inv (methT P name) o l) | _, _ => none
  | .builtin b => match cOs c.args.toList with
    | none => none
    | some l => match b, l, c.argTypes.toList with
      | .len, [x], [t] => match P.underlying t with
        | some .string => some (.lens x)
        | some (.slice _) => some (.len x)
        | some (.array n _) => some (.lenc n)
        | _ => none
      | .append, [s, x], [t, u] => match P.underlying t, P.underlying u with
        | some (.slice e), some (.slice e') => if e = e' then match P.info? e with
          | some i => match i.zero with
            | some z => if 0 < i.size && 0 < i.bytes && z.cells.size == i.size then some (.append e (isFlat P e) i.size i.bytes s x) else none
            | none => none
          | none => none else none
        | some (.slice e), some (.int _) => (match P.info? e, zeroOf P e with
          | some i, some z => if 0 < i.size && 0 < i.bytes && z.length == i.size then some (.appz e i.size i.bytes z s x) else none
          | _, _ => none)
        | _, _ => none
      | .copy, [s, x], [t, u] => match P.underlying t, P.underlying u with
        | some (.slice e), some (.slice e') => if e = e' then match P.info? e with
          | some i => if 0 < i.size then some (.copy i.size s x) else none
          | none => none else none
        | _, _ => none
      | .max, l, _ => some (.mx l)
      | .min, l, _ => some (.mn l)
      | _, _, _ => none
def nilS : Operand → Bool
  | .const (.slice none 0 0) => true
  | _ => false
def cMov (x : Operand) (ty : TypeId) : Option I :=
  match nilS x, P.underlying ty with
  | true, some (.slice e) => (match sizeOfT P e with | some s => if 0 < s then some (.nsl e (isFlat P e) s) else none | none => none)
  | _, _ => (cO x).map I.mov
def stopI : I := .chk 1 (.v (.ptr 0 1 0 0)) 1 (.v (.ptr 0 1 0 0))
def cOp (o : Oper) : Option I :=
  match o.op with
  | .move x | .assign x => cMov P x o.type
  | .pick c a b => match cO c, cO a, cO b with | some c, some a, some b => some (.pick c a b) | _, _, _ => none
  | .alloc e => (zeroOf P e).bind fun z => match P.underlying e with
    | some (.slice e2) => (match z, sizeOfT P e2 with
      | [.nils], some s => if 0 < s then some (.allocn e e2 (isFlat P e2) s) else none
      | _, _ => none)
    | _ => if 0 < z.length then some (.alloc e z (isFlat P e)) else none
  | .box e x => match cO x, sizeOfT P e with | some x, some s => if 0 < s then some (.box e (isFlat P e) s x) else none | _, _ => none
  | .build t parts => match zeroOf P t, P.underlying t with
    | some z, some (.struct fs) => if fs.toList.all (fun f => (sizeOfT P f.type).isSome) then (cParts P fs parts.toList).map fun l => .build z l else none
    | some z, some (.array _ e) => (sizeOfT P e).bind fun s => (cPartsA s parts.toList).map fun l => .build z l
    | _, _ => none
  | .buildSlice t len parts => match P.underlying t with
    | some (.slice e) => match sizeOfT P e, zeroOf P e, cPartsS parts.toList with
      | some s, some z, some l => if len * s ≤ 16777216 && 0 < s && z.length == s then some (.bslice e (isFlat P e) s len z l) else none
      | _, _, _ => none
    | _ => none
  | .load t a => match aggOf P t, sizeOfT P t, cO a with | some g, some s, some x => some (.load g s x) | _, _, _ => none
  | .store t a v => match sizeOfT P t, cO a, cO v with | some s, some x, some y => some (.store s x y) | _, _, _ => none
  | .nilCheck x => (cO x).map I.nilck
  | .binOp op t x y _ => match cO x, cO y with | some a, some b => cBin P op t a b | _, _ => none
  | .unOp op _ x => (cO x).map (I.unop op)
  | .convert s d x => match P.underlying s, P.underlying d, cO x with
    | some (.int _), some (.int k), some x => some (.conv (.int k) x)
    | some .string, some .string, some x => some (.conv .same x)
    | some .string, some (.slice e), some x => (match P.underlying e, sizeOfT P e with | some (.int .u8), some 1 => some (.conv (.ofStr e) x) | _, _ => none)
    | some (.slice e), some .string, some x => (match P.underlying e, sizeOfT P e with | some (.int .u8), some 1 => some (.conv .toStr x) | _, _ => none)
    | some (.slice _), some (.slice e), some x => if s = d then (match P.underlying e with | some (.int .u8) => some (.conv .mark x) | _ => none) else none
    | _, _, _ => none
  | .sliceToArrayPointer t x => match P.underlying t, cO x with | some (.array n e), some x => (sizeOfT P e).map fun s => .arrP n s x | _, _ => none
  | .makeInterface t x => match P.underlying t with | some (.interface _) => none | some _ => (cO x).map (I.mkif t) | none => none
  | .makeFunc f a b => match cOs a.toList, cOs b.toList with | some a, some b => some (.mkfn f a b) | _, _ => none
  | .makeSlice t l c => match P.underlying t, cO l, cO c with
    | some (.slice e), some l, some c => match P.info? e, zeroOf P e with
      | some i, some z => if 0 < i.size && 0 < i.bytes && z.length == i.size then some (.mksl e (isFlat P e) z i.bytes l c) else none
      | _, _ => none
    | _, _, _ => none
  | .slice t x lo hi mx => match P.underlying t, cO x, cOpt lo, cOpt hi, cOpt mx with
    | some (.slice e), some x, some lo, some hi, some mx => (sizeOfT P e).bind fun s => if 0 < s ∧ (mx.isSome = true → hi.isSome = true) then some (.slice s x lo hi mx) else none
    | some .string, some x, some lo, some hi, some none => some (.slstr x lo hi)
    | some (.array n e), some x, some lo, some hi, some mx => (match sizeOfT P e with | some s => if 0 < s then some (.slarr n s x lo hi mx) else none | none => none)
    | _, _, _, _, _ => none
  | .fieldAddr s x f => match P.underlying s, cO x with
    | some (.struct fs), some x => (match fs[f]? with | some f => (match sizeOfT P f.type with | some s => if 0 < s then some (.fieldA f.offset x) else none | none => none) | none => none)
    | _, _ => none
  | .field t x f => match P.underlying t, cO x with
    | some (.struct fs), some x => (match fs[f]? with
      | some f => (match aggOf P f.type, sizeOfT P f.type with | some g, some s => some (.field g f.offset s x) | _, _ => none)
      | none => none)
    | _, _ => none
  | .indexAddr t x i => match P.underlying t, cO x, cO i with
    | some (.slice e), some x, some i => (sizeOfT P e).map fun s => .idxA s x i
    | some (.array n e), some x, some i => (sizeOfT P e).map fun s => .idxAA n s x i
    | _, _, _ => none
  | .index t x i => match P.underlying t, cO x, cO i with
    | some (.array n e), some x, some i => (match aggOf P e, sizeOfT P e with | some g, some s => some (.idx g n s x i) | _, _ => none)
    | some .string, some x, some i => some (.idxs x i)
    | _, _, _ => none
  | .extract t i => (cO t).map (I.extract i)
  | .call c => cCall P c o.type
  | .panic _ => some stopI
  | _ => none
def cOpC (nt : Nat) (ops : Array Oper) (o : Oper) : Option OpC :=
  match cOp P o with
  | none => none
  | some i =>
    match (match o.dst with | some d => if d < nt then some (some d) else none | none => some none : Option (Option Nat)),
      (match o.guard with | some (j, w) => (match (ops[j]?).bind (·.dst) with | some t => some (some (t, w)) | none => none) | none => some none : Option (Option (Nat × Bool))) with
    | some d, some g => some ⟨d, g, i⟩
    | _, _ => none
def cOpsC (nt : Nat) (ops : Array Oper) : List Oper → Option (List OpC)
  | [] => some []
  | o :: r => match cOpC P nt ops o, cOpsC nt ops r with | some a, some l => some (a :: l) | _, _ => none
def tailAt (b : Array Nat) : Nat → Nat
  | 0 => 0
  | n + 1 => if b.getD n 0 = 2 ^ n - 1 then tailAt b n else n + 1
def OpC.looks (o : OpC) : List Nat := o.ins.ops.filterMap O.tmp? ++ (match o.guard with | some (t, _) => [t] | none => [])
def apartC (x y : OpC) : Bool :=
  (match x.dst with | some d => !(y.looks.contains d) && y.dst != some d | none => true) &&
  (match y.dst with | some d => !(x.looks.contains d) | none => true)
def apartAll (l : List OpC) (b : Array Nat) (p : Nat) : Bool :=
  (List.range p).all fun j => (List.range j).all fun i =>
    (b.getD j 0).testBit i || match l[i]?, l[j]? with | some x, some y => apartC x y | _, _ => false
def lower (ops : Array Oper) : Bool :=
  ops.toList.zipIdx.all fun (o, i) => o.after.all fun e => !Region.binds .any e || e.on < i
def freeC (x y : OpC) : Bool := apartC x y && (pureI y.ins || pureI x.ins || ((rdI x.ins).isSome && ((rdI y.ins).isSome || (wrI y.ins).isSome)))
def chkOf (x y : OpC) : List OpC := match rdI x.ins, wrI y.ins with
  | some (a, u), some (b, v) => [⟨none, none, .chk a u b v⟩]
  | _, _ => []
def chksAt (l : List OpC) (b : Array Nat) (k : Nat) : List OpC :=
  (List.range k).flatMap fun i => if (b.getD k 0).testBit i then [] else chkOf (opAt' l i) (opAt' l k)
def blkAt (l : List OpC) (b : Array Nat) (k : Nat) : List OpC := chksAt l b k ++ [opAt' l k]
def keepsC (y : OpC) (x : OpC) : Bool := match y.dst with | some d => !(x.looks.contains d) | none => true
def floatI (i : I) : Bool := pureI i || (rdI i).isSome
def floatZ (l : List OpC) (b : Array Nat) (p i : Nat) : Bool := Nat.ble p i || ((List.range l.length).any fun q => Nat.ble p q && !(b.getD q 0).testBit i)
def freeZ (l : List OpC) (b : Array Nat) (p : Nat) : Bool :=
  ((List.range l.length).all fun j => (List.range j).all fun i => (b.getD j 0).testBit i || freeC (opAt' l i) (opAt' l j) || !(floatZ l b p i && floatZ l b p j)) &&
  ((List.range l.length).all fun j => (List.range (j + 1)).all fun i => !(rdI (opAt' l i).ins).isSome || keepsC (opAt' l j) (opAt' l i) || !(floatZ l b p i && floatZ l b p j)) &&
  ((List.range l.length).all fun j => (List.range j).all fun i => (chksAt l b i).all (fun c => keepsC (opAt' l j) c) || !(floatZ l b p i && floatZ l b p j)) &&
  ((List.range p).all fun i => !floatZ l b p i || (floatI (opAt' l i).ins && (List.range p).all fun j => Nat.blt j i || (keepsC (opAt' l j) (opAt' l i) && (Nat.beq j i || (match (opAt' l i).dst with | some d => (opAt' l j).dst != some d | none => true)))))
def firstW : List OpC → Nat
  | [] => 0
  | o :: r => if (wrI o.ins).isSome then 0 else firstW r + 1
def tailX (l : List OpC) (b : Array Nat) (p : Nat) : List OpC := ((List.range l.length).drop p).flatMap (blkAt l b)
def needPair (x y : OpC) : Bool := match clsI x.ins, clsI y.ins with | 0, _ => false | _, 0 => false | 1, 1 => false | _, _ => true
def unAt (l : List OpC) (b : Array Nat) (k : Nat) : List Nat := (List.range k).filter fun i => !(b.getD k 0).testBit i && needPair (opAt' l i) (opAt' l k)
def isCallI : I → Bool
  | .call .. => true
  | .inv .. => true
  | _ => false
def callBeside (l : List OpC) (b : Array Nat) (p : Nat) : Bool :=
  (List.range l.length).any fun k => (unAt l b k).any fun i => Nat.blt i p && (isCallI (opAt' l i).ins || (Nat.blt k p && isCallI (opAt' l k).ins))
def cRegion (nt : Nat) (ops : Array Oper) (draw : Bool) : Option C :=
  match cOpsC P nt ops ops.toList with
  | none => none
  | some l =>
    if !draw then some (.reg [] l)
    else
      let b := CheckFast.beforeF ops
      let p := tailAt b ops.size
      if lower ops && apartAll l b p && !((l.take p).any fun o => (wrI o.ins).isSome) && !callBeside l b p then some (.reg (l.take p) (l.drop p))
      else if lower ops && freeZ l b 0 then some (.reg [] (tailX l b 0))
      else if lower ops && apartAll l b (firstW l) && freeZ l b (firstW l) && !callBeside l b (firstW l) then some (.reg (l.take (firstW l)) (tailX l b (firstW l)))
      else if lower ops && apartAll l b l.length then some (.mix l ((List.range l.length).map (unAt l b)) []) else none
def cCode (nt : Nat) : Code → Option C
  | .skip => some .skip
  | .region _ ops draw => cRegion P nt ops draw
  | .seq a b => match cCode nt a, cCode nt b with | some a, some b => some (.seq a b) | _, _ => none
  | .cond c a b => match cO c, cCode nt a, cCode nt b with | some c, some a, some b => some (.cond c a b) | _, _, _ => none
  | .block id b => (cCode nt b).map (C.block id)
  | .loop b => (cCode nt b).map (C.loop [] [])
  | .rangeFunc f ps a b => match cO f, cCode nt a, cCode nt b with | some f, some a, some b => some (.rfun nt [] f ps.toList a b) | _, _, _ => none
  | .exit id => some (.exit id)
  | .scope b => (cCode nt b).map C.scope
  | .label _ => some .skip
  | .goto _ => none
  | .ret => some .ret
  | .refuse _ => none
def cRV : ResultVar → Option RV
  | .tmp t => some (.tmp t)
  | .cell a t => match aggOf P t, sizeOfT P t with | some g, some s => some (.cell g s a) | _, _ => none
def cRVs : List ResultVar → Option (List RV)
  | [] => some []
  | x :: r => match cRV P x, cRVs r with | some a, some l => some (a :: l) | _, _ => none
def cFn (fn : Func) : Option CFunc :=
  match fn.body with
  | none => none
  | some b => if fn.name == "runtime.NumGoroutine" then none else
    match cCode P fn.ntmps b, cRVs P fn.results.toList with
    | some c, some rs => some ⟨fn.ntmps, rs, c⟩
    | _, _ => none
def cAt (f : FuncId) : Option CFunc := (P.funcs[f]?).bind (cFn P)
end
end Go.Proofs.YtlenjioebdmooaaDoor.Den

namespace Go.Proofs.YtlenjioebdmooaaDoor.Den
open Go
set_option linter.unusedVariables false
set_option linter.unusedSimpArgs false
def Le (c d : CallT) : Prop := ∀ f a m r, c f a m = some r → d f a m = some r
theorem Le.refl (c : CallT) : Le c c := fun _ _ _ _ h => h
theorem Le.trans {a b c : CallT} (h : Le a b) (k : Le b c) : Le a c := fun _ _ _ _ x => k _ _ _ _ (h _ _ _ _ x)
section
variable {E : Env} {c d : CallT}
theorem callV_mono (h : Le c d) {f : FuncId} {args : List V} {m : Mem} {r : List V × Mem} {br : Bool} (hr : callV br c f args m = some r) : callV br d f args m = some r := by
  simp only [callV] at hr ⊢
  split at hr
  · rename_i h1
    rw [if_pos h1]
    obtain ⟨mc, h2, hr⟩ := Option.bind_eq_some_iff.1 hr
    obtain ⟨r2, h3, hr⟩ := Option.bind_eq_some_iff.1 hr
    rw [h2, Option.bind_some, h _ _ _ _ h3, Option.bind_some]; exact hr
  · cases hr
theorem callOf_mono (h : Le c d) {f : V} {args : List V} {m : Mem} {r : V × Mem} {rf : FuncId → Bool} (hr : callOf rf c f args m = some r) : callOf rf d f args m = some r := by
  unfold callOf at hr ⊢
  split at hr
  · split at hr
    · cases hr
    rename_i hn
    rw [if_neg hn]
    obtain ⟨r2, h2, rfl⟩ := Option.map_eq_some_iff.1 hr
    simp only [callV_mono h h2, Option.map_some]
  · obtain ⟨r2, h2, rfl⟩ := Option.map_eq_some_iff.1 hr
    simp only [callV_mono h h2, Option.map_some]
  · cases hr
theorem doI_mono (h : Le c d) {i : I} {t : Nat → V} {m : Mem} {r : V × Mem} (hr : doI E c i t m = some r) : doI E d i t m = some r := by
  cases i with
  | call f args => simp only [doI] at hr ⊢; exact callOf_mono h hr
  | inv tbl x args =>
    simp only [doI] at hr ⊢
    split at hr
    · split at hr
      · exact callOf_mono h hr
      · cases hr
    · cases hr
  | _ => exact hr
theorem doQ_mono (h : Le c d) {i : I} {t : Nat → V} {m : Mem} {r : V × Mem} (hr : doQ E c i t m = some r) : doQ E d i t m = some r := by
  unfold doQ at hr ⊢
  obtain ⟨x, h1, rfl⟩ := Option.map_eq_some_iff.1 hr
  rw [doI_mono h h1]; rfl
theorem opsC_mono {p q : I → (Nat → V) → Mem → Option (V × Mem)} (h : ∀ i t m r, p i t m = some r → q i t m = some r) : ∀ {l : List OpC} {s s' : S}, opsC p l s = some s' → opsC q l s = some s'
  | [], _, _, hr => hr
  | o :: l, s, s', hr => by
    simp only [opsC] at hr ⊢
    cases hw : wantedC o.guard s.t with
    | none => simp [hw] at hr
    | some b =>
      cases b with
      | true =>
        simp only [hw] at hr ⊢
        cases hp : p o.ins s.t s.m with
        | none => simp [hp] at hr
        | some x => simp only [hp] at hr; simp only [h _ _ _ _ hp]; exact opsC_mono h hr
      | false => simp only [hw] at hr ⊢; exact opsC_mono h hr
theorem roundG_mono {p q : S → Option (X × S)} (h : ∀ s r, p s = some r → q s = some r) {lv lx : List Nat} {k : Nat} {g : List V × Mem} {r : X × (List V × Mem)} (hr : roundG p lv lx k g = some r) : roundG q lv lx k g = some r := by
  unfold roundG at hr ⊢
  cases hp : p ⟨look lv g.1, g.2⟩ with
  | none => simp [hp] at hr
  | some x => simp only [hp] at hr; simp only [h _ _ hp]; exact hr
theorem segG_mono {p q : S → Option (X × S)} (h : ∀ s r, p s = some r → q s = some r) {lv lx ln : List Nat} {k : Nat} {g : List V × Mem} {r : X × (List V × Mem)} (hr : segG p lv lx ln k g = some r) : segG q lv lx ln k g = some r := by
  unfold segG at hr ⊢
  cases hp : p ⟨look lv g.1, g.2⟩ with
  | none => simp [hp] at hr
  | some x => simp only [hp] at hr; simp only [h _ _ hp]; exact hr
theorem loopG_mono {p q : List V × Mem → Option (X × (List V × Mem))} (h : ∀ s r, p s = some r → q s = some r) : ∀ {k : Nat} {g : List V × Mem} {r : X × (List V × Mem)}, loopG p k g = some r → loopG q k g = some r
  | 0, _, _, hr => by simp [loopG] at hr
  | k + 1, g, r, hr => by
    simp only [loopG] at hr ⊢
    cases hp : p g with
    | none => simp [hp] at hr
    | some x =>
      obtain ⟨y, g'⟩ := x
      rw [h _ _ hp]
      rw [hp] at hr
      cases y with
      | normal => exact loopG_mono h hr
      | exit i => exact hr
      | ret => exact hr
theorem stepM_mono (h : Le c d) {q : Bool} {i : I} {t : Nat → V} {m : Mem} {r : V × Mem} (hr : stepM E c q i t m = some r) : stepM E d q i t m = some r := by
  unfold stepM at hr ⊢
  split at hr
  · rename_i v m' h1; rw [doI_mono h h1]; exact hr
  · cases hr
theorem op1_mono {p q : I → (Nat → V) → Mem → Option (V × Mem)} (h : ∀ i t m r, p i t m = some r → q i t m = some r) {o : OpC} {s s1 : S} (hr : op1 p o s = some s1) : op1 q o s = some s1 := by
  unfold op1 at hr ⊢
  split at hr
  · split at hr
    · rename_i v m' h1; simp only [h _ _ _ _ h1]; exact hr
    · cases hr
  · exact hr
  · cases hr
theorem traceC_mono (h : Le c d) {qf : List Bool} : ∀ {l : List OpC} {k : Nat} {s : S} {tr : List S}, traceC E c qf k l s = some tr → traceC E d qf k l s = some tr
  | [], _, _, _, hr => hr
  | o :: l, k, s, tr, hr => by
    simp only [traceC] at hr ⊢
    split at hr
    · rename_i s1 h1
      split at hr
      · rename_i tr1 h2
        rw [op1_mono (fun _ _ _ _ => stepM_mono h) h1]
        simp only [traceC_mono h h2]
        exact hr
      · cases hr
    · cases hr
theorem runC_mono (h : Le c d) : ∀ {b : C} {s : S} {r : X × S}, runC E c b s = some r → runC E d b s = some r
  | .skip, _, _, hr => hr
  | .reg qs ts, s, r, hr => by
    simp only [runC] at hr ⊢
    cases h1 : opsC (doQ E c) qs s with
    | none => simp [h1] at hr
    | some s1 =>
      simp only [h1] at hr
      cases h2 : opsC (doI E c) ts s1 with
      | none => simp [h2] at hr
      | some s2 =>
        simp only [h2] at hr
        rw [opsC_mono (fun _ _ _ _ => doQ_mono h) h1]
        simp only [opsC_mono (fun _ _ _ _ => doI_mono h) h2]
        exact hr
  | .mix l un qf, s, r, hr => by
    simp only [runC] at hr ⊢
    split at hr
    · rename_i tr h1; simp only [traceC_mono h h1]; exact hr
    · cases hr
  | .seq a b, s, r, hr => by
    simp only [runC] at hr ⊢
    cases h1 : runC E c a s with
    | none => simp [h1] at hr
    | some x =>
      obtain ⟨y, s1⟩ := x
      rw [h1] at hr
      rw [runC_mono h h1]
      cases y with
      | normal => exact runC_mono h hr
      | exit i => exact hr
      | ret => exact hr
  | .cond o a b, s, r, hr => by
    simp only [runC] at hr ⊢
    split at hr
    · exact runC_mono h hr
    · exact runC_mono h hr
    · cases hr
  | .block i b, s, r, hr => by
    simp only [runC] at hr ⊢
    cases h1 : runC E c b s with
    | none => simp [h1] at hr
    | some x => rw [runC_mono h h1]; rw [h1] at hr; exact hr
  | .loop lv lx b, s, r, hr => by
    simp only [runC] at hr ⊢
    cases h1 : loopG (roundG (runC E c b) lv lx s.m.length) bound (lv.map s.t, s.m) with
    | none => simp [h1] at hr
    | some x =>
      rw [loopG_mono (fun _ _ => roundG_mono fun _ _ => runC_mono h) h1]
      rw [h1] at hr; exact hr
  | .rfun nt lv f ps a b, s, r, hr => by
    simp only [runC] at hr ⊢
    split at hr
    · split at hr
      · cases hr
      rename_i hn
      rw [if_neg hn]
      split at hr
      · rename_i h1
        rw [callV_mono h h1]; exact hr
      · cases hr
    · cases hr
  | .seq1 a b, s, r, hr => by
    simp only [runC] at hr ⊢
    cases h1 : runC E c a s with
    | none => simp [h1] at hr
    | some x =>
      obtain ⟨y, s1⟩ := x
      rw [h1] at hr
      rw [runC_mono h h1]
      cases y with
      | normal => exact runC_mono h hr
      | exit i => exact hr
      | ret => exact hr
  | .cut lv lx ln a b, s, r, hr => by
    simp only [runC] at hr ⊢
    cases h1 : segG (runC E c a) lv lx ln s.m.length (lv.map s.t, s.m) with
    | none => simp [h1] at hr
    | some x =>
      obtain ⟨y, g⟩ := x
      rw [segG_mono (fun _ _ => runC_mono h) h1]
      rw [h1] at hr
      cases y with
      | normal => exact runC_mono h hr
      | exit i => exact hr
      | ret => exact hr
  | .exit _, _, _, hr => hr
  | .scope b, _, _, hr => by simp only [runC] at hr ⊢; exact runC_mono h hr
  | .ret, _, _, hr => hr
theorem runF_mono (h : Le c d) {F : CFunc} {args : List V} {m : Mem} {r : List V × Mem} (hr : runF E c F args m = some r) : runF E d F args m = some r := by
  simp only [runF] at hr ⊢
  split at hr
  · rename_i hl
    rw [if_pos hl]
    cases h1 : runC E c F.body ⟨initT args, m⟩ with
    | none => simp [h1] at hr
    | some x => rw [runC_mono h h1]; rw [h1] at hr; exact hr
  · cases hr
theorem runY_mono (h : Le c d) {args : List V} {m : Mem} {r : List V × Mem} (hr : runY E c args m = some r) : runY E d args m = some r := by
  unfold runY at hr
  split at hr
  case h_2 => cases hr
  split at hr
  case h_2 => cases hr
  rename_i hb
  split at hr
  case isFalse => cases hr
  rename_i hc
  split at hr
  case h_2 => cases hr
  rename_i h1
  split at hr
  case h_2 => cases hr
  rename_i hb1
  split at hr
  case h_2 => cases hr
  rename_i h2
  unfold runY
  simp only [hb, if_pos hc, runC_mono h h1, hb1, runC_mono h h2]
  exact hr
theorem callD_le (n : Nat) : Le (callD E n) (callD E (n + 1)) := by
  induction n with
  | zero => intro f a m r h; simp [callD] at h
  | succ n ih =>
    intro f a m r h
    simp only [callD] at h ⊢
    split at h
    · rename_i hy
      rw [if_pos hy]
      exact runY_mono ih h
    rename_i hy
    rw [if_neg hy]
    cases he : E.ext f a m with
    | some x => simp only [he] at h ⊢; exact h
    | none =>
      simp only [he] at h ⊢
      cases hc : E.cf f with
      | none => simp [hc] at h
      | some F => simp only [hc] at h ⊢; exact runF_mono ih h
theorem callD_mono {n k : Nat} (h : n ≤ k) : Le (callD E n) (callD E k) := by
  induction h with
  | refl => exact Le.refl _
  | step _ ih => exact ih.trans (callD_le _)
structure Lim (ck : Nat → CallT) (cl : CallT) : Prop where
  mono : ∀ n k, n ≤ k → Le (ck n) (ck k)
  lim : ∀ f a m r, cl f a m = some r → ∃ n, ck n f a m = some r
variable {ck : Nat → CallT} {cl : CallT}
theorem callV_lim (H : Lim ck cl) {f : FuncId} {args : List V} {m : Mem} {r : List V × Mem} {br : Bool} (h2 : callV br cl f args m = some r) : ∃ n, callV br (ck n) f args m = some r := by
  simp only [callV] at h2
  split at h2
  · rename_i h1
    obtain ⟨mc, h3, h2⟩ := Option.bind_eq_some_iff.1 h2
    obtain ⟨r3, h4, h2⟩ := Option.bind_eq_some_iff.1 h2
    obtain ⟨n, hn⟩ := H.lim _ _ _ _ h4
    refine ⟨n, ?_⟩
    simp only [callV]
    rw [if_pos h1, h3, Option.bind_some, hn, Option.bind_some, h2]
  · cases h2
theorem callOf_lim (H : Lim ck cl) {f : V} {args : List V} {m : Mem} {r : V × Mem} {rf : FuncId → Bool} (hr : callOf rf cl f args m = some r) : ∃ n, callOf rf (ck n) f args m = some r := by
  unfold callOf at hr ⊢
  split at hr
  · split at hr
    · cases hr
    rename_i hn
    obtain ⟨r2, h2, rfl⟩ := Option.map_eq_some_iff.1 hr
    obtain ⟨n, h3⟩ := callV_lim H h2
    exact ⟨n, by rw [if_neg hn, h3]; rfl⟩
  · obtain ⟨r2, h2, rfl⟩ := Option.map_eq_some_iff.1 hr
    obtain ⟨n, h3⟩ := callV_lim H h2
    exact ⟨n, by simp only [h3, Option.map_some]⟩
  · cases hr
theorem doI_lim (H : Lim ck cl) {i : I} {t : Nat → V} {m : Mem} {r : V × Mem} (hr : doI E cl i t m = some r) : ∃ n, doI E (ck n) i t m = some r := by
  cases i with
  | call f args => simp only [doI] at hr ⊢; exact callOf_lim H hr
  | inv tbl x args =>
    simp only [doI] at hr ⊢
    split at hr
    · split at hr
      · exact callOf_lim H hr
      · cases hr
    · cases hr
  | _ => exact ⟨0, hr⟩
theorem doQ_lim (H : Lim ck cl) {i : I} {t : Nat → V} {m : Mem} {r : V × Mem} (hr : doQ E cl i t m = some r) : ∃ n, doQ E (ck n) i t m = some r := by
  unfold doQ at hr
  obtain ⟨x, h1, rfl⟩ := Option.map_eq_some_iff.1 hr
  obtain ⟨n, hn⟩ := doI_lim H h1
  exact ⟨n, by unfold doQ; rw [hn]; rfl⟩
theorem opsC_lim (H : Lim ck cl) {q : CallT → I → (Nat → V) → Mem → Option (V × Mem)} (h1 : ∀ c d, Le c d → ∀ i t m r, q c i t m = some r → q d i t m = some r) (h2 : ∀ i t m r, q cl i t m = some r → ∃ n, q (ck n) i t m = some r) :
    ∀ {l : List OpC} {s s' : S}, opsC (q cl) l s = some s' → ∃ n, opsC (q (ck n)) l s = some s'
  | [], _, _, hr => ⟨0, hr⟩
  | o :: l, s, s', hr => by
    simp only [opsC] at hr ⊢
    cases hw : wantedC o.guard s.t with
    | none => simp [hw] at hr
    | some b =>
      cases b with
      | true =>
        simp only [hw] at hr ⊢
        cases hp : q cl o.ins s.t s.m with
        | none => simp [hp] at hr
        | some x =>
          simp only [hp] at hr
          obtain ⟨n, hn⟩ := h2 _ _ _ _ hp
          obtain ⟨k, hk⟩ := opsC_lim H h1 h2 hr
          refine ⟨max n k, ?_⟩
          simp only [h1 _ _ (H.mono n (max n k) (by omega)) _ _ _ _ hn]
          exact opsC_mono (h1 _ _ (H.mono k (max n k) (by omega))) hk
      | false => simp only [hw] at hr ⊢; exact opsC_lim H h1 h2 hr
theorem stepM_lim (H : Lim ck cl) {q : Bool} {i : I} {t : Nat → V} {m : Mem} {r : V × Mem} (hr : stepM E cl q i t m = some r) : ∃ n, stepM E (ck n) q i t m = some r := by
  unfold stepM at hr
  split at hr
  · rename_i v m' h1
    obtain ⟨n, hn⟩ := doI_lim H h1
    exact ⟨n, by unfold stepM; rw [hn]; exact hr⟩
  · cases hr
theorem traceC_lim (H : Lim ck cl) {qf : List Bool} : ∀ {l : List OpC} {k : Nat} {s : S} {tr : List S}, traceC E cl qf k l s = some tr → ∃ n, traceC E (ck n) qf k l s = some tr
  | [], _, _, _, hr => ⟨0, hr⟩
  | o :: l, k, s, tr, hr => by
    simp only [traceC] at hr
    split at hr
    · rename_i s1 h1
      split at hr
      · rename_i tr1 h2
        obtain ⟨a, ha⟩ := traceC_lim H h2
        have : ∃ n, op1 (stepM E (ck n) (qf.getD k false)) o s = some s1 := by
          unfold op1 at h1
          split at h1
          · rename_i hw
            split at h1
            · rename_i v m' h3
              obtain ⟨n, hn⟩ := stepM_lim H h3
              exact ⟨n, by unfold op1; simp only [hw, hn]; exact h1⟩
            · cases h1
          · rename_i hw; exact ⟨0, by unfold op1; simp only [hw]; exact h1⟩
          · cases h1
        obtain ⟨b, hb⟩ := this
        refine ⟨max a b, ?_⟩
        simp only [traceC]
        rw [op1_mono (fun _ _ _ _ => stepM_mono (H.mono b (max a b) (by omega))) hb]
        simp only [traceC_mono (H.mono a (max a b) (by omega)) ha]
        exact hr
      · cases hr
    · cases hr
theorem runC_lim (H : Lim ck cl) : ∀ {b : C} {s : S} {r : X × S}, runC E cl b s = some r → ∃ n, runC E (ck n) b s = some r
  | .skip, _, _, hr => ⟨0, hr⟩
  | .reg qs ts, s, r, hr => by
    simp only [runC] at hr ⊢
    cases h1 : opsC (doQ E cl) qs s with
    | none => simp [h1] at hr
    | some s1 =>
      simp only [h1] at hr
      cases h2 : opsC (doI E cl) ts s1 with
      | none => simp [h2] at hr
      | some s2 =>
        simp only [h2] at hr
        obtain ⟨n, hn⟩ := opsC_lim H (q := doQ E) (fun c d h _ _ _ _ => doQ_mono h) (fun _ _ _ _ => doQ_lim H) h1
        obtain ⟨k, hk⟩ := opsC_lim H (q := doI E) (fun c d h _ _ _ _ => doI_mono h) (fun _ _ _ _ => doI_lim H) h2
        refine ⟨max n k, ?_⟩
        rw [opsC_mono (fun _ _ _ _ => doQ_mono (H.mono n (max n k) (by omega))) hn]
        simp only [opsC_mono (fun _ _ _ _ => doI_mono (H.mono k (max n k) (by omega))) hk]
        exact hr
  | .mix l un qf, s, r, hr => by
    simp only [runC] at hr ⊢
    split at hr
    · rename_i tr h1
      obtain ⟨n, hn⟩ := traceC_lim H h1
      exact ⟨n, by simp only [hn]; exact hr⟩
    · cases hr
  | .seq a b, s, r, hr => by
    simp only [runC] at hr ⊢
    cases h1 : runC E cl a s with
    | none => simp [h1] at hr
    | some x =>
      obtain ⟨y, s1⟩ := x
      rw [h1] at hr
      obtain ⟨n, hn⟩ := runC_lim H h1
      cases y with
      | normal =>
        obtain ⟨k, hk⟩ := runC_lim H hr
        refine ⟨max n k, ?_⟩
        rw [runC_mono (H.mono n (max n k) (by omega)) hn]
        exact runC_mono (H.mono k (max n k) (by omega)) hk
      | exit i => exact ⟨n, by rw [hn]; exact hr⟩
      | ret => exact ⟨n, by rw [hn]; exact hr⟩
  | .cond o a b, s, r, hr => by
    simp only [runC] at hr ⊢
    split at hr
    · exact runC_lim H hr
    · exact runC_lim H hr
    · cases hr
  | .block i b, s, r, hr => by
    simp only [runC] at hr ⊢
    cases h1 : runC E cl b s with
    | none => simp [h1] at hr
    | some x => obtain ⟨n, hn⟩ := runC_lim H h1; exact ⟨n, by rw [hn]; rw [h1] at hr; exact hr⟩
  | .loop lv lx b, s, r, hr => by
    simp only [runC] at hr ⊢
    have round : ∀ (g : List V × Mem) r, roundG (runC E cl b) lv lx s.m.length g = some r → ∃ n, roundG (runC E (ck n) b) lv lx s.m.length g = some r := by
      intro g r h
      unfold roundG at h
      cases hp : runC E cl b ⟨look lv g.1, g.2⟩ with
      | none => simp [hp] at h
      | some x =>
        obtain ⟨n, hn⟩ := runC_lim H hp
        exact ⟨n, by unfold roundG; rw [hn]; rw [hp] at h; exact h⟩
    have loop : ∀ (k : Nat) (g : List V × Mem) r, loopG (roundG (runC E cl b) lv lx s.m.length) k g = some r → ∃ n, loopG (roundG (runC E (ck n) b) lv lx s.m.length) k g = some r := by
      intro k
      induction k with
      | zero => intro g r h; simp [loopG] at h
      | succ k ih =>
        intro g r h
        simp only [loopG] at h ⊢
        cases hp : roundG (runC E cl b) lv lx s.m.length g with
        | none => simp [hp] at h
        | some x =>
          obtain ⟨y, g'⟩ := x
          obtain ⟨n, hn⟩ := round _ _ hp
          rw [hp] at h
          cases y with
          | normal =>
            obtain ⟨j, hj⟩ := ih _ _ h
            refine ⟨max n j, ?_⟩
            rw [roundG_mono (fun _ _ => runC_mono (H.mono n (max n j) (by omega))) hn]
            exact loopG_mono (fun _ _ => roundG_mono fun _ _ => runC_mono (H.mono j (max n j) (by omega))) hj
          | exit i => exact ⟨n, by rw [hn]; exact h⟩
          | ret => exact ⟨n, by rw [hn]; exact h⟩
    cases h1 : loopG (roundG (runC E cl b) lv lx s.m.length) bound (lv.map s.t, s.m) with
    | none => simp [h1] at hr
    | some x =>
      obtain ⟨n, hn⟩ := loop _ _ _ h1
      exact ⟨n, by rw [hn]; rw [h1] at hr; exact hr⟩
  | .rfun nt lv f ps a b, s, r, hr => by
    simp only [runC] at hr ⊢
    split at hr
    · split at hr
      · cases hr
      rename_i hn
      split at hr
      · rename_i h1
        obtain ⟨n, h2⟩ := callV_lim H h1
        exact ⟨n, by rw [if_neg hn, h2]; exact hr⟩
      · cases hr
    · cases hr
  | .seq1 a b, s, r, hr => by
    simp only [runC] at hr ⊢
    cases h1 : runC E cl a s with
    | none => simp [h1] at hr
    | some x =>
      obtain ⟨y, s1⟩ := x
      rw [h1] at hr
      obtain ⟨n, hn⟩ := runC_lim H h1
      cases y with
      | normal =>
        obtain ⟨k, hk⟩ := runC_lim H hr
        refine ⟨max n k, ?_⟩
        rw [runC_mono (H.mono n (max n k) (by omega)) hn]
        exact runC_mono (H.mono k (max n k) (by omega)) hk
      | exit i => exact ⟨n, by rw [hn]; exact hr⟩
      | ret => exact ⟨n, by rw [hn]; exact hr⟩
  | .cut lv lx ln a b, s, r, hr => by
    simp only [runC] at hr ⊢
    have seg : ∀ (g : List V × Mem) r, segG (runC E cl a) lv lx ln s.m.length g = some r → ∃ n, segG (runC E (ck n) a) lv lx ln s.m.length g = some r := by
      intro g r h
      unfold segG at h
      cases hp : runC E cl a ⟨look lv g.1, g.2⟩ with
      | none => simp [hp] at h
      | some x =>
        obtain ⟨n, hn⟩ := runC_lim H hp
        exact ⟨n, by unfold segG; rw [hn]; rw [hp] at h; exact h⟩
    cases h1 : segG (runC E cl a) lv lx ln s.m.length (lv.map s.t, s.m) with
    | none => simp [h1] at hr
    | some x =>
      obtain ⟨y, g⟩ := x
      obtain ⟨n, hn⟩ := seg _ _ h1
      rw [h1] at hr
      cases y with
      | normal =>
        obtain ⟨k, hk⟩ := runC_lim H hr
        refine ⟨max n k, ?_⟩
        rw [segG_mono (fun _ _ => runC_mono (H.mono n (max n k) (by omega))) hn]
        exact runC_mono (H.mono k (max n k) (by omega)) hk
      | exit i => exact ⟨n, by rw [hn]; exact hr⟩
      | ret => exact ⟨n, by rw [hn]; exact hr⟩
  | .exit _, _, _, hr => ⟨0, hr⟩
  | .scope b, _, _, hr => by simp only [runC] at hr ⊢; exact runC_lim H hr
  | .ret, _, _, hr => ⟨0, hr⟩
theorem runF_lim (H : Lim ck cl) {F : CFunc} {args : List V} {m : Mem} {r : List V × Mem} (hr : runF E cl F args m = some r) : ∃ n, runF E (ck n) F args m = some r := by
  simp only [runF] at hr ⊢
  split at hr
  · rename_i hl
    cases h1 : runC E cl F.body ⟨initT args, m⟩ with
    | none => simp [h1] at hr
    | some x => obtain ⟨n, hn⟩ := runC_lim H h1; exact ⟨n, by rw [if_pos hl, hn]; rw [h1] at hr; exact hr⟩
  · cases hr
end
noncomputable def cl (E : Env) : CallT := fun f a m => by
  classical
  exact if h : ∃ n r, callD E n f a m = some r then some (Classical.choose (Classical.choose_spec h)) else none
theorem cl_of {E : Env} {n : Nat} {f : FuncId} {a : List V} {m : Mem} {r : List V × Mem} (h : callD E n f a m = some r) : cl E f a m = some r := by
  unfold cl
  have hex : ∃ n r, callD E n f a m = some r := ⟨n, r, h⟩
  rw [dif_pos hex]
  have h2 := Classical.choose_spec (Classical.choose_spec hex)
  have e1 := callD_mono (E := E) (Nat.le_max_left n (Classical.choose hex)) _ _ _ _ h
  have e2 := callD_mono (E := E) (Nat.le_max_right n (Classical.choose hex)) _ _ _ _ h2
  rw [e1] at e2
  exact e2.symm
theorem of_cl {E : Env} {f : FuncId} {a : List V} {m : Mem} {r : List V × Mem} (h : cl E f a m = some r) : ∃ n, callD E n f a m = some r := by
  unfold cl at h
  split at h
  · rename_i hex
    cases h
    exact ⟨_, Classical.choose_spec (Classical.choose_spec hex)⟩
  · cases h
theorem cl_lim (E : Env) : Lim (callD E) (cl E) := ⟨fun _ _ h => callD_mono h, fun _ _ _ _ h => of_cl h⟩
theorem cl_run {E : Env} {f : FuncId} {F : CFunc} {a : List V} {m : Mem} {r : List V × Mem} (hE : ∀ a m, E.ext f a m = none) (hF : E.cf f = some F) (hny : f ≠ yfn) (h : runF E (cl E) F a m = some r) : cl E f a m = some r := by
  obtain ⟨n, hn⟩ := runF_lim (cl_lim E) h
  refine cl_of (n := n + 1) ?_
  simp only [callD, hE, hF, if_neg hny]
  exact hn
theorem cl_ext {E : Env} {f : FuncId} {a : List V} {m : Mem} {r : List V × Mem} (hny : f ≠ yfn) (h : E.ext f a m = some r) : cl E f a m = some r :=
  cl_of (n := 1) (by simp only [callD, h, if_neg hny])
end Go.Proofs.YtlenjioebdmooaaDoor.Den

namespace Go.Proofs.YtlenjioebdmooaaDoor.Den
open Go
set_option linter.unusedVariables false
def OneC : Value → Prop
  | .agg _ => False
  | .tuple _ => False
  | _ => True
abbrev Imm := Nat → Nat → Prop
mutual
def RelD (I : Imm) (w : World) : D → Value → Prop
  | .bool b, v => v = .bool b
  | .int k n, v => v = .int k n
  | .str s, v => v = .string s
  | .nilp, v => v = .pointer none
  | .nils, v => v = .slice none 0 0
  | .nilf, v => v = .nilFunc
  | .nili, v => v = .nilIface
  | .rs fl s rows tight, v => 0 < s ∧ (fl = true → ∀ r, r ∈ rows → ∀ x, x ∈ r → D.scalar x = true) ∧ (∀ r, r ∈ rows → r.length = s) ∧
      ∃ b o sp cap, v = .slice (some ⟨b, o, sp⟩) rows.length cap ∧ (rows = [] ∨ sp = none) ∧ rows.length ≤ cap ∧ (tight = true → cap = rows.length) ∧ HeldR I w s b o rows
  | .rp cells, v => ∃ b o, v = .pointer (some ⟨b, o, none⟩) ∧ Held I w b o cells
def Held (I : Imm) (w : World) (b : Nat) : Nat → List D → Prop
  | _, [] => True
  | o, c :: r => (∃ u, w.cell? ⟨b, o, none⟩ = some u ∧ I b o ∧ OneC u ∧ RelD I w c u) ∧ Held I w b (o + 1) r
def HeldR (I : Imm) (w : World) (s b : Nat) : Nat → List (List D) → Prop
  | _, [] => True
  | o, row :: r => Held I w b o row ∧ HeldR I w s b (o + s) r
end
def Blk.isLoop : Blk → Bool
  | .loop .. => true
  | _ => false
structure Cx where
  φ : Nat → Option Nat
  m : Mem
  I : Imm
  w : World
mutual
def RelV (c : Cx) : V → Value → Prop
  | .d x, v => RelD c.I c.w x v
  | .un, _ => True
  | .ptr id n row off, v => ∃ blk a, c.m[id]? = some blk ∧ n ≤ blk.len ∧ v = .pointer (some a) ∧ (n = blk.len → ∃ B, c.φ id = some B ∧ a = ⟨B, row * blk.size + off, none⟩)
  | .sl id n off len, v => ∃ blk a cap, c.m[id]? = some blk ∧ n ≤ blk.len ∧ v = .slice (some a) len cap ∧ len ≤ cap ∧ (n = blk.len → ∃ B e, c.φ id = some B ∧ a = ⟨B, off * blk.size, none⟩ ∧ c.w.shape? B = some (e, (off + cap) * blk.size))
  | .so true id n, v => v = .slice none 0 0 ∧ n = 0 ∧ ∃ blk, c.m[id]? = some blk
  | .so false id n, v => ∃ blk a cap, c.m[id]? = some blk ∧ n ≤ blk.len ∧ v = .slice (some a) n cap ∧ n ≤ cap ∧ (n = blk.len → ∃ B e, c.φ id = some B ∧ a = ⟨B, 0 * blk.size, none⟩ ∧ c.w.shape? B = some (e, (0 + cap) * blk.size))
  | .sa id n row off s len, v => ∃ blk a cap, c.m[id]? = some blk ∧ n ≤ blk.len ∧ v = .slice (some a) len cap ∧ len ≤ cap ∧ (n = blk.len → ∃ B, c.φ id = some B ∧ a = ⟨B, row * blk.size + off, none⟩)
  | .pa id n off len, v => ∃ blk a, c.m[id]? = some blk ∧ n ≤ blk.len ∧ v = .pointer (some a) ∧ (n = blk.len → ∃ B, c.φ id = some B ∧ a = ⟨B, off * blk.size, none⟩)
  | .fn f a b, v => ∃ a' b', v = .func f ⟨a'⟩ ⟨b'⟩ ∧ RelVs c a a' ∧ RelVs c b b'
  | .yl id, v => ∃ blk, c.m[id]? = some blk ∧ blk.isLoop = true ∧ ∃ B, c.φ id = some B ∧ v = .func (.yield B) #[] #[]
  | .ifc t x, v => ∃ u, v = .iface t u ∧ RelV c x u
  | .agg cs, v => ∃ a, v = .agg ⟨a⟩ ∧ RelVs c cs a ∧ ∀ u, u ∈ a → OneC u
  | .tup vs, v => ∃ a, v = .tuple ⟨a⟩ ∧ RelVs c vs a
def RelVs (c : Cx) : List V → List Value → Prop
  | [], l => l = []
  | v :: r, l => ∃ u us, l = u :: us ∧ RelV c v u ∧ RelVs c r us
end
def KeepI (I I' : Imm) (w w' : World) : Prop := ∀ b o, I b o → I' b o ∧ ∀ u, w.cell? ⟨b, o, none⟩ = some u → w'.cell? ⟨b, o, none⟩ = some u
theorem KeepI.refl (I : Imm) (w : World) : KeepI I I w w := fun _ _ h => ⟨h, fun _ h => h⟩
mutual
theorem RelD.keep {I I' : Imm} {w w' : World} (h : KeepI I I' w w') : ∀ (x : D) (v : Value), RelD I w x v → RelD I' w' x v
  | .bool _, _, r => r
  | .int _ _, _, r => r
  | .str _, _, r => r
  | .nilp, _, r => r
  | .nils, _, r => r
  | .nilf, _, r => r
  | .nili, _, r => r
  | .rs _ s rows _, _, r => by
    simp only [RelD] at r ⊢
    obtain ⟨hs, hf, hl, b, o, sp, cap, e, hsp, h1, h2, h3⟩ := r
    exact ⟨hs, hf, hl, b, o, sp, cap, e, hsp, h1, h2, HeldR.keep h s b o rows h3⟩
  | .rp cells, _, r => by
    simp only [RelD] at r ⊢
    obtain ⟨b, o, e, h1⟩ := r
    exact ⟨b, o, e, Held.keep h b o cells h1⟩
theorem Held.keep {I I' : Imm} {w w' : World} (h : KeepI I I' w w') (b : Nat) : ∀ (o : Nat) (l : List D), Held I w b o l → Held I' w' b o l
  | _, [], _ => by simp only [Held]
  | o, c :: r, q => by
    simp only [Held] at q ⊢
    obtain ⟨⟨u, h1, h2, h3, h4⟩, h5⟩ := q
    exact ⟨⟨u, (h b o h2).2 u h1, (h b o h2).1, h3, RelD.keep h c u h4⟩, Held.keep h b (o + 1) r h5⟩
theorem HeldR.keep {I I' : Imm} {w w' : World} (h : KeepI I I' w w') (s b : Nat) : ∀ (o : Nat) (l : List (List D)), HeldR I w s b o l → HeldR I' w' s b o l
  | _, [], _ => by simp only [HeldR]
  | o, row :: r, q => by
    simp only [HeldR] at q ⊢
    exact ⟨Held.keep h b o row q.1, HeldR.keep h s b (o + s) r q.2⟩
end
theorem Held.at {I : Imm} {w : World} {b : Nat} : ∀ {l : List D} {o : Nat}, Held I w b o l → ∀ j x, l[j]? = some x → ∃ u, w.cell? ⟨b, o + j, none⟩ = some u ∧ I b (o + j) ∧ OneC u ∧ RelD I w x u
  | [], _, _, j, x, hx => by simp at hx
  | c :: r, o, h, j, x, hx => by
    simp only [Held] at h
    cases j with
    | zero => simp at hx; subst hx; simpa using h.1
    | succ j =>
      have := Held.at h.2 j x (by simpa using hx)
      rw [show o + (j + 1) = o + 1 + j by omega]; exact this
theorem Held.drop {I : Imm} {w : World} {b : Nat} : ∀ {l : List D} {o : Nat} (k : Nat), Held I w b o l → Held I w b (o + k) (l.drop k)
  | _, _, 0, h => by simpa using h
  | [], _, k + 1, _ => by simp [Held]
  | c :: r, o, k + 1, h => by
    simp only [Held] at h
    have := Held.drop k h.2
    rw [show o + (k + 1) = o + 1 + k by omega]; simpa using this
theorem Held.take {I : Imm} {w : World} {b : Nat} : ∀ {l : List D} {o : Nat} (k : Nat), Held I w b o l → Held I w b o (l.take k)
  | _, _, 0, _ => by simp [Held]
  | [], _, k + 1, _ => by simp [Held]
  | c :: r, o, k + 1, h => by
    simp only [Held, List.take_succ_cons] at h ⊢
    exact ⟨h.1, Held.take k h.2⟩
theorem Held.append {I : Imm} {w : World} {b : Nat} : ∀ {l l' : List D} {o : Nat}, Held I w b o l → Held I w b (o + l.length) l' → Held I w b o (l ++ l')
  | [], _, _, _, h' => by simpa using h'
  | c :: r, l', o, h, h' => by
    simp only [Held, List.cons_append] at h ⊢
    refine ⟨h.1, Held.append h.2 ?_⟩
    rw [show o + 1 + r.length = o + (c :: r).length by simp; omega]; exact h'
theorem HeldR.drop {I : Imm} {w : World} {s b : Nat} : ∀ {l : List (List D)} {o : Nat} (k : Nat), HeldR I w s b o l → HeldR I w s b (o + k * s) (l.drop k)
  | _, _, 0, h => by simpa using h
  | [], _, k + 1, _ => by simp [HeldR]
  | c :: r, o, k + 1, h => by
    simp only [HeldR] at h
    have := HeldR.drop k h.2
    rw [show o + (k + 1) * s = o + s + k * s by rw [Nat.add_mul]; omega]; simpa using this
theorem HeldR.take {I : Imm} {w : World} {s b : Nat} : ∀ {l : List (List D)} {o : Nat} (k : Nat), HeldR I w s b o l → HeldR I w s b o (l.take k)
  | _, _, 0, _ => by simp [HeldR]
  | [], _, k + 1, _ => by simp [HeldR]
  | c :: r, o, k + 1, h => by
    simp only [HeldR, List.take_succ_cons] at h ⊢
    exact ⟨h.1, HeldR.take k h.2⟩
theorem HeldR.at {I : Imm} {w : World} {s b : Nat} {l : List (List D)} {o : Nat} (h : HeldR I w s b o l) (j : Nat) (x : List D) (hx : l[j]? = some x) : Held I w b (o + j * s) x := by
  have h' := h.drop j
  obtain ⟨hj, rfl⟩ := List.getElem?_eq_some_iff.1 hx
  rw [List.drop_eq_getElem_cons hj] at h'
  simp only [HeldR] at h'
  exact h'.1
theorem HeldR.flat {I : Imm} {w : World} {s b : Nat} : ∀ {l : List (List D)} {o : Nat}, (∀ r, r ∈ l → r.length = s) → HeldR I w s b o l → Held I w b o l.flatten
  | [], _, _, _ => by simp [Held]
  | c :: r, o, hl, h => by
    simp only [HeldR, List.flatten_cons] at h ⊢
    refine Held.append h.1 ?_
    rw [hl c (by simp)]
    exact HeldR.flat (fun x hx => hl x (by simp [hx])) h.2
structure St (c c' : Cx) : Prop where
  keep : KeepI c.I c'.I c.w c'.w
  blk : ∀ id blk, c.m[id]? = some blk → ∃ blk', c'.m[id]? = some blk' ∧ blk.len ≤ blk'.len ∧ (blk.isLoop = true → blk'.isLoop = true ∧ blk'.len = blk.len) ∧
    (blk'.len = blk.len → blk'.size = blk.size ∧ ∀ B, c.φ id = some B → c'.φ id = some B ∧ ∀ e n, c.w.shape? B = some (e, n) → c'.w.shape? B = some (e, n))
mutual
theorem RelV.mono {c c' : Cx} (h : St c c') : ∀ (x : V) (v : Value), RelV c x v → RelV c' x v
  | .d x, v, r => by simp only [RelV] at r ⊢; exact RelD.keep h.keep x v r
  | .un, _, _ => by simp only [RelV]
  | .ptr id n row off, v, r => by
    simp only [RelV] at r ⊢
    obtain ⟨blk, a, h1, h2, hv, h3⟩ := r
    obtain ⟨blk', g1, g2, gl, g3⟩ := h.blk id blk h1
    refine ⟨blk', a, g1, Nat.le_trans h2 g2, hv, fun e => ?_⟩
    have e' : blk'.len = blk.len := by omega
    obtain ⟨gs, gB⟩ := g3 e'
    obtain ⟨B, hB, ha⟩ := h3 (by omega)
    exact ⟨B, (gB B hB).1, by rw [gs]; exact ha⟩
  | .sl id n off len, v, r => by
    simp only [RelV] at r ⊢
    obtain ⟨blk, a, cap, h1, h2, hv, hc, h3⟩ := r
    obtain ⟨blk', g1, g2, gl, g3⟩ := h.blk id blk h1
    refine ⟨blk', a, cap, g1, Nat.le_trans h2 g2, hv, hc, fun e => ?_⟩
    have e' : blk'.len = blk.len := by omega
    obtain ⟨gs, gB⟩ := g3 e'
    obtain ⟨B, e0, hB, ha, hsh⟩ := h3 (by omega)
    exact ⟨B, e0, (gB B hB).1, by rw [gs]; exact ha, by rw [gs]; exact (gB B hB).2 _ _ hsh⟩
  | .so true id n, v, r => by
    simp only [RelV] at r ⊢
    obtain ⟨e1, e2, blk, h1⟩ := r
    obtain ⟨blk', g1, g2, gl, g3⟩ := h.blk id blk h1
    exact ⟨e1, e2, blk', g1⟩
  | .so false id n, v, r => by
    simp only [RelV] at r ⊢
    obtain ⟨blk, a, cap, h1, h2, hv, hc, h3⟩ := r
    obtain ⟨blk', g1, g2, gl, g3⟩ := h.blk id blk h1
    refine ⟨blk', a, cap, g1, Nat.le_trans h2 g2, hv, hc, fun e => ?_⟩
    have e' : blk'.len = blk.len := by omega
    obtain ⟨gs, gB⟩ := g3 e'
    obtain ⟨B, e0, hB, ha, hsh⟩ := h3 (by omega)
    exact ⟨B, e0, (gB B hB).1, by rw [gs]; exact ha, by rw [gs]; exact (gB B hB).2 _ _ hsh⟩
  | .sa id n row off s len, v, r => by
    simp only [RelV] at r ⊢
    obtain ⟨blk, a, cap, h1, h2, hv, hc, h3⟩ := r
    obtain ⟨blk', g1, g2, gl, g3⟩ := h.blk id blk h1
    refine ⟨blk', a, cap, g1, Nat.le_trans h2 g2, hv, hc, fun e => ?_⟩
    have e' : blk'.len = blk.len := by omega
    obtain ⟨gs, gB⟩ := g3 e'
    obtain ⟨B, hB, ha⟩ := h3 (by omega)
    exact ⟨B, (gB B hB).1, by rw [gs]; exact ha⟩
  | .pa id n off len, v, r => by
    simp only [RelV] at r ⊢
    obtain ⟨blk, a, h1, h2, hv, h3⟩ := r
    obtain ⟨blk', g1, g2, gl, g3⟩ := h.blk id blk h1
    refine ⟨blk', a, g1, Nat.le_trans h2 g2, hv, fun e => ?_⟩
    have e' : blk'.len = blk.len := by omega
    obtain ⟨gs, gB⟩ := g3 e'
    obtain ⟨B, hB, ha⟩ := h3 (by omega)
    exact ⟨B, (gB B hB).1, by rw [gs]; exact ha⟩
  | .fn f a b, v, r => by
    simp only [RelV] at r ⊢
    obtain ⟨a', b', e, h1, h2⟩ := r
    exact ⟨a', b', e, RelVs.mono h a a' h1, RelVs.mono h b b' h2⟩
  | .yl id, v, r => by
    simp only [RelV] at r ⊢
    obtain ⟨blk, h1, hl, B, hB, hv⟩ := r
    obtain ⟨blk', g1, g2, gl, g3⟩ := h.blk id blk h1
    exact ⟨blk', g1, (gl hl).1, B, ((g3 (gl hl).2).2 B hB).1, hv⟩
  | .ifc t x, v, r => by
    simp only [RelV] at r ⊢
    obtain ⟨u, e, h1⟩ := r
    exact ⟨u, e, RelV.mono h x u h1⟩
  | .agg cs, v, r => by
    simp only [RelV] at r ⊢
    obtain ⟨a, e, h1, h2⟩ := r
    exact ⟨a, e, RelVs.mono h cs a h1, h2⟩
  | .tup vs, v, r => by
    simp only [RelV] at r ⊢
    obtain ⟨a, e, h1⟩ := r
    exact ⟨a, e, RelVs.mono h vs a h1⟩
theorem RelVs.mono {c c' : Cx} (h : St c c') : ∀ (l : List V) (l' : List Value), RelVs c l l' → RelVs c' l l'
  | [], l', r => by simp only [RelVs] at r ⊢; exact r
  | v :: l, l', r => by
    simp only [RelVs] at r ⊢
    obtain ⟨u, us, e, h1, h2⟩ := r
    exact ⟨u, us, e, RelV.mono h v u h1, RelVs.mono h l us h2⟩
end
theorem St.refl (c : Cx) : St c c := ⟨KeepI.refl _ _, fun _ blk h => ⟨blk, h, Nat.le_refl _, fun h => ⟨h, rfl⟩, fun _ => ⟨rfl, fun _ hB => ⟨hB, fun _ _ h => h⟩⟩⟩⟩
theorem St.trans {a b c : Cx} (h : St a b) (k : St b c) : St a c := by
  refine ⟨fun x o hI => ⟨(k.keep x o (h.keep x o hI).1).1, fun u hu => (k.keep x o (h.keep x o hI).1).2 u ((h.keep x o hI).2 u hu)⟩, fun id blk hb => ?_⟩
  obtain ⟨b1, h1, l1, i1, e1⟩ := h.blk id blk hb
  obtain ⟨b2, h2, l2, i2, e2⟩ := k.blk id b1 h1
  refine ⟨b2, h2, Nat.le_trans l1 l2, fun hl => ⟨(i2 (i1 hl).1).1, (i2 (i1 hl).1).2.trans (i1 hl).2⟩, fun e => ?_⟩
  have ea : b1.len = blk.len := by omega
  have eb : b2.len = b1.len := by omega
  refine ⟨(e2 eb).1.trans (e1 ea).1, fun B hB => ?_⟩
  have p1 := (e1 ea).2 B hB
  have p2 := (e2 eb).2 B p1.1
  exact ⟨p2.1, fun e n hs => p2.2 e n (p1.2 e n hs)⟩
theorem RelVs.len {c : Cx} : ∀ {l : List V} {l' : List Value}, RelVs c l l' → l'.length = l.length
  | [], _, h => by simp only [RelVs] at h; simp [h]
  | v :: r, _, h => by
    simp only [RelVs] at h
    obtain ⟨u, us, rfl, _, h2⟩ := h
    simp [RelVs.len h2]
theorem RelVs.at {c : Cx} : ∀ {l : List V} {l' : List Value}, RelVs c l l' → ∀ (j : Nat) (x : V), l[j]? = some x → ∃ u, l'[j]? = some u ∧ RelV c x u
  | [], _, _, j, x, hx => by simp at hx
  | v :: r, _, h, j, x, hx => by
    simp only [RelVs] at h
    obtain ⟨u, us, rfl, h1, h2⟩ := h
    cases j with
    | zero => simp at hx; subst hx; exact ⟨u, by simp, h1⟩
    | succ j => simpa using RelVs.at h2 j x (by simpa using hx)
theorem RelVs.append {c : Cx} : ∀ {l : List V} {l' : List Value} {k : List V} {k' : List Value}, RelVs c l l' → RelVs c k k' → RelVs c (l ++ k) (l' ++ k')
  | [], _, _, _, h, hk => by simp only [RelVs] at h; subst h; simpa using hk
  | v :: r, _, _, _, h, hk => by
    simp only [RelVs] at h
    obtain ⟨u, us, rfl, h1, h2⟩ := h
    simp only [List.cons_append, RelVs]
    exact ⟨u, _, rfl, h1, RelVs.append h2 hk⟩
theorem RelVs.take {c : Cx} : ∀ {l : List V} {l' : List Value} (k : Nat), RelVs c l l' → RelVs c (l.take k) (l'.take k)
  | _, _, 0, _ => by simp [RelVs]
  | [], _, k + 1, h => by simp only [RelVs] at h; subst h; simp [RelVs]
  | v :: r, _, k + 1, h => by
    simp only [RelVs] at h
    obtain ⟨u, us, rfl, h1, h2⟩ := h
    simp only [List.take_succ_cons, RelVs]
    exact ⟨u, _, rfl, h1, RelVs.take k h2⟩
theorem RelVs.drop {c : Cx} : ∀ {l : List V} {l' : List Value} (k : Nat), RelVs c l l' → RelVs c (l.drop k) (l'.drop k)
  | _, _, 0, h => by simpa using h
  | [], _, k + 1, h => by simp only [RelVs] at h; subst h; simp [RelVs]
  | v :: r, _, k + 1, h => by
    simp only [RelVs] at h
    obtain ⟨u, us, rfl, h1, h2⟩ := h
    simpa using RelVs.drop k h2
def Blk.vrows : Blk → List (List V)
  | .flat _ _ rows _ => rows.map (List.map V.d)
  | .gen _ _ rows _ => rows
  | .loop .. => []
def Blk.elem : Blk → TypeId
  | .flat e _ _ _ => e
  | .gen e _ _ _ => e
  | .loop .. => 0
def Blk.plain : Blk → Prop
  | .flat _ _ rows _ => ∀ r, r ∈ rows → ∀ x, x ∈ r → D.scalar x = true
  | _ => True
structure CellsOK (c : Cx) (B : Nat) (b : Blk) : Prop where
  pos : 0 < b.size
  ex : ∃ arr fr cap us rest, c.w.heap[B]? = some (.cells arr b.elem fr) ∧ (fr.1 = fr.2 ∨ arr.size ≤ fr.1) ∧ arr.size = cap * b.size ∧ arr.toList = us ++ rest ∧
    RelVs c b.vrows.flatten us ∧ ∀ u, u ∈ us → OneC u
  rows : ∀ r, r ∈ b.vrows → r.length = b.size
  noI : ∀ o, ¬ c.I B o
  plain : b.plain
section
variable (P : Program)
structure LoopOK (c : Cx) (B : Nat) (st : LoopState) (pe : Option C) (ts : List V) (ps : List Nat) (a b : C) : Prop where
  ex : ∃ L : Loop, c.w.heap[B]? = some (.loop L) ∧ L.state = st ∧ RelVs c ts L.tmps.toList ∧ L.params.toList = ps ∧
    cCode P ts.length L.assign = some a.er ∧ cCode P ts.length L.body = some b.er ∧
    (match pe, L.pending with | none, none => True | some x, some y => cCode P ts.length y = some x.er | _, _ => False)
  noI : ∀ o, ¬ c.I B o
def BlkOK (c : Cx) (B : Nat) : Blk → Prop
  | .loop st pe ts ps a b _ => LoopOK P c B st pe ts ps a b
  | b => CellsOK c B b
structure PSim (c : Cx) : Prop where
  blk : ∀ id blk B, c.m[id]? = some blk → c.φ id = some B → BlkOK P c B blk
  inj : ∀ i j B, c.φ i = some B → c.φ j = some B → i = j
  dom : ∀ i B, c.φ i = some B → i < c.m.length
  imm : ∀ b o, c.I b o → b < c.w.heap.size
end
def Wr (c : Cx) (b : Nat) : Prop := ∃ (id : Nat) (blk : Blk), c.m[id]? = some blk ∧ blk.prot = false ∧ c.φ id = some b
structure Keeps (c c' : Cx) : Prop where
  size : c.w.heap.size ≤ c'.w.heap.size
  os : c'.w.os = c.w.os
  tape : c'.w.tape = c.w.tape
  output : c'.w.output = c.w.output
  heap : ∀ b o, c.w.heap[b]? = some o → ¬ Wr c b → c'.w.heap[b]? = some o
  fresh : ∀ id B, c'.φ id = some B → c.φ id = some B ∨ c.w.heap.size ≤ B
  prot : ∀ (id : Nat) (blk : Blk), c.m[id]? = some blk → ∃ blk' : Blk, c'.m[id]? = some blk' ∧ blk'.prot = blk.prot
  same : ∀ (id : Nat) (blk : Blk), c.m[id]? = some blk → blk.prot = true → ∃ blk' : Blk, c'.m[id]? = some blk' ∧ blk'.len = blk.len ∧ blk'.size = blk.size ∧ blk'.isLoop = blk.isLoop
  old : ∀ id B blk, c'.φ id = some B → c.m[id]? = some blk → blk.prot = true → ∃ B0, c.φ id = some B0
theorem Keeps.refl (c : Cx) : Keeps c c := ⟨Nat.le_refl _, rfl, rfl, rfl, fun _ _ h _ => h, fun _ _ h => .inl h, fun _ blk h => ⟨blk, h, rfl⟩, fun _ blk h _ => ⟨blk, h, rfl, rfl, rfl⟩, fun _ B _ h _ _ => ⟨B, h⟩⟩
structure Post (P : Program) (c c' : Cx) : Prop where
  st : St c c'
  sim : PSim P c'
  keeps : Keeps c c'
  imm : c'.I = c.I
theorem heap_lt {w : World} {b : Nat} {o : Obj} (h : w.heap[b]? = some o) : b < w.heap.size := (Array.getElem?_eq_some_iff.1 h).1
theorem Wr.back {P : Program} {a b : Cx} (ha : PSim P a) (h : Keeps a b) {k : Nat} (hk : k < a.w.heap.size) (hw : Wr b k) : Wr a k := by
  obtain ⟨id, blk, h1, h2, h3⟩ := hw
  rcases h.fresh id k h3 with h4 | h4
  · have hd := ha.dom id k h4
    obtain ⟨blk0, hb0⟩ : ∃ x, a.m[id]? = some x := ⟨_, List.getElem?_eq_getElem hd⟩
    obtain ⟨blk', g1, g2⟩ := h.prot id blk0 hb0
    rw [h1] at g1; cases g1
    exact ⟨id, blk0, hb0, by rw [← g2]; exact h2, h4⟩
  · omega
theorem Keeps.trans {P : Program} {a b c : Cx} (ha : PSim P a) (h : Keeps a b) (k : Keeps b c) : Keeps a c := by
  refine ⟨Nat.le_trans h.size k.size, k.os.trans h.os, k.tape.trans h.tape, k.output.trans h.output, fun x o hx hw => ?_, fun id B hB => ?_, fun id blk hb => ?_, fun id blk hb hp => ?_, fun id B blk hB hb hp => ?_⟩
  · exact k.heap x o (h.heap x o hx hw) fun hw' => hw (hw'.back ha h (heap_lt hx))
  · rcases k.fresh id B hB with h1 | h1
    · exact h.fresh id B h1
    · exact .inr (Nat.le_trans h.size h1)
  · obtain ⟨b1, h1, e1⟩ := h.prot id blk hb
    obtain ⟨b2, h2, e2⟩ := k.prot id b1 h1
    exact ⟨b2, h2, e2.trans e1⟩
  · obtain ⟨b1, h1, e1⟩ := h.prot id blk hb
    obtain ⟨b1', h1', p1, p2, p3⟩ := h.same id blk hb hp
    rw [h1] at h1'; cases h1'
    obtain ⟨b2, h2, q1, q2, q3⟩ := k.same id b1 h1 (by rw [e1]; exact hp)
    exact ⟨b2, h2, q1.trans p1, q2.trans p2, q3.trans p3⟩
  · obtain ⟨b1, h1, e1⟩ := h.prot id blk hb
    obtain ⟨B1, hB1⟩ := k.old id B b1 hB h1 (by rw [e1]; exact hp)
    exact h.old id B1 blk hB1 hb hp
theorem Post.refl {P : Program} {c : Cx} (h : PSim P c) : Post P c c := ⟨St.refl c, h, Keeps.refl c, rfl⟩
theorem Post.trans {P : Program} {a b c : Cx} (ha : PSim P a) (h : Post P a b) (k : Post P b c) : Post P a c :=
  ⟨h.st.trans k.st, k.sim, h.keeps.trans ha k.keeps, k.imm.trans h.imm⟩
end Go.Proofs.YtlenjioebdmooaaDoor.Den

namespace Go.Proofs.YtlenjioebdmooaaDoor.Den
open Go
set_option linter.unusedVariables false
set_option linter.unusedSimpArgs false
theorem cell?_of_heap {w w' : World} {b o : Nat} (h : ∀ x, w.heap[b]? = some x → w'.heap[b]? = some x) {u : Value} (hu : w.cell? ⟨b, o, none⟩ = some u) : w'.cell? ⟨b, o, none⟩ = some u := by
  unfold World.cell? at hu ⊢
  cases hx : w.heap[b]? with
  | none => simp [hx] at hu
  | some x => rw [hx] at hu; rw [h x hx]; exact hu
theorem shape?_of_heap {w w' : World} {b : Nat} (h : ∀ x, w.heap[b]? = some x → w'.heap[b]? = some x) {e n} (hu : w.shape? b = some (e, n)) : w'.shape? b = some (e, n) := by
  unfold World.shape? at hu ⊢
  cases hx : w.heap[b]? with
  | none => simp [hx] at hu
  | some x => rw [hx] at hu; rw [h x hx]; exact hu
theorem PSim.noI {P : Program} {c : Cx} (h : PSim P c) {id B : Nat} (hφ : c.φ id = some B) (o : Nat) : ¬ c.I B o := by
  have hd := h.dom id B hφ
  obtain ⟨blk, hb⟩ : ∃ x, c.m[id]? = some x := ⟨_, List.getElem?_eq_getElem hd⟩
  have hk := h.blk id blk B hb hφ
  cases blk with
  | flat e s r p => exact hk.noI o
  | gen e s r p => exact hk.noI o
  | loop st pe ts ps a b p => exact hk.noI o
theorem PSim.lt {P : Program} {c : Cx} (h : PSim P c) {id B : Nat} (hφ : c.φ id = some B) : B < c.w.heap.size := by
  have hd := h.dom id B hφ
  obtain ⟨blk, hb⟩ : ∃ x, c.m[id]? = some x := ⟨_, List.getElem?_eq_getElem hd⟩
  have hk := h.blk id blk B hb hφ
  cases blk with
  | flat e s r p => obtain ⟨arr, fr, cap, us, rest, h1, _⟩ := hk.ex; exact heap_lt h1
  | gen e s r p => obtain ⟨arr, fr, cap, us, rest, h1, _⟩ := hk.ex; exact heap_lt h1
  | loop st pe ts ps a b p => obtain ⟨L, h1, _⟩ := hk.ex; exact heap_lt h1
theorem CellsOK.mono {c c' : Cx} (h : St c c') (hI : c'.I = c.I) {B : Nat} {b : Blk} (hh : ∀ x, c.w.heap[B]? = some x → c'.w.heap[B]? = some x) (k : CellsOK c B b) : CellsOK c' B b := by
  obtain ⟨arr, fr, cap, us, rest, h1, h2, h3, h4, h5, h6⟩ := k.ex
  exact ⟨k.pos, ⟨arr, fr, cap, us, rest, hh _ h1, h2, h3, h4, RelVs.mono h _ _ h5, h6⟩, k.rows, by rw [hI]; exact k.noI, k.plain⟩
theorem BlkOK.mono {P : Program} {c c' : Cx} (h : St c c') (hI : c'.I = c.I) {B : Nat} {b : Blk} (hh : ∀ x, c.w.heap[B]? = some x → c'.w.heap[B]? = some x) (k : BlkOK P c B b) : BlkOK P c' B b := by
  cases b with
  | flat e s r p => exact CellsOK.mono h hI hh k
  | gen e s r p => exact CellsOK.mono h hI hh k
  | loop st pe ts ps a b p =>
    obtain ⟨L, h1, h2, h3, h4, h5, h6, h7⟩ := k.ex
    exact ⟨⟨L, hh _ h1, h2, RelVs.mono h _ _ h3, h4, h5, h6, h7⟩, by rw [hI]; exact k.noI⟩
def updφ (φ : Nat → Option Nat) (i : Nat) (B : Nat) : Nat → Option Nat := fun j => if j = i then some B else φ j
def cxSet (c : Cx) (id : Nat) (b' : Blk) (B' : Nat) (w' : World) : Cx := ⟨updφ c.φ id B', c.m.set id b', c.I, w'⟩
theorem nlF {b b' : Blk} (h : b.isLoop = false) : b.isLoop = true → b'.isLoop = true ∧ b'.len = b.len := fun hl => by rw [h] at hl; cases hl
structure Turn (P : Program) (c : Cx) (id : Nat) (b b' : Blk) (B B' : Nat) (w' : World) : Prop where
  sim : PSim P c
  hb : c.m[id]? = some b
  hφ : c.φ id = some B
  prot : b.prot = false
  prot' : b'.prot = false
  nl : b.isLoop = true → b'.isLoop = true ∧ b'.len = b.len
  size : b'.size = b.size
  len : b.len ≤ b'.len
  eq : b'.len = b.len → B' = B ∧ ∀ e n, c.w.shape? B = some (e, n) → w'.shape? B = some (e, n)
  place : B' = B ∨ c.w.heap.size ≤ B'
  other : ∀ k o, k ≠ B' → c.w.heap[k]? = some o → w'.heap[k]? = some o
  grows : c.w.heap.size ≤ w'.heap.size
  os : w'.os = c.w.os
  tape : w'.tape = c.w.tape
  output : w'.output = c.w.output
theorem Turn.st {P c id b b' B B' w'} (h : Turn P c id b b' B B' w') : St c (cxSet c id b' B' w') := by
  have hid : id < c.m.length := h.sim.dom id B h.hφ
  refine ⟨fun x o hI => ⟨hI, fun u hu => ?_⟩, fun i blk hi => ?_⟩
  · refine cell?_of_heap (fun y hy => h.other x y (fun e => ?_) hy) hu
    subst e
    rcases h.place with e | e
    · subst e; exact h.sim.noI h.hφ o hI
    · have := h.sim.imm _ _ hI; omega
  · by_cases e : i = id
    · subst e
      rw [h.hb] at hi; cases hi
      refine ⟨b', by simp [cxSet, List.getElem?_set, hid], h.len, h.nl, fun he => ⟨h.size, fun C hC => ?_⟩⟩
      rw [h.hφ] at hC; cases hC
      obtain ⟨e1, e2⟩ := h.eq he
      exact ⟨by simp [cxSet, updφ, e1], e2⟩
    · refine ⟨blk, by simp [cxSet, List.getElem?_set, Ne.symm e, hi], Nat.le_refl _, fun hl => ⟨hl, rfl⟩, fun _ => ⟨rfl, fun C hC => ⟨by simp [cxSet, updφ, e, hC], fun e' n hs => ?_⟩⟩⟩
      refine shape?_of_heap (fun y hy => h.other C y (fun ec => ?_) hy) hs
      subst ec
      rcases h.place with e3 | e3
      · subst e3; exact e (h.sim.inj i id _ hC h.hφ)
      · have := h.sim.lt hC; omega
theorem Turn.post {P c id b b' B B' w'} (h : Turn P c id b b' B B' w') (hc : BlkOK P (cxSet c id b' B' w') B' b') : Post P c (cxSet c id b' B' w') := by
  have hid : id < c.m.length := h.sim.dom id B h.hφ
  have hst := h.st
  refine ⟨hst, ⟨fun i blk C hi hC => ?_, fun i j C hi hj => ?_, fun i C hi => ?_, fun x o hI => Nat.lt_of_lt_of_le (h.sim.imm x o hI) h.grows⟩, ⟨h.grows, h.os, h.tape, h.output, fun x o hx hw => ?_, fun i C hi => ?_, fun i blk hi => ?_, fun i blk hi hpr => ?_, fun i C _ hi _ _ => by
    by_cases e : i = id
    · exact ⟨B, by rw [e]; exact h.hφ⟩
    · exact ⟨C, by simpa [cxSet, updφ, e] using hi⟩⟩, rfl⟩
  · by_cases e : i = id
    · subst e
      simp [cxSet, List.getElem?_set, hid] at hi
      simp [cxSet, updφ] at hC
      subst hi; subst hC; exact hc
    · have hi' : c.m[i]? = some blk := by simpa [cxSet, List.getElem?_set, Ne.symm e] using hi
      have hC' : c.φ i = some C := by simpa [cxSet, updφ, e] using hC
      refine BlkOK.mono hst rfl (fun y hy => h.other C y (fun ec => ?_) hy) (h.sim.blk i blk C hi' hC')
      subst ec
      rcases h.place with e3 | e3
      · subst e3; exact e (h.sim.inj i id _ hC' h.hφ)
      · have := h.sim.lt hC'; omega
  · by_cases ei : i = id <;> by_cases ej : j = id
    · omega
    · simp [cxSet, updφ, ei] at hi; simp [cxSet, updφ, ej] at hj
      subst hi
      rcases h.place with e3 | e3
      · subst e3; rw [ei]; exact (h.sim.inj j id _ hj h.hφ).symm
      · have := h.sim.lt hj; omega
    · simp [cxSet, updφ, ei] at hi; simp [cxSet, updφ, ej] at hj
      subst hj
      rcases h.place with e3 | e3
      · subst e3; rw [ej]; exact h.sim.inj i id _ hi h.hφ
      · have := h.sim.lt hi; omega
    · simp [cxSet, updφ, ei] at hi; simp [cxSet, updφ, ej] at hj
      exact h.sim.inj i j C hi hj
  · by_cases e : i = id
    · subst e; simpa [cxSet] using hid
    · simp [cxSet, updφ, e] at hi; simpa [cxSet] using h.sim.dom i C hi
  · refine h.other x o (fun e => ?_) hx
    subst e
    rcases h.place with e3 | e3
    · subst e3; exact hw ⟨id, b, h.hb, h.prot, h.hφ⟩
    · have := heap_lt hx; omega
  · by_cases e : i = id
    · subst e; simp [cxSet, updφ] at hi; subst hi
      rcases h.place with e3 | e3
      · subst e3; exact .inl h.hφ
      · exact .inr e3
    · simp [cxSet, updφ, e] at hi; exact .inl hi
  · by_cases e : i = id
    · subst e; rw [h.hb] at hi; cases hi
      exact ⟨b', by simp [cxSet, List.getElem?_set, hid], by rw [h.prot, h.prot']⟩
    · exact ⟨blk, by simp [cxSet, List.getElem?_set, Ne.symm e, hi], rfl⟩
  · by_cases e : i = id
    · subst e; rw [h.hb] at hi; cases hi
      rw [h.prot] at hpr; cases hpr
    · exact ⟨blk, by simp [cxSet, List.getElem?_set, Ne.symm e, hi], rfl, rfl, rfl⟩
def cxNew (c : Cx) (b : Blk) (w' : World) : Cx := ⟨updφ c.φ c.m.length c.w.heap.size, c.m ++ [b], c.I, w'⟩
structure New (P : Program) (c : Cx) (b : Blk) (w' : World) : Prop where
  sim : PSim P c
  other : ∀ (k : Nat) (o : Obj), c.w.heap[k]? = some o → w'.heap[k]? = some o
  grows : c.w.heap.size < w'.heap.size
  os : w'.os = c.w.os
  tape : w'.tape = c.w.tape
  output : w'.output = c.w.output
theorem New.st {P c b w'} (h : New P c b w') : St c (cxNew c b w') := by
  refine ⟨fun x o hI => ⟨hI, fun u hu => cell?_of_heap (h.other x) hu⟩, fun i blk hi => ?_⟩
  have hlt : i < c.m.length := (List.getElem?_eq_some_iff.1 hi).1
  refine ⟨blk, by simp [cxNew, List.getElem?_append_left hlt, hi], Nat.le_refl _, fun hl => ⟨hl, rfl⟩, fun _ => ⟨rfl, fun C hC => ⟨by simp [cxNew, updφ, Nat.ne_of_lt hlt, hC], fun e' n hs => shape?_of_heap (h.other C) hs⟩⟩⟩
theorem New.post {P c b w'} (h : New P c b w') (hc : BlkOK P (cxNew c b w') c.w.heap.size b) : Post P c (cxNew c b w') := by
  have hst := h.st
  have hn : ∀ i C, c.φ i = some C → i ≠ c.m.length := fun i C hi => Nat.ne_of_lt (h.sim.dom i C hi)
  refine ⟨hst, ⟨fun i blk C hi hC => ?_, fun i j C hi hj => ?_, fun i C hi => ?_, fun x o hI => Nat.lt_trans (h.sim.imm x o hI) h.grows⟩, ⟨Nat.le_of_lt h.grows, h.os, h.tape, h.output, fun x o hx hw => h.other x o hx, fun i C hi => ?_, fun i blk hi => ?_, fun i blk hi hpr => ?_, fun i C blk hi hb _ => ⟨C, by simpa [cxNew, updφ, Nat.ne_of_lt (List.getElem?_eq_some_iff.1 hb).1] using hi⟩⟩, rfl⟩
  · by_cases e : i = c.m.length
    · subst e
      simp [cxNew] at hi
      simp [cxNew, updφ] at hC
      subst hi; subst hC; exact hc
    · have hC' : c.φ i = some C := by simpa [cxNew, updφ, e] using hC
      have hlt := h.sim.dom i C hC'
      have hi' : c.m[i]? = some blk := by simpa [cxNew, List.getElem?_append_left hlt] using hi
      exact BlkOK.mono hst rfl (h.other C) (h.sim.blk i blk C hi' hC')
  · by_cases ei : i = c.m.length <;> by_cases ej : j = c.m.length
    · omega
    · simp [cxNew, updφ, ei] at hi; simp [cxNew, updφ, ej] at hj
      have := h.sim.lt hj; omega
    · simp [cxNew, updφ, ei] at hi; simp [cxNew, updφ, ej] at hj
      have := h.sim.lt hi; omega
    · simp [cxNew, updφ, ei] at hi; simp [cxNew, updφ, ej] at hj
      exact h.sim.inj i j C hi hj
  · by_cases e : i = c.m.length
    · subst e; simp [cxNew]
    · simp [cxNew, updφ, e] at hi; have := h.sim.dom i C hi; simp [cxNew]; omega
  · by_cases e : i = c.m.length
    · subst e; simp [cxNew, updφ] at hi; subst hi; exact .inr (Nat.le_refl _)
    · simp [cxNew, updφ, e] at hi; exact .inl hi
  · have hlt : i < c.m.length := (List.getElem?_eq_some_iff.1 hi).1
    exact ⟨blk, by simp [cxNew, List.getElem?_append_left hlt, hi], rfl⟩
  · have hlt : i < c.m.length := (List.getElem?_eq_some_iff.1 hi).1
    exact ⟨blk, by simp [cxNew, List.getElem?_append_left hlt, hi], rfl, rfl, rfl⟩
def cxPad (c : Cx) (b : Blk) : Cx := ⟨c.φ, c.m ++ [b], c.I, c.w⟩
theorem pad_post {P : Program} {c : Cx} (hs : PSim P c) (b : Blk) : Post P c (cxPad c b) := by
  have hlt : ∀ {i : Nat} {blk : Blk}, c.m[i]? = some blk → (c.m ++ [b])[i]? = some blk := fun {i blk} h => by
    rw [List.getElem?_append_left (List.getElem?_eq_some_iff.1 h).1]; exact h
  have hst : St c (cxPad c b) := ⟨KeepI.refl _ _, fun i blk hi => ⟨blk, hlt hi, Nat.le_refl _, fun h => ⟨h, rfl⟩, fun _ => ⟨rfl, fun C hC => ⟨hC, fun _ _ h => h⟩⟩⟩⟩
  refine ⟨hst, ⟨fun i blk C hi hC => ?_, hs.inj, fun i C hi => ?_, hs.imm⟩, ⟨Nat.le_refl _, rfl, rfl, rfl, fun _ _ h _ => h, fun _ _ h => .inl h, fun i blk hi => ⟨blk, hlt hi, rfl⟩, fun i blk hi _ => ⟨blk, hlt hi, rfl, rfl, rfl⟩, fun _ C _ h _ _ => ⟨C, h⟩⟩, rfl⟩
  · have hd := hs.dom i C hC
    have hi' : c.m[i]? = some blk := by
      have : (c.m ++ [b])[i]? = some blk := hi
      rwa [List.getElem?_append_left hd] at this
    exact BlkOK.mono hst rfl (fun _ h => h) (hs.blk i blk C hi' hC)
  · have := hs.dom i C hi; show i < (c.m ++ [b]).length; simp; omega
structure Fill (P : Program) (c : Cx) (id : Nat) (b b' : Blk) (w' : World) : Prop where
  sim : PSim P c
  hb : c.m[id]? = some b
  hφ : c.φ id = none
  prot : b.prot = false
  prot' : b'.prot = false
  nl : b.isLoop = false
  len : b.len < b'.len
  other : ∀ (k : Nat) (o : Obj), c.w.heap[k]? = some o → w'.heap[k]? = some o
  grows : c.w.heap.size < w'.heap.size
  os : w'.os = c.w.os
  tape : w'.tape = c.w.tape
  output : w'.output = c.w.output
theorem Fill.st {P c id b b' w'} (h : Fill P c id b b' w') : St c (cxSet c id b' c.w.heap.size w') := by
  have hid : id < c.m.length := (List.getElem?_eq_some_iff.1 h.hb).1
  refine ⟨fun x o hI => ⟨hI, fun u hu => cell?_of_heap (h.other x) hu⟩, fun i blk hi => ?_⟩
  by_cases e : i = id
  · subst e
    rw [h.hb] at hi; cases hi
    refine ⟨b', by simp [cxSet, List.getElem?_set, hid], Nat.le_of_lt h.len, fun hl => ?_, fun he => ?_⟩
    · rw [h.nl] at hl; cases hl
    · have := h.len; omega
  · exact ⟨blk, by simp [cxSet, List.getElem?_set, Ne.symm e, hi], Nat.le_refl _, fun hl => ⟨hl, rfl⟩, fun _ => ⟨rfl, fun C hC => ⟨by simp [cxSet, updφ, e, hC], fun e' n hs => shape?_of_heap (h.other C) hs⟩⟩⟩
theorem Fill.post {P c id b b' w'} (h : Fill P c id b b' w') (hc : BlkOK P (cxSet c id b' c.w.heap.size w') c.w.heap.size b') : Post P c (cxSet c id b' c.w.heap.size w') := by
  have hst := h.st
  have hid : id < c.m.length := (List.getElem?_eq_some_iff.1 h.hb).1
  refine ⟨hst, ⟨fun i blk C hi hC => ?_, fun i j C hi hj => ?_, fun i C hi => ?_, fun x o hI => Nat.lt_trans (h.sim.imm x o hI) h.grows⟩, ⟨Nat.le_of_lt h.grows, h.os, h.tape, h.output, fun x o hx hw => h.other x o hx, fun i C hi => ?_, fun i blk hi => ?_, fun i blk hi hpr => ?_, fun i C blk hi hb hp => ?_⟩, rfl⟩
  · by_cases e : i = id
    · subst e
      simp [cxSet, List.getElem?_set, hid] at hi
      simp [cxSet, updφ] at hC
      subst hi; subst hC; exact hc
    · have hi' : c.m[i]? = some blk := by simpa [cxSet, List.getElem?_set, Ne.symm e] using hi
      have hC' : c.φ i = some C := by simpa [cxSet, updφ, e] using hC
      exact BlkOK.mono hst rfl (h.other C) (h.sim.blk i blk C hi' hC')
  · by_cases ei : i = id <;> by_cases ej : j = id
    · omega
    · simp [cxSet, updφ, ei] at hi; simp [cxSet, updφ, ej] at hj
      have := h.sim.lt hj; omega
    · simp [cxSet, updφ, ei] at hi; simp [cxSet, updφ, ej] at hj
      have := h.sim.lt hi; omega
    · simp [cxSet, updφ, ei] at hi; simp [cxSet, updφ, ej] at hj
      exact h.sim.inj i j C hi hj
  · by_cases e : i = id
    · subst e; simp [cxSet]; exact hid
    · simp [cxSet, updφ, e] at hi; have := h.sim.dom i C hi; simp [cxSet]; omega
  · by_cases e : i = id
    · subst e; simp [cxSet, updφ] at hi; subst hi; exact .inr (Nat.le_refl _)
    · simp [cxSet, updφ, e] at hi; exact .inl hi
  · by_cases e : i = id
    · subst e; rw [h.hb] at hi; cases hi
      exact ⟨b', by simp [cxSet, List.getElem?_set, hid], by rw [h.prot, h.prot']⟩
    · exact ⟨blk, by simp [cxSet, List.getElem?_set, Ne.symm e, hi], rfl⟩
  · by_cases e : i = id
    · subst e; rw [h.hb] at hi; cases hi; rw [h.prot] at hpr; cases hpr
    · exact ⟨blk, by simp [cxSet, List.getElem?_set, Ne.symm e, hi], rfl, rfl, rfl⟩
  · by_cases e : i = id
    · subst e; rw [h.hb] at hb; cases hb; rw [h.prot] at hp; cases hp
    · exact ⟨C, by simpa [cxSet, updφ, e] using hi⟩
theorem New.cells {P : Program} {c : Cx} {b : Blk} {w' : World} {us rest : List Value} {fr : Nat × Nat} {cap : Nat} (h : New P c b w')
    (hb : b.isLoop = false) (hw : w'.heap[c.w.heap.size]? = some (.cells ⟨us ++ rest⟩ b.elem fr)) (hfr : fr.1 = fr.2 ∨ us.length + rest.length ≤ fr.1)
    (hpos : 0 < b.size) (hcap : us.length + rest.length = cap * b.size) (hus : RelVs c b.vrows.flatten us) (h1 : ∀ u, u ∈ us → OneC u)
    (hrows : ∀ r, r ∈ b.vrows → r.length = b.size) (hpl : b.plain) : Post P c (cxNew c b w') := by
  refine h.post ?_
  have hk : CellsOK (cxNew c b w') c.w.heap.size b :=
    ⟨hpos, ⟨⟨us ++ rest⟩, fr, cap, us, rest, hw, by simpa using hfr, by simpa using hcap, rfl, RelVs.mono h.st _ _ hus, h1⟩, hrows, fun o hI => by have := h.sim.imm _ _ hI; omega, hpl⟩
  cases b with
  | flat e s r p => exact hk
  | gen e s r p => exact hk
  | loop => cases hb
theorem Fill.cells {P : Program} {c : Cx} {id : Nat} {b b' : Blk} {w' : World} {us rest : List Value} {fr : Nat × Nat} {cap : Nat} (h : Fill P c id b b' w')
    (hb : b'.isLoop = false) (hw : w'.heap[c.w.heap.size]? = some (.cells ⟨us ++ rest⟩ b'.elem fr)) (hfr : fr.1 = fr.2 ∨ us.length + rest.length ≤ fr.1)
    (hpos : 0 < b'.size) (hcap : us.length + rest.length = cap * b'.size) (hus : RelVs c b'.vrows.flatten us) (h1 : ∀ u, u ∈ us → OneC u)
    (hrows : ∀ r, r ∈ b'.vrows → r.length = b'.size) (hpl : b'.plain) : Post P c (cxSet c id b' c.w.heap.size w') := by
  refine h.post ?_
  have hk : CellsOK (cxSet c id b' c.w.heap.size w') c.w.heap.size b' :=
    ⟨hpos, ⟨⟨us ++ rest⟩, fr, cap, us, rest, hw, by simpa using hfr, by simpa using hcap, rfl, RelVs.mono h.st _ _ hus, h1⟩, hrows, fun o hI => by have := h.sim.imm _ _ hI; omega, hpl⟩
  cases b' with
  | flat e s r p => exact hk
  | gen e s r p => exact hk
  | loop => cases hb
theorem new_alloc {P : Program} {c : Cx} (h : PSim P c) (b : Blk) (o : Obj) : New P c b (c.w.alloc o) :=
  ⟨h, fun k x hk => by have := heap_lt hk; simp only [World.alloc]; rw [Array.getElem?_push_lt (by omega)]; simpa using (Array.getElem?_eq_some_iff.1 hk).2, by simp, rfl, rfl, rfl⟩
theorem heap_alloc_self (w : World) (o : Obj) : (w.alloc o).heap[w.heap.size]? = some o := by unfold World.alloc; simp
theorem flatten_at {α : Type} {s : Nat} : ∀ {l : List (List α)}, (∀ r, r ∈ l → r.length = s) → ∀ (i j : Nat) (r : List α) (x : α), l[i]? = some r → r[j]? = some x → l.flatten[i * s + j]? = some x
  | [], _, i, j, r, x, h, _ => by simp at h
  | c :: l, hl, i, j, r, x, h, hx => by
    have hc := hl c (by simp)
    cases i with
    | zero =>
      simp at h; subst h
      have : j < c.length := (List.getElem?_eq_some_iff.1 hx).1
      simp only [List.flatten_cons, Nat.zero_mul, Nat.zero_add]; rw [List.getElem?_append_left this, hx]
    | succ i =>
      have := flatten_at (fun r hr => hl r (List.mem_cons_of_mem _ hr)) i j r x (by simpa using h) hx
      simp only [List.flatten_cons]
      rw [List.getElem?_append_right (by rw [hc, Nat.add_mul]; omega), hc, show (i + 1) * s + j - s = i * s + j by rw [Nat.add_mul]; omega]
      exact this
theorem flatten_len {α : Type} {s : Nat} : ∀ {l : List (List α)}, (∀ r, r ∈ l → r.length = s) → l.flatten.length = l.length * s
  | [], _ => by simp
  | c :: l, hl => by
    simp only [List.flatten_cons, List.length_append, List.length_cons]
    rw [flatten_len (fun r hr => hl r (List.mem_cons_of_mem _ hr)), hl c (by simp), Nat.add_mul]; omega
theorem CellsOK.cell {c : Cx} {B : Nat} {b : Blk} (h : CellsOK c B b) (k : Nat) (x : V) (hx : b.vrows.flatten[k]? = some x) :
    ∃ u, c.w.cell? ⟨B, k, none⟩ = some u ∧ RelV c x u ∧ OneC u ∧ c.w.frozen? ⟨B, k, none⟩ = false := by
  obtain ⟨arr, fr, cap, us, rest, h1, h2, h3, h4, h5, h6⟩ := h.ex
  obtain ⟨u, hu, hr⟩ := RelVs.at h5 k x hx
  have hk : k < us.length := (List.getElem?_eq_some_iff.1 hu).1
  have ha : arr[k]? = some u := by
    have : arr.toList[k]? = some u := by rw [h4, List.getElem?_append_left hk, hu]
    simpa using this
  have hka : k < arr.size := (Array.getElem?_eq_some_iff.1 ha).1
  refine ⟨u, by simp [World.cell?, h1, ha], hr, h6 u (List.mem_of_getElem? hu), ?_⟩
  obtain ⟨lo, hi⟩ := fr
  simp only [World.frozen?, h1]
  simp only at h2
  rw [Bool.and_eq_false_iff]
  simp
  omega
theorem row_vrows {b : Blk} {n r : Nat} {cs : List V} (h : b.row? n r = some cs) : n = b.len ∧ b.vrows[r]? = some cs ∧ b.isLoop = false := by
  cases b with
  | flat e s rows p =>
    simp only [Blk.row?] at h
    split at h
    · rename_i hn; refine ⟨hn, ?_, rfl⟩; simpa [Blk.vrows] using h
    · cases h
  | gen e s rows p =>
    simp only [Blk.row?] at h
    split at h
    · rename_i hn; exact ⟨hn, h, rfl⟩
    · cases h
  | loop => simp [Blk.row?] at h
theorem PSim.cellsOK {P : Program} {c : Cx} (h : PSim P c) {id B : Nat} {b : Blk} (hb : c.m[id]? = some b) (hφ : c.φ id = some B) (hl : b.isLoop = false) : CellsOK c B b := by
  have := h.blk id b B hb hφ
  cases b with
  | flat => exact this
  | gen => exact this
  | loop => cases hl
end Go.Proofs.YtlenjioebdmooaaDoor.Den

namespace Go.Proofs.YtlenjioebdmooaaDoor.Den
open Go
set_option linter.unusedVariables false
set_option linter.unusedSimpArgs false
section
variable {P : Program}
theorem sizeOf_run {t : TypeId} {s : Nat} (h : sizeOfT P t = some s) (w : World) : (sizeOf t).run P w = .ok s w := by
  unfold sizeOfT at h
  cases hi : P.info? t with
  | none => simp [hi] at h
  | some i => simp [hi] at h; simp [sizeOf, typeInfo, hi, h]
theorem isAgg_run {t : TypeId} {g : Bool} (h : aggOf P t = some g) (w : World) : (isAgg t).run P w = .ok g w := by
  unfold aggOf at h
  cases hu : P.underlying t with
  | none => simp [hu] at h
  | some d => rw [hu] at h; cases d <;> simp at h <;> subst h <;> simp [isAgg, run_underlying hu]
theorem addr_add (b o j : Nat) : (⟨b, o, none⟩ : Addr).add j = ⟨b, o + j, none⟩ := by unfold Addr.add; split <;> simp_all
theorem D.ofConst_rel {v : Value} {x : D} (h : D.ofConst v = some x) (I : Imm) (w : World) : RelD I w x v ∧ OneC v := by
  unfold D.ofConst at h
  split at h <;> simp at h <;> subst h <;> simp [RelD, OneC]
theorem constCells_rel {c : Cx} : ∀ {l : List Value} {ds : List D}, constCells l = some ds → RelVs c (ds.map V.d) l ∧ ∀ u, u ∈ l → OneC u
  | [], ds, h => by simp [constCells] at h; subst h; simp [RelVs]
  | v :: r, ds, h => by
    simp only [constCells] at h
    cases h1 : D.ofConst v with
    | none => simp [h1] at h
    | some d =>
      cases h2 : constCells r with
      | none => simp [h1, h2] at h
      | some l =>
        simp [h1, h2] at h; subst h
        have r1 := D.ofConst_rel h1 c.I c.w
        have r2 := constCells_rel (c := c) h2
        simp only [List.map_cons, RelVs, RelV]
        refine ⟨⟨v, r, rfl, r1.1, r2.1⟩, fun u hu => ?_⟩
        rcases List.mem_cons.1 hu with rfl | hu
        · exact r1.2
        · exact r2.2 u hu
theorem V.ofConst_rel {v : Value} {x : V} (h : V.ofConst v = some x) (c : Cx) : RelV c x v := by
  unfold V.ofConst at h
  split at h
  · rename_i cs
    cases h1 : constCells cs.toList with
    | none => simp [h1] at h
    | some l =>
      simp [h1] at h; subst h
      have := constCells_rel (c := c) h1
      simp only [RelV]
      exact ⟨cs.toList, by simp, this.1, this.2⟩
  · rename_i vs
    split at h
    · simp at h; subst h
      rename_i hs
      simp only [RelV]
      exact ⟨[], by congr 1; apply Array.ext'; simpa using hs, by simp [RelVs]⟩
    · cases h
  · cases h1 : D.ofConst v with
    | none => simp [h1] at h
    | some d => simp [h1] at h; subst h; simp only [RelV]; exact (D.ofConst_rel h1 c.I c.w).1
theorem zeroOf_run {t : TypeId} {z : List D} (h : zeroOf P t = some z) (w : World) : ∃ zv, (zeroValue t).run P w = .ok zv w ∧ constCells zv.cells.toList = some z := by
  unfold zeroOf at h
  cases hi : P.info? t with
  | none => simp [hi] at h
  | some i =>
    cases hz : i.zero with
    | none => simp [hi, hz] at h
    | some zv => simp [hi, hz] at h; exact ⟨zv, by simp [zeroValue, typeInfo, hi, hz], h⟩
def TRel (c : Cx) (t : Nat → V) (a : Act) : Prop := ∀ j, RelV c (t j) (a.tmps.getD j undef)
def GlOK (E : Env) (c : Cx) : Prop := (∀ g cs, E.gl g = some cs → RelD c.I c.w (.rp cs) (.pointer (some ⟨g, 0, none⟩))) ∧ ∀ p, p ∈ E.gw → (∃ vs e fr, c.w.heap[p.1]? = some (.cells vs e fr) ∧ p.2 vs) ∧ ∀ id, c.φ id ≠ some p.1
theorem GlOK.keep {E : Env} {c c' : Cx} (h : KeepI c.I c'.I c.w c'.w) (hh : ∀ g vs e fr, (∀ id, c.φ id ≠ some g) → c.w.heap[g]? = some (.cells vs e fr) → c'.w.heap[g]? = some (.cells vs e fr))
    (hf : ∀ id B, c'.φ id = some B → (∃ j, c.φ j = some B) ∨ c.w.heap.size ≤ B) (r : GlOK E c) : GlOK E c' := by
  refine ⟨fun g cs hg => RelD.keep h _ _ (r.1 g cs hg), fun p hp => ?_⟩
  obtain ⟨⟨vs, e, fr, h1, h2⟩, h3⟩ := r.2 p hp
  refine ⟨⟨vs, e, fr, hh _ _ _ _ h3 h1, h2⟩, fun id hid => ?_⟩
  rcases hf id _ hid with ⟨j, hj⟩ | hb
  · exact h3 j hj
  · have := heap_lt h1; omega
theorem undef_rel (c : Cx) : RelV c (.tup []) undef := by simp only [RelV]; exact ⟨[], rfl, by simp [RelVs]⟩
theorem TRel.mono {c c' : Cx} (h : St c c') {t a} (r : TRel c t a) : TRel c' t a := fun j => RelV.mono h _ _ (r j)
theorem GlOK.mono {P : Program} {E : Env} {c c' : Cx} (h : Post P c c') (r : GlOK E c) : GlOK E c' :=
  r.keep h.st.keep (fun g vs e fr hn hg => h.keeps.heap g _ hg fun ⟨id, _, _, _, hid⟩ => hn id hid) (fun id B hB => (h.keeps.fresh id B hB).imp (fun h => ⟨id, h⟩) (fun h => h))
theorem ev_rel {E : Env} {c : Cx} {t : Nat → V} {a : Act} (ht : TRel c t a) (hg : GlOK E c) {x : Operand} {o : O} (h : cO x = some o) : RelV c (ev E t o) (a.eval x) := by
  cases x with
  | tmp i => simp [cO] at h; subst h; exact ht i
  | const v =>
    simp [cO] at h
    obtain ⟨y, hy, rfl⟩ := h
    exact V.ofConst_rel hy c
  | global g =>
    simp [cO] at h; subst h
    simp only [ev, Act.eval]
    cases hgl : E.gl g with
    | none => simp only [RelV]
    | some cs => simpa only [RelV] using hg.1 g cs hgl
  | func f =>
    simp [cO] at h; subst h
    simp only [ev, Act.eval, RelV]
    exact ⟨[], [], rfl, by simp [RelVs], by simp [RelVs]⟩
theorem evs_rel {E : Env} {c : Cx} {t : Nat → V} {a : Act} (ht : TRel c t a) (hg : GlOK E c) : ∀ {xs : List Operand} {os : List O}, cOs xs = some os → RelVs c (evs E t os) (xs.map a.eval)
  | [], os, h => by simp [cOs] at h; subst h; simp [evs, RelVs]
  | x :: r, os, h => by
    simp only [cOs] at h
    cases h1 : cO x with
    | none => simp [h1] at h
    | some o =>
      cases h2 : cOs r with
      | none => simp [h1, h2] at h
      | some l =>
        simp [h1, h2] at h; subst h
        simp only [evs, List.map_cons, RelVs]
        exact ⟨_, _, rfl, ev_rel ht hg h1, evs_rel ht hg h2⟩
structure Seen (c : Cx) (b o : Nat) (cells : List V) (us : List Value) : Prop where
  at_ : ∀ j u, us[j]? = some u → c.w.cell? ⟨b, o + j, none⟩ = some u
  rel : RelVs c cells us
  one : ∀ u, u ∈ us → OneC u
theorem Held.seen {c : Cx} {b : Nat} : ∀ {l : List D} {o : Nat}, Held c.I c.w b o l → ∃ us, Seen c b o (l.map V.d) us
  | [], o, _ => ⟨[], by simp, by simp [RelVs], by simp⟩
  | x :: r, o, h => by
    simp only [Held] at h
    obtain ⟨⟨u, h1, h2, h3, h4⟩, h5⟩ := h
    obtain ⟨us, g⟩ := Held.seen h5
    refine ⟨u :: us, fun j y hy => ?_, by simp only [List.map_cons, RelVs, RelV]; exact ⟨u, us, rfl, h4, g.rel⟩, fun y hy => ?_⟩
    · cases j with
      | zero => simp at hy; subst hy; simpa using h1
      | succ j => have := g.at_ j y (by simpa using hy); rw [show o + (j + 1) = o + 1 + j by omega]; exact this
    · rcases List.mem_cons.1 hy with rfl | hy
      · exact h3
      · exact g.one y hy
theorem Seen.drop {c : Cx} {b o : Nat} {cells us} (h : Seen c b o cells us) (k : Nat) : Seen c b (o + k) (cells.drop k) (us.drop k) := by
  refine ⟨fun j u hu => ?_, RelVs.drop k h.rel, fun u hu => h.one u (List.mem_of_mem_drop hu)⟩
  have := h.at_ (k + j) u (by simpa using hu)
  rw [show o + k + j = o + (k + j) by omega]; exact this
theorem Seen.take {c : Cx} {b o : Nat} {cells us} (h : Seen c b o cells us) (k : Nat) : Seen c b o (cells.take k) (us.take k) := by
  refine ⟨fun j u hu => ?_, RelVs.take k h.rel, fun u hu => h.one u (List.mem_of_mem_take hu)⟩
  rw [List.getElem?_take] at hu
  split at hu
  · exact h.at_ j u hu
  · cases hu
theorem CellsOK.seen {c : Cx} {B : Nat} {b : Blk} (h : CellsOK c B b) : ∃ us, Seen c B 0 b.vrows.flatten us := by
  obtain ⟨arr, fr, cap, us, rest, h1, h2, h3, h4, h5, h6⟩ := h.ex
  refine ⟨us, fun j u hu => ?_, h5, h6⟩
  have hk : j < us.length := (List.getElem?_eq_some_iff.1 hu).1
  have ha : arr[j]? = some u := by
    have : arr.toList[j]? = some u := by rw [h4, List.getElem?_append_left hk, hu]
    simpa using this
  simp [World.cell?, h1, ha]
theorem CellsOK.seenRow {c : Cx} {B : Nat} {b : Blk} (h : CellsOK c B b) {r : Nat} {cs : List V} (hr : b.vrows[r]? = some cs) : ∃ us, Seen c B (r * b.size) cs us := by
  obtain ⟨us, hs⟩ := h.seen
  have hd := (hs.drop (r * b.size)).take b.size
  rw [Nat.zero_add] at hd
  have e : (b.vrows.flatten.drop (r * b.size)).take b.size = cs := by
    have hl := h.rows
    have hcs : cs.length = b.size := hl cs (List.mem_of_getElem? hr)
    apply List.ext_getElem?
    intro j
    rw [List.getElem?_take]
    split
    · rename_i hj
      rw [List.getElem?_drop]
      have hj' : j < cs.length := by omega
      rw [flatten_at hl r j cs cs[j] hr (List.getElem?_eq_getElem hj'), List.getElem?_eq_getElem hj']
    · rename_i hj
      exact (List.getElem?_eq_none (by omega)).symm
  rw [e] at hd
  exact ⟨_, hd⟩
theorem loadVar_agg {c : Cx} {t : TypeId} {b o : Nat} {cells us} (hg : aggOf P t = some true) (hz : sizeOfT P t = some cells.length) (h : Seen c b o cells us) :
    (loadVar t ⟨b, o, none⟩).run P c.w = .ok (.agg ⟨us⟩) c.w := by
  have hl := run_loadCells_list (P := P) c.w ⟨b, o, none⟩ us (fun j v hv => by rw [addr_add]; exact h.at_ j v hv)
  rw [h.rel.len] at hl
  simp [loadVar, isAgg_run hg, sizeOf_run hz, hl]
theorem loadVar_one {c : Cx} {t : TypeId} {b o : Nat} {u : Value} (hg : aggOf P t = some false) (h : c.w.cell? ⟨b, o, none⟩ = some u) :
    (loadVar t ⟨b, o, none⟩).run P c.w = .ok u c.w := by
  simp [loadVar, isAgg_run hg, h]
theorem part_load {c : Cx} {t : TypeId} {b o : Nat} {cells us} {g : Bool} {size off : Nat} {v : V} (hg : aggOf P t = some g) (hz : sizeOfT P t = some size) (h : Seen c b o cells us)
    (hp : part g cells off size = some v) : ∃ u, (loadVar t ⟨b, o + off, none⟩).run P c.w = .ok u c.w ∧ RelV c v u := by
  cases g with
  | true =>
    simp only [part, if_true, seg] at hp
    split at hp
    · rename_i hle
      simp at hp; subst hp
      have hd := (h.drop off).take size
      have hlen : ((cells.drop off).take size).length = size := by simp; omega
      exact ⟨_, loadVar_agg hg (by rw [hlen]; exact hz) hd, by simp only [RelV]; exact ⟨_, rfl, hd.rel, hd.one⟩⟩
    · simp at hp
  | false =>
    simp only [part] at hp
    obtain ⟨u, hu, hr⟩ := h.rel.at off v (by simpa using hp)
    exact ⟨u, loadVar_one hg (h.at_ off u hu), hr⟩
theorem so_false {c : Cx} {id n : Nat} {v : Value} (h : RelV c (.so false id n) v) : RelV c (.sl id n 0 n) v := by simp only [RelV] at h ⊢; exact h
theorem of_so_false {c : Cx} {id n : Nat} {v : Value} (h : RelV c (.sl id n 0 n) v) : RelV c (.so false id n) v := by simp only [RelV] at h ⊢; exact h
theorem rowsOf_so {m : Mem} {b : Bool} {id n : Nat} {rows : List (List V)} (h : rowsOf m (.so b id n) = some rows) : rowsOf m (.sl id n 0 n) = some rows ∧ rows.length = n := by
  simp only [rowsOf] at h ⊢
  obtain ⟨blk, hb, h⟩ := Option.bind_eq_some_iff.1 h
  rw [hb, Option.bind_some]
  cases blk with
  | flat e s rs p =>
    simp only at h ⊢
    split at h
    · rename_i hn; cases h; subst hn; simp
    · cases h
  | gen e s rs p =>
    simp only at h ⊢
    split at h
    · rename_i hn; cases h; subst hn; simp
    · cases h
  | loop => cases h
theorem flatRowsOf_so {m : Mem} {b : Bool} {id n : Nat} {rows : List (List D)} (h : flatRowsOf m (.so b id n) = some rows) : flatRowsOf m (.sl id n 0 n) = some rows ∧ rows.length = n := by
  simp only [flatRowsOf] at h ⊢
  obtain ⟨blk, hb, h⟩ := Option.bind_eq_some_iff.1 h
  rw [hb, Option.bind_some]
  cases blk with
  | flat e s rs p =>
    simp only at h ⊢
    split at h
    · rename_i hn; cases h; subst hn; simp
    · cases h
  | gen e s rs p => cases h
  | loop => cases h
theorem rows_seen0 {c : Cx} (hs : PSim P c) {x : V} {xv : Value} (hns : ∀ b id n, x ≠ .so b id n) (hr : RelV c x xv) {rows : List (List V)} (h : rowsOf c.m x = some rows) {size : Nat} (hz : sizeOk c.m size x = true) :
    (xv = .slice none 0 0 ∧ rows = []) ∨ ∃ b o sp cap us, xv = .slice (some ⟨b, o, sp⟩) rows.length cap ∧ (∀ j v, us[j]? = some v → c.w.cell? ((⟨b, o, sp⟩ : Addr).add j) = some v) ∧ rows.length ≤ cap ∧ Seen c b o rows.flatten us ∧ (∀ r, r ∈ rows → r.length = size) := by
  cases x with
  | d x =>
    cases x with
    | nils => simp [rowsOf] at h; subst h; simp only [RelV, RelD] at hr; exact .inl ⟨hr, rfl⟩
    | rs fl s rs tight =>
      simp [rowsOf] at h; subst h
      simp only [RelV, RelD] at hr
      obtain ⟨hpos, hsc, hl, b, o, sp, cap, rfl, hsp, hc, htt, hh⟩ := hr
      obtain ⟨us, hu⟩ := Held.seen (HeldR.flat hl hh)
      simp [sizeOk] at hz; subst hz
      refine .inr ⟨b, o, sp, cap, us, by simp, fun j v hv => ?_, by simpa using hc, ?_, ?_⟩
      · rcases hsp with rfl | rfl
        · have := hu.rel.len; simp at this; rw [this] at hv; simp at hv
        · rw [addr_add]; exact hu.at_ j v hv
      · have e : (rs.map (List.map V.d)).flatten = rs.flatten.map V.d := by induction rs <;> simp_all
        rw [e]; exact hu
      · intro r hr'; obtain ⟨r0, h0, rfl⟩ := List.mem_map.1 hr'; simpa using hl r0 h0
    | _ => simp [rowsOf] at h
  | sl id n off len =>
    simp only [RelV] at hr
    obtain ⟨blk, ad, cap, hb, hn, rfl, hc, hr⟩ := hr
    have key : n = blk.len ∧ off + len ≤ n ∧ rows = (blk.vrows.drop off).take len ∧ blk.isLoop = false := by
      cases blk with
      | flat e s rws p =>
        simp [rowsOf, hb] at h
        obtain ⟨⟨h1, h2⟩, h3⟩ := h
        exact ⟨h1, h2, by rw [← h3]; simp [Blk.vrows], rfl⟩
      | gen e s rws p =>
        simp [rowsOf, hb] at h
        obtain ⟨⟨h1, h2⟩, h3⟩ := h
        exact ⟨h1, h2, by rw [← h3]; simp [Blk.vrows], rfl⟩
      | loop => simp [rowsOf, hb] at h
    obtain ⟨hn', ho, rfl, hl⟩ := key
    obtain ⟨B, e, hφ, rfl, hsh⟩ := hr hn'
    have hk := hs.cellsOK hb hφ hl
    have hvl : blk.vrows.length = n := by cases blk <;> simp_all [Blk.vrows, Blk.len, Blk.isLoop]
    obtain ⟨us, hu⟩ := hk.seen
    have hd := (hu.drop (off * blk.size)).take (len * blk.size)
    rw [Nat.zero_add] at hd
    have hbz : blk.size = size := by simpa [sizeOk, hb] using hz
    have e1 : ((blk.vrows.drop off).take len).flatten = (blk.vrows.flatten.drop (off * blk.size)).take (len * blk.size) := by
      have hrows := hk.rows
      have e2 : ∀ (l : List (List V)) (k : Nat), (∀ r, r ∈ l → r.length = blk.size) → (l.drop k).flatten = l.flatten.drop (k * blk.size) := by
        intro l
        induction l with
        | nil => intro k _; simp
        | cons x l ih =>
          intro k hx
          cases k with
          | zero => simp
          | succ k =>
            simp only [List.drop_succ_cons, List.flatten_cons]
            rw [ih k (fun r hr => hx r (List.mem_cons_of_mem _ hr)), Nat.add_mul, Nat.one_mul]
            have := hx x (by simp)
            rw [Nat.add_comm, ← List.drop_drop, ← this, List.drop_left]
      have e3 : ∀ (l : List (List V)) (k : Nat), (∀ r, r ∈ l → r.length = blk.size) → (l.take k).flatten = l.flatten.take (k * blk.size) := by
        intro l
        induction l with
        | nil => intro k _; simp
        | cons x l ih =>
          intro k hx
          cases k with
          | zero => simp
          | succ k =>
            simp only [List.take_succ_cons, List.flatten_cons]
            rw [ih k (fun r hr => hx r (List.mem_cons_of_mem _ hr)), Nat.add_mul, Nat.one_mul]
            have := hx x (by simp)
            rw [Nat.add_comm, ← this, List.take_length_add_append]
      rw [e3 _ _ (fun r hr => hrows r (List.mem_of_mem_drop hr)), e2 _ _ hrows]
    refine .inr ⟨B, off * blk.size, none, cap, _, ?_, fun j v hv => by rw [addr_add]; exact hd.at_ j v hv, ?_, by rw [e1]; exact hd, ?_⟩
    · have : ((blk.vrows.drop off).take len).length = len := by simp; omega
      rw [this]
    · have : ((blk.vrows.drop off).take len).length = len := by simp; omega
      rw [this]; exact hc
    · intro r hr'; rw [← hbz]; exact hk.rows r (List.mem_of_mem_drop (List.mem_of_mem_take hr'))
  | so b id n => exact (hns _ _ _ rfl).elim
  | _ => simp [rowsOf] at h
theorem rows_seen {c : Cx} (hs : PSim P c) {x : V} {xv : Value} (hr : RelV c x xv) {rows : List (List V)} (h : rowsOf c.m x = some rows) {size : Nat} (hz : sizeOk c.m size x = true) :
    (xv = .slice none 0 0 ∧ rows = []) ∨ ∃ b o sp cap us, xv = .slice (some ⟨b, o, sp⟩) rows.length cap ∧ (∀ j v, us[j]? = some v → c.w.cell? ((⟨b, o, sp⟩ : Addr).add j) = some v) ∧ rows.length ≤ cap ∧ Seen c b o rows.flatten us ∧ (∀ r, r ∈ rows → r.length = size) := by
  by_cases hx : ∃ b id n, x = .so b id n
  · obtain ⟨b, id, n, rfl⟩ := hx
    obtain ⟨h1, h2⟩ := rowsOf_so h
    cases b with
    | true =>
      simp only [RelV] at hr
      obtain ⟨rfl, rfl, _⟩ := hr
      exact .inl ⟨rfl, List.length_eq_zero_iff.1 h2⟩
    | false => exact rows_seen0 hs (by simp) (so_false hr) h1 hz
  · exact rows_seen0 hs (fun b id n e => hx ⟨b, id, n, e⟩) hr h hz
theorem load_ok {c : Cx} (hs : PSim P c) {t : TypeId} {g : Bool} {size : Nat} (hg : aggOf P t = some g) (hz : sizeOfT P t = some size) {x v : V} {xv : Value} (hr : RelV c x xv)
    (h : loadV c.m g size x = some v) : ∃ u, (Instr.loadAt t xv).run P c.w = .ok u c.w ∧ RelV c v u := by
  cases x with
  | d x =>
    cases x with
    | rp cells =>
      simp only [RelV, RelD] at hr
      obtain ⟨b, o, rfl, hh⟩ := hr
      obtain ⟨us, hu⟩ := Held.seen hh
      obtain ⟨u, h1, h2⟩ := part_load hg hz hu (show part g (cells.map V.d) 0 size = some v from h)
      exact ⟨u, by simpa [Instr.loadAt, Instr.sureAddr] using h1, h2⟩
    | _ => simp [loadV] at h
  | ptr id n row off =>
    simp only [RelV] at hr
    obtain ⟨blk, ad, hb, hn, rfl, hr⟩ := hr
    simp only [loadV, hb, Option.bind_some] at h
    obtain ⟨cs, hcs, hp⟩ := Option.bind_eq_some_iff.1 h
    obtain ⟨hn', hrow, hl⟩ := row_vrows hcs
    obtain ⟨B, hφ, rfl⟩ := hr hn'
    have hk := hs.cellsOK hb hφ hl
    obtain ⟨us, hu⟩ := hk.seenRow hrow
    obtain ⟨u, h1, h2⟩ := part_load hg hz hu hp
    exact ⟨u, by simpa [Instr.loadAt, Instr.sureAddr] using h1, h2⟩
  | pa id n off len =>
    cases g with
    | false => simp [loadV] at h
    | true =>
      simp only [loadV, if_true] at h
      obtain ⟨rows, hrows, h⟩ := Option.bind_eq_some_iff.1 h
      split at h
      case isFalse => cases h
      rename_i hlen
      obtain rfl := Option.some.inj h
      simp only [RelV] at hr
      obtain ⟨blk, ad, hb, hn, rfl, hr⟩ := hr
      have key : n = blk.len ∧ blk.isLoop = false := by
        cases blk with
        | flat e s rws p => simp [rowsOf, hb] at hrows; exact ⟨hrows.1.1, rfl⟩
        | gen e s rws p => simp [rowsOf, hb] at hrows; exact ⟨hrows.1.1, rfl⟩
        | loop => simp [rowsOf, hb] at hrows
      obtain ⟨B, hφ, rfl⟩ := hr key.1
      have hk := hs.cellsOK hb hφ key.2
      obtain ⟨arr, fr, cap, us, rest, h1, h2, h3, h4, h5, h6⟩ := hk.ex
      have hol : off + len ≤ n := by
        cases blk with
        | flat e s rws p => simp [rowsOf, hb] at hrows; exact hrows.1.2
        | gen e s rws p => simp [rowsOf, hb] at hrows; exact hrows.1.2
        | loop => simp [rowsOf, hb] at hrows
      have hvl : blk.vrows.length = n := by have := key.1; have := key.2; cases blk <;> simp_all [Blk.vrows, Blk.len, Blk.isLoop]
      have hcap : n ≤ cap := by
        have e : us.length = n * blk.size := by rw [h5.len, flatten_len hk.rows, hvl]
        have e2 : us.length + rest.length = arr.size := by rw [← Array.length_toList, h4]; simp
        have : n * blk.size ≤ cap * blk.size := by omega
        exact Nat.le_of_mul_le_mul_right this hk.pos
      have hsl : RelV c (.sl id n off len) (.slice (some ⟨B, off * blk.size, none⟩) len (cap - off)) := by
        simp only [RelV]
        refine ⟨blk, _, _, hb, hn, rfl, by omega, fun _ => ⟨B, blk.elem, hφ, rfl, ?_⟩⟩
        simp only [World.shape?, h1, h3]
        congr 3; omega
      rcases rows_seen hs hsl hrows (size := blk.size) (by simp [sizeOk, hb]) with ⟨e, _⟩ | ⟨b, o, sp, cap', us', e, hat, hc', hu, hl⟩
      · cases e
      · cases e
        obtain ⟨u, g1, g2⟩ := part_load hg hz hu (off := 0) (v := .agg rows.flatten) (by subst hlen; simp only [part, seg, if_true, Nat.zero_add, Nat.le_refl, List.drop_zero, List.take_length, Option.map_some])
        exact ⟨u, by simpa [Instr.loadAt, Instr.sureAddr] using g1, g2⟩
  | _ => simp [loadV] at h
end
end Go.Proofs.YtlenjioebdmooaaDoor.Den

namespace Go.Proofs.YtlenjioebdmooaaDoor.Den
open Go
set_option linter.unusedVariables false
set_option linter.unusedSimpArgs false
variable {P : Program}
def Good (P : Program) (c : Cx) (m' : Mem) (v : V) (s : Sem Next) : Prop :=
  (∃ u c', (s.run P c.w = .ok (.value u) c'.w ∨ (s.run P c.w = .ok .skip c'.w ∧ u = undef)) ∧ c'.m = m' ∧ Post P c c' ∧ RelV c' v u) ∨
  (∃ f args, s.run P c.w = .ok (.enter f args) c.w ∧ Calls P f args c.w fun e w' => ∃ u c', e = .returned u ∧ c'.w = w' ∧ c'.m = m' ∧ Post P c c' ∧ RelV c' v u) ∨
  (∃ l f tmps as1 bo, s.run P c.w = .ok (.round l f tmps as1 bo) c.w ∧ RoundIn { fn := fun _ => True, depth := none, alive := false } 0 P l f tmps as1 bo c.w fun e w' => ∃ u c', e = .returned u ∧ c'.w = w' ∧ c'.m = m' ∧ Post P c c' ∧ RelV c' v u)
abbrev RF (ro : Option Nat) : Fence := { fn := fun _ => True, depth := none, alive := false, round := ro }
theorem callsIn_rf {ro : Option Nat} {n : Nat} {f : FuncId} {args : Array Value} {w : World} {R : Ending → World → Prop} (h : Calls P f args w R) : CallsIn (RF ro) n P f args w R :=
  ⟨trivial, fun cs _ => let ⟨e, w', fr, r, s, x⟩ := h cs; ⟨e, w', fr, r, comesIn_wide.2 s, x⟩⟩
theorem calls_rf {n : Nat} {f : FuncId} {args : Array Value} {w : World} {R : Ending → World → Prop} (h : CallsIn (RF none) n P f args w R) : Calls P f args w R :=
  callsIn_wide.1 h
theorem roundIn_rf {ro ro' : Option Nat} {n n' : Nat} {l : Nat} {f : FuncId} {tmps : Array Value} {a b : Code} {w : World} {R : Ending → World → Prop} (h : RoundIn (RF ro) n P l f tmps a b w R) : RoundIn (RF ro') n' P l f tmps a b w R :=
  ⟨trivial, fun c cs _ => h.2 c cs (fun _ h => by cases h)⟩
theorem Good.wp {c : Cx} {m' : Mem} {v : V} {o : Oper} {a : Act} {next : Act → World → Prop} {Q : Exit → Act → World → Prop} {ro : Option Nat} {nn : Nat} (h : Good P c m' v (execOp a.eval o)) (hnd : ∀ d, o.op ≠ .defer d)
    (hk : ∀ c' u, c'.m = m' → Post P c c' → RelV c' v u → next (a.put o.dst u) c'.w) : o.wpIn (RF ro) nn P a c.w next Q := by
  refine ⟨fun _ _ => trivial, ?_⟩
  rw [Oper.semAt_eq _ _ _ hnd]
  rcases h with ⟨u, c', h1 | ⟨h1, rfl⟩, h2, h3, h4⟩ | ⟨f, args, h1, h2⟩ | ⟨l, f, tmps, as1, bo, h1, h2⟩
  · rw [h1]; exact hk c' u h2 h3 h4
  · rw [h1]; exact hk c' undef h2 h3 h4
  · rw [h1, Oper.uponIn_enter]
    refine ⟨(fun h => by cases h), callsIn_rf (h2.mono ?_)⟩
    rintro e w' ⟨u, c', rfl, rfl, g2, g3, g4⟩
    exact hk c' u g2 g3 g4
  · rw [h1, Oper.uponIn_round]
    refine ⟨(fun h => by cases h), roundIn_rf (h2.mono ?_)⟩
    rintro e w' ⟨u, c', rfl, rfl, g2, g3, g4⟩
    exact hk c' u g2 g3 g4
theorem Good.val {c : Cx} (hs : PSim P c) {v : V} {u : Value} {s : Sem Next} (h : s.run P c.w = .ok (.value u) c.w) (hr : RelV c v u) : Good P c c.m v s :=
  .inl ⟨u, c, .inl h, rfl, Post.refl hs, hr⟩
theorem Good.new {c : Cx} {m' : Mem} {v : V} {u : Value} {s : Sem Next} {c' : Cx} (h : s.run P c.w = .ok (.value u) c'.w) (hm : c'.m = m') (hp : Post P c c') (hr : RelV c' v u) : Good P c m' v s :=
  .inl ⟨u, c', .inl h, hm, hp, hr⟩
theorem toSs_eq : ∀ {l : List V} {ds : List D}, toSs l = some ds → l = ds.map V.d ∧ ∀ x, x ∈ ds → D.scalar x = true
  | [], ds, h => by simp [toSs] at h; subst h; simp
  | .d x :: r, ds, h => by
    simp only [toSs] at h
    split at h
    · rename_i hx
      obtain ⟨l, hl, rfl⟩ := Option.map_eq_some_iff.1 h
      obtain ⟨h1, h2⟩ := toSs_eq hl
      subst h1
      refine ⟨rfl, fun y hy => ?_⟩
      rcases List.mem_cons.1 hy with rfl | hy
      · exact hx
      · exact h2 y hy
    · cases h
  | .un :: r, ds, h => by simp [toSs] at h
  | .ptr .. :: r, ds, h => by simp [toSs] at h
  | .sl .. :: r, ds, h => by simp [toSs] at h
  | .so .. :: r, ds, h => by simp [toSs] at h
  | .sa .. :: r, ds, h => by simp [toSs] at h
  | .pa .. :: r, ds, h => by simp [toSs] at h
  | .fn .. :: r, ds, h => by simp [toSs] at h
  | .yl .. :: r, ds, h => by simp [toSs] at h
  | .ifc .. :: r, ds, h => by simp [toSs] at h
  | .agg .. :: r, ds, h => by simp [toSs] at h
  | .tup .. :: r, ds, h => by simp [toSs] at h
theorem allSs_eq : ∀ {l : List (List V)} {rs : List (List D)}, allSs l = some rs → l = rs.map (List.map V.d) ∧ ∀ r, r ∈ rs → ∀ x, x ∈ r → D.scalar x = true
  | [], rs, h => by simp [allSs] at h; subst h; simp
  | r :: l, rs, h => by
    simp only [allSs] at h
    cases h1 : toSs r with
    | none => simp [h1] at h
    | some a =>
      cases h2 : allSs l with
      | none => simp [h1, h2] at h
      | some b =>
        simp [h1, h2] at h; subst h
        obtain ⟨e1, p1⟩ := toSs_eq h1
        obtain ⟨e2, p2⟩ := allSs_eq h2
        subst e1; subst e2
        refine ⟨rfl, fun x hx => ?_⟩
        rcases List.mem_cons.1 hx with rfl | hx
        · exact p1
        · exact p2 x hx
theorem mkBlk_spec {e : TypeId} {flat : Bool} {s : Nat} {rows : List (List V)} {b : Blk} (h : mkBlk e flat s rows = some b) :
    b.isLoop = false ∧ b.elem = e ∧ b.size = s ∧ b.vrows = rows ∧ b.len = rows.length ∧ b.prot = false ∧ b.plain := by
  unfold mkBlk at h
  split at h
  · obtain ⟨rs, hr, rfl⟩ := Option.map_eq_some_iff.1 h
    obtain ⟨h1, h2⟩ := allSs_eq hr
    subst h1
    exact ⟨rfl, rfl, rfl, rfl, by simp [Blk.len], rfl, h2⟩
  · cases h; exact ⟨rfl, rfl, rfl, rfl, rfl, rfl, trivial⟩
theorem new_block {c : Cx} (hs : PSim P c) {e : TypeId} {flat : Bool} {s : Nat} {rows : List (List V)} {b : Blk} (h : mkBlk e flat s rows = some b) (hpos : 0 < s) (hrows : ∀ r, r ∈ rows → r.length = s)
    {us : List Value} (hus : RelVs c rows.flatten us) (h1 : ∀ u, u ∈ us → OneC u) :
    Post P c (cxNew c b (c.w.alloc (.cells ⟨us⟩ e))) := by
  obtain ⟨g1, g2, g3, g4, g5, g6, g7⟩ := mkBlk_spec h
  have hl : us.length = rows.length * s := by rw [hus.len, flatten_len hrows]
  refine (new_alloc hs b _).cells (us := us) (rest := []) (fr := (0, 0)) (cap := rows.length) g1 ?_ (.inl rfl) (by rw [g3]; exact hpos) (by rw [g3]; simpa using hl) (by rw [g4]; exact hus) h1 (by rw [g4, g3]; exact hrows) g7
  rw [heap_alloc_self, g2]; simp
theorem new_ptr {c : Cx} {b : Blk} {w' : World} (hb : b.len = 1) : RelV (cxNew c b w') (.ptr c.m.length 1 0 0) (.pointer (some ⟨c.w.heap.size, 0, none⟩)) := by
  simp only [RelV]
  exact ⟨b, _, by simp [cxNew], by omega, rfl, fun _ => ⟨c.w.heap.size, by simp [cxNew, updφ], by simp⟩⟩
theorem new_sl {c : Cx} {b : Blk} {w' : World} {cap : Nat} {e : TypeId} (hc : b.len ≤ cap) (hsh : w'.shape? c.w.heap.size = some (e, cap * b.size)) :
    RelV (cxNew c b w') (.sl c.m.length b.len 0 b.len) (.slice (some ⟨c.w.heap.size, 0, none⟩) b.len cap) := by
  simp only [RelV]
  exact ⟨b, _, cap, by simp [cxNew], by omega, rfl, hc, fun _ => ⟨c.w.heap.size, e, by simp [cxNew, updφ], by simp, by simpa [cxNew] using hsh⟩⟩
theorem shape_alloc (w : World) (cs : List Value) (e : TypeId) : (w.alloc (.cells ⟨cs⟩ e)).shape? w.heap.size = some (e, cs.length) := by
  simp only [World.shape?]; rw [heap_alloc_self]; simp
theorem OneC_iff (v : Value) : OneC v ↔ v.oneCell' = true := by cases v <;> simp [OneC, Value.oneCell']
theorem one {c : Cx} {v : V} {u : Value} (h : RelV c v u) (hv : v.cells = [v]) (hu : u.cells.toList = [u]) (h1 : OneC u) : RelVs c v.cells u.cells.toList ∧ ∀ x, x ∈ u.cells.toList → OneC x := by
  rw [hv, hu]
  exact ⟨by simp only [RelVs]; exact ⟨u, [], rfl, h, rfl⟩, fun x hx => by simp at hx; subst hx; exact h1⟩
theorem cells_rel {c : Cx} {v : V} {u : Value} (h : RelV c v u) (hk : v.cellsOk = true) : RelVs c v.cells u.cells.toList ∧ ∀ x, x ∈ u.cells.toList → OneC x := by
  cases v with
  | agg cs =>
    simp only [RelV] at h
    obtain ⟨a, rfl, h1, h2⟩ := h
    exact ⟨h1, h2⟩
  | un => simp [V.cellsOk, V.cellOk] at hk
  | tup vs => simp [V.cellsOk, V.cellOk] at hk
  | d x =>
    have h' := h
    cases x <;> simp only [RelV, RelD] at h
    case bool => subst h; simp [V.cells, Value.cells, RelVs, RelV, RelD, OneC]
    case int => subst h; simp [V.cells, Value.cells, RelVs, RelV, RelD, OneC]
    case str => subst h; simp [V.cells, Value.cells, RelVs, RelV, RelD, OneC]
    case nilp => subst h; simp [V.cells, Value.cells, RelVs, RelV, RelD, OneC]
    case nils => subst h; simp [V.cells, Value.cells, RelVs, RelV, RelD, OneC]
    case nilf => subst h; simp [V.cells, Value.cells, RelVs, RelV, RelD, OneC]
    case nili => subst h; simp [V.cells, Value.cells, RelVs, RelV, RelD, OneC]
    case rs => obtain ⟨_, _, _, b, o, sp, cap, rfl, _⟩ := h; exact one h' rfl (by simp [Value.cells]) (by simp [OneC])
    case rp => obtain ⟨b, o, rfl, _⟩ := h; exact one h' rfl (by simp [Value.cells]) (by simp [OneC])
  | ptr id n row off =>
    have h' := h
    simp only [RelV] at h; obtain ⟨_, a, _, _, rfl, _⟩ := h; exact one h' rfl (by simp [Value.cells]) (by simp [OneC])
  | sl id n off len =>
    have h' := h
    simp only [RelV] at h; obtain ⟨_, a, _, _, _, rfl, _⟩ := h; exact one h' rfl (by simp [Value.cells]) (by simp [OneC])
  | so b id n =>
    have h' := h
    cases b with
    | true => simp only [RelV] at h; obtain ⟨rfl, _⟩ := h; exact one h' rfl (by simp [Value.cells]) (by simp [OneC])
    | false => simp only [RelV] at h; obtain ⟨_, a, _, _, _, rfl, _⟩ := h; exact one h' rfl (by simp [Value.cells]) (by simp [OneC])
  | sa id n row off s len =>
    have h' := h
    simp only [RelV] at h; obtain ⟨_, a, _, _, _, rfl, _⟩ := h; exact one h' rfl (by simp [Value.cells]) (by simp [OneC])
  | pa id n off len =>
    have h' := h
    simp only [RelV] at h; obtain ⟨_, a, _, _, rfl, _⟩ := h; exact one h' rfl (by simp [Value.cells]) (by simp [OneC])
  | fn f a b =>
    have h' := h
    simp only [RelV] at h; obtain ⟨_, _, rfl, _⟩ := h; exact one h' rfl (by simp [Value.cells]) (by simp [OneC])
  | yl id =>
    have h' := h
    simp only [RelV] at h; obtain ⟨_, _, _, _, _, rfl⟩ := h; exact one h' rfl (by simp [Value.cells]) (by simp [OneC])
  | ifc t x =>
    have h' := h
    simp only [RelV] at h; obtain ⟨_, rfl, _⟩ := h; exact one h' rfl (by simp [Value.cells]) (by simp [OneC])
end Go.Proofs.YtlenjioebdmooaaDoor.Den

namespace Go.Proofs.YtlenjioebdmooaaDoor.Den
open Go
set_option linter.unusedVariables false
set_option linter.unusedSimpArgs false
variable {P : Program}
theorem run_mapM_list {α β : Type} (f : α → Sem β) (g : α → β) (w : World) : ∀ (l : List α), (∀ a, a ∈ l → (f a).run P w = .ok (g a) w) → (l.mapM f).run P w = .ok (l.map g) w
  | [], _ => by simp
  | a :: l, h => by
    have h1 := h a (by simp)
    have h2 := run_mapM_list f g w l (fun b hb => h b (List.mem_cons_of_mem _ hb))
    simp [List.mapM_cons, h1, h2]
theorem run_mapM_array {α β : Type} (f : α → Sem β) (g : α → β) (w : World) (l : Array α) (h : ∀ a, a ∈ l.toList → (f a).run P w = .ok (g a) w) : (l.mapM f).run P w = .ok (l.map g) w := by
  rw [Array.mapM_eq_mapM_toList]
  simp only [Sem.run_map, run_mapM_list f g w l.toList h, Result.andThen_ok]
  congr 1
  apply Array.ext'
  simp
theorem foldl_set : ∀ (c : List Value) (k : Nat) (cells : Array Value) (off : Nat), off + k + c.length ≤ cells.size →
    ((c.zipIdx k).foldl (fun (cs : Array Value) (p : Value × Nat) => cs.setIfInBounds (off + p.2) p.1) cells).toList = cells.toList.take (off + k) ++ c ++ cells.toList.drop (off + k + c.length)
  | [], k, cells, off, h => by simp
  | x :: c, k, cells, off, h => by
    simp only [List.length_cons] at h
    rw [List.zipIdx_cons, List.foldl_cons, foldl_set c (k + 1) _ off (by simp; omega)]
    have hk : off + k < cells.toList.length := by simp; omega
    simp only [Array.toList_setIfInBounds, List.length_cons]
    have e1 : (cells.toList.set (off + k) x).take (off + (k + 1)) = cells.toList.take (off + k) ++ [x] := by
      rw [show off + (k + 1) = off + k + 1 by omega, List.take_add_one]
      rw [List.take_set_of_le (Nat.le_refl _), List.getElem?_set_self hk]; rfl
    have e2 : (cells.toList.set (off + k) x).drop (off + (k + 1) + c.length) = cells.toList.drop (off + k + (c.length + 1)) := by
      rw [List.drop_set_of_lt (by omega)]; congr 1; omega
    rw [e1, e2]; simp
theorem foldl_set_arr (v : Array Value) (cells : Array Value) (off : Nat) (h : off + v.size ≤ cells.size) :
    (v.zipIdx.foldl (fun (cs : Array Value) (p : Value × Nat) => cs.setIfInBounds (off + p.2) p.1) cells).toList = cells.toList.take off ++ v.toList ++ cells.toList.drop (off + v.size) := by
  have := foldl_set v.toList 0 cells off (by simpa using h)
  rw [← Array.foldl_toList, Array.toList_zipIdx]
  simpa using this
theorem fill_cons (place : Nat → Option (Nat × Nat)) (cells : Array Value) (i : Nat) (v : Value) (rest : List (Nat × Value)) (off size : Nat) (h : place i = some (off, size)) (h1 : v.cells.size = size) (h2 : off + size ≤ cells.size) :
    Instr.fill place cells ((i, v) :: rest) = Instr.fill place (cells.toList.take off ++ v.cells.toList ++ cells.toList.drop (off + size)).toArray rest := by
  have e := foldl_set_arr v.cells cells off (by omega)
  simp only [Instr.fill, h]
  rw [if_neg (by simp [h1]; omega)]
  congr 1
  apply Array.ext'
  rw [h1] at e
  simpa using e
theorem fill_ok {E : Env} {c : Cx} {t : Nat → V} {a : Act} (ht : TRel c t a) (hg : GlOK E c) {place : Nat → Option (Nat × Nat)} :
    ∀ (ps : List (Nat × Operand)) (qs : List (Nat × Nat × O)) (cells cells' : List V) (us : List Value),
    (∀ (j : Nat) (i : Nat) (x : Operand), ps[j]? = some (i, x) → ∃ (off size : Nat) (o : O), qs[j]? = some (off, size, o) ∧ place i = some (off, size) ∧ cO x = some o) → qs.length = ps.length →
    fillV E t qs cells = some cells' → RelVs c cells us → (∀ u, u ∈ us → OneC u) →
    ∃ us', Instr.fill place us.toArray (ps.map fun p => (p.1, a.eval p.2)) = some us'.toArray ∧ RelVs c cells' us' ∧ (∀ u, u ∈ us' → OneC u) ∧ cells'.length = cells.length
  | [], qs, cells, cells', us, _, hl, hf, hr, h1 => by
    have : qs = [] := List.length_eq_zero_iff.1 (by simpa using hl)
    subst this
    simp [fillV] at hf; subst hf
    exact ⟨us, by simp [Instr.fill], hr, h1, rfl⟩
  | (i, x) :: ps, [], cells, cells', us, _, hl, hf, hr, h1 => by simp at hl
  | (i, x) :: ps, (off, size, o) :: qs, cells, cells', us, hp, hl, hf, hr, h1 => by
    obtain ⟨off', size', o', hq, hpl, hx⟩ := hp 0 i x (by simp)
    simp at hq
    obtain ⟨rfl, rfl, rfl⟩ := hq
    simp only [fillV] at hf
    split at hf
    case isFalse => cases hf
    rename_i hc
    obtain ⟨hc1, hc2, hc3⟩ := hc
    obtain ⟨k1, k2⟩ := cells_rel (ev_rel ht hg hx) hc3
    have hlen := k1.len
    have hul := hr.len
    have hsz : (a.eval x).cells.size = size := by rw [← Array.length_toList, hlen, hc1]
    obtain ⟨us', g1, g2, g3, g4⟩ := fill_ok ht hg ps qs _ cells' (us.take off ++ (a.eval x).cells.toList ++ us.drop (off + size)) (fun j i' x' hj => by
        have := hp (j + 1) i' x' (by simpa using hj); simpa using this) (by simpa using hl) hf
      ((RelVs.take off hr).append k1 |>.append (RelVs.drop (off + size) hr)) (fun u hu => by
        rcases List.mem_append.1 hu with hu | hu
        · rcases List.mem_append.1 hu with hu | hu
          · exact h1 u (List.mem_of_mem_take hu)
          · exact k2 u hu
        · exact h1 u (List.mem_of_mem_drop hu))
    refine ⟨us', ?_, g2, g3, ?_⟩
    · rw [List.map_cons, fill_cons place us.toArray i (a.eval x) _ off size hpl hsz (by simp; omega)]
      simpa using g1
    · rw [g4]; simp [hc1]; omega
theorem cParts_spec {fields : Array Field} : ∀ {ps : List (Nat × Operand)} {qs : List (Nat × Nat × O)}, cParts P fields ps = some qs →
    qs.length = ps.length ∧ ∀ (j : Nat) (i : Nat) (x : Operand), ps[j]? = some (i, x) → ∃ f s o, fields[i]? = some f ∧ sizeOfT P f.type = some s ∧ cO x = some o ∧ qs[j]? = some (f.offset, s, o)
  | [], qs, h => by simp [cParts] at h; subst h; simp
  | (i, x) :: ps, qs, h => by
    simp only [cParts] at h
    cases h1 : fields[i]? with
    | none => simp [h1] at h
    | some f =>
      cases h2 : cO x with
      | none => simp [h1, h2] at h
      | some o =>
        cases h3 : cParts P fields ps with
        | none => simp [h1, h2, h3] at h
        | some l =>
          cases h4 : sizeOfT P f.type with
          | none => simp [h1, h2, h3, h4] at h
          | some s =>
            simp [h1, h2, h3, h4] at h; subst h
            obtain ⟨g1, g2⟩ := cParts_spec h3
            refine ⟨by simp [g1], fun j i' x' hj => ?_⟩
            cases j with
            | zero => simp at hj; obtain ⟨rfl, rfl⟩ := hj; exact ⟨f, s, o, h1, h4, h2, by simp⟩
            | succ j => simpa using g2 j i' x' (by simpa using hj)
theorem cPartsA_spec {size : Nat} : ∀ {ps : List (Nat × Operand)} {qs : List (Nat × Nat × O)}, cPartsA size ps = some qs →
    qs.length = ps.length ∧ ∀ (j : Nat) (i : Nat) (x : Operand), ps[j]? = some (i, x) → ∃ o, cO x = some o ∧ qs[j]? = some (i * size, size, o)
  | [], qs, h => by simp [cPartsA] at h; subst h; simp
  | (i, x) :: ps, qs, h => by
    simp only [cPartsA] at h
    cases h2 : cO x with
    | none => simp [h2] at h
    | some o =>
      cases h3 : cPartsA size ps with
      | none => simp [h2, h3] at h
      | some l =>
        simp [h2, h3] at h; subst h
        obtain ⟨g1, g2⟩ := cPartsA_spec h3
        refine ⟨by simp [g1], fun j i' x' hj => ?_⟩
        cases j with
        | zero => simp at hj; obtain ⟨rfl, rfl⟩ := hj; exact ⟨o, h2, by simp⟩
        | succ j => simpa using g2 j i' x' (by simpa using hj)
theorem cPartsS_spec : ∀ {ps : List (Nat × Operand)} {qs : List (Nat × O)}, cPartsS ps = some qs →
    qs.length = ps.length ∧ ∀ (j : Nat) (i : Nat) (x : Operand), ps[j]? = some (i, x) → ∃ o, cO x = some o ∧ qs[j]? = some (i, o)
  | [], qs, h => by simp [cPartsS] at h; subst h; simp
  | (i, x) :: ps, qs, h => by
    simp only [cPartsS] at h
    cases h2 : cO x with
    | none => simp [h2] at h
    | some o =>
      cases h3 : cPartsS ps with
      | none => simp [h2, h3] at h
      | some l =>
        simp [h2, h3] at h; subst h
        obtain ⟨g1, g2⟩ := cPartsS_spec h3
        refine ⟨by simp [g1], fun j i' x' hj => ?_⟩
        cases j with
        | zero => simp at hj; obtain ⟨rfl, rfl⟩ := hj; exact ⟨o, h2, by simp⟩
        | succ j => simpa using g2 j i' x' (by simpa using hj)
theorem parts_toList (parts : Array (Nat × Operand)) (a : Act) : (parts.map fun (i, x) => (i, a.eval x)).toList = parts.toList.map fun p => (p.1, a.eval p.2) := by
  simp
theorem build_ok {E : Env} {c : Cx} {t : Nat → V} {a : Act} (ht : TRel c t a) (hg : GlOK E c) {ty : TypeId} {parts : Array (Nat × Operand)} {i : I} {cs : List V}
    (h : cOp P { dst := none, op := .build ty parts, type := 0, pos := "", after := #[], guard := none } = some i) (hd : ∃ z qs, i = .build z qs ∧ fillV E t qs (z.map V.d) = some cs) :
    ∃ u, (Instr.build ty (parts.map fun (i, x) => (i, a.eval x))).run P c.w = .ok u c.w ∧ RelV c (.agg cs) u := by
  simp only [cOp] at h
  cases hz : zeroOf P ty with
  | none => simp [hz] at h
  | some z =>
    obtain ⟨zv, hzr, hzc⟩ := zeroOf_run hz c.w
    obtain ⟨hzrel, hz1⟩ := constCells_rel (c := c) hzc
    cases hu : P.underlying ty with
    | none => simp [hz, hu] at h
    | some d =>
      cases d with
      | struct fs =>
        simp only [hz, hu] at h
        split at h
        case isFalse => cases h
        rename_i hall
        obtain ⟨qs, hq, rfl⟩ := Option.map_eq_some_iff.1 h
        obtain ⟨z', qs', e, hf⟩ := hd
        cases e
        obtain ⟨hl, hs⟩ := cParts_spec hq
        have hpl : ∀ (k : Nat) (f : Field), fs[k]? = some f → ∃ s, sizeOfT P f.type = some s := fun k f hk => by
          have := List.all_eq_true.1 hall f (by rw [Array.mem_toList_iff]; exact Array.mem_of_getElem? hk)
          exact Option.isSome_iff_exists.1 this
        have hmap : (fs.mapM fun f => do pure (f.offset, ← sizeOf f.type) : Sem _).run P c.w = .ok (fs.map fun f => (f.offset, (sizeOfT P f.type).getD 0)) c.w := by
          refine run_mapM_array _ _ c.w fs fun f hf => ?_
          obtain ⟨s, hs⟩ := Option.isSome_iff_exists.1 (List.all_eq_true.1 hall f hf)
          simp [sizeOf_run hs, hs]
        obtain ⟨us', g1, g2, g3, _⟩ := fill_ok ht hg (place := fun k => (fs.map fun f => (f.offset, (sizeOfT P f.type).getD 0))[k]?) parts.toList qs _ cs zv.cells.toList
          (fun j k x hj => by
            obtain ⟨f, s, o, q1, q2, q3, q4⟩ := hs j k x hj
            exact ⟨f.offset, s, o, q4, by simp [q1, q2], q3⟩) hl hf hzrel hz1
        refine ⟨.agg us'.toArray, ?_, by simp only [RelV]; exact ⟨us', rfl, g2, g3⟩⟩
        simp only [Array.toArray_toList] at g1
        simp only [Instr.build, Sem.run_bind, hzr, Result.andThen_ok, run_underlying hu, hmap, parts_toList]
        rw [g1]; simp
      | array n e =>
        simp only [hz, hu] at h
        obtain ⟨s, hsz, h⟩ := Option.bind_eq_some_iff.1 h
        obtain ⟨qs, hq, rfl⟩ := Option.map_eq_some_iff.1 h
        obtain ⟨z', qs', e, hf⟩ := hd
        cases e
        obtain ⟨hl, hs⟩ := cPartsA_spec hq
        obtain ⟨us', g1, g2, g3, _⟩ := fill_ok ht hg (place := fun k => some (k * s, s)) parts.toList qs _ cs zv.cells.toList
          (fun j k x hj => by
            obtain ⟨o, q3, q4⟩ := hs j k x hj
            exact ⟨k * s, s, o, q4, rfl, q3⟩) hl hf hzrel hz1
        refine ⟨.agg us'.toArray, ?_, by simp only [RelV]; exact ⟨us', rfl, g2, g3⟩⟩
        simp only [Array.toArray_toList] at g1
        simp only [Instr.build, Sem.run_bind, hzr, Result.andThen_ok, run_underlying hu, sizeOf_run hsz, parts_toList]
        rw [g1]; simp
      | _ => simp [hz, hu] at h
end Go.Proofs.YtlenjioebdmooaaDoor.Den

namespace Go.Proofs.YtlenjioebdmooaaDoor.Den
open Go
set_option linter.unusedVariables false
set_option linter.unusedSimpArgs false
variable {P : Program}
theorem run_v {s : Sem Value} {u : Value} {w w' : World} (h : s.run P w = .ok u w') : ((do pure (.value (← s)) : Sem Next)).run P w = .ok (.value u) w' := by
  simp [h]
theorem run_u {s : Sem Unit} {w w' : World} (h : s.run P w = .ok () w') : ((do s; pure .skip : Sem Next)).run P w = .ok .skip w' := by
  simp [h]
theorem fillRows_ok {E : Env} {c : Cx} {t : Nat → V} {a : Act} (ht : TRel c t a) (hg : GlOK E c) {size : Nat} :
    ∀ (ps : List (Nat × Operand)) (qs : List (Nat × O)) (rows rows' : List (List V)) (us : List Value),
    (∀ (j : Nat) (i : Nat) (x : Operand), ps[j]? = some (i, x) → ∃ o : O, cO x = some o ∧ qs[j]? = some (i, o)) → qs.length = ps.length → (∀ r, r ∈ rows → r.length = size) →
    fillRows E t size qs rows = some rows' → RelVs c rows.flatten us → (∀ u, u ∈ us → OneC u) →
    ∃ us', Instr.fill (fun i => some (i * size, size)) us.toArray (ps.map fun p => (p.1, a.eval p.2)) = some us'.toArray ∧ RelVs c rows'.flatten us' ∧ (∀ u, u ∈ us' → OneC u) ∧ rows'.length = rows.length ∧ (∀ r, r ∈ rows' → r.length = size)
  | [], qs, rows, rows', us, _, hl, hz, hf, hr, h1 => by
    have : qs = [] := List.length_eq_zero_iff.1 (by simpa using hl)
    subst this
    simp [fillRows] at hf; subst hf
    exact ⟨us, by simp [Instr.fill], hr, h1, rfl, hz⟩
  | (i, x) :: ps, [], rows, rows', us, _, hl, hz, hf, hr, h1 => by simp at hl
  | (i, x) :: ps, (i', o) :: qs, rows, rows', us, hp, hl, hz, hf, hr, h1 => by
    obtain ⟨o', hx, hq⟩ := hp 0 i x (by simp)
    simp at hq
    obtain ⟨rfl, rfl⟩ := hq
    simp only [fillRows] at hf
    split at hf
    case isFalse => cases hf
    rename_i hc
    obtain ⟨hc1, hc2, hc3⟩ := hc
    obtain ⟨k1, k2⟩ := cells_rel (ev_rel ht hg hx) hc3
    have hlen := k1.len
    have hul := hr.len
    have hfl := flatten_len hz
    have hsz : (a.eval x).cells.size = size := by rw [← Array.length_toList, hlen, hc1]
    have hle : i' * size + size ≤ rows.length * size := by
      have := Nat.mul_le_mul_right size (show i' + 1 ≤ rows.length by omega)
      rw [Nat.add_mul] at this; omega
    have hset : ∀ (l : List (List V)) (k : Nat) (r : List V), (∀ r, r ∈ l → r.length = size) → k < l.length → r.length = size → (l.set k r).flatten = l.flatten.take (k * size) ++ r ++ l.flatten.drop (k * size + size) := by
      intro l
      induction l with
      | nil => intro k r _ hk; simp at hk
      | cons y l ih =>
        intro k r hy hk hr
        have hyl := hy y (by simp)
        cases k with
        | zero => simp [← hyl]
        | succ k =>
          simp only [List.set_cons_succ, List.flatten_cons]
          rw [ih k r (fun r hr => hy r (List.mem_cons_of_mem _ hr)) (by simpa using hk) hr]
          have e1 : (y ++ l.flatten).take ((k + 1) * size) = y ++ l.flatten.take (k * size) := by
            rw [Nat.add_mul, Nat.one_mul, Nat.add_comm, ← hyl, List.take_length_add_append]
          have e2 : (y ++ l.flatten).drop ((k + 1) * size + size) = l.flatten.drop (k * size + size) := by
            rw [show (k + 1) * size + size = y.length + (k * size + size) by rw [hyl, Nat.add_mul]; omega, ← List.drop_drop, List.drop_left]
          rw [e1, e2]; simp
    have hrel : RelVs c (rows.set i' (ev E t o).cells).flatten (us.take (i' * size) ++ (a.eval x).cells.toList ++ us.drop (i' * size + size)) := by
      rw [hset rows i' _ hz hc2 hc1]
      exact ((RelVs.take _ hr).append k1).append (RelVs.drop _ hr)
    obtain ⟨us', g1, g2, g3, g4, g5⟩ := fillRows_ok ht hg ps qs _ rows' _ (fun j i' x' hj => by
        have := hp (j + 1) i' x' (by simpa using hj); simpa using this) (by simpa using hl) (fun r hr => by
        rcases List.mem_or_eq_of_mem_set hr with hr | hr
        · exact hz r hr
        · rw [hr]; exact hc1) hf hrel (fun u hu => by
        rcases List.mem_append.1 hu with hu | hu
        · rcases List.mem_append.1 hu with hu | hu
          · exact h1 u (List.mem_of_mem_take hu)
          · exact k2 u hu
        · exact h1 u (List.mem_of_mem_drop hu))
    refine ⟨us', ?_, g2, g3, by simpa using g4, g5⟩
    rw [List.map_cons, fill_cons (fun i => some (i * size, size)) us.toArray i' (a.eval x) _ (i' * size) size rfl hsz (by simp; omega)]
    simpa using g1
theorem zeros_rel {c : Cx} {z : List V} {zs : List Value} (h : RelVs c z zs) (h1 : ∀ u, u ∈ zs → OneC u) (n : Nat) (hpos : 0 < zs.length) :
    RelVs c (List.replicate n z).flatten ((Array.range (n * zs.length)).map (fun i => zs.toArray[i % zs.toArray.size]!)).toList ∧
    ∀ u, u ∈ ((Array.range (n * zs.length)).map (fun i => zs.toArray[i % zs.toArray.size]!)).toList → OneC u := by
  have key : ((Array.range (n * zs.length)).map (fun i => zs.toArray[i % zs.toArray.size]!)).toList = (List.replicate n zs).flatten := by
    apply List.ext_getElem?
    intro j
    simp only [Array.toList_map, Array.toList_range, List.getElem?_map]
    by_cases hj : j < n * zs.length
    · have hd : j / zs.length < n := (Nat.div_lt_iff_lt_mul hpos).2 hj
      have hm : j % zs.length < zs.length := Nat.mod_lt _ hpos
      have := flatten_at (s := zs.length) (l := List.replicate n zs) (fun r hr => by rw [(List.mem_replicate.1 hr).2]) (j / zs.length) (j % zs.length) zs zs[j % zs.length]
        (by simp [List.getElem?_replicate, hd]) (List.getElem?_eq_getElem hm)
      have e : j / zs.length * zs.length + j % zs.length = j := by rw [Nat.mul_comm]; exact Nat.div_add_mod j zs.length
      rw [e] at this
      rw [this]
      simp [List.getElem?_range, hj, getElem!_def, hm]
    · have h2 : ((List.replicate n zs).flatten)[j]? = none := List.getElem?_eq_none (by
        rw [flatten_len (s := zs.length) (fun r hr => by rw [(List.mem_replicate.1 hr).2])]; simp; omega)
      rw [h2]
      simp [List.getElem?_eq_none, hj]
  rw [key]
  constructor
  · clear key
    induction n with
    | zero => simp [RelVs]
    | succ n ih => simp only [List.replicate_succ, List.flatten_cons]; exact h.append ih
  · intro u hu
    obtain ⟨l, hl, hu⟩ := List.mem_flatten.1 hu
    rw [(List.mem_replicate.1 hl).2] at hu
    exact h1 u hu
section
variable {E : Env} {c : Cx} {t : Nat → V} {a : Act}
theorem good_alloc (hs : PSim P c) {e : TypeId} {z : List D} {fl : Bool} {b : Blk} (hz : zeroOf P e = some z) (hpos : 0 < z.length) (h : mkBlk e fl z.length [z.map V.d] = some b) :
    Good P c (c.m ++ [b]) (.ptr c.m.length 1 0 0) (do pure (.value (← Instr.alloc e true (.tuple #[])))) := by
  obtain ⟨zv, h1, h2⟩ := zeroOf_run hz c.w
  obtain ⟨r1, r2⟩ := constCells_rel (c := c) h2
  have hp := new_block hs h hpos (by simp) (us := zv.cells.toList) (by simpa using r1) r2
  refine Good.new (c' := cxNew c b _) (run_v (u := .pointer (some ⟨c.w.heap.size, 0, none⟩)) ?_) rfl hp (new_ptr (mkBlk_spec h).2.2.2.2.1)
  simp [Instr.alloc, h1, newVar, newRow, cxNew]
theorem good_allocn (hs : PSim P c) {e : TypeId} {b1 b2 : Blk} (hz : zeroOf P e = some [.nils]) (h : mkBlk e false 1 [[.so true c.m.length 0]] = some b2) :
    Good P c ((c.m ++ [b1]) ++ [b2]) (.ptr (c.m.length + 1) 1 0 0) (do pure (.value (← Instr.alloc e true (.tuple #[])))) := by
  obtain ⟨zv, h1, h2⟩ := zeroOf_run hz c.w
  obtain ⟨r1, r2⟩ := constCells_rel (c := c) h2
  have hp1 := pad_post hs b1
  have hl : (cxPad c b1).m.length = c.m.length + 1 := by simp [cxPad]
  have r1' : RelVs (cxPad c b1) ([[V.so true c.m.length 0]] : List (List V)).flatten zv.cells.toList := by
    simp only [List.map_cons, List.map_nil, RelVs] at r1
    obtain ⟨u, us, e1, g1, rfl⟩ := r1
    simp only [RelV, RelD] at g1
    subst g1
    rw [e1]
    simp only [List.flatten_cons, List.flatten_nil, List.append_nil, RelVs]
    refine ⟨_, _, rfl, ?_, rfl⟩
    simp only [RelV]
    exact ⟨trivial, trivial, b1, by simp [cxPad]⟩
  have hp2 := new_block (c := cxPad c b1) hp1.sim h (by omega) (by simp) (us := zv.cells.toList) r1' r2
  refine Good.new (c' := cxNew (cxPad c b1) b2 _) (run_v (u := .pointer (some ⟨c.w.heap.size, 0, none⟩)) ?_) rfl (hp1.trans hs hp2) (by have := new_ptr (c := cxPad c b1) (w' := (cxPad c b1).w.alloc (.cells ⟨zv.cells.toList⟩ e)) (mkBlk_spec h).2.2.2.2.1; rw [hl] at this; exact this)
  simp [Instr.alloc, h1, newVar, newRow, cxNew, cxPad]
theorem good_box (hs : PSim P c) {e : TypeId} {fl : Bool} {size : Nat} {b : Blk} {x : V} {xv : Value} (hr : RelV c x xv) (hk : x.cellsOk = true) (hl : x.cells.length = size) (hpos : 0 < size)
    (h : mkBlk e fl size [x.cells] = some b) : Good P c (c.m ++ [b]) (.ptr c.m.length 1 0 0) (do pure (.value (← Instr.box e xv))) := by
  obtain ⟨r1, r2⟩ := cells_rel hr hk
  have hp := new_block hs h hpos (by simpa using hl) (us := xv.cells.toList) (by simpa using r1) r2
  refine Good.new (c' := cxNew c b _) (run_v (u := .pointer (some ⟨c.w.heap.size, 0, none⟩)) ?_) rfl hp (new_ptr (mkBlk_spec h).2.2.2.2.1)
  simp [Instr.box, newVar, newRow, cxNew]
theorem good_bslice (hs : PSim P c) (ht : TRel c t a) (hg : GlOK E c) {ty e : TypeId} {fl : Bool} {size len : Nat} {z : List D} {parts : Array (Nat × Operand)} {qs : List (Nat × O)} {rows : List (List V)} {b : Blk}
    (hu : P.underlying ty = some (.slice e)) (hsz : sizeOfT P e = some size) (hz : zeroOf P e = some z) (hzl : z.length = size) (hq : cPartsS parts.toList = some qs) (hlen : len * size ≤ 16777216) (hpos : 0 < size)
    (hf : fillRows E t size qs (List.replicate len (z.map V.d)) = some rows) (h : mkBlk e fl size rows = some b) :
    Good P c (c.m ++ [b]) (.sl c.m.length len 0 len) (do pure (.value (← Instr.buildSlice ty len (parts.map fun (i, x) => (i, a.eval x))))) := by
  obtain ⟨zv, h1, h2⟩ := zeroOf_run hz c.w
  obtain ⟨r1, r2⟩ := constCells_rel (c := c) h2
  have hzv : zv.cells.toList.length = size := by rw [r1.len]; simpa using hzl
  have hrep : ∀ r, r ∈ List.replicate len (z.map V.d) → r.length = size := fun r hr => by rw [(List.mem_replicate.1 hr).2]; simpa using hzl
  obtain ⟨k1, k2⟩ := zeros_rel r1 r2 len (by omega)
  obtain ⟨q1, q2⟩ := cPartsS_spec hq
  obtain ⟨us', g1, g2, g3, g4, g5⟩ := fillRows_ok ht hg parts.toList qs _ rows _ q2 q1 hrep hf k1 k2
  have hp := new_block hs h hpos g5 g2 g3
  have hbl : b.len = len := by rw [(mkBlk_spec h).2.2.2.2.1, g4]; simp
  have husl : us'.length = len * size := by rw [g2.len, flatten_len g5, g4]; simp
  have hv : RelV (cxNew c b (c.w.alloc (.cells ⟨us'⟩ e))) (.sl c.m.length len 0 len) (.slice (some ⟨c.w.heap.size, 0, none⟩) len len) := by
    have := new_sl (c := c) (b := b) (w' := c.w.alloc (.cells ⟨us'⟩ e)) (cap := len) (e := e) (by omega) (by rw [shape_alloc, husl, (mkBlk_spec h).2.2.1])
    rw [hbl] at this; exact this
  refine Good.new (c' := cxNew c b _) (run_v (u := .slice (some ⟨c.w.heap.size, 0, none⟩) len len) ?_) rfl hp hv
  simp only [Array.toArray_toList] at g1
  rw [hzv] at g1
  have hzs : zv.cells.size = size := by rw [← Array.length_toList]; exact hzv
  by_cases h0 : len * size = 0
  · have hl0 : len = 0 := by rcases Nat.mul_eq_zero.1 h0 with h | h <;> omega
    subst hl0
    have e0 : (Array.range (0 * size)).map (fun i => zv.cells[i % zv.cells.size]!) = #[] := by simp
    rw [e0] at g1
    simp only [Instr.buildSlice, run_underlying hu, Sem.run_bind, Result.andThen_ok, sizeOf_run hsz, parts_toList]
    simp
    rw [show Array.map (fun _ => (default : Value)) (Array.range 0) = #[] from by apply Array.ext'; simp, g1]
    simp [newRow, cxNew]
  · have hn : ¬ (2 ^ 24 < len * size) := by omega
    have hn' : ¬ (16777216 < len * size) := by omega
    simp only [Instr.buildSlice, run_underlying hu, Sem.run_bind, Result.andThen_ok, sizeOf_run hsz, parts_toList]
    simp [h0, hn', h1, g1, newRow, cxNew]
end
end Go.Proofs.YtlenjioebdmooaaDoor.Den

namespace Go.Proofs.YtlenjioebdmooaaDoor.Den
open Go
set_option linter.unusedVariables false
set_option linter.unusedSimpArgs false
variable {P : Program}
theorem setCell_heap (w : World) (g o : Nat) (v : Value) (arr : Array Value) (e : TypeId) (fr : Nat × Nat) (h : w.heap[g]? = some (.cells arr e fr)) :
    (w.setCell ⟨g, o, none⟩ v).heap[g]? = some (.cells (arr.setIfInBounds o v) e fr) := by
  have hg := heap_lt h
  have hv : w.heap[g] = .cells arr e fr := (Array.getElem?_eq_some_iff.1 h).2
  simp [World.setCell, Array.getElem?_modify, h]
theorem setCell_other (w : World) (g o : Nat) (v : Value) (k : Nat) (h : k ≠ g) : (w.setCell ⟨g, o, none⟩ v).heap[k]? = w.heap[k]? := by
  simp [World.setCell, Array.getElem?_modify, Ne.symm h]
theorem setCells_heap (g : Nat) (e : TypeId) (fr : Nat × Nat) : ∀ (vs : List Value) (o : Nat) (w : World) (arr : Array Value), w.heap[g]? = some (.cells arr e fr) → o + vs.length ≤ arr.size →
    (w.setCells g o vs).heap[g]? = some (.cells ⟨arr.toList.take o ++ vs ++ arr.toList.drop (o + vs.length)⟩ e fr)
  | [], o, w, arr, h, _ => by
    simp only [World.setCells, List.append_nil, List.length_nil, Nat.add_zero, List.take_append_drop]; exact h
  | v :: r, o, w, arr, h, hl => by
    simp only [List.length_cons] at hl
    simp only [World.setCells]
    rw [setCells_heap g e fr r (o + 1) _ _ (setCell_heap w g o v arr e fr h) (by simp; omega)]
    have ho : o < arr.toList.length := by simp; omega
    congr 3
    simp only [Array.toList_setIfInBounds, List.length_cons]
    have e1 : (arr.toList.set o v).take (o + 1) = arr.toList.take o ++ [v] := by
      rw [List.take_add_one, List.take_set_of_le (Nat.le_refl _), List.getElem?_set_self ho]; rfl
    have e2 : (arr.toList.set o v).drop (o + 1 + r.length) = arr.toList.drop (o + (r.length + 1)) := by
      rw [List.drop_set_of_lt (by omega)]; congr 1; omega
    rw [e1, e2]; simp
theorem setCells_other (g : Nat) : ∀ (vs : List Value) (o : Nat) (w : World) (k : Nat), k ≠ g → (w.setCells g o vs).heap[k]? = w.heap[k]?
  | [], _, _, _, _ => rfl
  | v :: r, o, w, k, h => by simp only [World.setCells]; rw [setCells_other g r _ _ k h, setCell_other w g o v k h]
theorem setCells_frame (g : Nat) : ∀ (vs : List Value) (o : Nat) (w : World), (w.setCells g o vs).heap.size = w.heap.size ∧ (w.setCells g o vs).os = w.os ∧ (w.setCells g o vs).tape = w.tape ∧ (w.setCells g o vs).output = w.output
  | [], _, w => ⟨rfl, rfl, rfl, rfl⟩
  | v :: r, o, w => by
    simp only [World.setCells]
    obtain ⟨h1, h2, h3, h4⟩ := setCells_frame g r (o + 1) (w.setCell ⟨g, o, none⟩ v)
    exact ⟨h1.trans (by simp), h2, h3, h4⟩
theorem turn_set {c : Cx} (hs : PSim P c) {id B : Nat} {b b' : Blk} (hb : c.m[id]? = some b) (hφ : c.φ id = some B) (hp : b.prot = false) (hp' : b'.prot = false) (hl : b.isLoop = false)
    (hsz : b'.size = b.size) (hlen : b.len ≤ b'.len) {arr : Array Value} {fr : Nat × Nat} (hh : c.w.heap[B]? = some (.cells arr b.elem fr)) {o : Nat} {vs : List Value} (hle : o + vs.length ≤ arr.size) :
    Turn P c id b b' B B (c.w.setCells B o vs) := by
  obtain ⟨f1, f2, f3, f4⟩ := setCells_frame B vs o c.w
  refine ⟨hs, hb, hφ, hp, hp', nlF hl, hsz, hlen, fun _ => ⟨rfl, fun e n h => ?_⟩, .inl rfl, fun k x hk hx => by rw [setCells_other B vs o c.w k hk]; exact hx, by omega, f2, f3, f4⟩
  have := setCells_heap B b.elem fr vs o c.w arr hh hle
  simp only [World.shape?, hh] at h
  simp only [World.shape?, this]
  simp at h
  obtain ⟨rfl, rfl⟩ := h
  simp
  omega
theorem setRow_spec {α : Type} {s : Nat} {rows rows' : List (List α)} {r off : Nat} {xs : List α} (hr : ∀ x, x ∈ rows → x.length = s) (h : setRow rows r off xs = some rows') :
    r < rows.length ∧ off + xs.length ≤ s ∧ rows'.length = rows.length ∧ (∀ x, x ∈ rows' → x.length = s) ∧
    rows'.flatten = rows.flatten.take (r * s + off) ++ xs ++ rows.flatten.drop (r * s + off + xs.length) := by
  unfold setRow at h
  split at h
  case h_2 => cases h
  rename_i c hc
  split at h
  case isFalse => cases h
  rename_i hle
  obtain rfl := Option.some.inj h
  have hcs : c.length = s := hr c (List.mem_of_getElem? hc)
  have hrl : r < rows.length := (List.getElem?_eq_some_iff.1 hc).1
  refine ⟨hrl, by omega, by simp, fun x hx => ?_, ?_⟩
  · rcases List.mem_or_eq_of_mem_set hx with hx | hx
    · exact hr x hx
    · subst hx; simp; omega
  · clear h
    induction rows generalizing r with
    | nil => simp at hrl
    | cons y l ih =>
      have hy := hr y (by simp)
      cases r with
      | zero =>
        simp at hc; subst hc
        simp only [List.set_cons_zero, List.flatten_cons, Nat.zero_mul, Nat.zero_add]
        rw [List.take_append_of_le_length (by omega), List.drop_append_of_le_length (by omega)]
        simp
      | succ r =>
        have := ih (r := r) (fun x hx => hr x (List.mem_cons_of_mem _ hx)) (by simpa using hc) (by simpa using hrl)
        simp only [List.set_cons_succ, List.flatten_cons]
        rw [this]
        have e1 : (r + 1) * s + off = y.length + (r * s + off) := by rw [Nat.add_mul, hy]; omega
        have e2 : ∀ K, (y ++ l.flatten).drop (y.length + K) = l.flatten.drop K := fun K => by rw [← List.drop_drop, List.drop_left]
        rw [e1, List.take_length_add_append, Nat.add_assoc y.length, e2]
        simp
theorem put_spec {b b' : Blk} {n r off : Nat} {xs : List V} (hrows : ∀ x, x ∈ b.vrows → x.length = b.size) (h : b.put? n r off xs = some b') :
    n = b.len ∧ b.prot = false ∧ b.isLoop = false ∧ b'.prot = false ∧ b'.isLoop = false ∧ b'.size = b.size ∧ b'.len = b.len ∧ b'.elem = b.elem ∧ r < b.len ∧ off + xs.length ≤ b.size ∧ (∀ x, x ∈ b'.vrows → x.length = b.size) ∧
    b'.vrows.flatten = b.vrows.flatten.take (r * b.size + off) ++ xs ++ b.vrows.flatten.drop (r * b.size + off + xs.length) ∧ (b.plain → b'.plain) := by
  cases b with
  | flat e s rows p =>
    cases p with
    | true => simp [Blk.put?] at h
    | false =>
      simp only [Blk.put?] at h
      split at h
      case isFalse => cases h
      rename_i hn
      obtain ⟨ys, hy, h⟩ := Option.bind_eq_some_iff.1 h
      obtain ⟨rows', hr', rfl⟩ := Option.map_eq_some_iff.1 h
      obtain ⟨rfl, hsc⟩ := toSs_eq hy
      have hrows' : ∀ x, x ∈ rows → x.length = s := fun x hx => by
        have := hrows (x.map V.d) (by simp only [Blk.vrows]; exact List.mem_map.2 ⟨x, hx, rfl⟩)
        simpa [Blk.size] using this
      obtain ⟨g1, g2, g3, g4, g5⟩ := setRow_spec hrows' hr'
      have hm : ∀ l : List (List D), (l.map (List.map V.d)).flatten = l.flatten.map V.d := fun l => by induction l <;> simp_all
      refine ⟨hn, rfl, rfl, rfl, rfl, rfl, g3, rfl, g1, by simpa [Blk.size] using g2, fun x hx => ?_, ?_, fun hp x hx y hy => ?_⟩
      · simp only [Blk.vrows] at hx
        obtain ⟨x0, h0, rfl⟩ := List.mem_map.1 hx
        simpa [Blk.size] using g4 x0 h0
      · simp only [Blk.vrows, Blk.size, hm, g5]; simp
      ·
        have hin : y ∈ rows'.flatten := List.mem_flatten.2 ⟨x, hx, hy⟩
        rw [g5] at hin
        have old : ∀ z, z ∈ rows.flatten → D.scalar z = true := fun z hz => by
          obtain ⟨l, hl, hz⟩ := List.mem_flatten.1 hz
          exact hp l hl z hz
        rcases List.mem_append.1 hin with hin | hin
        · rcases List.mem_append.1 hin with hin | hin
          · exact old y (List.mem_of_mem_take hin)
          · exact hsc y hin
        · exact old y (List.mem_of_mem_drop hin)
  | gen e s rows p =>
    cases p with
    | true => simp [Blk.put?] at h
    | false =>
      simp only [Blk.put?] at h
      split at h
      case isFalse => cases h
      rename_i hn
      obtain ⟨rows', hr', rfl⟩ := Option.map_eq_some_iff.1 h
      obtain ⟨g1, g2, g3, g4, g5⟩ := setRow_spec hrows hr'
      exact ⟨hn, rfl, rfl, rfl, rfl, rfl, g3, rfl, g1, g2, g4, g5, fun _ => trivial⟩
  | loop => simp [Blk.put?] at h
theorem blk_of_cells {c : Cx} {B : Nat} {b : Blk} (hl : b.isLoop = false) (h : CellsOK c B b) : BlkOK P c B b := by
  cases b with
  | flat => exact h
  | gen => exact h
  | loop => cases hl
theorem cells_set {c : Cx} (hs : PSim P c) {id B : Nat} {b b' : Blk} (hb : c.m[id]? = some b) (hφ : c.φ id = some B) (hp : b.prot = false) (hp' : b'.prot = false) (hl : b.isLoop = false) (hl' : b'.isLoop = false)
    (hsz : b'.size = b.size) (hlen : b.len = b'.len) (he : b'.elem = b.elem) (hrows : ∀ x, x ∈ b'.vrows → x.length = b.size) (hpl : b.plain → b'.plain) {k : Nat} {xs : List V} {vs : List Value}
    (hfl : b'.vrows.flatten = b.vrows.flatten.take k ++ xs ++ b.vrows.flatten.drop (k + xs.length)) (hk : k + xs.length ≤ b.vrows.flatten.length) (hr : RelVs c xs vs) (h1 : ∀ u, u ∈ vs → OneC u) :
    Post P c (cxSet c id b' B (c.w.setCells B k vs)) ∧ (∀ j, j < vs.length → (c.w.cell? ⟨B, k + j, none⟩).isSome = true) ∧ (∀ j, j < vs.length → c.w.frozen? ⟨B, k + j, none⟩ = false) := by
  have hc := hs.cellsOK hb hφ hl
  obtain ⟨arr, fr, cap, us, rest, g1, g2, g3, g4, g5, g6⟩ := hc.ex
  have hvl := hr.len
  have hul := g5.len
  have hal : us.length + rest.length = arr.size := by rw [← Array.length_toList, g4]; simp
  have hT := turn_set hs hb hφ hp hp' hl hsz (Nat.le_of_eq hlen) g1 (o := k) (vs := vs) (by omega)
  refine ⟨hT.post (blk_of_cells hl' ⟨by rw [hsz]; exact hc.pos, ?_, by rw [hsz]; exact hrows, hc.noI, hpl hc.plain⟩), fun j hj => ?_, fun j hj => ?_⟩
  · refine ⟨_, fr, cap, us.take k ++ vs ++ us.drop (k + vs.length), rest, by rw [he]; exact setCells_heap B b.elem fr vs k c.w arr g1 (by omega), ?_, ?_, ?_, ?_, ?_⟩
    · rcases g2 with h | h
      · exact .inl h
      · refine .inr ?_; simp; omega
    · rw [hsz, ← g3]; simp; omega
    · simp only [g4]
      rw [List.take_append_of_le_length (by omega), List.drop_append_of_le_length (by omega)]
      simp
    · rw [hfl, ← hvl]
      refine RelVs.mono hT.st _ _ (((RelVs.take k g5).append hr).append (RelVs.drop _ g5))
    · intro u hu
      rcases List.mem_append.1 hu with hu | hu
      · rcases List.mem_append.1 hu with hu | hu
        · exact g6 u (List.mem_of_mem_take hu)
        · exact h1 u hu
      · exact g6 u (List.mem_of_mem_drop hu)
  · obtain ⟨u, hu, _⟩ := hc.cell (k + j) _ (List.getElem?_eq_getElem (by omega))
    rw [hu]; rfl
  · obtain ⟨u, _, _, _, hu⟩ := hc.cell (k + j) _ (List.getElem?_eq_getElem (by omega))
    exact hu
theorem good_store {c : Cx} (hs : PSim P c) {ty : TypeId} {size : Nat} (hz : sizeOfT P ty = some size) {x v : V} {xv vv : Value} (hx : RelV c x xv) (hv : RelV c v vv) {m' : Mem} (h : storeV c.m size x v = some m') :
    Good P c m' (.tup []) (do Instr.storeAt ty xv vv; pure .skip) := by
  cases x with
  | ptr id n row off =>
    simp only [RelV] at hx
    obtain ⟨blk, ad, hb, hn, rfl, hx⟩ := hx
    simp only [storeV] at h
    split at h
    case isFalse => cases h
    rename_i hc
    simp only [hb, Option.bind_some] at h
    obtain ⟨b', hput, rfl⟩ := Option.map_eq_some_iff.1 h
    have hnl : blk.isLoop = false ∧ n = blk.len := by
      cases blk with
      | flat e s rows p => cases p <;> simp [Blk.put?] at hput; exact ⟨rfl, hput.1⟩
      | gen e s rows p => cases p <;> simp [Blk.put?] at hput; exact ⟨rfl, hput.1⟩
      | loop => simp [Blk.put?] at hput
    obtain ⟨B, hφ, rfl⟩ := hx hnl.2
    have hcok := hs.cellsOK hb hφ hnl.1
    obtain ⟨p1, p2, p3, p4, p5, p6, p7, p8, p9, p10, p11, p12, p13⟩ := put_spec hcok.rows hput
    obtain ⟨k1, k2⟩ := cells_rel hv hc.2
    have hk : row * blk.size + off + v.cells.length ≤ blk.vrows.flatten.length := by
      rw [flatten_len hcok.rows]
      have hvl : blk.vrows.length = blk.len := by cases blk <;> simp_all [Blk.vrows, Blk.len, Blk.isLoop]
      rw [hvl]
      have := Nat.mul_le_mul_right blk.size (show row + 1 ≤ blk.len by omega)
      rw [Nat.add_mul] at this; omega
    obtain ⟨q1, q2, q3⟩ := cells_set hs hb hφ p2 p4 p3 p5 p6 p7.symm p8 p11 p13 p12 hk k1 k2
    refine .inl ⟨undef, _, .inr ⟨?_, rfl⟩, rfl, q1, undef_rel _⟩
    have hst := run_storeCells_cells (P := P) B (row * blk.size + off) vv.cells.toList 0 c.w (by simpa using q2) (by simpa using q3) (fun u hu => (OneC_iff u).1 (k2 u hu))
    have hsz : vv.cells.size = size := by rw [← Array.length_toList, k1.len]; exact hc.1
    refine run_u ?_
    simp [Instr.storeAt, Instr.sureAddr, storeVar, sizeOf_run hz, hsz, hst, cxSet]
  | _ => simp [storeV] at h
end Go.Proofs.YtlenjioebdmooaaDoor.Den

namespace Go.Proofs.YtlenjioebdmooaaDoor.Den
open Go
set_option linter.unusedVariables false
set_option linter.unusedSimpArgs false
variable {P : Program}
theorem flatRows_rows {m : Mem} {x : V} {ys : List (List D)} (h : flatRowsOf m x = some ys) : rowsOf m x = some (ys.map (List.map V.d)) := by
  cases x with
  | d x =>
    cases x with
    | nils => simp [flatRowsOf] at h; subst h; rfl
    | rs fl s rows tight =>
      cases fl with
      | false =>
        cases rows with
        | nil => simp [flatRowsOf] at h; subst h; rfl
        | cons a r => simp [flatRowsOf] at h
      | true => simp [flatRowsOf] at h; subst h; rfl
    | _ => simp [flatRowsOf] at h
  | sl id n off len =>
    simp only [flatRowsOf] at h
    obtain ⟨b, hb, h⟩ := Option.bind_eq_some_iff.1 h
    cases b with
    | flat e s rows p =>
      simp only at h
      split at h
      · rename_i hc; obtain rfl := Option.some.inj h; simp only [rowsOf, hb, Option.bind_some]; rw [if_pos hc]
      · cases h
    | gen => simp at h
    | loop => simp at h
  | so nl id n =>
    simp only [flatRowsOf] at h
    obtain ⟨b, hb, h⟩ := Option.bind_eq_some_iff.1 h
    cases b with
    | flat e s rows p =>
      simp only at h
      split at h
      · rename_i hc; obtain rfl := Option.some.inj h; simp only [rowsOf, hb, Option.bind_some]; rw [if_pos hc]
      · cases h
    | gen => simp at h
    | loop => simp at h
  | _ => simp [flatRowsOf] at h
theorem flatRows_scalar {c : Cx} (hs : PSim P c) {x : V} {xv : Value} (hr : RelV c x xv) {ys : List (List D)} (h : flatRowsOf c.m x = some ys) : ∀ r, r ∈ ys → ∀ y, y ∈ r → D.scalar y = true := by
  cases x with
  | d x =>
    cases x with
    | nils => simp [flatRowsOf] at h; subst h; simp
    | rs fl s rows tight =>
      cases fl with
      | false =>
        cases rows with
        | nil => simp [flatRowsOf] at h; subst h; simp
        | cons a r => simp [flatRowsOf] at h
      | true => simp [flatRowsOf] at h; subst h; simp only [RelV, RelD] at hr; exact hr.2.1 trivial
    | _ => simp [flatRowsOf] at h
  | sl id n off len =>
    simp only [flatRowsOf] at h
    obtain ⟨b, hb, h⟩ := Option.bind_eq_some_iff.1 h
    cases b with
    | flat e s' rows p =>
      simp only at h
      split at h
      · rename_i hc
        obtain rfl := Option.some.inj h
        simp only [RelV] at hr
        obtain ⟨blk, ad, cap, hb', hn, rfl, hcap, hr⟩ := hr
        rw [hb] at hb'; cases hb'
        obtain ⟨B, e', hφ, _⟩ := hr hc.1
        have hk := hs.cellsOK hb hφ rfl
        intro r hr' y hy
        exact hk.plain r (List.mem_of_mem_drop (List.mem_of_mem_take hr')) y hy
      · cases h
    | gen => simp at h
    | loop => simp at h
  | so nl id n =>
    obtain ⟨h', hl⟩ := flatRowsOf_so h
    cases nl with
    | true =>
      simp only [RelV] at hr
      obtain ⟨_, rfl, _⟩ := hr
      have := List.length_eq_zero_iff.1 hl
      subst this; simp
    | false =>
      simp only [flatRowsOf] at h
      obtain ⟨b, hb, h⟩ := Option.bind_eq_some_iff.1 h
      cases b with
      | flat e s' rows p =>
        simp only at h
        split at h
        · rename_i hc
          obtain rfl := Option.some.inj h
          simp only [RelV] at hr
          obtain ⟨blk, ad, cap, hb', hn, rfl, hcap, hr⟩ := hr
          rw [hb] at hb'; cases hb'
          obtain ⟨B, e', hφ, _⟩ := hr hc
          have hk := hs.cellsOK hb hφ rfl
          intro r hr' y hy
          exact hk.plain r hr' y hy
        · cases h
      | gen => simp at h
      | loop => simp at h
  | _ => simp [flatRowsOf] at h
theorem src_of {c : Cx} (hs : PSim P c) {x : V} {xv : Value} (hr : RelV c x xv) {rows : List (List V)} (h : rowsOf c.m x = some rows) {size : Nat} (hz : sizeOk c.m size x = true) {u e : TypeId} (hu : P.underlying u = some (.slice e)) :
    ∃ news, Src P size u xv rows.length news c.w ∧ RelVs c rows.flatten news ∧ (∀ v, v ∈ news → OneC v) ∧ (∀ r, r ∈ rows → r.length = size) := by
  rcases rows_seen hs hr h hz with ⟨rfl, rfl⟩ | ⟨b, o, sp, cap, us, rfl, hat, hc, hu', hl⟩
  · exact ⟨[], by simpa using Src.ofNil c.w hu 0, by simp [RelVs], by simp, by simp⟩
  · refine ⟨us, Src.ofSlice c.w hu ⟨b, o, sp⟩ rows.length cap us (by rw [hu'.rel.len, flatten_len hl]) hat (fun v hv => (OneC_iff v).1 (hu'.one v hv)), hu'.rel, hu'.one, hl⟩
structure Zeros (P : Program) (i : TypeInfo) (z : Value) (u : TypeId) (xv : Value) (n : Nat) (news : List Value) : Prop where
  kn : ∃ kn, P.underlying u = some (.int kn)
  kq : ∃ kq, xv = .int kq (n : Int)
  eqn : news = (Builtin.zeroCells z.cells n).toList
  zs : z.cells.size = i.size
  pos : 0 < i.size
  one : ∀ v, v ∈ news → v.oneCell' = true
  h63 : n ≤ 9223372036854775807
  h48 : n * i.bytes ≤ 281474976710656
def SrcZ (P : Program) (i : TypeInfo) (z : Value) (u : TypeId) (xv : Value) (n : Nat) (news : List Value) (w : World) : Prop :=
  Src P i.size u xv n news w ∨ Zeros P i z u xv n news
theorem zeroCells_size' (z : Array Value) (n : Nat) : (Builtin.zeroCells z n).size = n * z.size := by simp [Builtin.zeroCells]
theorem SrcZ.newsLen {i : TypeInfo} {z : Value} {u : TypeId} {xv : Value} {n : Nat} {news : List Value} {w : World} (h : SrcZ P i z u xv n news w) : news.length = n * i.size := by
  rcases h with h | h
  · exact h.newsLen
  · rw [h.eqn, Array.length_toList, zeroCells_size', h.zs]
theorem run_append_room_z (w : World) (t tx ty e : TypeId) (i : TypeInfo) (z : Value) (ht : P.underlying t = some (.slice e)) (hi : P.info? e = some i) (hz : i.zero = some z) (b off sLen sCap : Nat) (x : Value) (n : Nat) (news : List Value) (hs : SrcZ P i z tx x n news w)
    (hroom : sLen + n ≤ sCap) (hc : ∀ j, j < news.length → (w.cell? ⟨b, off + sLen * i.size + j, none⟩).isSome = true) (hf : ∀ j, j < news.length → w.frozen? ⟨b, off + sLen * i.size + j, none⟩ = false) :
    (Builtin.append_ #[t, tx] ty #[.slice (some ⟨b, off, none⟩) sLen sCap, x]).run P w = .ok (.slice (some ⟨b, off, none⟩) (sLen + n) sCap) (w.setCells b (off + sLen * i.size) news) := by
  rcases hs with hs | hs
  · exact run_append_room_src w t tx ty e i ht hi b off sLen sCap x n news hs hroom hc hf
  · obtain ⟨kn, hk⟩ := hs.kn
    obtain ⟨kq, rfl⟩ := hs.kq
    have hst := run_storeCells_cells (P := P) b (off + sLen * i.size) news 0 w (by simpa using hc) (by simpa using hf) hs.one
    simp only [Nat.add_zero] at hst
    have hw : IntKind.i64.wrap (n : Int) = n := by have := hs.h63; rw [IntKind.wrap_i64]; omega
    have hneg : ¬ ((n : Int) < 0) := by omega
    have h48i : ¬ (281474976710656 < (n : Int) * (i.bytes : Int)) := by
      have := hs.h48
      rw [← Int.natCast_mul]; omega
    by_cases h0 : n = 0
    · have hn : news = [] := by rw [hs.eqn, h0]; simp [Builtin.zeroCells]
      subst h0
      rw [hn] at hst
      simp at hroom
      simp [Builtin.append_, run_underlying ht, run_underlying hk, sizeOf, typeInfo, hi, asInt, asIntOf, hroom, Addr.add_lit, hn, storeCells, World.setCells, show IntKind.i64.wrap 0 = 0 from rfl]
    · have hns : ¬ (n * i.size = 0) := Nat.mul_ne_zero h0 (by have := hs.pos; omega)
      rw [hs.eqn] at hst ⊢
      simp [Builtin.append_, run_underlying ht, run_underlying hk, sizeOf, typeInfo, zeroValue, hi, hz, asInt, asIntOf, hw, hneg, h48i, hns, h0, hroom, Addr.add_lit, hst]
theorem run_append_grow_z (w : World) (t tx ty e : TypeId) (i : TypeInfo) (z : Value) (ht : P.underlying t = some (.slice e)) (hi : P.info? e = some i) (hz : i.zero = some z) (base : Option Addr) (sLen sCap : Nat) (olds : List Value)
    (hold : (Builtin.firstCells i.size sLen (.slice base sLen sCap)).run P w.drew = .ok olds.toArray w.drew) (x : Value) (n : Nat) (news : List Value) (hs : SrcZ P i z tx x n news w)
    (hg : sCap < sLen + n) (hn0 : 0 < n) (h63 : ((sLen + n : Nat) : Int) ≤ 9223372036854775807) (hfit : Builtin.nextslicecap (sLen + n) sCap * i.bytes ≤ 281474976710656) :
    (Builtin.append_ #[t, tx] ty #[.slice base sLen sCap, x]).run P w =
      .ok (.slice (some ⟨w.heap.size, 0, none⟩) (sLen + n) (grownCap w (sLen + n) sCap e))
        (w.drew.alloc (.cells ((olds ++ news).toArray ++ Builtin.zeroCells z.cells (grownCap w (sLen + n) sCap e - (sLen + n))) e)) := by
  rcases hs with hs | hs
  · exact run_append_grow_src w t tx ty e i z ht hi hz base sLen sCap olds hold x n news hs hg h63 hfit
  · obtain ⟨kn, hk⟩ := hs.kn
    obtain ⟨kq, rfl⟩ := hs.kq
    have := Lib.run_append_grow_zeros w t tx ty e i z kq kn ht hk hi hz base sLen sCap olds hold n hn0 hs.pos hg h63 hs.h48 hfit
    rw [this, hs.eqn]
    congr 4
    apply Array.ext'
    simp
theorem run_append_nothing_z (w : World) (t tx ty e : TypeId) (i : TypeInfo) (z : Value) (ht : P.underlying t = some (.slice e)) (hi : P.info? e = some i) (base : Option Addr) (sLen sCap : Nat) (hle : sLen ≤ sCap) (x : Value) (hs : SrcZ P i z tx x 0 [] w) :
    (Builtin.append_ #[t, tx] ty #[.slice base sLen sCap, x]).run P w = .ok (.slice base sLen sCap) w := by
  rcases hs with hs | hs
  · exact run_append_nothing w t tx ty e i ht hi base sLen sCap hle x hs
  · obtain ⟨kn, hk⟩ := hs.kn
    obtain ⟨kq, rfl⟩ := hs.kq
    cases base <;> simp [Builtin.append_, run_underlying ht, run_underlying hk, sizeOf, typeInfo, hi, asInt, asIntOf, hle, storeCells, show IntKind.i64.wrap 0 = 0 from rfl]
def Apps (P : Program) (c : Cx) (i : TypeInfo) (z : Value) (u : TypeId) (xv : Value) (rows : List (List V)) : Prop :=
  ∃ news, SrcZ P i z u xv rows.length news c.w ∧ RelVs c rows.flatten news ∧ (∀ v, v ∈ news → OneC v) ∧ (∀ r, r ∈ rows → r.length = i.size)
theorem apps_of {c : Cx} (hs : PSim P c) {x : V} {xv : Value} (hr : RelV c x xv) {rows : List (List V)} (h : rowsOf c.m x = some rows) {i : TypeInfo} {z : Value} (hz : sizeOk c.m i.size x = true) {u e : TypeId} (hu : P.underlying u = some (.slice e)) : Apps P c i z u xv rows := by
  obtain ⟨news, h1, h2, h3, h4⟩ := src_of hs hr h hz hu
  exact ⟨news, .inl h1, h2, h3, h4⟩
theorem apps_zeros {c : Cx} {i : TypeInfo} {z : Value} {zs : List D} (hz : constCells z.cells.toList = some zs) (hl : zs.length = i.size) (hpos : 0 < i.size) {u : TypeId} {kn kq : IntKind} (hu : P.underlying u = some (.int kn)) {n : Nat} (h63 : n ≤ 9223372036854775807) (h48 : n * i.bytes ≤ 281474976710656) :
    Apps P c i z u (.int kq (n : Int)) ((List.replicate n zs).map (List.map V.d)) := by
  obtain ⟨r1, r2⟩ := constCells_rel (c := c) hz
  have hzl : z.cells.toList.length = i.size := by rw [r1.len]; simpa using hl
  have hzs : z.cells.size = i.size := by rw [← Array.length_toList]; exact hzl
  obtain ⟨q1, q2⟩ := zeros_rel r1 r2 n (by omega)
  have e : (Builtin.zeroCells z.cells n).toList = ((Array.range (n * z.cells.toList.length)).map (fun i => z.cells.toList.toArray[i % z.cells.toList.toArray.size]!)).toList := by
    simp [Builtin.zeroCells]
  rw [← e] at q1 q2
  refine ⟨_, .inr ⟨⟨kn, hu⟩, ⟨kq, by simp⟩, by simp, hzs, hpos, fun v hv => (OneC_iff v).1 (q2 v hv), by simpa using h63, by simpa using h48⟩, by simpa using q1, q2, fun r hr => ?_⟩
  obtain ⟨r0, h0, rfl⟩ := List.mem_map.1 hr
  rw [(List.mem_replicate.1 h0).2]; simpa using hl
theorem alloc_heap_lt (w : World) (o : Obj) (k : Nat) (h : k < w.heap.size) : (w.alloc o).heap[k]? = w.heap[k]? := by
  unfold World.alloc
  simp only
  rw [Array.getElem?_push_lt h]
  exact (Array.getElem?_eq_getElem h).symm
theorem zeroCells_size (z : Array Value) (n : Nat) : (Builtin.zeroCells z n).size = n * z.size := by simp [Builtin.zeroCells]
theorem grownCap_le (w : World) (need old : Nat) (e : TypeId) : need ≤ grownCap w need old e := by
  unfold grownCap Question.cut; simp
structure Grown (b b' : Blk) (rows : List (List V)) : Prop where
  prot : b.prot = false
  prot' : b'.prot = false
  nl : b.isLoop = false
  nl' : b'.isLoop = false
  size : b'.size = b.size
  elem : b'.elem = b.elem
  vrows : b'.vrows = b.vrows ++ rows
  len : b'.len = b.len + rows.length
  vlen : b.vrows.length = b.len
  plain : b.plain → b'.plain
theorem good_growZ {c : Cx} (hs : PSim P c) {t u e ty : TypeId} (ht : P.underlying t = some (.slice e)) {i : TypeInfo} {z : Value} (hi : P.info? e = some i) (hz : i.zero = some z) (hzs : z.cells.size = i.size)
    {id n : Nat} {svv xv : Value} {b b' : Blk} {rows : List (List V)} (hsv : RelV c (.sl id n 0 n) svv) (hb : c.m[id]? = some b) (hn : n = b.len) (hbs : b.size = i.size)
    (hS : Apps P c i z u xv rows) (hg : Grown b b' rows) (hbytes : (n + rows.length) * i.bytes ≤ 140737488355328) (h63 : n + rows.length ≤ 9223372036854775807) (hne : rows.length ≠ 0) (hbe : b.elem = e) :
    Good P c (c.m.set id b') (.sl id (n + rows.length) 0 (n + rows.length)) (do pure (.value (← Builtin.append_ #[t, u] ty #[svv, xv]))) := by
  simp only [RelV] at hsv
  obtain ⟨blk, ad, cap, hb', hn', rfl, hcap, hsv⟩ := hsv
  rw [hb] at hb'; cases hb'
  obtain ⟨B, e', hφ, rfl, hsh⟩ := hsv hn
  have hid : id < c.m.length := hs.dom id B hφ
  obtain ⟨news, hsrc, hrel, h1, hl⟩ := hS
  have hk := hs.cellsOK hb hφ hg.nl
  obtain ⟨arr, fr, cp, us, rest, g1, g2, g3, g4, g5, g6⟩ := hk.ex
  have hcp : cp = cap := by
    simp only [World.shape?, g1, Nat.zero_add] at hsh
    simp at hsh
    have := hsh.2
    rw [g3] at this
    exact Nat.eq_of_mul_eq_mul_right hk.pos this
  subst hcp
  have hul : us.length = n * b.size := by rw [g5.len, flatten_len hk.rows, hg.vlen, hn]
  have hnl : news.length = rows.length * b.size := by rw [hsrc.newsLen, hbs]
  have hal : us.length + rest.length = arr.size := by rw [← Array.length_toList, g4]; simp
  have hfl : b'.vrows.flatten = b.vrows.flatten ++ rows.flatten := by rw [hg.vrows]; simp
  have hrw : ∀ r, r ∈ b'.vrows → r.length = b'.size := fun r hr => by
    rw [hg.vrows] at hr; rw [hg.size]
    rcases List.mem_append.1 hr with hr | hr
    · exact hk.rows r hr
    · rw [hl r hr, hbs]
  by_cases hroom : n + rows.length ≤ cp
  ·
    have hmul : n * b.size + rows.length * b.size ≤ cp * b.size := by rw [← Nat.add_mul]; exact Nat.mul_le_mul_right _ hroom
    have hin : ∀ j, j < news.length → arr[n * b.size + j]? ≠ none := fun j hj => by
      rw [ne_eq, Array.getElem?_eq_none_iff]; omega
    have hc1 : ∀ j, j < news.length → (c.w.cell? ⟨B, n * i.size + j, none⟩).isSome = true := fun j hj => by
      rw [← hbs]
      simp only [World.cell?, g1]
      simp
      omega
    have hc2 : ∀ j, j < news.length → c.w.frozen? ⟨B, n * i.size + j, none⟩ = false := fun j hj => by
      rw [← hbs]
      obtain ⟨lo, hi'⟩ := fr
      simp only [World.frozen?, g1]
      simp only at g2
      rw [Bool.and_eq_false_iff]; simp; omega
    have hrun := run_append_room_z (P := P) c.w t u ty e i z ht hi hz B 0 n cp xv rows.length news hsrc hroom (by simpa using hc1) (by simpa using hc2)
    obtain ⟨f1, f2, f3, f4⟩ := setCells_frame B news (n * b.size) c.w
    have hheap := setCells_heap B b.elem fr news (n * b.size) c.w arr g1 (by omega)
    have hT : Turn P c id b b' B B (c.w.setCells B (n * b.size) news) :=
      ⟨hs, hb, hφ, hg.prot, hg.prot', nlF hg.nl, hg.size, by rw [hg.len]; omega, fun e => by rw [hg.len] at e; omega, .inl rfl, fun k o hk ho => by rw [setCells_other B news _ c.w k hk]; exact ho, by omega, f2, f3, f4⟩
    have harr : (arr.toList.take (n * b.size) ++ news ++ arr.toList.drop (n * b.size + news.length)).length = arr.size := by simp; omega
    have hP := hT.post (blk_of_cells hg.nl' ⟨by rw [hg.size]; exact hk.pos, ⟨_, fr, cp, us ++ news, rest.drop news.length, by rw [hg.elem]; exact hheap, by
        rcases g2 with h | h
        · exact .inl h
        · refine .inr ?_; simp only [List.size_toArray]; omega, by rw [hg.size, ← g3]; simp only [List.size_toArray]; omega, by
        simp only [g4]
        rw [← hul, List.take_left, ← List.drop_drop, List.drop_left]; try simp, by
        rw [hfl]; exact RelVs.mono hT.st _ _ (g5.append hrel), fun v hv => by
        rcases List.mem_append.1 hv with hv | hv
        · exact g6 v hv
        · exact h1 v hv⟩, hrw, hk.noI, hg.plain hk.plain⟩)
    refine Good.new (c' := cxSet c id b' B _) (run_v (u := .slice (some ⟨B, 0, none⟩) (n + rows.length) cp) ?_) rfl hP ?_
    · simp only [Nat.zero_mul]
      rw [hrun]; simp [cxSet, hbs]
    · simp only [RelV]
      refine ⟨b', _, cp, by simp [cxSet, hid], by rw [hg.len]; omega, rfl, hroom, fun _ => ⟨B, b.elem, by simp [cxSet, updφ], by simp, ?_⟩⟩
      simp only [cxSet, World.shape?, hheap, hg.size]
      simp only [List.size_toArray, harr, g3, Nat.zero_add]
  ·
    have hrun := run_append_grow_z (P := P) c.w t u ty e i z ht hi hz (some ⟨B, 0, none⟩) n cp us (run_firstCells_some c.w.drew i.size n ⟨B, 0, none⟩ n cp us (by rw [hul, hbs]) (fun j v hv => by
        rw [addr_add]
        have hj : j < us.length := (List.getElem?_eq_some_iff.1 hv).1
        have ha : arr[j]? = some v := by
          have : arr.toList[j]? = some v := by rw [g4, List.getElem?_append_left hj, hv]
          simpa using this
        simp only [World.cell?, Nat.zero_add, heap_drew, g1]
        simp [ha])) xv rows.length news hsrc (by omega) (by omega) (by omega) (growslice_fits (by omega) hbytes)
    have hcapl := grownCap_le c.w (n + rows.length) cp e
    have hzl : (Builtin.zeroCells z.cells (grownCap c.w (n + rows.length) cp e - (n + rows.length))).toList.length = (grownCap c.w (n + rows.length) cp e - (n + rows.length)) * b.size := by
      rw [Array.length_toList, zeroCells_size, hzs, hbs]
    have hobj : (us ++ news).toArray ++ Builtin.zeroCells z.cells (grownCap c.w (n + rows.length) cp e - (n + rows.length)) = ⟨(us ++ news) ++ (Builtin.zeroCells z.cells (grownCap c.w (n + rows.length) cp e - (n + rows.length))).toList⟩ := by
      apply Array.ext'; simp
    have hT : Turn P c id b b' B c.w.heap.size (c.w.drew.alloc (.cells ((us ++ news).toArray ++ Builtin.zeroCells z.cells (grownCap c.w (n + rows.length) cp e - (n + rows.length))) e)) :=
      ⟨hs, hb, hφ, hg.prot, hg.prot', nlF hg.nl, hg.size, by rw [hg.len]; omega, fun e => by rw [hg.len] at e; omega, .inr (Nat.le_refl _), fun k o hk ho => by
        have := heap_lt ho
        rw [alloc_heap_lt c.w.drew _ k (by simpa using this)]; exact ho, by simp, rfl, rfl, rfl⟩
    have hheap : (c.w.drew.alloc (.cells ((us ++ news).toArray ++ Builtin.zeroCells z.cells (grownCap c.w (n + rows.length) cp e - (n + rows.length))) e)).heap[c.w.heap.size]? = some (.cells ⟨(us ++ news) ++ (Builtin.zeroCells z.cells (grownCap c.w (n + rows.length) cp e - (n + rows.length))).toList⟩ b'.elem (0, 0)) := by
      have := heap_alloc_self c.w.drew (.cells ((us ++ news).toArray ++ Builtin.zeroCells z.cells (grownCap c.w (n + rows.length) cp e - (n + rows.length))) e)
      rw [World.size_drew] at this
      rw [this, hobj, hg.elem, hbe]
    have hsize : (us ++ news).length + (Builtin.zeroCells z.cells (grownCap c.w (n + rows.length) cp e - (n + rows.length))).toList.length = grownCap c.w (n + rows.length) cp e * b.size := by
      rw [hzl, List.length_append, hul, hnl, ← Nat.add_mul, ← Nat.add_mul]; congr 1; omega
    have hP := hT.post (blk_of_cells hg.nl' ⟨by rw [hg.size]; exact hk.pos, ⟨_, (0, 0), grownCap c.w (n + rows.length) cp e, us ++ news, _, hheap, .inl rfl, by rw [hg.size, ← hsize]; simp [Nat.add_assoc], rfl, by
        rw [hfl]; exact RelVs.mono hT.st _ _ (g5.append hrel), fun v hv => by
        rcases List.mem_append.1 hv with hv | hv
        · exact g6 v hv
        · exact h1 v hv⟩, hrw, fun o hI => by have := hs.imm _ _ hI; omega, hg.plain hk.plain⟩)
    refine Good.new (c' := cxSet c id b' c.w.heap.size _) (run_v (u := .slice (some ⟨c.w.heap.size, 0, none⟩) (n + rows.length) (grownCap c.w (n + rows.length) cp e)) ?_) rfl hP ?_
    · simp only [Nat.zero_mul]
      rw [hrun]; simp [cxSet]
    · simp only [RelV]
      refine ⟨b', _, _, by simp [cxSet, hid], by rw [hg.len]; omega, rfl, hcapl, fun _ => ⟨c.w.heap.size, b'.elem, by simp [cxSet, updφ], by simp, ?_⟩⟩
      simp only [cxSet, World.shape?, hheap, hg.size]
      simp only [Nat.zero_add, ← hsize]; simp [Nat.add_assoc]
theorem good_grow {c : Cx} (hs : PSim P c) {t u e ty : TypeId} (ht : P.underlying t = some (.slice e)) (hu : P.underlying u = some (.slice e)) {i : TypeInfo} {z : Value} (hi : P.info? e = some i) (hz : i.zero = some z) (hzs : z.cells.size = i.size)
    {id n : Nat} {sv x : V} {svv xv : Value} {b b' : Blk} {rows : List (List V)} (hsv : RelV c (.sl id n 0 n) svv) (hx : RelV c x xv) (hb : c.m[id]? = some b) (hn : n = b.len) (hbs : b.size = i.size)
    (hrows : rowsOf c.m x = some rows) (hxs : sizeOk c.m i.size x = true) (hg : Grown b b' rows) (hbytes : (n + rows.length) * i.bytes ≤ 140737488355328) (h63 : n + rows.length ≤ 9223372036854775807) (hne : rows.length ≠ 0) (hbe : b.elem = e) :
    Good P c (c.m.set id b') (.sl id (n + rows.length) 0 (n + rows.length)) (do pure (.value (← Builtin.append_ #[t, u] ty #[svv, xv]))) :=
  good_growZ hs ht hi hz hzs hsv hb hn hbs (apps_of hs hx hrows hxs hu) hg hbytes h63 hne hbe
end Go.Proofs.YtlenjioebdmooaaDoor.Den
