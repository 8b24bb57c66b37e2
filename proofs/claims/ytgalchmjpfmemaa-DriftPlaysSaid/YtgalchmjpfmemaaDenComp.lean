/- The compiler from the model's code to the evaluator's: a computable function; what it refuses is 'none'. -/
import Derived.Test.YtgalchmjpfmemaaDenDefs
import Derived.CheckFast
namespace Go.Proofs.Ytgalchmjpfmemaa.Den
open Go

def D.ofConst : Value → Option D
  | .bool b => some (.bool b)
  | .int k n => some (.int k n)
  | .string s => some (.str s)
  | .pointer none => some .nilp
  | .slice none 0 0 => some .nils
  | .nilFunc => some .nilf
  | .nilIface => some .nili
  | _ => none

def constCells : List Value → Option (List D)
  | [] => some []
  | v :: r => match D.ofConst v, constCells r with | some d, some l => some (d :: l) | _, _ => none

def V.ofConst (v : Value) : Option V :=
  match v with
  | .agg cs => (constCells cs.toList).map fun l => .agg (l.map V.d)
  | .tuple vs => if vs.size = 0 then some (.tup []) else none
  | v => (D.ofConst v).map V.d

def cO : Operand → Option O
  | .tmp i => some (.t i)
  | .const v => (V.ofConst v).map O.v
  | .global g => some (.g g)
  | .func f => some (.v (.fn (.func f) [] []))

def cOs : List Operand → Option (List O)
  | [] => some []
  | x :: r => match cO x, cOs r with | some a, some l => some (a :: l) | _, _ => none

def cOpt : Option Operand → Option (Option O)
  | none => some none
  | some x => (cO x).map some

section
variable (P : Program)

def aggOf (t : TypeId) : Option Bool :=
  match P.underlying t with
  | some (.struct _) | some (.array _ _) => some true
  | some _ => some false
  | none => none

def sizeOfT (t : TypeId) : Option Nat := (P.info? t).map (·.size)
def zeroOf (t : TypeId) : Option (List D) := (P.info? t).bind fun i => i.zero.bind fun z => constCells z.cells.toList

/-- Does a type hold plain data alone (no pointers, functions, slices, interfaces)? -/
def flatT : Nat → TypeId → Bool
  | 0, _ => false
  | n + 1, t => match P.underlying t with
    | some .bool | some (.int _) | some .string => true
    | some (.struct fs) => fs.toList.all fun f => flatT n f.type
    | some (.array _ e) => flatT n e
    | _ => false

def isFlat (t : TypeId) : Bool := flatT P 20 t

/-- Is '==' at a type told by its cells alone? -/
def eqT : Nat → TypeId → Bool
  | 0, _ => false
  | n + 1, t => match P.underlying t with
    | some .bool | some (.int _) | some .string => true
    | some (.struct fs) => fs.toList.all fun f => f.name != "_" && eqT n f.type
    | some (.array _ e) => eqT n e
    | _ => false

def cParts (fields : Array Field) : List (Nat × Operand) → Option (List (Nat × Nat × O))
  | [] => some []
  | (i, x) :: r => match fields[i]?, cO x, cParts fields r with
    | some f, some o, some l => match sizeOfT P f.type with
      | some s => some ((f.offset, s, o) :: l)
      | none => none
    | _, _, _ => none

def cPartsA (size : Nat) : List (Nat × Operand) → Option (List (Nat × Nat × O))
  | [] => some []
  | (i, x) :: r => match cO x, cPartsA size r with
    | some o, some l => some ((i * size, size, o) :: l)
    | _, _ => none

def cPartsS : List (Nat × Operand) → Option (List (Nat × O))
  | [] => some []
  | (i, x) :: r => match cO x, cPartsS r with
    | some o, some l => some ((i, o) :: l)
    | _, _ => none

def cBin (op : BinOp) (t : TypeId) (x y : O) : Option I :=
  match P.underlying t with
  | some (.int _) => some (.bin op x y)
  | some .string => some (.bin op x y)
  | some .bool => match op with | .eql => some (.beq .bool false x y) | .neq => some (.beq .bool true x y) | _ => none
  | some (.pointer _) => match op with | .eql => some (.beq .ptr false x y) | .neq => some (.beq .ptr true x y) | _ => none
  | some (.slice _) => match op with | .eql => some (.beq .slc false x y) | .neq => some (.beq .slc true x y) | _ => none
  | some (.struct _) | some (.array _ _) =>
    if eqT P 20 t && !(P.stoodInHeld t) && false then match op with | .eql => some (.beq .cells false x y) | .neq => some (.beq .cells true x y) | _ => none else none
  | _ => none

def cCall (c : Call) (_type : TypeId) : Option I :=
  match c.callee with
  | .value f => match cO f, cOs c.args.toList with | some g, some l => some (.call g l) | _, _ => none
  | .invoke _ _ => none
  | .builtin b => match cOs c.args.toList with
    | none => none
    | some l => match b, l, c.argTypes.toList with
      | .len, [x], [t] => match P.underlying t with
        | some .string => some (.lens x)
        | some (.slice _) => some (.len x)
        | some (.array n _) => some (.lenc n)
        | _ => none
      | .append, [s, x], [t, u] => match P.underlying t, P.underlying u with
        | some (.slice e), some (.slice e') => if e = e' then match P.info? e with
          | some i => match i.zero with
            | some z => if 0 < i.size && 0 < i.bytes && z.cells.size == i.size then some (.append e (isFlat P e) i.size i.bytes s x) else none
            | none => none
          | none => none else none
        | _, _ => none
      | .copy, [s, x], [t, u] => match P.underlying t, P.underlying u with
        | some (.slice e), some (.slice e') => if e = e' then match P.info? e with
          | some i => if 0 < i.size then some (.copy i.size s x) else none
          | none => none else none
        | _, _ => none
      | .max, l, _ => some (.mx l)
      | .min, l, _ => some (.mn l)
      | _, _, _ => none

def cOp (o : Oper) : Option I :=
  match o.op with
  | .move x | .assign x => (cO x).map I.mov
  | .pick c a b => match cO c, cO a, cO b with | some c, some a, some b => some (.pick c a b) | _, _, _ => none
  | .alloc e => (zeroOf P e).bind fun z => if 0 < z.length then some (.alloc e z (isFlat P e)) else none
  | .box e x => match cO x, sizeOfT P e with | some x, some s => if 0 < s then some (.box e (isFlat P e) s x) else none | _, _ => none
  | .build t parts => match zeroOf P t, P.underlying t with
    | some z, some (.struct fs) => if fs.toList.all (fun f => (sizeOfT P f.type).isSome) then (cParts P fs parts.toList).map fun l => .build z l else none
    | some z, some (.array _ e) => (sizeOfT P e).bind fun s => (cPartsA s parts.toList).map fun l => .build z l
    | _, _ => none
  | .buildSlice t len parts => match P.underlying t with
    | some (.slice e) => match sizeOfT P e, zeroOf P e, cPartsS parts.toList with
      | some s, some z, some l => if len * s ≤ 16777216 && 0 < s && z.length == s then some (.bslice e (isFlat P e) s len z l) else none
      | _, _, _ => none
    | _ => none
  | .load t a => match aggOf P t, sizeOfT P t, cO a with | some g, some s, some x => some (.load g s x) | _, _, _ => none
  | .store t a v => match sizeOfT P t, cO a, cO v with | some s, some x, some y => some (.store s x y) | _, _, _ => none
  | .nilCheck x => (cO x).map I.nilck
  | .binOp op t x y _ => match cO x, cO y with | some a, some b => cBin P op t a b | _, _ => none
  | .unOp op _ x => (cO x).map (I.unop op)
  | .convert s d x => match P.underlying s, P.underlying d, cO x with
    | some (.int _), some (.int k), some x => some (.conv (.int k) x)
    | some .string, some .string, some x => some (.conv .same x)
    | some .string, some (.slice e), some x => (match P.underlying e, sizeOfT P e with | some (.int .u8), some 1 => some (.conv (.ofStr e) x) | _, _ => none)
    | some (.slice e), some .string, some x => (match P.underlying e, sizeOfT P e with | some (.int .u8), some 1 => some (.conv .toStr x) | _, _ => none)
    | some (.slice _), some (.slice e), some x => if s = d then (match P.underlying e with | some (.int .u8) => some (.conv .mark x) | _ => none) else none
    | _, _, _ => none
  | .sliceToArrayPointer t x => match P.underlying t, cO x with | some (.array n e), some x => (sizeOfT P e).map fun s => .arrP n s x | _, _ => none
  | .makeInterface t x => match P.underlying t with | some (.interface _) => none | some _ => (cO x).map (I.mkif t) | none => none
  | .makeFunc f a b => match cOs a.toList, cOs b.toList with | some a, some b => some (.mkfn f a b) | _, _ => none
  | .makeSlice t l c => match P.underlying t, cO l, cO c with
    | some (.slice e), some l, some c => match P.info? e, zeroOf P e with
      | some i, some z => if 0 < i.size && 0 < i.bytes && z.length == i.size then some (.mksl e (isFlat P e) z i.bytes l c) else none
      | _, _ => none
    | _, _, _ => none
  | .slice t x lo hi mx => match P.underlying t, cO x, cOpt lo, cOpt hi, cOpt mx with
    | some (.slice e), some x, some lo, some hi, some mx => (sizeOfT P e).bind fun s => if 0 < s ∧ (mx.isSome = true → hi.isSome = true) then some (.slice s x lo hi mx) else none
    | some .string, some x, some lo, some hi, some none => some (.slstr x lo hi)
    | some (.array n e), some x, some lo, some hi, some mx => (match sizeOfT P e with | some s => if 0 < s then some (.slarr n s x lo hi mx) else none | none => none)
    | _, _, _, _, _ => none
  | .fieldAddr s x f => match P.underlying s, cO x with
    | some (.struct fs), some x => (match fs[f]? with | some f => (match sizeOfT P f.type with | some s => if 0 < s then some (.fieldA f.offset x) else none | none => none) | none => none)
    | _, _ => none
  | .field t x f => match P.underlying t, cO x with
    | some (.struct fs), some x => (match fs[f]? with
      | some f => (match aggOf P f.type, sizeOfT P f.type with | some g, some s => some (.field g f.offset s x) | _, _ => none)
      | none => none)
    | _, _ => none
  | .indexAddr t x i => match P.underlying t, cO x, cO i with
    | some (.slice e), some x, some i => (sizeOfT P e).map fun s => .idxA s x i
    | some (.array n e), some x, some i => (sizeOfT P e).map fun s => .idxAA n s x i
    | _, _, _ => none
  | .index t x i => match P.underlying t, cO x, cO i with
    | some (.array n e), some x, some i => (match aggOf P e, sizeOfT P e with | some g, some s => some (.idx g n s x i) | _, _ => none)
    | some .string, some x, some i => some (.idxs x i)
    | _, _, _ => none
  | .extract t i => (cO t).map (I.extract i)
  | .call c => cCall P c o.type
  | _ => none

def cOpC (nt : Nat) (ops : Array Oper) (o : Oper) : Option OpC :=
  match cOp P o with
  | none => none
  | some i =>
    match (match o.dst with | some d => if d < nt then some (some d) else none | none => some none : Option (Option Nat)),
      (match o.guard with | some (j, w) => (match (ops[j]?).bind (·.dst) with | some t => some (some (t, w)) | none => none) | none => some none : Option (Option (Nat × Bool))) with
    | some d, some g => some ⟨d, g, i⟩
    | _, _ => none

def cOpsC (nt : Nat) (ops : Array Oper) : List Oper → Option (List OpC)
  | [] => some []
  | o :: r => match cOpC P nt ops o, cOpsC nt ops r with | some a, some l => some (a :: l) | _, _ => none

/-- Where the tail begins whose operations come behind all that stand ahead of them. -/
def tailAt (b : Array Nat) : Nat → Nat
  | 0 => 0
  | n + 1 => if b.getD n 0 = 2 ^ n - 1 then tailAt b n else n + 1

def O.tmp? : O → Option Nat
  | .t i => some i
  | _ => none

/-- What an instruction looks at. -/
def I.ops : I → List O
  | .mov x => [x]
  | .pick c a b => [c, a, b]
  | .alloc .. => []
  | .box _ _ _ x => [x]
  | .build _ parts => parts.map (·.2.2)
  | .bslice _ _ _ _ _ parts => parts.map (·.2)
  | .load _ _ x => [x]
  | .store _ x v => [x, v]
  | .nilck x => [x]
  | .bin _ x y => [x, y]
  | .beq _ _ x y => [x, y]
  | .unop _ x => [x]
  | .conv _ x => [x]
  | .mkfn _ a b => a ++ b
  | .mkif _ x => [x]
  | .mksl _ _ _ _ l c => [l, c]
  | .slice _ x lo hi mz => x :: (lo.toList ++ hi.toList ++ mz.toList)
  | .slstr x lo hi => x :: (lo.toList ++ hi.toList)
  | .slarr _ _ x lo hi mz => x :: (lo.toList ++ hi.toList ++ mz.toList)
  | .fieldA _ x => [x]
  | .field _ _ _ x => [x]
  | .idxA _ x i => [x, i]
  | .idxAA _ _ x i => [x, i]
  | .idx _ _ _ x i => [x, i]
  | .idxs x i => [x, i]
  | .arrP _ _ x => [x]
  | .extract _ x => [x]
  | .call f args => f :: args
  | .len x => [x]
  | .lens x => [x]
  | .lenc _ => []
  | .append _ _ _ _ s x => [s, x]
  | .copy _ s x => [s, x]
  | .mx xs => xs
  | .mn xs => xs

def OpC.looks (o : OpC) : List Nat := o.ins.ops.filterMap O.tmp? ++ (match o.guard with | some (t, _) => [t] | none => [])

/-- Two compiled operations that touch no temporary of each other. -/
def apartC (x y : OpC) : Bool :=
  (match x.dst with | some d => !(y.looks.contains d) && y.dst != some d | none => true) &&
  (match y.dst with | some d => !(x.looks.contains d) | none => true)

/-- Operations ahead of 'p' that no edge orders touch no temporary of each other. -/
def apartAll (l : List OpC) (b : Array Nat) (p : Nat) : Bool :=
  (List.range p).all fun j => (List.range j).all fun i =>
    (b.getD j 0).testBit i || match l[i]?, l[j]? with | some x, some y => apartC x y | _, _ => false

def lower (ops : Array Oper) : Bool :=
  ops.toList.zipIdx.all fun (o, i) => o.after.all fun e => !Region.binds .any e || e.on < i

def cRegion (nt : Nat) (ops : Array Oper) (draw : Bool) : Option C :=
  match cOpsC P nt ops ops.toList with
  | none => none
  | some l =>
    if !draw then some (.reg [] l)
    else
      let b := CheckFast.beforeF ops
      let p := tailAt b ops.size
      if lower ops && apartAll l b p then some (.reg (l.take p) (l.drop p)) else none

def cCode (nt : Nat) : Code → Option C
  | .skip => some .skip
  | .region _ ops draw => cRegion P nt ops draw
  | .seq a b => match cCode nt a, cCode nt b with | some a, some b => some (.seq a b) | _, _ => none
  | .cond c a b => match cO c, cCode nt a, cCode nt b with | some c, some a, some b => some (.cond c a b) | _, _, _ => none
  | .block id b => (cCode nt b).map (C.block id)
  | .loop b => (cCode nt b).map C.loop
  | .rangeFunc f ps a b => match cO f, cCode nt a, cCode nt b with | some f, some a, some b => some (.rfun f ps.toList a b) | _, _, _ => none
  | .exit id => some (.exit id)
  | .scope b => (cCode nt b).map C.scope
  | .label _ => some .skip
  | .goto _ => none
  | .ret => some .ret
  | .refuse _ => none

def cRV : ResultVar → Option RV
  | .tmp t => some (.tmp t)
  | .cell a t => match aggOf P t, sizeOfT P t with | some g, some s => some (.cell g s a) | _, _ => none

def cRVs : List ResultVar → Option (List RV)
  | [] => some []
  | x :: r => match cRV P x, cRVs r with | some a, some l => some (a :: l) | _, _ => none

def cFn (fn : Func) : Option CFunc :=
  match fn.body with
  | none => none
  | some b => if fn.name == "runtime.NumGoroutine" then none else
    match cCode P fn.ntmps b, cRVs P fn.results.toList with
    | some c, some rs => some ⟨fn.ntmps, rs, c⟩
    | _, _ => none

def cAt (f : FuncId) : Option CFunc := (P.funcs[f]?).bind (cFn P)

end

def envOf (P : Program) : Env := { cf := cAt P, ext := fun _ _ _ => none, gl := fun _ => none }

end Go.Proofs.Ytgalchmjpfmemaa.Den
