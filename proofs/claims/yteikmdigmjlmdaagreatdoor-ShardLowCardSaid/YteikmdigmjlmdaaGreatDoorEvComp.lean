/-
  The translation of the model's code into the evaluator's. What it does not take becomes 'bad', at which the evaluator answers nothing.
-/
import Derived.Test.YteikmdigmjlmdaaGreatDoorEvDef
set_option linter.unusedVariables false
set_option linter.unusedSimpArgs false
namespace Go.Ev

def toV : Value → Option V
  | .bool b => some (.bool b)
  | .int k n => some (.int k n)
  | .string s => some (.str (s.data.toList.map UInt8.toNat))
  | .pointer none => some .nilPtr
  | .slice none 0 0 => some .nilSlice
  | .map none => some .nilMap
  | .nilFunc => some .nilFunc
  | .nilIface => some .nilIface
  | .agg cs => match go cs.toList with
    | some l => some (.agg l)
    | none => none
  | .tuple cs => match go cs.toList with
    | some l => some (.tuple l)
    | none => none
  | _ => none
where
  go : List Value → Option (List V)
    | [] => some []
    | v :: l => match toV1 v, go l with
      | some x, some r => some (x :: r)
      | _, _ => none
  toV1 : Value → Option V
    | .bool b => some (.bool b)
    | .int k n => some (.int k n)
    | .string s => some (.str (s.data.toList.map UInt8.toNat))
    | .pointer none => some .nilPtr
    | .slice none 0 0 => some .nilSlice
    | .map none => some .nilMap
    | .nilFunc => some .nilFunc
    | .nilIface => some .nilIface
    | _ => none

section
variable (P : Program) (N : Nat)

def cS : Operand → Option S
  | .tmp t => some (.t t)
  | .const v => (toV v).map S.c
  | .global g => if g < P.globals.size then some (.c (.ptr g 0)) else none
  | .func f => some (.c (.func f [] []))

def cSs : List Operand → Option (List S)
  | [] => some []
  | x :: l => match cS P x, cSs l with
    | some a, some r => some (a :: r)
    | _, _ => none

def cSo : Option Operand → Option (Option S)
  | none => some none
  | some x => (cS P x).map some

def isAggB (t : TypeId) : Option Bool :=
  match P.underlying t with
  | some (.struct _) => some true
  | some (.array _ _) => some true
  | some _ => some false
  | none => none

def sizeB (t : TypeId) : Option Nat := (P.info? t).map (·.size)
def bytesB (t : TypeId) : Option Nat := (P.info? t).map (·.bytes)

/-- a type's zero value, and its cells (as many as its size) -/
def zeroB (t : TypeId) : Option V :=
  match P.info? t with
  | some i => match i.zero with
    | some z => toV z
    | none => none
  | none => none

def zeroCellsB (t : TypeId) : Option (List V) :=
  match zeroB P t, sizeB P t with
  | some z, some n => if z.cells.length = n ∧ allFlat z.cells = true then some z.cells else none
  | _, _ => none

def edFs (f : TypeId → Option ED) : List Field → Option (List (Nat × Nat × Bool × ED))
  | [] => some []
  | x :: l =>
    if x.name = "_" then edFs f l else
    match sizeB P x.type, isAggB P x.type, f x.type, edFs f l with
    | some s, some a, some r, some rest => some ((x.offset, s, a, r) :: rest)
    | _, _, _, _ => none

def edOf : Nat → TypeId → Option ED
  | 0, _ => none
  | d + 1, t =>
    match P.underlying t with
    | some .bool => some .bool
    | some (.int _) => some .int
    | some .string => some .str
    | some (.pointer e) => match sizeB P e with
      | some (_ + 1) => some .ptr
      | _ => none
    | some (.slice _) => some .sl
    | some (.map _ _) => some .mp
    | some (.func ..) => some .fn
    | some (.interface _) => some .ifc
    | some (.struct fs) => if P.stoodInHeld t then none else (edFs P (edOf d) fs.toList).map .struct
    | _ => none

def keyEd (t : TypeId) : Option ED :=
  match P.underlying t with
  | some (.int _) => some .int
  | some .string => some .str
  | some .bool => some .bool
  | _ => none

def isConstO : Operand → Bool
  | .const _ => true
  | _ => false

def partsB (place : Nat → Option (Nat × Nat)) : List (Nat × Operand) → Option (List (Nat × Nat × S))
  | [] => some []
  | (i, x) :: l => match place i, cS P x, partsB place l with
    | some (off, size), some s, some r => some ((off, size, s) :: r)
    | _, _, _ => none

def placeB (fs : Array Field) (i : Nat) : Option (Nat × Nat) :=
  match fs[i]? with
  | some f => match sizeB P f.type with
    | some s => some (f.offset, s)
    | none => none
  | none => none

def cConv (src dst : TypeId) (x : S) : Option EOp :=
  match P.underlying src, P.underlying dst with
  | some (.int _), some (.int k) => some (.conv (.int k) x)
  | some .string, some .string => some (.conv .strStr x)
  | some .string, some (.slice e) => match P.underlying e with
    | some (.int .u8) => some (.conv .strBytes x)
    | _ => none
  | some (.slice e), some .string => match P.underlying e with
    | some (.int .u8) => some (.conv .bytesStr x)
    | _ => none
  | _, _ => none

def cBuiltin (b : Builtin) (ts : Array TypeId) (args : List Operand) : Option EOp := do
  let l ← cSs P args
  match b, l with
  | .len, [x] =>
    match P.underlying (← ts[0]?) with
    | some (.array n _) => some (.lenConst n)
    | some (.pointer a) => match P.underlying a with
      | some (.array n _) => some (.lenConst n)
      | _ => none
    | some .string => some (.lenStr x)
    | some (.slice _) => some (.lenSl x)
    | some (.map _ _) => some (.lenMap x)
    | _ => none
  | .cap, [x] =>
    match P.underlying (← ts[0]?) with
    | some (.slice _) => some (.cap x)
    | _ => none
  | .append, [s, x] =>
    match P.underlying (← ts[0]?) with
    | some (.slice e) => do
      let size ← sizeB P e
      let bytes ← bytesB P e
      if size = 0 ∨ bytes = 0 then none
      match P.underlying (← ts[1]?) with
      | some (.int _) => some (.appendZeros size bytes (← zeroCellsB P e) s x)
      | some _ => let _ ← zeroCellsB P e; some (.append size bytes s x)
      | none => none
    | _ => none
  | .copy, [d, s] =>
    match P.underlying (← ts[0]?) with
    | some (.slice e) => do
      let size ← sizeB P e
      if size = 0 then none
      some (.copy size d s)
    | _ => none
  | .delete, [m, k] =>
    match P.underlying (← ts[0]?) with
    | some (.map key _) => do some (.mapDel (← keyEd P key) m k)
    | _ => none
  | .min, l => some (.minmax false l)
  | .max, l => some (.minmax true l)
  | .clear, [x] =>
    match P.underlying (← ts[0]?) with
    | some (.slice e) => do
      let size ← sizeB P e
      if size = 0 then none
      some (.clearSlice size (← zeroCellsB P e) x)
    | _ => none
  | _, _ => none

def cEq (neg : Bool) (op : BinOp) (t : TypeId) (x y : Operand) (a b : S) : Option EOp :=
  match P.underlying t with
  | some (.int _) => some (.arith op a b)
  | some .string => some (.arith op a b)
  | some (.interface _) => if isConstO x || isConstO y then some (.eqv neg .ifc a b) else none
  | some (.struct _) => if P.eqGuardType P.depth t then none else do some (.eqv neg (← edOf P 20 t) a b)
  | some (.array _ _) => none
  | some _ => do some (.eqv neg (← edOf P 20 t) a b)
  | none => none

def cBin (op : BinOp) (t : TypeId) (x y : Operand) (a b : S) : Option EOp :=
  match op with
  | .eql => cEq P false op t x y a b
  | .neq => cEq P true op t x y a b
  | _ => some (.arith op a b)

def cOpO (o : Oper) : Option EOp :=
  match o.op with
  | .move x => do some (.mov (← cS P x))
  | .assign x => do some (.mov (← cS P x))
  | .pick c a b => do some (.pick (← cS P c) (← cS P a) (← cS P b))
  | .alloc e => do some (.alloc (← sizeB P e) (← zeroCellsB P e))
  | .box e x => do some (.box (← sizeB P e) (← cS P x))
  | .build t parts => do
    let zero ← zeroCellsB P t
    match P.underlying t with
    | some (.struct fs) => if !(fs.toList.all fun f => (sizeB P f.type).isSome) then none else do some (.build zero (← partsB P (placeB P fs) parts.toList))
    | some (.array _ e) => do
      let size ← sizeB P e
      some (.build zero (← partsB P (fun i => some (i * size, size)) parts.toList))
    | _ => none
  | .buildSlice t len parts => do
    match P.underlying t with
    | some (.slice e) => do
      let size ← sizeB P e
      if size = 0 ∨ len * size > 2 ^ 24 then none
      let zero ← zeroCellsB P e
      some (.buildSlice len size zero (← partsB P (fun i => some (i * size, size)) parts.toList))
    | _ => none
  | .load t a => do some (.load (← sizeB P t) (← isAggB P t) (← cS P a))
  | .store t a x => do some (.store (← sizeB P t) (← cS P a) (← cS P x))
  | .nilCheck x => do some (.nilCheck (← cS P x))
  | .binOp op t x y _ => do cBin P op t x y (← cS P x) (← cS P y)
  | .unOp op _ x => do some (.unop op (← cS P x))
  | .convert src dst x => do cConv P src dst (← cS P x)
  | .makeInterface t x =>
    match P.underlying t with
    | some (.interface _) => none
    | some _ => do some (.mkIface t (← cS P x))
    | none => none
  | .makeFunc (.func f) first captured => do some (.mkFunc f (← cSs P first.toList) (← cSs P captured.toList))
  | .makeMap _ none => some .mkMap
  | .makeSlice t l c =>
    match P.underlying t with
    | some (.slice e) => do
      let size ← sizeB P e
      if size = 0 then none
      some (.mkSlice size (← bytesB P e) (← zeroCellsB P e) (← cS P l) (← cS P c))
    | _ => none
  | .slice t x lo hi mx => do
    let a ← cS P x
    let l ← cSo P lo
    let h ← cSo P hi
    let m ← cSo P mx
    if mx.isSome && hi.isNone then none
    match P.underlying t with
    | some .string => if mx.isSome then none else some (.sliceStr a l h)
    | some (.slice e) => do
      let size ← sizeB P e
      if size = 0 then none
      some (.slice size a l h m)
    | some (.array n e) => do
      let size ← sizeB P e
      if size = 0 then none
      some (.sliceArr n size a l h m)
    | some (.pointer arr) => match P.underlying arr with
      | some (.array n e) => do
        let size ← sizeB P e
        if size = 0 then none
        some (.sliceArr n size a l h m)
      | _ => none
    | _ => none
  | .fieldAddr s x i =>
    match P.underlying s with
    | some (.struct fs) => do
      let f ← fs[i]?
      let size ← sizeB P f.type
      if size = 0 then none
      some (.fieldAddr f.offset (← cS P x))
    | _ => none
  | .field t x i =>
    match P.underlying t with
    | some (.struct fs) => do
      let f ← fs[i]?
      some (.field f.offset (← sizeB P f.type) (← isAggB P f.type) (← cS P x))
    | _ => none
  | .indexAddr t x i =>
    match P.underlying t with
    | some (.array n e) => do some (.idxAddrArr n (← sizeB P e) (← cS P x) (← cS P i))
    | some (.slice e) => do some (.idxAddr (← sizeB P e) (← cS P x) (← cS P i))
    | _ => none
  | .index t x i =>
    match P.underlying t with
    | some (.array n e) => do some (.idxArr n (← sizeB P e) (← isAggB P e) (← cS P x) (← cS P i))
    | some .string => do some (.idxStr (← cS P x) (← cS P i))
    | _ => none
  | .lookup t x k ok =>
    match P.underlying t with
    | some (.map key e) => do some (.lookup (← keyEd P key) (← zeroB P e) ok (← cS P x) (← cS P k))
    | _ => none
  | .mapUpdate t m k v | .insert t m k v =>
    match P.underlying t with
    | some (.map key _) => do some (.mapSet (← keyEd P key) (← cS P m) (← cS P k) (← cS P v))
    | _ => none
  | .extract x i => do some (.extract (← cS P x) i)
  | .call c =>
    match c.callee with
    | .value f => do some (.call (← cS P f) (← cSs P c.args.toList))
    | .builtin b => cBuiltin P b c.argTypes c.args.toList
    | .invoke _ _ => none
  | _ => none

inductive Cls where
  | pure | read | make | act

def cls : EOp → Cls
  | .load .. | .eqv .. | .conv .bytesStr _ | .lookup .. | .lenMap _ | .cap _ | .sliceArr .. => .read
  | .alloc .. | .box .. | .buildSlice .. | .mkMap | .mkSlice .. | .conv .strBytes _ => .make
  | .store .. | .mapSet .. | .mapDel .. | .call .. | .append .. | .appendZeros .. | .copy .. | .clearSlice .. | .bad => .act
  | _ => .pure

/-- the model's operation may make a block -/
def mayMake : Op → Bool
  | .alloc _ | .box .. | .buildSlice .. | .makeMap .. | .makeSlice .. | .convert .. => true
  | _ => false

/-- the model's operation is a call of a function's value -/
def isCallV : Op → Bool
  | .call c => match c.callee with
    | .value _ => true
    | _ => false
  | _ => false

def okOp (op : Op) : EOp → Bool
  | .call _ _ => isCallV op
  | e => match cls e with
    | .make => mayMake op
    | _ => true

def cOp (o : Oper) : EOp :=
  match cOpO P o with
  | some e => bif okOp o.op e then e else .bad
  | none => .bad

def dstOk : Option Tmp → Bool
  | none => true
  | some d => decide (d < N)

/-- an operation of a region, in a frame of N temporaries -/
def cOper (ops : Array Oper) (o : Oper) : EOper :=
  if dstOk N o.dst then
    match o.guard with
    | none => ⟨o.dst, cOp P o, none⟩
    | some (j, want) => match (ops[j]?).bind (·.dst) with
      | some t => ⟨o.dst, cOp P o, some (t, want)⟩
      | none => ⟨none, .bad, none⟩
  else ⟨none, .bad, none⟩

def partS : List (Nat × Nat × S) → List S
  | [] => []
  | p :: l => p.2.2 :: partS l

def optS : Option S → List S
  | none => []
  | some s => [s]

def EOp.looks : EOp → List S
  | .mov x => [x]
  | .pick c a b => [c, a, b]
  | .alloc _ _ => []
  | .box _ x => [x]
  | .build _ ps => partS ps
  | .buildSlice _ _ _ ps => partS ps
  | .load _ _ a => [a]
  | .store _ a x => [a, x]
  | .nilCheck x => [x]
  | .arith _ x y => [x, y]
  | .eqv _ _ x y => [x, y]
  | .unop _ x => [x]
  | .conv _ x => [x]
  | .mkIface _ x => [x]
  | .mkFunc _ a c => a ++ c
  | .mkMap => []
  | .mkSlice _ _ _ l c => [l, c]
  | .sliceStr x lo hi => x :: (optS lo ++ optS hi)
  | .slice _ x lo hi mx => x :: (optS lo ++ (optS hi ++ optS mx))
  | .sliceArr _ _ x lo hi mx => x :: (optS lo ++ (optS hi ++ optS mx))
  | .fieldAddr _ x => [x]
  | .field _ _ _ x => [x]
  | .idxAddrArr _ _ x i => [x, i]
  | .idxAddr _ x i => [x, i]
  | .idxArr _ _ _ x i => [x, i]
  | .idxStr x i => [x, i]
  | .lookup _ _ _ x k => [x, k]
  | .mapSet _ m k v => [m, k, v]
  | .mapDel _ m k => [m, k]
  | .extract x _ => [x]
  | .call f args => f :: args
  | .lenStr x => [x]
  | .lenSl x => [x]
  | .lenMap x => [x]
  | .lenConst _ => []
  | .cap x => [x]
  | .append _ _ s x => [s, x]
  | .appendZeros _ _ _ s n => [s, n]
  | .copy _ d s => [d, s]
  | .minmax _ l => l
  | .clearSlice _ _ x => [x]
  | .bad => []

def isAct (o : EOper) : Bool := match cls o.op with | .act => true | _ => false
def isRead (o : EOper) : Bool := match cls o.op with | .read => true | _ => false
def isMake (o : EOper) : Bool := match cls o.op with | .make => true | _ => false

/-- every operation's ancestors, a number's bits each -/
def ancGo : List Nat → List Oper → List Nat
  | acc, [] => acc
  | acc, o :: l => ancGo (acc ++ [o.after.toList.foldl (fun s e => bif Region.binds .any e then s ||| 2 ^ e.on ||| acc.getD e.on 0 else s) 0]) l

def ancs (ops : Array Oper) : List Nat := ancGo [] ops.toList

def isAnc (an : List Nat) (i j : Nat) : Bool := (an.getD j 0).testBit i

/-- the order in which the evaluator takes the operations: what no act is an ancestor of first, and so on -/
def ordOf (an : List Nat) (es : List EOper) : List Nat :=
  let acts := (es.zipIdx.filter fun p => isAct p.1).map (·.2)
  let key (i : Nat) : Nat := (acts.filter fun j => isAnc an j i).length
  (List.range (acts.length + 1)).flatMap fun k =>
    ((List.range es.length).filter fun i => Nat.beq (key i) k && !acts.contains i) ++ (acts.filter fun i => Nat.beq (key i) k)

def tmpsOf : List S → List Nat
  | [] => []
  | .t i :: l => i :: tmpsOf l
  | .c _ :: l => tmpsOf l

/-- the temporaries that an operation looks at -/
def EOper.looks (o : EOper) : List Nat :=
  (match o.guard with
    | some (t, _) => [t]
    | none => []) ++ tmpsOf o.op.looks

def okPair (an : List Nat) (ord : List Nat) (es : List EOper) (p q : Nat) : Bool :=
  let i := ord.getD p 0
  let j := ord.getD q 0
  match es[i]?, es[j]? with
  | some x, some y =>
    (!Nat.ble p q || !isAnc an j i) &&
    (!Nat.blt p q || ((!isAct x || !(isAct y || isMake y)) || isAnc an i j)) &&
    (Nat.beq p q || (!Nat.beq i j && (match x.dst with
      | some t => (match y.dst with | some u => !Nat.beq t u | none => true) && (!y.looks.contains t || isAnc an i j || isAnc an j i)
      | none => true)))
  | _, _ => false

def okEdges : Nat → List Oper → Bool
  | _, [] => true
  | i, o :: l => (o.after.toList.all fun e => !Region.binds .any e || Nat.blt e.on i) && okEdges (i + 1) l

def okDraw (ops : Array Oper) (an : List Nat) (ord : List Nat) (es : List EOper) : Bool :=
  okEdges 0 ops.toList && Nat.beq ord.length es.length && (List.range es.length).all fun i => ord.contains i && (List.range es.length).all fun j => okPair an ord es i j

/-- reads and acts, by their places, of which neither is the other's ancestor -/
def pairsOf (an : List Nat) (ord : List Nat) (es : List EOper) : List (Nat × Nat) :=
  (List.range es.length).flatMap fun q =>
    let j := ord.getD q 0
    match es[j]? with
    | some y => bif isAct y then
        ((List.range es.length).filter fun p =>
          let i := ord.getD p 0
          match es[i]? with
          | some x => isRead x && !isAnc an i j && !isAnc an j i
          | none => false).map fun p => (p, q)
      else []
    | none => []

def comp : Code → E
  | .skip => .skip
  | .region _ ops false => .region (ops.toList.map (cOper P N ops))
  | .region _ ops true =>
    let es := ops.toList.map (cOper P N ops)
    let an := ancs ops
    let ord := ordOf an es
    bif okDraw ops an ord es then .draw (ord.filterMap (es[·]?)) (pairsOf an ord es) else .bad
  | .seq a b => .seq (comp a) (comp b)
  | .cond c a b => match cS P c with
    | some s => .cond s (comp a) (comp b)
    | none => .bad
  | .block id b => .block id (comp b)
  | .loop b => .loop (comp b)
  | .rangeFunc f params assign body => match cS P f with
    | some s => if params.toList.all (fun p => decide (p < N)) then .rangeFunc s params.toList (comp assign) (comp body) else .bad
    | none => .bad
  | .exit id => .exit id
  | .scope b => .scope (comp b)
  | .label l => .label l
  | .goto l => .goto l
  | .ret => .ret
  | .refuse _ => .bad

def cRes : ResultVar → Option ERes
  | .tmp t => some (.tmp t)
  | .cell a t => match sizeB P t, isAggB P t with
    | some n, some g => some (.cell a n g)
    | _, _ => none

def cRess : List ResultVar → Option (List ERes)
  | [] => some []
  | r :: l => match cRes P r, cRess l with
    | some a, some b => some (a :: b)
    | _, _ => none

def compF (f : Func) : Option EFunc :=
  match f.body, cRess P f.results.toList with
  | some c, some rs => some { ntmps := f.ntmps, results := rs, body := comp P f.ntmps c }
  | _, _ => none

end
end Go.Ev
