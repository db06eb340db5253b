/-
  A deterministic evaluator of the model's code over an abstract heap: values, trees, heap, operations, code, calls; and the translation of the model's code into it. No proof stands here.
-/
import GoSem.Step
set_option linter.unusedVariables false
set_option linter.unusedSimpArgs false
namespace Go.Ev
noncomputable section

/-! ### Trees: finite maps from numbers -/
inductive T (α : Type) where
  | nil
  | node (v : Option α) (l r : T α)

namespace T
variable {α : Type}
def get (t : T α) : Nat → Option α :=
  T.rec (motive := fun _ => Nat → Option α) (fun _ => none)
    (fun v _ _ gl gr i => Nat.rec (motive := fun _ => Option α) v (fun j _ => Bool.rec (motive := fun _ => Option α) (gr (Nat.shiftRight j 1)) (gl (Nat.shiftRight j 1)) (Nat.beq (Nat.land j 1) 0)) i) t
def single (f : Nat) : Nat → α → T α :=
  Nat.rec (motive := fun _ => Nat → α → T α) (fun _ v => .node (some v) .nil .nil)
    (fun _ ih i v => Nat.rec (motive := fun _ => T α) (.node (some v) .nil .nil)
      (fun j _ => Bool.rec (motive := fun _ => T α) (.node none .nil (ih (Nat.shiftRight j 1) v)) (.node none (ih (Nat.shiftRight j 1) v) .nil) (Nat.beq (Nat.land j 1) 0)) i) f
def set (t : T α) : Nat → α → T α :=
  T.rec (motive := fun _ => Nat → α → T α) (fun i v => single i i v)
    (fun w l r sl sr i v => Nat.rec (motive := fun _ => T α) (.node (some v) l r)
      (fun j _ => Bool.rec (motive := fun _ => T α) (.node w l (sr (Nat.shiftRight j 1) v)) (.node w (sl (Nat.shiftRight j 1) v) r) (Nat.beq (Nat.land j 1) 0)) i) t
def setMany (t : T α) (i : Nat) (l : List α) : T α :=
  List.rec (motive := fun _ => T α → Nat → T α) (fun t _ => t) (fun v _ ih t i => ih (t.set i v) (Nat.succ i)) l t i
end T

/-! ### Values -/
inductive V where
  | bool (b : Bool)
  | int (k : IntKind) (n : Int)
  | str (s : List Nat)
  | ptr (b off : Nat)
  | nilPtr
  | slice (b off len cap e : Nat)
  | nilSlice
  | map (b : Nat)
  | nilMap
  | func (f : Nat) (first captured : List V)
  | yield (b : Nat)
  | nilFunc
  | iface (t : Nat) (v : V)
  | nilIface
  | agg (cs : List V)
  | tuple (vs : List V)
  deriving Inhabited

def undef : V := .tuple []

def V.cells : V → List V
  | .agg cs => cs
  | v => [v]

def V.flat : V → Bool
  | .agg _ => false
  | .tuple _ => false
  | _ => true

def eqNats : List Nat → List Nat → Bool
  | [], [] => true
  | a :: x, b :: y => bif Nat.beq a b then eqNats x y else false
  | _, _ => false

def lessNats : List Nat → List Nat → Bool
  | _, [] => false
  | [], _ :: _ => true
  | a :: x, b :: y => bif Nat.blt a b then true else bif Nat.beq a b then lessNats x y else false

def kindEq : IntKind → IntKind → Bool
  | .i8, .i8 | .i16, .i16 | .i32, .i32 | .i64, .i64 | .u8, .u8 | .u16, .u16 | .u32, .u32 | .u64, .u64 => true
  | _, _ => false

mutual
/-- Are two values one and the same? -/
def V.same : V → V → Bool
  | .bool a, .bool b => a == b
  | .int j a, .int k b => kindEq j k && decide (a = b)
  | .str a, .str b => eqNats a b
  | .ptr a i, .ptr b j => Nat.beq a b && Nat.beq i j
  | .nilPtr, .nilPtr => true
  | .slice a i l c e, .slice b j m d f => Nat.beq a b && Nat.beq i j && Nat.beq l m && Nat.beq c d && Nat.beq e f
  | .nilSlice, .nilSlice => true
  | .map a, .map b => Nat.beq a b
  | .nilMap, .nilMap => true
  | .func f a c, .func g b d => Nat.beq f g && V.sames a b && V.sames c d
  | .yield a, .yield b => Nat.beq a b
  | .nilFunc, .nilFunc => true
  | .iface t v, .iface u w => Nat.beq t u && V.same v w
  | .nilIface, .nilIface => true
  | .agg a, .agg b => V.sames a b
  | .tuple a, .tuple b => V.sames a b
  | _, _ => false
def V.sames : List V → List V → Bool
  | [], [] => true
  | a :: x, b :: y => V.same a b && V.sames x y
  | _, _ => false
end

/-! ### Code -/
/-- An operand: a temporary, or a constant. -/
inductive S where
  | t (i : Nat)
  | c (v : V)

/-- How values of a type are held against each other. -/
inductive ED where
  | bool | int | str | ptr | sl | mp | fn | ifc
  | struct (fs : List (Nat × Nat × Bool × ED))

inductive Conv where
  | int (k : IntKind)
  | strStr
  | strBytes
  | bytesStr

inductive EOp where
  | mov (x : S)
  | pick (c a b : S)
  | alloc (size : Nat) (zero : List V)
  | box (size : Nat) (x : S)
  | build (zero : List V) (parts : List (Nat × Nat × S))
  | buildSlice (len size : Nat) (zero : List V) (parts : List (Nat × Nat × S))
  | load (size : Nat) (agg : Bool) (a : S)
  | store (size : Nat) (a x : S)
  | nilCheck (x : S)
  | arith (op : BinOp) (x y : S)
  | eqv (neg : Bool) (d : ED) (x y : S)
  | unop (op : UnOp) (x : S)
  | conv (c : Conv) (x : S)
  | mkIface (t : Nat) (x : S)
  | mkFunc (f : Nat) (first captured : List S)
  | mkMap
  | mkSlice (size bytes : Nat) (zero : List V) (l c : S)
  | sliceStr (x : S) (lo hi : Option S)
  | slice (size : Nat) (x : S) (lo hi mx : Option S)
  | sliceArr (n size : Nat) (x : S) (lo hi mx : Option S)
  | fieldAddr (off : Nat) (x : S)
  | field (off size : Nat) (agg : Bool) (x : S)
  | idxAddrArr (n size : Nat) (x i : S)
  | idxAddr (size : Nat) (x i : S)
  | idxArr (n size : Nat) (agg : Bool) (x i : S)
  | idxStr (x i : S)
  | lookup (kd : ED) (zero : V) (ok : Bool) (x k : S)
  | mapSet (kd : ED) (m k v : S)
  | mapDel (kd : ED) (m k : S)
  | extract (x : S) (i : Nat)
  | call (f : S) (args : List S)
  | lenStr (x : S)
  | lenSl (x : S)
  | lenMap (x : S)
  | lenConst (n : Nat)
  | cap (x : S)
  | append (size bytes : Nat) (s x : S)
  | appendZeros (size bytes : Nat) (zero : List V) (s n : S)
  | copy (size : Nat) (d s : S)
  | minmax (mx : Bool) (l : List S)
  | clearSlice (size : Nat) (zero : List V) (x : S)
  | bad

structure EOper where
  dst : Option Nat
  op : EOp
  guard : Option (Nat × Bool)

inductive E where
  | skip
  | region (ops : List EOper)
  | draw (ops : List EOper) (pairs : List (Nat × Nat))
  | seq (a b : E)
  | cond (c : S) (a b : E)
  | block (id : Nat) (body : E)
  | loop (body : E)
  | rangeFunc (f : S) (params : List Nat) (assign body : E)
  | exit (id : Nat)
  | scope (body : E)
  | label (l : Nat)
  | goto (l : Nat)
  | ret
  | bad

inductive Ex where
  | normal
  | exit (id : Nat)
  | goto (l : Nat)
  | ret

inductive ERes where
  | tmp (t : Nat)
  | cell (t size : Nat) (agg : Bool)

structure EFunc where
  ntmps : Nat
  results : List ERes
  body : E

/-! ### The heap -/
inductive LState where
  | ready | busy | done | exhausted

/-- exact: there is no more behind the cells; loose: there may be; ro: it may only be read, and may lie over others that are only read -/
inductive BK where
  | exact | loose | ro

def BK.isRo : BK → Bool
  | .ro => true
  | _ => false
def BK.isLoose : BK → Bool
  | .loose => true
  | _ => false
def BK.isExact : BK → Bool
  | .exact => true
  | _ => false

inductive Blk where
  /-- cells in rows of e, n cells in all -/
  | cells (e n : Nat) (kd : BK) (rows : T (List V))
  | dead
  | map (es : List (V × V))
  | loop (st : LState) (pend : Ex) (tm : T V) (params : List Nat) (assign body : E)

structure Hp where
  nx : Nat
  m : T Blk

namespace Hp
def get (h : Hp) (b : Nat) : Option Blk := h.m.get b
def put (h : Hp) (b : Nat) (k : Blk) : Hp := { h with m := h.m.set b k }
def add (h : Hp) (k : Blk) : Hp := { nx := h.nx + 1, m := h.m.set h.nx k }
end Hp

/-- n cells of rows of e, from a place on. -/
def readCells (rows : T (List V)) (e : Nat) : Nat → Nat → Nat → Option (List V)
  | 0, _, n => bif Nat.beq n 0 then some [] else none
  | f + 1, off, n =>
    bif Nat.beq n 0 then some [] else
    match rows.get (off / e) with
    | none => none
    | some r =>
      bif Nat.ble (off % e + n) e then some ((r.drop (off % e)).take n)
      else match readCells rows e f (off + (e - off % e)) (n - (e - off % e)) with
        | none => none
        | some l => some (r.drop (off % e) ++ l)

/-- a row with some cells changed -/
def setRow : List V → Nat → List V → List V
  | r, 0, [] => r
  | [], _, _ => []
  | _ :: r, 0, v :: vs => v :: setRow r 0 vs
  | x :: r, i + 1, vs => x :: setRow r i vs

def writeCells (e : Nat) : Nat → T (List V) → Nat → Nat → List V → Option (T (List V))
  | 0, rows, _, n, _ => bif Nat.beq n 0 then some rows else none
  | f + 1, rows, off, n, vs =>
    bif Nat.beq n 0 then some rows else
    match rows.get (off / e) with
    | none => none
    | some r =>
      bif Nat.ble (off % e + n) e then some (rows.set (off / e) (setRow r (off % e) vs))
      else writeCells e f (rows.set (off / e) (setRow r (off % e) (vs.take (e - off % e)))) (off + (e - off % e)) (n - (e - off % e)) (vs.drop (e - off % e))

def Hp.load (h : Hp) (b off n : Nat) : Option (List V) :=
  match h.get b with
  | some (.cells e m _ rows) => bif Nat.ble (off + n) m then readCells rows e (n + 1) off n else none
  | _ => none

def Hp.store (h : Hp) (b off n : Nat) (vs : List V) : Option Hp :=
  match h.get b with
  | some (.cells e m kd rows) =>
    bif Nat.ble (off + n) m && !kd.isRo then
      match writeCells e (n + 1) rows off n vs with
      | some rows' => some (h.put b (.cells e m kd rows'))
      | none => none
    else none
  | _ => none

/-- rows of e out of cells -/
def rowsOf (e : Nat) : Nat → List V → List (List V)
  | 0, _ => []
  | n + 1, vs => vs.take e :: rowsOf e n (vs.drop e)

def newRows (e n : Nat) (vs : List V) : T (List V) := T.setMany .nil 0 (rowsOf e n vs)

/-- a new block of n rows of e -/
def Hp.newBlk (h : Hp) (e n : Nat) (kd : BK) (vs : List V) : Hp :=
  h.add (.cells e (n * e) kd (newRows e n vs))

/-! ### Small steps -/
def ev (tm : T V) : S → V
  | .t i => match tm.get i with | some v => v | none => undef
  | .c v => v

def evs (tm : T V) : List S → List V
  | [] => []
  | s :: l => ev tm s :: evs tm l

def wrapK (k : IntKind) (n : Int) : Int :=
  match k with
  | .i64 => bif decide (-9223372036854775808 ≤ n) && decide (n ≤ 9223372036854775807) then n else k.wrap n
  | _ => k.wrap n

def ob (b : Bool) : Option V := some (.bool b)

def arithInt (op : BinOp) (k : IntKind) (a b : Int) : Option V :=
  match op with
  | .add => some (.int k (wrapK k (a + b)))
  | .sub => some (.int k (wrapK k (a - b)))
  | .mul => some (.int k (wrapK k (a * b)))
  | .quo => bif decide (b = 0) then none else some (.int k (wrapK k (a.tdiv b)))
  | .rem => bif decide (b = 0) then none else some (.int k (a.tmod b))
  | .and => some (.int k (k.wrap (BitVec.ofInt k.bits a &&& BitVec.ofInt k.bits b).toNat))
  | .or => some (.int k (k.wrap (BitVec.ofInt k.bits a ||| BitVec.ofInt k.bits b).toNat))
  | .xor => some (.int k (k.wrap (BitVec.ofInt k.bits a ^^^ BitVec.ofInt k.bits b).toNat))
  | .andNot => some (.int k (k.wrap (BitVec.ofInt k.bits a &&& ~~~ BitVec.ofInt k.bits b).toNat))
  | .eql => ob (decide (a = b))
  | .neq => ob (!decide (a = b))
  | .lss => ob (decide (a < b))
  | .leq => ob (decide (a ≤ b))
  | .gtr => ob (decide (b < a))
  | .geq => ob (decide (b ≤ a))
  | _ => none

def arithStr (op : BinOp) (a b : List Nat) : Option V :=
  match op with
  | .add => bif decide (a.length + b.length ≤ 9223372036854775807) then some (.str (a ++ b)) else none
  | .eql => ob (eqNats a b)
  | .neq => ob (!eqNats a b)
  | .lss => ob (lessNats a b)
  | .leq => ob (!lessNats b a)
  | .gtr => ob (lessNats b a)
  | .geq => ob (!lessNats a b)
  | _ => none

def arith (op : BinOp) (x y : V) : Option V :=
  match x, y with
  | .int k a, .int l b =>
    match op with
    | .shl => bif decide (b < 0) then none else some (.int k (k.wrap (a * 2 ^ min b.toNat k.bits)))
    | .shr => bif decide (b < 0) then none else some (.int k (a.fdiv (2 ^ min b.toNat k.bits)))
    | _ => bif kindEq k l then arithInt op k a b else none
  | .str a, .str b => arithStr op a b
  | _, _ => none

def unop (op : UnOp) (x : V) : Option V :=
  match op, x with
  | .neg, .int k n => some (.int k (wrapK k (0 - n)))
  | .xor, .int k n => some (.int k (k.wrap (BitVec.ofInt k.bits (if k.signed then -1 else k.max) ^^^ BitVec.ofInt k.bits n).toNat))
  | .not, .bool b => some (.bool (!b))
  | _, _ => none

def part (cs : List V) (off size : Nat) (agg : Bool) : Option V :=
  bif agg then (bif Nat.ble (off + size) cs.length then some (.agg ((cs.drop off).take size)) else none)
  else cs[off]?

/-- a pointer may be held against another one: its cell is there, in a block of which all is known -/
def Hp.live (h : Hp) (b off : Nat) : Bool :=
  match h.get b with
  | some (.cells _ n kd _) => kd.isExact && Nat.blt off n
  | _ => false

mutual
def eqV (h : Hp) : ED → V → V → Option Bool
  | .bool, .bool a, .bool b => some (a == b)
  | .int, .int k a, .int l b => bif kindEq k l then some (decide (a = b)) else none
  | .str, .str a, .str b => some (eqNats a b)
  | .ptr, .nilPtr, .nilPtr => some true
  | .ptr, .nilPtr, .ptr _ _ => some false
  | .ptr, .ptr _ _, .nilPtr => some false
  | .ptr, .ptr a i, .ptr b j => bif Nat.beq a b then some (Nat.beq i j) else bif h.live a i && h.live b j then some false else none
  | .sl, .nilSlice, .nilSlice => some true
  | .sl, .nilSlice, .slice .. => some false
  | .sl, .slice .., .nilSlice => some false
  | .mp, .nilMap, .nilMap => some true
  | .mp, .nilMap, .map _ => some false
  | .mp, .map _, .nilMap => some false
  | .fn, .nilFunc, .nilFunc => some true
  | .fn, .nilFunc, .func .. => some false
  | .fn, .func .., .nilFunc => some false
  | .ifc, .nilIface, .nilIface => some true
  | .ifc, .nilIface, .iface .. => some false
  | .ifc, .iface .., .nilIface => some false
  | .struct fs, .agg xs, .agg ys => eqFs h fs xs ys
  | _, _, _ => none
def eqFs (h : Hp) : List (Nat × Nat × Bool × ED) → List V → List V → Option Bool
  | [], _, _ => some true
  | (off, size, agg, d) :: fs, xs, ys =>
    match part xs off size agg, part ys off size agg with
    | some x, some y => match eqV h d x y with
      | some true => eqFs h fs xs ys
      | some false => some false
      | none => none
    | _, _ => none
end

def fill (tm : T V) : List V → List (Nat × Nat × S) → Option (List V)
  | cs, [] => some cs
  | cs, (off, size, s) :: l =>
    let v := (ev tm s).cells
    bif Nat.beq v.length size && Nat.ble (off + size) cs.length then fill tm (setRow cs off v) l else none

def asNat (v : V) : Option Nat :=
  match v with
  | .int _ (.ofNat n) => some n
  | _ => none

/-- a bound of a slice: from 0 to most -/
def bound (tm : T V) (o : Option S) (dflt most : Nat) : Option Nat :=
  match o with
  | none => some dflt
  | some s => match asNat (ev tm s) with
    | some n => bif Nat.ble n most then some n else none
    | none => none

def bounds (tm : T V) (len cap : Nat) (lo hi mx : Option S) : Option (Nat × Nat × Nat) :=
  match bound tm mx cap cap with
  | none => none
  | some m => match bound tm hi len m with
    | none => none
    | some h => match bound tm lo 0 h with
      | none => none
      | some l => some (l, h, m)

def bytesOfCells : List V → Option (List Nat)
  | [] => some []
  | .int .u8 (.ofNat n) :: l => bif Nat.blt n 256 then (match bytesOfCells l with | some r => some (n :: r) | none => none) else none
  | _ => none

def cellsOfBytes : List Nat → List V
  | [] => []
  | n :: l => .int .u8 n :: cellsOfBytes l

def allFlat : List V → Bool
  | [] => true
  | v :: l => v.flat && allFlat l

/-- a key's place among entries -/
def findKey (h : Hp) (d : ED) (k : V) : List (V × V) → Option (Option V)
  | [] => some none
  | (x, v) :: l => match eqV h d k x with
    | some true => some (some v)
    | some false => findKey h d k l
    | none => none

def setKey (h : Hp) (d : ED) (k v : V) : List (V × V) → Option (List (V × V))
  | [] => some [(k, v)]
  | (x, w) :: l => match eqV h d k x with
    | some true => some ((k, v) :: l)
    | some false => match setKey h d k v l with | some r => some ((x, w) :: r) | none => none
    | none => none

def delKey (h : Hp) (d : ED) (k : V) : List (V × V) → Option (List (V × V))
  | [] => some []
  | (x, w) :: l => match eqV h d k x with
    | some true => some l
    | some false => match delKey h d k l with | some r => some ((x, w) :: r) | none => none
    | none => none

/-- the cells of what is appended or copied, and how many elements -/
def source (h : Hp) (size : Nat) (n : Nat) (x : V) : Option (List V) :=
  match x with
  | .nilSlice => some []
  | .str s => bif Nat.beq size 1 then some (cellsOfBytes (s.take n)) else none
  | .slice b off _ _ e => bif Nat.beq e size then h.load b off (n * size) else none
  | _ => none

def lenOf (x : V) : Option Nat :=
  match x with
  | .nilSlice => some 0
  | .str s => some s.length
  | .slice _ _ l _ _ => some l
  | _ => none

def ret1 (h : Hp) (v : Option V) : Option (V × Hp) :=
  match v with
  | some v => some (v, h)
  | none => none

/-- new cells at the end of a slice: n elements -/
def grow (h : Hp) (size bytes : Nat) (s : V) (n : Nat) (new : List V) : Option (V × Hp) :=
  match s with
  | .nilSlice =>
    bif Nat.beq n 0 then some (.nilSlice, h) else
    bif Nat.ble ((2 * n + 200) * bytes) (2 ^ 48) then some (.slice h.nx 0 n n size, h.newBlk size n .loose new) else none
  | .slice b off l c e =>
    bif Nat.beq e size then
      bif Nat.ble (l + n) c then
        match h.store b (off + l * size) (n * size) new with
        | some h' => some (.slice b off (l + n) c e, h')
        | none => none
      else
        bif Nat.ble ((2 * (l + n) + 200) * bytes) (2 ^ 48) then
          match h.get b with
          | some (.cells e' m kd rows) =>
            bif kd.isRo then none else
            match h.load b off (l * size) with
            | some old =>
              let h' := bif kd.isLoose && Nat.beq (off + c * e) m then h.put b .dead else h
              let rows' := bif Nat.beq off 0 && Nat.beq e' size && Nat.beq (c * e) m then T.setMany rows l (rowsOf size n new)
                else newRows size (l + n) (old ++ new)
              some (.slice h'.nx 0 (l + n) (l + n) size, h'.add (.cells size ((l + n) * size) .loose rows'))
            | none => none
          | _ => none
        else none
    else none
  | _ => none

def zerosOf (zero : List V) : Nat → List V
  | 0 => []
  | n + 1 => zero ++ zerosOf zero n

/-- one operation, but for calls -/
def evOp (tm : T V) (h : Hp) : EOp → Option (V × Hp)
  | .mov x => some (ev tm x, h)
  | .pick c a b => match ev tm c with
    | .bool t => some (bif t then ev tm a else ev tm b, h)
    | _ => none
  | .alloc size zero => some (.ptr h.nx 0, h.newBlk (max size 1) (bif Nat.beq size 0 then 0 else 1) .exact zero)
  | .box size x =>
    let vs := (ev tm x).cells
    bif Nat.beq vs.length size && allFlat vs then some (.ptr h.nx 0, h.newBlk (max size 1) (bif Nat.beq size 0 then 0 else 1) .exact vs) else none
  | .build zero parts => match fill tm zero parts with
    | some cs => some (.agg cs, h)
    | none => none
  | .buildSlice len size zero parts => match fill tm (zerosOf zero len) parts with
    | some cs => bif allFlat cs then some (.slice h.nx 0 len len size, h.newBlk size len .exact cs) else none
    | none => none
  | .load size agg a => match ev tm a with
    | .ptr b off => match h.load b off size with
      | some cs => bif agg then some (.agg cs, h) else (match cs with | [v] => some (v, h) | _ => none)
      | none => none
    | _ => none
  | .store size a x => match ev tm a with
    | .ptr b off =>
      let vs := (ev tm x).cells
      bif Nat.beq vs.length size && allFlat vs then
        match h.store b off size vs with
        | some h' => some (undef, h')
        | none => none
      else none
    | _ => none
  | .nilCheck x => match ev tm x with
    | .ptr b off => some (.ptr b off, h)
    | .func f a c => some (.func f a c, h)
    | _ => none
  | .arith op x y => ret1 h (arith op (ev tm x) (ev tm y))
  | .eqv neg d x y => match eqV h d (ev tm x) (ev tm y) with
    | some b => some (.bool (bif neg then !b else b), h)
    | none => none
  | .unop op x => ret1 h (unop op (ev tm x))
  | .conv c x => match c, ev tm x with
    | .int k, .int _ n => some (.int k (wrapK k n), h)
    | .strStr, .str s => some (.str s, h)
    | .strBytes, .str s => some (.slice h.nx 0 s.length s.length 1, h.newBlk 1 s.length .loose (cellsOfBytes s))
    | .bytesStr, .nilSlice => some (.str [], h)
    | .bytesStr, .slice b off l _ e =>
      bif Nat.beq e 1 then
        match h.load b off l with
        | some cs => match bytesOfCells cs with
          | some s => some (.str s, h)
          | none => none
        | none => none
      else none
    | _, _ => none
  | .mkIface t x => some (.iface t (ev tm x), h)
  | .mkFunc f first captured => some (.func f (evs tm first) (evs tm captured), h)
  | .mkMap => some (.map h.nx, h.add (.map []))
  | .mkSlice size bytes zero l c => match asNat (ev tm l), asNat (ev tm c) with
    | some l, some c => bif Nat.ble l c && Nat.ble (bytes * c) (2 ^ 48) && Nat.blt c (2 ^ 63) then some (.slice h.nx 0 l c size, h.newBlk size c .exact (zerosOf zero c)) else none
    | _, _ => none
  | .sliceStr x lo hi => match ev tm x with
    | .str s => match bounds tm s.length s.length lo hi none with
      | some (l, m, _) => some (.str ((s.take m).drop l), h)
      | none => none
    | _ => none
  | .slice size x lo hi mx => match ev tm x with
    | .nilSlice => match bounds tm 0 0 lo hi mx with
      | some _ => some (.nilSlice, h)
      | none => none
    | .slice b off len cap e =>
      bif Nat.beq e size then
        match bounds tm len cap lo hi mx with
        | some (l, m, k) => some (.slice b (off + l * size) (m - l) (k - l) e, h)
        | none => none
      else none
    | _ => none
  | .sliceArr n size x lo hi mx => match ev tm x with
    | .ptr b off => match h.get b with
      | some (.cells _ c _ _) => bif Nat.ble (off + n * size) c then
          match bounds tm n n lo hi mx with
          | some (l, m, k) => some (.slice b (off + l * size) (m - l) (k - l) size, h)
          | none => none
        else none
      | _ => none
    | _ => none
  | .fieldAddr off x => match ev tm x with
    | .ptr b o => some (.ptr b (o + off), h)
    | _ => none
  | .field off size agg x => match ev tm x with
    | .agg cs => ret1 h (part cs off size agg)
    | _ => none
  | .idxAddrArr n size x i => match ev tm x, asNat (ev tm i) with
    | .ptr b off, some i => bif Nat.blt i n then some (.ptr b (off + i * size), h) else none
    | _, _ => none
  | .idxAddr size x i => match ev tm x, asNat (ev tm i) with
    | .slice b off len _ e, some i => bif Nat.blt i len && Nat.beq e size then some (.ptr b (off + i * size), h) else none
    | _, _ => none
  | .idxArr n size agg x i => match ev tm x, asNat (ev tm i) with
    | .agg cs, some i => bif Nat.blt i n then ret1 h (part cs (i * size) size agg) else none
    | _, _ => none
  | .idxStr x i => match ev tm x, asNat (ev tm i) with
    | .str s, some i => match s[i]? with
      | some b => some (.int .u8 b, h)
      | none => none
    | _, _ => none
  | .lookup kd zero ok x k =>
    let r := match ev tm x with
      | .nilMap => some none
      | .map b => match h.get b with
        | some (.map es) => findKey h kd (ev tm k) es
        | _ => none
      | _ => none
    match r with
    | some (some v) => some (bif ok then .tuple [v, .bool true] else v, h)
    | some none => some (bif ok then .tuple [zero, .bool false] else zero, h)
    | none => none
  | .mapSet kd m k v => match ev tm m with
    | .map b => match h.get b with
      | some (.map es) => match setKey h kd (ev tm k) (ev tm v) es with
        | some es' => some (undef, h.put b (.map es'))
        | none => none
      | _ => none
    | _ => none
  | .mapDel kd m k => match ev tm m with
    | .nilMap => some (undef, h)
    | .map b => match h.get b with
      | some (.map es) => match delKey h kd (ev tm k) es with
        | some es' => some (undef, h.put b (.map es'))
        | none => none
      | _ => none
    | _ => none
  | .extract x i => match ev tm x with
    | .tuple vs => ret1 h vs[i]?
    | _ => none
  | .call _ _ => none
  | .bad => none
  | .lenStr x => match ev tm x with
    | .str s => some (.int .i64 s.length, h)
    | _ => none
  | .lenSl x => match ev tm x with
    | .nilSlice => some (.int .i64 (0 : Nat), h)
    | .slice _ _ l _ _ => some (.int .i64 l, h)
    | _ => none
  | .lenMap x => match ev tm x with
    | .nilMap => some (.int .i64 (0 : Nat), h)
    | .map b => match h.get b with
      | some (.map es) => some (.int .i64 es.length, h)
      | _ => none
    | _ => none
  | .lenConst n => some (.int .i64 n, h)
  | .cap x => match ev tm x with
    | .nilSlice => some (.int .i64 (0 : Nat), h)
    | .slice b off _ c e => match h.get b with
      | some (.cells _ m kd _) => bif kd.isExact || Nat.blt (off + c * e) m then some (.int .i64 c, h) else none
      | _ => none
    | _ => none
  | .append size bytes s x => match lenOf (ev tm x) with
    | some n => match source h size n (ev tm x) with
      | some new => grow h size bytes (ev tm s) n new
      | none => none
    | none => none
  | .appendZeros size bytes zero s n => match asNat (ev tm n) with
    | some n => bif Nat.ble (n * bytes) (2 ^ 40) && Nat.ble n (2 ^ 40) then grow h size bytes (ev tm s) n (zerosOf zero n) else none
    | none => none
  | .copy size d s => match lenOf (ev tm s), ev tm d with
    | some _, .nilSlice => some (.int .i64 (0 : Nat), h)
    | some n, .slice b off l _ e =>
      bif Nat.beq e size then
        match source h size (min n l) (ev tm s) with
        | some new => match h.store b off (min n l * size) new with
          | some h' => some (.int .i64 (min n l : Nat), h')
          | none => none
        | none => none
      else none
    | _, _ => none
  | .minmax mx l => match evs tm l with
    | .int k a :: r => minmaxInt mx k a r h
    | .str a :: r => minmaxStr mx a r h
    | _ => none
  | .clearSlice size zero x => match ev tm x with
    | .nilSlice => some (undef, h)
    | .slice b off l _ e =>
      bif Nat.beq e size then
        match h.store b off (l * size) (zerosOf zero l) with
        | some h' => some (undef, h')
        | none => none
      else none
    | _ => none
where
  minmaxInt (mx : Bool) (k : IntKind) (a : Int) : List V → Hp → Option (V × Hp)
    | [], h => some (.int k a, h)
    | .int l b :: r, h => bif kindEq k l then minmaxInt mx k (bif mx then (bif decide (a < b) then b else a) else (bif decide (b < a) then b else a)) r h else none
    | _, _ => none
  minmaxStr (mx : Bool) (a : List Nat) : List V → Hp → Option (V × Hp)
    | [], h => some (.str a, h)
    | .str b :: r, h => minmaxStr mx (bif mx then (bif lessNats a b then b else a) else (bif lessNats b a then b else a)) r h
    | _, _ => none

/-! ### Code -/
structure St where
  tm : T V
  h : Hp

/-- a call; of a function with a body, if so asked -/
abbrev Caller := Bool → V → List V → Hp → Option (V × Hp)

def wanted (tm : T V) : Option (Nat × Bool) → Bool
  | none => true
  | some (t, want) => match tm.get t with
    | some (.bool b) => b == want
    | _ => false

def putT (tm : T V) : Option Nat → V → T V
  | none, _ => tm
  | some d, v => tm.set d v

def stepOp (call : Caller) (op : EOp) (tm : T V) (h : Hp) : Option (V × Hp) :=
  match op with
  | .call f args => call false (ev tm f) (evs tm args) h
  | op => evOp tm h op

def runOps (call : Caller) : List EOper → T V → Hp → Option (T V × Hp)
  | [], tm, h => some (tm, h)
  | o :: l, tm, h =>
    bif wanted tm o.guard then
      match stepOp call o.op tm h with
      | some (v, h') => runOps call l (putT tm o.dst v) h'
      | none => none
    else runOps call l (putT tm o.dst undef) h

/-- what was noted of an operation of a region that draws its order: before it, its value, behind it -/
structure Note where
  op : EOp
  tm : T V
  v : V
  before : Hp
  after : Hp

def runDraw (call : Caller) : List EOper → T V → Hp → Option (T V × Hp × List (Option Note))
  | [], tm, h => some (tm, h, [])
  | o :: l, tm, h =>
    bif wanted tm o.guard then
      match stepOp call o.op tm h with
      | some (v, h') => match runDraw call l (putT tm o.dst v) h' with
        | some (tm', h'', ns) => some (tm', h'', some ⟨o.op, tm, v, h, h'⟩ :: ns)
        | none => none
      | none => none
    else match runDraw call l (putT tm o.dst undef) h with
      | some (tm', h', ns) => some (tm', h', none :: ns)
      | none => none

/-- does an operation that only reads answer the same, with another heap? -/
def sameAt (n : Note) (h : Hp) : Bool :=
  match evOp n.tm h n.op with
  | some (v, _) => V.same v n.v
  | none => false

def checkPair (ns : List (Option Note)) (p : Nat × Nat) : Bool :=
  match ns[p.1]?, ns[p.2]? with
  | some (some r), some (some c) => sameAt r c.before && sameAt r c.after
  | some _, some _ => true
  | _, _ => false

def checkAll (ns : List (Option Note)) : List (Nat × Nat) → Bool
  | [] => true
  | p :: l => checkPair ns p && checkAll ns l

def iter (body : T V → Hp → Option (Ex × T V × Hp)) : Nat → T V → Hp → Option (Ex × T V × Hp)
  | 0, _, _ => none
  | n + 1, tm, h => match body tm h with
    | some (.normal, tm', h') => iter body n tm' h'
    | r => r

def findLabel : E → Nat → Option E
  | .seq a b, l => match findLabel a l with
    | some r => some (.seq r b)
    | none => findLabel b l
  | .label m, l => bif Nat.beq m l then some .skip else none
  | _, _ => none

def setParams : T V → List Nat → List V → T V
  | tm, p :: ps, v :: vs => setParams (tm.set p v) ps vs
  | tm, _, _ => tm

/-- rounds that a loop may make -/
def rounds : Nat := 1000000

def isLoop (h : Hp) : Option Nat → Bool
  | none => true
  | some b => match h.get b with
    | some (.loop ..) => true
    | _ => false

/-- code, walked; 'ro': within a round of which loop -/
def evC (call : Caller) (ro : Option Nat) : E → T V → Hp → Option (Ex × T V × Hp)
  | .skip, tm, h => some (.normal, tm, h)
  | .label _, tm, h => some (.normal, tm, h)
  | .region ops, tm, h => match runOps call ops tm h with
    | some (tm', h') => some (.normal, tm', h')
    | none => none
  | .draw ops pairs, tm, h => match runDraw call ops tm h with
    | some (tm', h', ns) => bif checkAll ns pairs then some (.normal, tm', h') else none
    | none => none
  | .seq a b, tm, h => match evC call ro a tm h with
    | some (.normal, tm', h') => evC call ro b tm' h'
    | r => r
  | .cond c a b, tm, h => match ev tm c with
    | .bool true => evC call ro a tm h
    | .bool false => evC call ro b tm h
    | _ => none
  | .block id body, tm, h => match evC call ro body tm h with
    | some (.exit i, tm', h') => bif Nat.beq i id then some (.normal, tm', h') else some (.exit i, tm', h')
    | r => r
  | .loop body, tm, h => iter (evC call ro body) rounds tm h
  | .rangeFunc f params assign body, tm, h =>
    bif isLoop h ro then
    match call true (ev tm f) [.yield h.nx] (h.add (.loop .ready .normal tm params assign body)) with
    | some (_, h') => match h'.get h.nx with
      | some (.loop st pend tm0 ps as bo) => match st with
        | .busy => none
        | _ => some (pend, tm, h'.put h.nx (.loop .exhausted pend tm0 ps as bo))
      | _ => none
    | none => none
    else none
  | .exit id, tm, h => some (.exit id, tm, h)
  | .goto l, tm, h => some (.goto l, tm, h)
  | .ret, tm, h => some (.ret, tm, h)
  | .bad, _, _ => none
  | .scope body, tm, h => match evC call ro body tm h with
    | some (.goto _, _, _) => none
    | r => r

def resultOf (tm : T V) (h : Hp) : ERes → Option V
  | .tmp t => some (ev tm (.t t))
  | .cell t size agg => match ev tm (.t t) with
    | .ptr b off => match h.load b off size with
      | some cs => bif agg then some (.agg cs) else (match cs with | [v] => some v | _ => none)
      | none => none
    | _ => none

def resultsOf (tm : T V) (h : Hp) : List ERes → Option (List V)
  | [] => some []
  | r :: l => match resultOf tm h r with
    | some v => match resultsOf tm h l with
      | some vs => some (v :: vs)
      | none => none
    | none => none

def packResults : List V → V
  | [v] => v
  | vs => .tuple vs

/-- what a function without a body answers -/
abbrev Ext := Nat → List V → Hp → Option (V × Hp)

/-- a call, n deep -/
def callN (fs : T EFunc) (ext : Ext) : Nat → Caller
  | 0, _, _, _, _ => none
  | n + 1, must, .func f first captured, args, h =>
    match fs.get f with
    | some fn =>
      bif Nat.ble (first ++ args ++ captured).length fn.ntmps then
      match evC (callN fs ext n) none fn.body (T.setMany .nil 0 (first ++ args ++ captured)) h with
      | some (.normal, tm, h') | some (.ret, tm, h') => match resultsOf tm h' fn.results with
        | some vs => some (packResults vs, h')
        | none => none
      | _ => none
      else none
    | none => bif must then none else ext f (first ++ args ++ captured) h
  | n + 1, must, .yield b, args, h =>
    bif must then none else
    match h.get b with
    | some (.loop _ _ tm params assign body) =>
      bif Nat.beq params.length args.length then
      match evC (callN fs ext n) (some b) assign (setParams tm params args) h with
      | some (.normal, tm1, h1) => match h1.get b with
        | some (.loop .ready p1 t1 ps1 as1 bo1) =>
          match evC (callN fs ext n) (some b) body tm1 (h1.put b (.loop .busy p1 t1 ps1 as1 bo1)) with
          | some (x, _, h2) => match h2.get b with
            | some (.loop _ _ t2 ps2 as2 bo2) => match x with
              | .normal => some (.bool true, h2.put b (.loop .ready .normal t2 ps2 as2 bo2))
              | x => some (.bool false, h2.put b (.loop .done x t2 ps2 as2 bo2))
            | _ => none
          | none => none
        | _ => none
      | _ => none
      else none
    | _ => none
  | _, _, _, _, _ => none

end
end Go.Ev
