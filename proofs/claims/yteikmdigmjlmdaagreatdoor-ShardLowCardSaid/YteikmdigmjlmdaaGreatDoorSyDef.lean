/-
  A second evaluator, whose integers and bytes may be codes of linear forms: definitions. No proof stands here.
-/
import Derived.Test.YteikmdigmjlmdaaGreatDoorEvDef
import Derived.Test.YteikmdigmjlmdaaGreatDoorEvComp
set_option linter.unusedVariables false
set_option linter.unusedSimpArgs false
namespace Go.Ev
noncomputable section

/-! ### Codes: a number from symB on stands for a form and an offset -/
def symB : Nat := 2 ^ 200
def symF : Nat := 2 ^ 100
def symH : Nat := 2 ^ 99

/-- what is known of the forms: bounds of each, bounds of differences, the opposite form -/
structure Reg where
  rng : Nat → Option (Int × Int)
  dif : Nat → Nat → Option (Int × Int)
  neg : Nat → Option Nat

/-- a code's form and offset -/
def split (n : Int) : Option (Nat × Int) :=
  match n with
  | .ofNat m => bif Nat.ble symB m then some ((m - symB) / symF, Int.ofNat ((m - symB) % symF) - Int.ofNat symH) else none
  | .negSucc _ => none

def isSym (n : Int) : Bool :=
  match n with
  | .ofNat m => Nat.ble symB m
  | .negSucc _ => false

def mkSym (k : Nat) (c : Int) : Option Int :=
  match c + Int.ofNat symH with
  | .ofNat m => bif Nat.blt m symF then some (Int.ofNat (symB + k * symF + m)) else none
  | .negSucc _ => none

/-- a plain number, or none -/
def plainI (n : Int) : Option Int := bif isSym n then none else some n

section
variable (R : Reg)

/-- between what and what a number lies -/
def rngOf (n : Int) : Option (Int × Int) :=
  match split n with
  | none => some (n, n)
  | some (k, c) => match R.rng k with
    | some (lo, hi) => some (lo + c, hi + c)
    | none => none

/-- between what and what a difference lies -/
def difOf (x y : Int) : Option (Int × Int) :=
  match split x, split y with
  | none, none => some (x - y, x - y)
  | some (k, c), none => match R.rng k with
    | some (lo, hi) => some (lo + c - y, hi + c - y)
    | none => none
  | none, some (j, d) => match R.rng j with
    | some (lo, hi) => some (x - (hi + d), x - (lo + d))
    | none => none
  | some (k, c), some (j, d) =>
    bif Nat.beq k j then some (c - d, c - d) else
    match R.dif k j with
    | some (lo, hi) => some (lo + (c - d), hi + (c - d))
    | none => none

def sLt (x y : Int) : Option Bool :=
  match difOf R x y with
  | some (lo, hi) => bif decide (hi < 0) then some true else bif decide (0 ≤ lo) then some false else none
  | none => none

def sEq (x y : Int) : Option Bool :=
  match difOf R x y with
  | some (lo, hi) => bif decide (hi < 0) || decide (0 < lo) then some false else bif decide (0 ≤ lo) && decide (hi ≤ 0) then some true else none
  | none => none

def sAdd (x y : Int) : Option Int :=
  match split x, split y with
  | none, none => plainI (x + y)
  | some (k, c), none => mkSym k (c + y)
  | none, some (j, d) => mkSym j (x + d)
  | some (k, c), some (j, d) => match R.neg k with
    | some j' => bif Nat.beq j' j then plainI (c + d) else none
    | none => none

def sSub (x y : Int) : Option Int :=
  match split x, split y with
  | none, none => plainI (x - y)
  | some (k, c), none => mkSym k (c - y)
  | none, some (j, d) => match R.neg j with
    | some j' => mkSym j' (x - d)
    | none => none
  | some (k, c), some (j, d) => bif Nat.beq k j then plainI (c - d) else none

/-- within a kind -/
def within (k : IntKind) (n : Int) : Bool :=
  match rngOf R n with
  | some (lo, hi) => decide (k.min ≤ lo) && decide (hi ≤ k.max)
  | none => false

def fit (k : IntKind) (r : Option Int) : Option V :=
  match r with
  | some n => bif within R k n then some (.int k n) else none
  | none => none

/-- the same multiple of m, all over -/
def sQuot (n : Int) (m : Int) : Option Int :=
  match rngOf R n with
  | some (lo, hi) => bif decide (0 < m) && decide (lo.fdiv m = hi.fdiv m) then plainI (lo.fdiv m) else none
  | none => none

def sOr (k : IntKind) (a b : Int) : Option V :=
  bif !isSym a && decide (a = 0) then (bif within R k b then (match rngOf R b with | some (lo, _) => bif decide (0 ≤ lo) then some (.int k b) else none | none => none) else none) else
  bif !isSym b && decide (b = 0) then (bif within R k a then (match rngOf R a with | some (lo, _) => bif decide (0 ≤ lo) then some (.int k a) else none | none => none) else none) else
  bif !isSym a && isSym b && decide (0 ≤ a) && decide (a % 256 = 0) then
    match rngOf R b with
    | some (lo, hi) => bif decide (0 ≤ lo) && decide (hi < 256) then fit R k (sAdd R a b) else none
    | none => none
  else none

def sB (b : Option Bool) : Option V :=
  match b with
  | some b => some (.bool b)
  | none => none
def sNot (b : Option Bool) : Option Bool :=
  match b with
  | some b => some (!b)
  | none => none

/-- a result that is plain -/
def plainV (v : Option V) : Option V :=
  match v with
  | some (.int k n) => bif isSym n then none else some (.int k n)
  | some (.bool b) => some (.bool b)
  | some (.str s) => some (.str s)
  | _ => none

def sArithInt (op : BinOp) (k : IntKind) (a b : Int) : Option V :=
  bif isSym a || isSym b then
    match op with
    | .add => fit R k (sAdd R a b)
    | .sub => fit R k (sSub R a b)
    | .or => sOr R k a b
    | .eql => sB (sEq R a b)
    | .neq => sB (sNot (sEq R a b))
    | .lss => sB (sLt R a b)
    | .leq => sB (sNot (sLt R b a))
    | .gtr => sB (sLt R b a)
    | .geq => sB (sNot (sLt R a b))
    | _ => none
  else plainV (arithInt op k a b)

/-- a byte that is no less than nought, whatever it stands for -/
def okByte (b : Nat) : Bool :=
  bif Nat.ble symB b then (match rngOf R (Int.ofNat b) with | some (lo, _) => decide (0 ≤ lo) | none => false) else true
def okBytes : List Nat → Bool
  | [] => true
  | b :: l => okByte R b && okBytes l

def sEqB (a b : Nat) : Option Bool :=
  bif Nat.ble symB a || Nat.ble symB b then (bif okByte R a && okByte R b then sEq R (Int.ofNat a) (Int.ofNat b) else none) else some (Nat.beq a b)
def sLtB (a b : Nat) : Option Bool :=
  bif Nat.ble symB a || Nat.ble symB b then (bif okByte R a && okByte R b then sLt R (Int.ofNat a) (Int.ofNat b) else none) else some (Nat.blt a b)

def sEqS : List Nat → List Nat → Option Bool
  | [], [] => some true
  | a :: x, b :: y => match sEqB R a b with
    | some true => sEqS x y
    | some false => bif Nat.beq x.length y.length then some false else some false
    | none => none
  | _, _ => some false

def sLtS : List Nat → List Nat → Option Bool
  | _, [] => some false
  | [], _ :: _ => some true
  | a :: x, b :: y => match sLtB R a b with
    | some true => some true
    | some false => match sEqB R a b with
      | some true => sLtS x y
      | some false => some false
      | none => none
    | none => none

def sArithStr (op : BinOp) (a b : List Nat) : Option V :=
  match op with
  | .add => arithStr .add a b
  | .eql => sB (sEqS R a b)
  | .neq => sB (sNot (sEqS R a b))
  | .lss => sB (sLtS R a b)
  | .leq => sB (sNot (sLtS R b a))
  | .gtr => sB (sLtS R b a)
  | .geq => sB (sNot (sLtS R a b))
  | _ => none

def sArith (op : BinOp) (x y : V) : Option V :=
  match x, y with
  | .int k a, .int l b =>
    match op with
    | .shl => bif isSym b then none else bif isSym a then none else plainV (arith .shl (.int k a) (.int l b))
    | .shr => bif isSym b || decide (b < 0) then none else
        bif isSym a then (bif decide (b = 0) then some (.int k a) else match sQuot R a (2 ^ min b.toNat k.bits) with | some q => some (.int k q) | none => none)
        else plainV (arith .shr (.int k a) (.int l b))
    | _ => bif kindEq k l then sArithInt R op k a b else none
  | .str a, .str b => sArithStr R op a b
  | _, _ => none

def sUnop (op : UnOp) (x : V) : Option V :=
  match op, x with
  | .neg, .int k n => bif isSym n then fit R k (sSub R 0 n) else plainV (unop .neg (.int k n))
  | .xor, .int k n => bif isSym n then none else plainV (unop .xor (.int k n))
  | .not, .bool b => some (.bool (!b))
  | _, _ => none

mutual
def sEqV (h : Hp) : ED → V → V → Option Bool
  | .int, .int k a, .int l b => bif kindEq k l then sEq R a b else none
  | .str, .str a, .str b => sEqS R a b
  | .struct fs, .agg xs, .agg ys => sEqFs h fs xs ys
  | .struct _, _, _ => none
  | .int, _, _ => none
  | .str, _, _ => none
  | d, x, y => eqV h d x y
def sEqFs (h : Hp) : List (Nat × Nat × Bool × ED) → List V → List V → Option Bool
  | [], _, _ => some true
  | (off, size, agg, d) :: fs, xs, ys =>
    match part xs off size agg, part ys off size agg with
    | some x, some y => match sEqV h d x y with
      | some true => sEqFs h fs xs ys
      | some false => some false
      | none => none
    | _, _ => none
end

def sAsNat (v : V) : Option Nat :=
  match v with
  | .int _ (.ofNat n) => bif Nat.ble symB n then none else some n
  | _ => none

def sBound (tm : T V) (o : Option S) (dflt most : Nat) : Option Nat :=
  match o with
  | none => some dflt
  | some s => match sAsNat (ev tm s) with
    | some n => bif Nat.ble n most then some n else none
    | none => none

def sBounds (tm : T V) (len cap : Nat) (lo hi mx : Option S) : Option (Nat × Nat × Nat) :=
  match sBound tm mx cap cap with
  | none => none
  | some m => match sBound tm hi len m with
    | none => none
    | some h => match sBound tm lo 0 h with
      | none => none
      | some l => some (l, h, m)

def sFindKey (h : Hp) (d : ED) (k : V) : List (V × V) → Option (Option V)
  | [] => some none
  | (x, v) :: l => match sEqV R h d k x with
    | some true => some (some v)
    | some false => sFindKey h d k l
    | none => none

def sSetKey (h : Hp) (d : ED) (k v : V) : List (V × V) → Option (List (V × V))
  | [] => some [(k, v)]
  | (x, w) :: l => match sEqV R h d k x with
    | some true => some ((k, v) :: l)
    | some false => match sSetKey h d k v l with | some r => some ((x, w) :: r) | none => none
    | none => none

def sDelKey (h : Hp) (d : ED) (k : V) : List (V × V) → Option (List (V × V))
  | [] => some []
  | (x, w) :: l => match sEqV R h d k x with
    | some true => some l
    | some false => match sDelKey h d k l with | some r => some ((x, w) :: r) | none => none
    | none => none

def sBytesOf : List V → Option (List Nat)
  | [] => some []
  | .int .u8 (.ofNat n) :: l =>
    bif Nat.blt n 256 then (match sBytesOf l with | some r => some (n :: r) | none => none) else
    match rngOf R (.ofNat n) with
    | some (lo, hi) => bif decide (0 ≤ lo) && decide (hi < 256) then (match sBytesOf l with | some r => some (n :: r) | none => none) else none
    | none => none
  | _ => none

def strOk (x : V) : Bool :=
  match x with
  | .str s => okBytes R s
  | _ => true

def sConv (k : IntKind) (n : Int) : Option V :=
  bif isSym n then
    bif within R k n then some (.int k n) else
    match k with
    | .u8 => match sQuot R n 256 with
      | some q => match plainI (0 - 256 * q) with
        | some m => fit R .u8 (sAdd R n m)
        | none => none
      | none => none
    | _ => none
  else plainV (some (.int k (wrapK k n)))

def sMinInt (mx : Bool) (k : IntKind) (a : Int) : List V → Hp → Option (V × Hp)
  | [], h => some (.int k a, h)
  | .int l b :: r, h => bif kindEq k l then
      match sLt R a b, sLt R b a with
      | some lt, some gt => sMinInt mx k (bif mx then (bif lt then b else a) else (bif gt then b else a)) r h
      | _, _ => none
    else none
  | _, _ => none

/-- a result that is a plain number -/
def plainR (r : Option (V × Hp)) : Option (V × Hp) :=
  match r with
  | some (.int k n, h) => bif isSym n then none else some (.int k n, h)
  | _ => none

/-- one operation -/
def sOp (tm : T V) (h : Hp) (e : EOp) : Option (V × Hp) :=
  match e with
  | .arith op x y => ret1 h (sArith R op (ev tm x) (ev tm y))
  | .eqv neg d x y => match sEqV R h d (ev tm x) (ev tm y) with
    | some b => some (.bool (bif neg then !b else b), h)
    | none => none
  | .unop op x => ret1 h (sUnop R op (ev tm x))
  | .conv c x => match c, ev tm x with
    | .int k, .int _ n => ret1 h (sConv R k n)
    | .strBytes, .str s => bif okBytes R s then evOp tm h (.conv .strBytes x) else none
    | .bytesStr, .slice b off l _ e =>
      bif Nat.beq e 1 then
        match h.load b off l with
        | some cs => match sBytesOf R cs with
          | some s => some (.str s, h)
          | none => none
        | none => none
      else none
    | .int _, _ => none
    | c, _ => evOp tm h (.conv c x)
  | .mkSlice size bytes zero l c => match sAsNat (ev tm l), sAsNat (ev tm c) with
    | some l, some c => bif Nat.ble l c && Nat.ble (bytes * c) (2 ^ 48) && Nat.blt c (2 ^ 63) then some (.slice h.nx 0 l c size, h.newBlk size c .exact (zerosOf zero c)) else none
    | _, _ => none
  | .sliceStr x lo hi => match ev tm x with
    | .str s => match sBounds tm s.length s.length lo hi none with
      | some (l, m, _) => some (.str ((s.take m).drop l), h)
      | none => none
    | _ => none
  | .slice size x lo hi mx => match ev tm x with
    | .nilSlice => match sBounds tm 0 0 lo hi mx with
      | some _ => some (.nilSlice, h)
      | none => none
    | .slice b off len cap e =>
      bif Nat.beq e size then
        match sBounds tm len cap lo hi mx with
        | some (l, m, k) => some (.slice b (off + l * size) (m - l) (k - l) e, h)
        | none => none
      else none
    | _ => none
  | .sliceArr n size x lo hi mx => match ev tm x with
    | .ptr b off => match h.get b with
      | some (.cells _ c _ _) => bif Nat.ble (off + n * size) c then
          match sBounds tm n n lo hi mx with
          | some (l, m, k) => some (.slice b (off + l * size) (m - l) (k - l) size, h)
          | none => none
        else none
      | _ => none
    | _ => none
  | .idxAddrArr n size x i => match ev tm x, sAsNat (ev tm i) with
    | .ptr b off, some i => bif Nat.blt i n then some (.ptr b (off + i * size), h) else none
    | _, _ => none
  | .idxAddr size x i => match ev tm x, sAsNat (ev tm i) with
    | .slice b off len _ e, some i => bif Nat.blt i len && Nat.beq e size then some (.ptr b (off + i * size), h) else none
    | _, _ => none
  | .idxArr n size agg x i => match ev tm x, sAsNat (ev tm i) with
    | .agg cs, some i => bif Nat.blt i n then ret1 h (part cs (i * size) size agg) else none
    | _, _ => none
  | .idxStr x i => match ev tm x, sAsNat (ev tm i) with
    | .str s, some i => match s[i]? with
      | some b => bif okByte R b then some (.int .u8 b, h) else none
      | none => none
    | _, _ => none
  | .lookup kd zero ok x k =>
    let r := match ev tm x with
      | .nilMap => some none
      | .map b => match h.get b with
        | some (.map es) => sFindKey R h kd (ev tm k) es
        | _ => none
      | _ => none
    match r with
    | some (some v) => some (bif ok then .tuple [v, .bool true] else v, h)
    | some none => some (bif ok then .tuple [zero, .bool false] else zero, h)
    | none => none
  | .mapSet kd m k v => match ev tm m with
    | .map b => match h.get b with
      | some (.map es) => match sSetKey R h kd (ev tm k) (ev tm v) es with
        | some es' => some (undef, h.put b (.map es'))
        | none => none
      | _ => none
    | _ => none
  | .mapDel kd m k => match ev tm m with
    | .nilMap => some (undef, h)
    | .map b => match h.get b with
      | some (.map es) => match sDelKey R h kd (ev tm k) es with
        | some es' => some (undef, h.put b (.map es'))
        | none => none
      | _ => none
    | _ => none
  | .append size bytes s x => bif strOk R (ev tm x) then evOp tm h (.append size bytes s x) else none
  | .appendZeros _ _ _ _ _ => none
  | .copy size d s => bif strOk R (ev tm s) then plainR (evOp tm h (.copy size d s)) else none
  | .lenStr x => plainR (evOp tm h (.lenStr x))
  | .lenSl x => plainR (evOp tm h (.lenSl x))
  | .lenMap x => plainR (evOp tm h (.lenMap x))
  | .lenConst n => plainR (evOp tm h (.lenConst n))
  | .cap x => plainR (evOp tm h (.cap x))
  | .minmax mx l => match evs tm l with
    | .int k a :: r => sMinInt R mx k a r h
    | _ => none
  | e => evOp tm h e

/-! ### Code -/
def sStep (call : Caller) (op : EOp) (tm : T V) (h : Hp) : Option (V × Hp) :=
  match op with
  | .call f args => call false (ev tm f) (evs tm args) h
  | op => sOp R tm h op

def sRunOps (call : Caller) : List EOper → T V → Hp → Option (T V × Hp)
  | [], tm, h => some (tm, h)
  | o :: l, tm, h =>
    bif wanted tm o.guard then
      match sStep R call o.op tm h with
      | some (v, h') => sRunOps call l (putT tm o.dst v) h'
      | none => none
    else sRunOps call l (putT tm o.dst undef) h

def sRunDraw (call : Caller) : List EOper → T V → Hp → Option (T V × Hp × List (Option Note))
  | [], tm, h => some (tm, h, [])
  | o :: l, tm, h =>
    bif wanted tm o.guard then
      match sStep R call o.op tm h with
      | some (v, h') => match sRunDraw call l (putT tm o.dst v) h' with
        | some (tm', h'', ns) => some (tm', h'', some ⟨o.op, tm, v, h, h'⟩ :: ns)
        | none => none
      | none => none
    else match sRunDraw call l (putT tm o.dst undef) h with
      | some (tm', h', ns) => some (tm', h', none :: ns)
      | none => none

def sSameAt (n : Note) (h : Hp) : Bool :=
  match sOp R n.tm h n.op with
  | some (v, _) => V.same v n.v
  | none => false

def sCheckPair (ns : List (Option Note)) (p : Nat × Nat) : Bool :=
  match ns[p.1]?, ns[p.2]? with
  | some (some r), some (some c) => sSameAt R r c.before && sSameAt R r c.after
  | some _, some _ => true
  | _, _ => false

def sCheckAll (ns : List (Option Note)) : List (Nat × Nat) → Bool
  | [] => true
  | p :: l => sCheckPair R ns p && sCheckAll ns l

def sC (call : Caller) (ro : Option Nat) : E → T V → Hp → Option (Ex × T V × Hp)
  | .skip, tm, h => some (.normal, tm, h)
  | .label _, tm, h => some (.normal, tm, h)
  | .region ops, tm, h => match sRunOps R call ops tm h with
    | some (tm', h') => some (.normal, tm', h')
    | none => none
  | .draw ops pairs, tm, h => match sRunDraw R call ops tm h with
    | some (tm', h', ns) => bif sCheckAll R ns pairs then some (.normal, tm', h') else none
    | none => none
  | .seq a b, tm, h => match sC call ro a tm h with
    | some (.normal, tm', h') => sC call ro b tm' h'
    | r => r
  | .cond c a b, tm, h => match ev tm c with
    | .bool true => sC call ro a tm h
    | .bool false => sC call ro b tm h
    | _ => none
  | .block id body, tm, h => match sC call ro body tm h with
    | some (.exit i, tm', h') => bif Nat.beq i id then some (.normal, tm', h') else some (.exit i, tm', h')
    | r => r
  | .loop body, tm, h => iter (sC call ro body) rounds tm h
  | .rangeFunc f params assign body, tm, h =>
    bif isLoop h ro then
    match call true (ev tm f) [.yield h.nx] (h.add (.loop .ready .normal tm params assign body)) with
    | some (_, h') => match h'.get h.nx with
      | some (.loop st pend tm0 ps as bo) => match st with
        | .busy => none
        | _ => some (pend, tm, h'.put h.nx (.loop .exhausted pend tm0 ps as bo))
      | _ => none
    | none => none
    else none
  | .exit id, tm, h => some (.exit id, tm, h)
  | .goto l, tm, h => some (.goto l, tm, h)
  | .ret, tm, h => some (.ret, tm, h)
  | .bad, _, _ => none
  | .scope body, tm, h => match sC call ro body tm h with
    | some (.goto _, _, _) => none
    | r => r

def sN (fs : T EFunc) (ext : Ext) : Nat → Caller
  | 0, _, _, _, _ => none
  | n + 1, must, .func f first captured, args, h =>
    match fs.get f with
    | some fn =>
      bif Nat.ble (first ++ args ++ captured).length fn.ntmps then
      match sC R (sN fs ext n) none fn.body (T.setMany .nil 0 (first ++ args ++ captured)) h with
      | some (.normal, tm, h') | some (.ret, tm, h') => match resultsOf tm h' fn.results with
        | some vs => some (packResults vs, h')
        | none => none
      | _ => none
      else none
    | none => bif must then none else ext f (first ++ args ++ captured) h
  | n + 1, must, .yield b, args, h =>
    bif must then none else
    match h.get b with
    | some (.loop _ _ tm params assign body) =>
      bif Nat.beq params.length args.length then
      match sC R (sN fs ext n) (some b) assign (setParams tm params args) h with
      | some (.normal, tm1, h1) => match h1.get b with
        | some (.loop .ready p1 t1 ps1 as1 bo1) =>
          match sC R (sN fs ext n) (some b) body tm1 (h1.put b (.loop .busy p1 t1 ps1 as1 bo1)) with
          | some (x, _, h2) => match h2.get b with
            | some (.loop _ _ t2 ps2 as2 bo2) => match x with
              | .normal => some (.bool true, h2.put b (.loop .ready .normal t2 ps2 as2 bo2))
              | x => some (.bool false, h2.put b (.loop .done x t2 ps2 as2 bo2))
            | _ => none
          | none => none
        | _ => none
      | _ => none
      else none
    | _ => none
  | _, _, _, _, _ => none
end
end
end Go.Ev
