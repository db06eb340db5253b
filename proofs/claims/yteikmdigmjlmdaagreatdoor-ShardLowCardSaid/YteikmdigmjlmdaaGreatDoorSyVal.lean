/-
  What values, trees, heaps and code with codes in them stand for.
-/
import Derived.Test.YteikmdigmjlmdaaGreatDoorEvTree
import Derived.Test.YteikmdigmjlmdaaGreatDoorSyInt
import Derived.Test.YteikmdigmjlmdaaGreatDoorEvLook
set_option linter.unusedVariables false
set_option linter.unusedSimpArgs false
namespace Go.Ev

namespace T
variable {α β : Type}
def map (f : α → β) : T α → T β
  | .nil => .nil
  | .node v l r => .node (v.map f) (l.map f) (r.map f)

theorem get_map (f : α → β) : ∀ (t : T α) (i : Nat), (t.map f).get i = (t.get i).map f
  | .nil, i => by simp [map]
  | .node v l r, i => by
    cases i with
    | zero => simp [map]
    | succ j =>
      simp only [map, get_succ]
      by_cases h : j % 2 = 0
      · rw [if_pos h, if_pos h]; exact get_map f l _
      · rw [if_neg h, if_neg h]; exact get_map f r _

theorem single_map (f : α → β) : ∀ (n i : Nat) (v : α), (single n i v).map f = single n i (f v)
  | 0, i, v => by rfl
  | n + 1, i, v => by
    cases i with
    | zero => rfl
    | succ j =>
      simp only [single_succ]
      cases Nat.beq (j % 2) 0 with
      | true => simp only [cond_true, map, Option.map_none, single_map f n]
      | false => simp only [cond_false, map, Option.map_none, single_map f n]

theorem set_map (f : α → β) : ∀ (t : T α) (i : Nat) (v : α), (t.set i v).map f = (t.map f).set i (f v)
  | .nil, i, v => by simp only [set_nil, map]; exact single_map f i i v
  | .node w l r, i, v => by
    cases i with
    | zero => simp [map, set_zero]
    | succ j =>
      simp only [map, set_succ]
      cases Nat.beq (j % 2) 0 with
      | true => simp only [cond_true, map, set_map f l]
      | false => simp only [cond_false, map, set_map f r]

theorem setMany_map (f : α → β) : ∀ (l : List α) (t : T α) (i : Nat), (t.setMany i l).map f = (t.map f).setMany i (l.map f)
  | [], t, i => rfl
  | v :: l, t, i => by
    simp only [setMany_cons, List.map_cons]
    rw [setMany_map f l, set_map]
end T

section
variable (ρ : Nat → Int)
mutual
def fv : V → V
  | .int k n => .int k (fi ρ n)
  | .str s => .str (s.map (fb ρ))
  | .func f a c => .func f (fvs a) (fvs c)
  | .iface t v => .iface t (fv v)
  | .agg cs => .agg (fvs cs)
  | .tuple cs => .tuple (fvs cs)
  | .bool b => .bool b
  | .ptr b o => .ptr b o
  | .nilPtr => .nilPtr
  | .slice b o l c e => .slice b o l c e
  | .nilSlice => .nilSlice
  | .map b => .map b
  | .nilMap => .nilMap
  | .yield b => .yield b
  | .nilFunc => .nilFunc
  | .nilIface => .nilIface
def fvs : List V → List V
  | [] => []
  | v :: l => fv v :: fvs l
end

theorem fvs_map : ∀ l : List V, fvs ρ l = l.map (fv ρ)
  | [] => rfl
  | v :: l => by simp only [fvs, List.map_cons, fvs_map l]

def fS : S → S
  | .t i => .t i
  | .c v => .c (fv ρ v)

def fParts : List (Nat × Nat × S) → List (Nat × Nat × S)
  | [] => []
  | (a, b, s) :: l => (a, b, fS ρ s) :: fParts l

def fOp : EOp → EOp
  | .mov x => .mov (fS ρ x)
  | .pick c a b => .pick (fS ρ c) (fS ρ a) (fS ρ b)
  | .alloc n z => .alloc n (fvs ρ z)
  | .box n x => .box n (fS ρ x)
  | .build z ps => .build (fvs ρ z) (fParts ρ ps)
  | .buildSlice l n z ps => .buildSlice l n (fvs ρ z) (fParts ρ ps)
  | .load n g a => .load n g (fS ρ a)
  | .store n a x => .store n (fS ρ a) (fS ρ x)
  | .nilCheck x => .nilCheck (fS ρ x)
  | .arith op x y => .arith op (fS ρ x) (fS ρ y)
  | .eqv neg d x y => .eqv neg d (fS ρ x) (fS ρ y)
  | .unop op x => .unop op (fS ρ x)
  | .conv c x => .conv c (fS ρ x)
  | .mkIface t x => .mkIface t (fS ρ x)
  | .mkFunc f a c => .mkFunc f (a.map (fS ρ)) (c.map (fS ρ))
  | .mkMap => .mkMap
  | .mkSlice n b z l c => .mkSlice n b (fvs ρ z) (fS ρ l) (fS ρ c)
  | .sliceStr x lo hi => .sliceStr (fS ρ x) (lo.map (fS ρ)) (hi.map (fS ρ))
  | .slice n x lo hi mx => .slice n (fS ρ x) (lo.map (fS ρ)) (hi.map (fS ρ)) (mx.map (fS ρ))
  | .sliceArr m n x lo hi mx => .sliceArr m n (fS ρ x) (lo.map (fS ρ)) (hi.map (fS ρ)) (mx.map (fS ρ))
  | .fieldAddr o x => .fieldAddr o (fS ρ x)
  | .field o n g x => .field o n g (fS ρ x)
  | .idxAddrArr m n x i => .idxAddrArr m n (fS ρ x) (fS ρ i)
  | .idxAddr n x i => .idxAddr n (fS ρ x) (fS ρ i)
  | .idxArr m n g x i => .idxArr m n g (fS ρ x) (fS ρ i)
  | .idxStr x i => .idxStr (fS ρ x) (fS ρ i)
  | .lookup d z ok x k => .lookup d (fv ρ z) ok (fS ρ x) (fS ρ k)
  | .mapSet d m k v => .mapSet d (fS ρ m) (fS ρ k) (fS ρ v)
  | .mapDel d m k => .mapDel d (fS ρ m) (fS ρ k)
  | .extract x i => .extract (fS ρ x) i
  | .call f args => .call (fS ρ f) (args.map (fS ρ))
  | .lenStr x => .lenStr (fS ρ x)
  | .lenSl x => .lenSl (fS ρ x)
  | .lenMap x => .lenMap (fS ρ x)
  | .lenConst n => .lenConst n
  | .cap x => .cap (fS ρ x)
  | .append n b s x => .append n b (fS ρ s) (fS ρ x)
  | .appendZeros n b z s m => .appendZeros n b (fvs ρ z) (fS ρ s) (fS ρ m)
  | .copy n d s => .copy n (fS ρ d) (fS ρ s)
  | .minmax mx l => .minmax mx (l.map (fS ρ))
  | .clearSlice n z x => .clearSlice n (fvs ρ z) (fS ρ x)
  | .bad => .bad

def fOper (o : EOper) : EOper := ⟨o.dst, fOp ρ o.op, o.guard⟩

def fE : E → E
  | .skip => .skip
  | .region ops => .region (ops.map (fOper ρ))
  | .draw ops ps => .draw (ops.map (fOper ρ)) ps
  | .seq a b => .seq (fE a) (fE b)
  | .cond c a b => .cond (fS ρ c) (fE a) (fE b)
  | .block i b => .block i (fE b)
  | .loop b => .loop (fE b)
  | .rangeFunc f ps a b => .rangeFunc (fS ρ f) ps (fE a) (fE b)
  | .exit i => .exit i
  | .scope b => .scope (fE b)
  | .label l => .label l
  | .goto l => .goto l
  | .ret => .ret
  | .bad => .bad

def fF (f : EFunc) : EFunc := { f with body := fE ρ f.body }

def ft (tm : T V) : T V := tm.map (fv ρ)

def fBlk : Blk → Blk
  | .cells e n kd rows => .cells e n kd (rows.map (fvs ρ))
  | .dead => .dead
  | .map es => .map (es.map fun p => (fv ρ p.1, fv ρ p.2))
  | .loop st pend tm ps as bo => .loop st pend (ft ρ tm) ps (fE ρ as) (fE ρ bo)

def fh (h : Hp) : Hp := { nx := h.nx, m := h.m.map (fBlk ρ) }
end

section
variable {ρ : Nat → Int} {tm : T V} {h h' : Hp}
theorem fh_get (b : Nat) : (fh ρ h).get b = (h.get b).map (fBlk ρ) := T.get_map _ _ _
theorem fh_put (b : Nat) (k : Blk) : fh ρ (h.put b k) = (fh ρ h).put b (fBlk ρ k) := by simp only [fh, Hp.put, T.set_map]
theorem fh_add (k : Blk) : fh ρ (h.add k) = (fh ρ h).add (fBlk ρ k) := by simp only [fh, Hp.add, T.set_map]
@[simp] theorem fh_nx : (fh ρ h).nx = h.nx := rfl

theorem fv_undef : fv ρ undef = undef := by simp [undef, fv, fvs]

theorem f_ev (s : S) : ev (ft ρ tm) (fS ρ s) = fv ρ (ev tm s) := by
  cases s with
  | c v => rfl
  | t i =>
    simp only [ev, fS, ft, T.get_map]
    cases tm.get i with
    | none => simp [fv_undef]
    | some v => rfl

theorem f_evs : ∀ l : List S, evs (ft ρ tm) (l.map (fS ρ)) = fvs ρ (evs tm l)
  | [] => rfl
  | s :: l => by simp only [List.map_cons, evs, fvs, f_ev, f_evs l]

theorem fvs_length (l : List V) : (fvs ρ l).length = l.length := by rw [fvs_map]; simp
theorem fvs_append (a b : List V) : fvs ρ (a ++ b) = fvs ρ a ++ fvs ρ b := by simp only [fvs_map, List.map_append]
theorem fvs_take (n : Nat) (l : List V) : fvs ρ (l.take n) = (fvs ρ l).take n := by simp only [fvs_map, List.map_take]
theorem fvs_drop (n : Nat) (l : List V) : fvs ρ (l.drop n) = (fvs ρ l).drop n := by simp only [fvs_map, List.map_drop]
theorem fvs_get (l : List V) (i : Nat) : (fvs ρ l)[i]? = (l[i]?).map (fv ρ) := by rw [fvs_map]; simp

theorem f_cells (v : V) : (fv ρ v).cells = fvs ρ v.cells := by cases v <;> rfl
theorem f_flat (v : V) : (fv ρ v).flat = v.flat := by cases v <;> rfl
theorem f_allFlat : ∀ l : List V, allFlat (fvs ρ l) = allFlat l
  | [] => rfl
  | v :: l => by simp only [fvs, allFlat, f_flat, f_allFlat l]

theorem f_setRow : ∀ (r : List V) (i : Nat) (vs : List V), fvs ρ (setRow r i vs) = setRow (fvs ρ r) i (fvs ρ vs)
  | r, 0, [] => by cases r <;> simp [setRow, fvs]
  | [], i, vs => by
    cases i <;> cases vs <;> simp [setRow, fvs]
  | x :: r, 0, v :: vs => by simp only [setRow, fvs]; rw [f_setRow r 0 vs]
  | x :: r, i + 1, vs => by simp only [setRow, fvs]; rw [f_setRow r i vs]

theorem f_fill : ∀ {ps : List (Nat × Nat × S)} {cs r : List V}, fill tm cs ps = some r → fill (ft ρ tm) (fvs ρ cs) (fParts ρ ps) = some (fvs ρ r)
  | [], cs, r, q => by simp only [fill, Option.some.injEq] at q; subst q; rfl
  | (off, size, s) :: l, cs, r, q => by
    simp only [fill, fParts] at q ⊢
    rw [f_ev, f_cells, fvs_length, fvs_length]
    cases hb : (Nat.beq (ev tm s).cells.length size && Nat.ble (off + size) cs.length) with
    | false => rw [hb] at q; cases q
    | true =>
      rw [hb] at q
      simp only [cond_true] at q ⊢
      rw [← f_setRow]
      exact f_fill q

theorem f_readCells {rows : T (List V)} {e : Nat} : ∀ {f off n : Nat} {l : List V}, readCells rows e f off n = some l → readCells (rows.map (fvs ρ)) e f off n = some (fvs ρ l)
  | 0, off, n, l, q => by
    simp only [readCells] at q ⊢
    cases hb : Nat.beq n 0 with
    | false => rw [hb] at q; cases q
    | true => rw [hb] at q; simp only [cond_true, Option.some.injEq] at q ⊢; subst q; rfl
  | f + 1, off, n, l, q => by
    simp only [readCells] at q ⊢
    cases hb : Nat.beq n 0 with
    | true => rw [hb] at q; simp only [cond_true, Option.some.injEq] at q ⊢; subst q; rfl
    | false =>
      rw [hb] at q
      simp only [cond_false, T.get_map] at q ⊢
      cases hr : rows.get (off / e) with
      | none => rw [hr] at q; cases q
      | some r =>
        rw [hr] at q
        simp only [Option.map_some] at q ⊢
        cases hle : Nat.ble (off % e + n) e with
        | true =>
          rw [hle] at q
          simp only [cond_true, Option.some.injEq] at q ⊢
          subst q
          rw [fvs_take, fvs_drop]
        | false =>
          rw [hle] at q
          simp only [cond_false] at q ⊢
          split at q
          · cases q
          · rename_i l2 h2
            simp only [Option.some.injEq] at q
            subst q
            rw [f_readCells h2, fvs_append, fvs_drop]

theorem f_writeCells {e : Nat} : ∀ {f : Nat} {rows rows' : T (List V)} {off n : Nat} {vs : List V}, writeCells e f rows off n vs = some rows' → writeCells e f (rows.map (fvs ρ)) off n (fvs ρ vs) = some (rows'.map (fvs ρ))
  | 0, rows, rows', off, n, vs, q => by
    simp only [writeCells] at q ⊢
    cases hb : Nat.beq n 0 with
    | false => rw [hb] at q; cases q
    | true => rw [hb] at q; simp only [cond_true, Option.some.injEq] at q ⊢; subst q; rfl
  | f + 1, rows, rows', off, n, vs, q => by
    simp only [writeCells] at q ⊢
    cases hb : Nat.beq n 0 with
    | true => rw [hb] at q; simp only [cond_true, Option.some.injEq] at q ⊢; subst q; rfl
    | false =>
      rw [hb] at q
      simp only [cond_false, T.get_map] at q ⊢
      cases hr : rows.get (off / e) with
      | none => rw [hr] at q; cases q
      | some r =>
        rw [hr] at q
        simp only [Option.map_some] at q ⊢
        cases hle : Nat.ble (off % e + n) e with
        | true =>
          rw [hle] at q
          simp only [cond_true, Option.some.injEq] at q ⊢
          subst q
          rw [T.set_map, f_setRow]
        | false =>
          rw [hle] at q
          simp only [cond_false] at q ⊢
          have := f_writeCells q
          rw [T.set_map, f_setRow, fvs_take, fvs_drop] at this
          exact this

theorem f_load {b off n : Nat} {l : List V} (q : h.load b off n = some l) : (fh ρ h).load b off n = some (fvs ρ l) := by
  unfold Hp.load at q ⊢
  rw [fh_get]
  split at q
  · rename_i e m kd rows hk
    rw [hk]
    simp only [Option.map_some, fBlk]
    cases hle : Nat.ble (off + n) m with
    | false => rw [hle] at q; cases q
    | true => rw [hle] at q; simp only [cond_true] at q ⊢; exact f_readCells q
  · cases q

theorem f_store {b off n : Nat} {vs : List V} (q : h.store b off n vs = some h') : (fh ρ h).store b off n (fvs ρ vs) = some (fh ρ h') := by
  unfold Hp.store at q ⊢
  rw [fh_get]
  split at q
  · rename_i e m kd rows hk
    rw [hk]
    simp only [Option.map_some, fBlk]
    cases hle : (Nat.ble (off + n) m && !kd.isRo) with
    | false => rw [hle] at q; cases q
    | true =>
      rw [hle] at q
      simp only [cond_true] at q ⊢
      split at q
      · rename_i rows' hw
        simp only [Option.some.injEq] at q
        subst q
        rw [f_writeCells hw, fh_put]
        rfl
      · cases q
  · cases q

theorem f_rowsOf (e : Nat) : ∀ (n : Nat) (vs : List V), (rowsOf e n vs).map (fvs ρ) = rowsOf e n (fvs ρ vs)
  | 0, _ => rfl
  | n + 1, vs => by simp only [rowsOf, List.map_cons, fvs_take, f_rowsOf e n, fvs_drop]

theorem f_newRows (e n : Nat) (vs : List V) : (newRows e n vs).map (fvs ρ) = newRows e n (fvs ρ vs) := by
  unfold newRows
  rw [T.setMany_map, f_rowsOf]
  rfl

theorem f_newBlk (e n : Nat) (kd : BK) (vs : List V) : fh ρ (h.newBlk e n kd vs) = (fh ρ h).newBlk e n kd (fvs ρ vs) := by
  unfold Hp.newBlk
  rw [fh_add]
  simp only [fBlk, f_newRows]

theorem f_part {cs : List V} {off size : Nat} {agg : Bool} {v : V} (q : part cs off size agg = some v) : part (fvs ρ cs) off size agg = some (fv ρ v) := by
  unfold part at q ⊢
  cases agg with
  | true =>
    simp only [cond_true, fvs_length] at q ⊢
    cases hle : Nat.ble (off + size) cs.length with
    | false => rw [hle] at q; cases q
    | true =>
      rw [hle] at q
      simp only [cond_true, Option.some.injEq] at q ⊢
      subst q
      simp only [fv, fvs_take, fvs_drop]
  | false =>
    simp only [cond_false] at q ⊢
    rw [fvs_get, q]; rfl

theorem f_live {b off : Nat} : (fh ρ h).live b off = h.live b off := by
  unfold Hp.live
  rw [fh_get]
  cases h.get b with
  | none => rfl
  | some k => cases k <;> rfl

theorem f_zerosOf (z : List V) : ∀ n, fvs ρ (zerosOf z n) = zerosOf (fvs ρ z) n
  | 0 => rfl
  | n + 1 => by simp only [zerosOf, fvs_append, f_zerosOf z n]

theorem ft_set (d : Nat) (v : V) : ft ρ (tm.set d v) = (ft ρ tm).set d (fv ρ v) := T.set_map _ _ _ _
theorem f_putT (d : Option Nat) (v : V) : ft ρ (putT tm d v) = putT (ft ρ tm) d (fv ρ v) := by
  cases d with
  | none => rfl
  | some d => exact ft_set d v
theorem f_wanted (g : Option (Nat × Bool)) : wanted (ft ρ tm) g = wanted tm g := by
  cases g with
  | none => rfl
  | some p =>
    obtain ⟨t, w⟩ := p
    simp only [wanted, ft, T.get_map]
    cases tm.get t with
    | none => rfl
    | some v => cases v <;> rfl
theorem f_setParams : ∀ (ps : List Nat) (vs : List V) (tm : T V), ft ρ (setParams tm ps vs) = setParams (ft ρ tm) ps (fvs ρ vs)
  | [], vs, tm => by cases vs <;> simp [setParams, fvs]
  | p :: ps, [], tm => by simp [setParams, fvs]
  | p :: ps, v :: vs, tm => by simp only [setParams, fvs]; rw [f_setParams ps vs, ft_set]
end
end Go.Ev
