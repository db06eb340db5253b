/-
  The evaluator's operations stand for the model's: loads and stores, arithmetic, conversions, slices, fields, indexes.
-/
import Derived.Test.YteikmdigmjlmdaaGreatDoorEvOpB
import Derived.Laws.Strings
import Derived.Laws.BytesString
set_option linter.unusedVariables false
set_option linter.unusedSimpArgs false
namespace Go.Ev
section
variable {P : Program} {ι : Inj} {h h' : Hp} {w : World} {tm : T V} {a : Act} {v : V} {o : Oper}

/-! ### Memory -/
theorem run_loadVar {t : TypeId} {size : Nat} {agg : Bool} {b off : Nat} {i : BI} {cs : List V} (hs : sizeB P t = some size) (ha : isAggB P t = some agg) (hw : WR P ι h w) (hi : ι b = some i)
    (hl : h.load b off size = some cs) {u : V} (hu : (bif agg then some (.agg cs) else (match cs with | [v] => some v | _ => none)) = some u) :
    ∃ x, (loadVar t ⟨i.cb, i.d + off, none⟩).run P w = .ok x w ∧ VR ι u x := by
  obtain ⟨l1, xs, v1, v2, v3, _⟩ := hw.load hi hl
  cases agg with
  | true =>
    simp only [cond_true, Option.some.injEq] at hu
    subst hu
    refine ⟨.agg xs.toArray, ?_, by simp only [VR]; exact ⟨_, rfl, by simpa using v1⟩⟩
    simp [loadVar, run_isAgg ha, run_sizeOf hs, run_loadCells P w i.cb (i.d + off) size xs v2 v3]
  | false =>
    simp only [cond_false] at hu
    split at hu
    · cases hu
      obtain ⟨x, r, rfl, hx, _⟩ := VRs_cons.1 v1
      have := v3 0 x rfl
      rw [Nat.add_zero] at this
      exact ⟨x, by simp [loadVar, run_isAgg ha, this], hx⟩
    · cases hu

theorem op_load {t : TypeId} {x : Operand} {s : S} {size b off : Nat} {agg : Bool} {cs : List V} {u : V} (ho : o.op = .load t x) (hs : sizeB P t = some size) (ha : isAggB P t = some agg) (hc : cS P x = some s)
    (hp : ev tm s = .ptr b off) (hl : h.load b off size = some cs) (hu : (bif agg then some (.agg cs) else (match cs with | [v] => some v | _ => none)) = some u)
    (hw : WR P ι h w) (ht : TR ι tm a.tmps) (hg : GI P ι) : Goes P ι h w u h ((execOp a.eval o).run P w) := by
  obtain ⟨i, hi, e⟩ := VR_ptr (hp ▸ cS_ok hc ht hg)
  obtain ⟨y, hr, hv⟩ := run_loadVar hs ha hw hi hl hu
  refine .pure (x := y) hw ?_ hv
  simp [execOp, ho, Instr.loadAt, e, Instr.sureAddr, hr]

theorem op_store {t : TypeId} {x y : Operand} {s q : S} {size b off : Nat} (ho : o.op = .store t x y) (hs : sizeB P t = some size) (hc : cS P x = some s) (hd : cS P y = some q)
    (hp : ev tm s = .ptr b off) (hl : (ev tm q).cells.length = size) (hf : allFlat (ev tm q).cells = true) (hst : h.store b off size (ev tm q).cells = some h')
    (hw : WR P ι h w) (ht : TR ι tm a.tmps) (hg : GI P ι) : Goes P ι h w undef h' ((execOp a.eval o).run P w) := by
  obtain ⟨i, hi, e⟩ := VR_ptr (hp ▸ cS_ok hc ht hg)
  have hv := (cS_ok hd ht hg).cells
  have hvl := hv.length
  rw [Array.length_toList] at hvl
  obtain ⟨w', hr, hh⟩ := hw.store hi hst hv hl hf
  refine .skip ?_ hh
  simp only [execOp, ho, Instr.storeAt, Sem.run_bind, e, Instr.sureAddr, Sem.run_pure, Result.andThen_ok, storeVar, run_sizeOf hs]
  rw [if_neg (by omega)]
  simp [hr]

theorem op_nilCheck_ptr {x : Operand} {s : S} {b off : Nat} (ho : o.op = .nilCheck x) (hc : cS P x = some s) (hp : ev tm s = .ptr b off) (hw : WR P ι h w) (ht : TR ι tm a.tmps) (hg : GI P ι) :
    Goes P ι h w (.ptr b off) h ((execOp a.eval o).run P w) := by
  have hv := hp ▸ cS_ok hc ht hg
  obtain ⟨i, hi, e⟩ := VR_ptr hv
  refine .pure (x := a.eval x) hw ?_ hv
  simp [execOp, ho, e]

theorem op_nilCheck_func {x : Operand} {s : S} {f : Nat} {l c : List V} (ho : o.op = .nilCheck x) (hc : cS P x = some s) (hp : ev tm s = .func f l c) (hw : WR P ι h w) (ht : TR ι tm a.tmps) (hg : GI P ι) :
    Goes P ι h w (.func f l c) h ((execOp a.eval o).run P w) := by
  have hv := hp ▸ cS_ok hc ht hg
  have hv' := hv
  simp only [VR] at hv
  obtain ⟨fi, ca, e, _⟩ := hv
  refine .pure (x := a.eval x) hw ?_ hv'
  simp [execOp, ho, e]

/-! ### Numbers and strings -/
theorem ba_toList (b : ByteArray) : b.toList = b.data.toList := ByteArray.toList_eq b

theorem str_eq {a b : ByteArray} : (a.toList == b.toList) = eqNats (a.data.toList.map UInt8.toNat) (b.data.toList.map UInt8.toNat) := by
  rw [ba_toList, ba_toList, eqNats_eq, Bool.eq_iff_iff]
  simp only [beq_iff_eq, decide_eq_true_eq]
  constructor
  · intro e; rw [e]
  · intro e
    exact List.map_inj_right (fun x y e => UInt8.toNat.inj e) |>.1 e

theorem less_eq : ∀ (x y : List UInt8), Op.bytesLess x y = lessNats (x.map UInt8.toNat) (y.map UInt8.toNat)
  | x, [] => by cases x <;> simp [Op.bytesLess, lessNats]
  | [], b :: y => by simp [Op.bytesLess, lessNats]
  | a :: x, b :: y => by
    simp only [Op.bytesLess, List.map_cons, lessNats, less_eq x y]
    by_cases h : a < b
    · have h1 : Nat.blt a.toNat b.toNat = true := ble_yes (by have := UInt8.lt_iff_toNat_lt.1 h; omega)
      simp [h, h1]
    · have h1 : Nat.blt a.toNat b.toNat = false := ble_no (by intro q; exact h (UInt8.lt_iff_toNat_lt.2 q))
      rw [h1]
      by_cases e : a = b
      · subst e; simp [h]
      · have h2 : Nat.beq a.toNat b.toNat = false := beq_no (fun q => e (UInt8.toNat.inj q))
        simp [h, e, h2]

theorem less_total : ∀ (a b : List Nat), (lessNats a b || eqNats a b) = !lessNats b a
  | [], [] => by simp [lessNats, eqNats]
  | [], b :: y => by simp [lessNats]
  | a :: x, [] => by simp [lessNats, eqNats]
  | a :: x, b :: y => by
    simp only [lessNats, eqNats]
    rcases Nat.lt_trichotomy a b with h | h | h
    · rw [show Nat.blt a b = true from ble_yes h, show Nat.blt b a = false from ble_no (by omega), beq_no (by omega : a ≠ b), beq_no (by omega : b ≠ a)]; simp
    · subst h
      rw [show Nat.blt a a = false from ble_no (by omega), beq_yes rfl]
      simpa using less_total x y
    · rw [show Nat.blt a b = false from ble_no (by omega), show Nat.blt b a = true from ble_yes h, beq_no (by omega : a ≠ b)]; simp

theorem less_total' (a b : List Nat) : (!lessNats a b) = (lessNats b a || eqNats a b) := by
  rw [show eqNats a b = eqNats b a from by rw [eqNats_eq, eqNats_eq]; simp only [eq_comm], less_total]

theorem int_beq (x y : Int) : (x == y) = decide (x = y) := by rw [Bool.eq_iff_iff]; simp
theorem int_bne (x y : Int) : (x != y) = !decide (x = y) := by rw [bne, int_beq]

theorem binOp_ints (op : BinOp) (t : TypeId) (k : IntKind) (x y : Int) (h1 : op ≠ .shl) (h2 : op ≠ .shr) : Go.binOp op t (.int k x) (.int k y) = (match op with
    | .add | .sub | .mul => Op.intArith op k x y
    | .quo | .rem => Op.intDiv op k x y
    | .and | .or | .xor | .andNot => Op.intBits op k x y
    | _ => Op.intCmp op x y) := by
  cases op <;> first | exact absurd rfl h1 | exact absurd rfl h2 | (unfold Go.binOp; simp only [ne_eq, not_true_eq_false, if_false])

theorem run_intArith {op : BinOp} (t : TypeId) {k : IntKind} {x y : Int} {u : V} (h : arithInt op k x y = some u) (hop : op ≠ .shl) (hop' : op ≠ .shr) :
    ∃ z, (Go.binOp op t (.int k x) (.int k y)).run P w = .ok z w ∧ VR ι u z := by
  rw [binOp_ints op t k x y hop hop']
  cases op <;> simp only [arithInt, ob, Option.some.injEq] at h <;> (try (subst h)) <;> (try (first | exact absurd rfl hop | exact absurd rfl hop' | cases h))
  · exact ⟨_, by simp [Op.intArith]; rfl, by simp [VR, wrapK_eq]⟩
  · exact ⟨_, by simp [Op.intArith]; rfl, by simp [VR, wrapK_eq]⟩
  · exact ⟨_, by simp [Op.intArith]; rfl, by simp [VR, wrapK_eq]⟩
  · by_cases hy : y = 0
    · simp [hy] at h
    · simp only [hy, decide_false, cond_false, Option.some.injEq] at h
      subst h
      exact ⟨_, by simp [Op.intDiv, hy]; rfl, by simp [VR, wrapK_eq]⟩
  · by_cases hy : y = 0
    · simp [hy] at h
    · simp only [hy, decide_false, cond_false, Option.some.injEq] at h
      subst h
      exact ⟨_, by simp [Op.intDiv, hy]; rfl, by simp [VR]⟩
  · exact ⟨_, by simp [Op.intBits]; rfl, by simp [VR]⟩
  · exact ⟨_, by simp [Op.intBits]; rfl, by simp [VR]⟩
  · exact ⟨_, by simp [Op.intBits]; rfl, by simp [VR]⟩
  · exact ⟨_, by simp [Op.intBits]; rfl, by simp [VR]⟩
  · exact ⟨_, by simp [Op.intCmp]; rfl, by simp only [VR, int_beq]⟩
  · exact ⟨_, by simp [Op.intCmp]; rfl, by simp only [VR, int_bne]⟩
  · exact ⟨_, by simp [Op.intCmp]; rfl, by simp [VR]⟩
  · exact ⟨_, by simp [Op.intCmp]; rfl, by simp [VR]⟩
  · exact ⟨_, by simp [Op.intCmp]; rfl, by simp [VR]⟩
  · exact ⟨_, by simp [Op.intCmp]; rfl, by simp [VR]⟩

theorem str_len (b : ByteArray) : (b.data.toList.map UInt8.toNat).length = b.size := by rw [List.length_map, Array.length_toList]; rfl

theorem run_strArith {op : BinOp} (t : TypeId) {x y : ByteArray} {u : V} (h : arithStr op (x.data.toList.map UInt8.toNat) (y.data.toList.map UInt8.toNat) = some u) :
    ∃ z, (Go.binOp op t (.string x) (.string y)).run P w = .ok z w ∧ VR ι u z := by
  have hb : ∀ op' : BinOp, Go.binOp op' t (.string x) (.string y) = Op.stringOp op' x y := fun op' => by cases op' <;> rfl
  rw [hb]
  cases op <;> simp only [arithStr, ob, Option.some.injEq] at h <;> (try (subst h)) <;> (try (cases h; done))
  · rw [str_len, str_len] at h
    by_cases hl : x.size + y.size ≤ 9223372036854775807
    · simp only [hl, decide_true, cond_true, Option.some.injEq] at h
      subst h
      refine ⟨.string (x ++ y), ?_, by simp only [VR]; exact ⟨_, rfl, by simp⟩⟩
      have hm : IntKind.i64.max = 9223372036854775807 := by decide
      unfold Op.stringOp
      simp only
      rw [if_neg (by rw [hm]; omega)]
      rfl
    · simp [hl] at h
  · exact ⟨_, by simp only [Op.stringOp, str_eq]; rfl, by simp [VR]⟩
  · exact ⟨_, by simp only [Op.stringOp, str_eq]; rfl, by simp [VR]⟩
  · exact ⟨_, by simp only [Op.stringOp, ba_toList, less_eq]; rfl, by simp [VR]⟩
  · exact ⟨_, by simp only [Op.stringOp, str_eq]; simp only [ba_toList, less_eq, less_total]; rfl, by simp [VR]⟩
  · exact ⟨_, by simp only [Op.stringOp, str_eq]; simp only [ba_toList, less_eq, less_total, Bool.not_not]; rfl, by simp [VR]⟩
  · exact ⟨_, by simp only [Op.stringOp, ba_toList, less_eq]; rfl, by simp [VR]⟩

theorem run_arith {op : BinOp} (t : TypeId) {p q u : V} {x y : Value} (h : arith op p q = some u) (hx : VR ι p x) (hy : VR ι q y) :
    ∃ z, (Go.binOp op t x y).run P w = .ok z w ∧ VR ι u z := by
  unfold arith at h
  split at h
  · rename_i k n l m
    obtain rfl := VR_int hx
    obtain rfl := VR_int hy
    split at h
    · by_cases hm : m < 0
      · simp [hm] at h
      · simp only [hm, decide_false, cond_false, Option.some.injEq] at h
        subst h
        exact ⟨_, by simp [Go.binOp, Op.shift, hm]; rfl, by simp [VR]⟩
    · by_cases hm : m < 0
      · simp [hm] at h
      · simp only [hm, decide_false, cond_false, Option.some.injEq] at h
        subst h
        exact ⟨_, by simp [Go.binOp, Op.shift, hm]; rfl, by simp [VR]⟩
    · rename_i h1 h2
      cases hk : kindEq k l with
      | false => rw [hk] at h; simp at h
      | true =>
        rw [hk] at h
        obtain rfl := kindEq_iff.1 hk
        simp only [cond_true] at h
        exact run_intArith t h (fun e => h1 e) (fun e => h2 e)
  · obtain ⟨b, rfl, e1⟩ := VR_str hx
    obtain ⟨c, rfl, e2⟩ := VR_str hy
    subst e1; subst e2
    exact run_strArith t h
  · cases h

theorem arith_shapes {op : BinOp} {p q u : V} {x y : Value} (h : arith op p q = some u) (hx : VR ι p x) (hy : VR ι q y) :
    (∃ k n l m, x = .int k n ∧ y = .int l m) ∨ (∃ b c, x = .string b ∧ y = .string c) := by
  unfold arith at h
  split at h
  · exact .inl ⟨_, _, _, _, VR_int hx, VR_int hy⟩
  · obtain ⟨b, rfl, _⟩ := VR_str hx
    obtain ⟨c, rfl, _⟩ := VR_str hy
    exact .inr ⟨b, c, rfl, rfl⟩
  · cases h

theorem op_arith {op : BinOp} {t t' : TypeId} {x y : Operand} {s q : S} {u : V} (ho : o.op = .binOp op t x y t') (hc : cS P x = some s) (hd : cS P y = some q) (he : arith op (ev tm s) (ev tm q) = some u)
    (hw : WR P ι h w) (ht : TR ι tm a.tmps) (hg : GI P ι) : Goes P ι h w u h ((execOp a.eval o).run P w) := by
  have hx := cS_ok hc ht hg
  have hy := cS_ok hd ht hg
  obtain ⟨z, hr, hv⟩ := run_arith (P := P) (w := w) t he hx hy
  refine .pure (x := z) hw ?_ hv
  have hgd : (eqGuard op t x y (a.eval x) (a.eval y)).run P w = .ok () w := by
    rcases arith_shapes he hx hy with ⟨k, n, l, m, e1, e2⟩ | ⟨b, c, e1, e2⟩
    · rw [e1, e2]; unfold eqGuard; cases op <;> simp
    · rw [e1, e2]; unfold eqGuard; cases op <;> simp
  simp [execOp, ho, hgd, hr]

theorem op_unop {op : UnOp} {t : TypeId} {x : Operand} {s : S} {u : V} (ho : o.op = .unOp op t x) (hc : cS P x = some s) (he : unop op (ev tm s) = some u)
    (hw : WR P ι h w) (ht : TR ι tm a.tmps) (hg : GI P ι) : Goes P ι h w u h ((execOp a.eval o).run P w) := by
  have hx := cS_ok hc ht hg
  unfold unop at he
  split at he
  · rename_i k n e
    rw [e] at hx
    have e2 := VR_int hx
    cases he
    refine .pure (x := .int k (k.wrap (0 - n))) hw ?_ (by simp [VR, wrapK_eq])
    simp [execOp, ho, e2, Op.unary, Op.intArith]
  · rename_i k n e
    rw [e] at hx
    have e2 := VR_int hx
    cases he
    refine .pure (x := _) hw ?_ (by simp only [VR]; rfl)
    simp [execOp, ho, e2, Op.unary, Op.intBits]
  · rename_i b e
    rw [e] at hx
    have e2 := VR_bool hx
    cases he
    refine .pure (x := .bool (!b)) hw ?_ (by simp [VR])
    simp [execOp, ho, e2, Op.unary]
  · cases he

/-! ### Conversions -/
theorem op_conv_int {src dst : TypeId} {x : Operand} {s : S} {k l k' : IntKind} {n : Int} (ho : o.op = .convert src dst x) (hc : cS P x = some s) (h1 : P.underlying src = some (.int k')) (h2 : P.underlying dst = some (.int k))
    (he : ev tm s = .int l n) (hw : WR P ι h w) (ht : TR ι tm a.tmps) (hg : GI P ι) : Goes P ι h w (.int k (wrapK k n)) h ((execOp a.eval o).run P w) := by
  have e2 := VR_int (he ▸ cS_ok hc ht hg)
  refine .pure (x := .int k (k.wrap n)) hw ?_ (by simp [VR, wrapK_eq])
  simp [execOp, ho, e2, convert, run_underlying h1, run_underlying h2, Conv.intToInt]

theorem op_conv_strStr {src dst : TypeId} {x : Operand} {s : S} {l : List Nat} (ho : o.op = .convert src dst x) (hc : cS P x = some s) (h1 : P.underlying src = some .string) (h2 : P.underlying dst = some .string)
    (he : ev tm s = .str l) (hw : WR P ι h w) (ht : TR ι tm a.tmps) (hg : GI P ι) : Goes P ι h w (.str l) h ((execOp a.eval o).run P w) := by
  have hv := he ▸ cS_ok hc ht hg
  obtain ⟨b, e2, _⟩ := VR_str hv
  refine .pure (x := a.eval x) hw ?_ hv
  simp [execOp, ho, e2, convert, run_underlying h1, run_underlying h2]

theorem cellsOfBytes_get : ∀ (l : List Nat) (j : Nat), (cellsOfBytes l)[j]? = (l[j]?).map fun n => .int .u8 (n : Int)
  | [], j => by simp [cellsOfBytes]
  | n :: l, 0 => by simp [cellsOfBytes]
  | n :: l, j + 1 => by simp [cellsOfBytes, cellsOfBytes_get l j]

theorem cellsOfBytes_length : ∀ (l : List Nat), (cellsOfBytes l).length = l.length
  | [] => rfl
  | n :: l => by simp [cellsOfBytes, cellsOfBytes_length l]

theorem cellsOfBytes_flat : ∀ (l : List Nat), allFlat (cellsOfBytes l) = true
  | [] => rfl
  | n :: l => by simp [cellsOfBytes, allFlat, V.flat, cellsOfBytes_flat l]

theorem VRs_bytes (b : ByteArray) : VRs ι (cellsOfBytes (b.data.toList.map UInt8.toNat)) (b.data.map fun c => .int .u8 c.toNat).toList := by
  refine VRs.of_get ?_ ?_
  · rw [cellsOfBytes_length]; simp
  · intro j v x h1 h2
    rw [cellsOfBytes_get, List.getElem?_map] at h1
    rw [Array.getElem?_toList, Array.getElem?_map] at h2
    rw [Array.getElem?_toList] at h1
    cases hj : b.data[j]? with
    | none => rw [hj] at h1; cases h1
    | some c =>
      rw [hj] at h1 h2
      simp only [Option.map_some, Option.some.injEq] at h1 h2
      subst h1; subst h2
      simp [VR]

theorem forced_cap (need old : Nat) (t : TypeId) : (Question.appendCap need old t).forced = false := rfl

theorem cap_ge (need old : Nat) (t : TypeId) (n : Nat) : need ≤ (Question.appendCap need old t).cut n := by
  simp only [Question.cut]; omega

theorem op_conv_strBytes {src dst e : TypeId} {x : Operand} {s : S} {l : List Nat} (ho : o.op = .convert src dst x) (hc : cS P x = some s) (h1 : P.underlying src = some .string) (h2 : P.underlying dst = some (.slice e))
    (h3 : P.underlying e = some (.int .u8)) (he : ev tm s = .str l) {b : Nat} (hb : ι b = none) (ht : TR ι tm a.tmps) (hg : GI P ι) :
    Made P ι w b (.slice b 0 l.length l.length 1) (.cells 1 (l.length * 1) .loose (newRows 1 l.length (cellsOfBytes l))) ((execOp a.eval o).run P w) := by
  have hv := he ▸ cS_ok hc ht hg
  obtain ⟨b, e2, rfl⟩ := VR_str hv
  have hsz := str_len b
  obtain ⟨N, hN⟩ : ∃ N, N = (Question.appendCap b.size 0 e).cut (w.tape w.drawn (Question.appendCap b.size 0 e)) := ⟨_, rfl⟩
  have hge : b.size ≤ N := hN ▸ cap_ge _ _ _ _
  obtain ⟨cs, hcs⟩ : ∃ cs : Array Value, cs = (b.data.map fun c => Value.int .u8 c.toNat) ++ Array.replicate (N - b.size) (.int .u8 0) := ⟨_, rfl⟩
  have hbd : b.data.size = b.size := rfl
  have hcss : cs.size = N := by rw [hcs]; simp only [Array.size_append, Array.size_map, Array.size_replicate, hbd]; omega
  obtain ⟨w2, hw2⟩ : ∃ w2 : World, w2 = { w with heap := w.heap.push (.cells cs e), drawn := w.drawn + 1 } := ⟨_, rfl⟩
  have hat2 : w2.heap[w.heap.size]? = some (.cells cs e) := by rw [hw2]; simp
  have hsh : w2.shape? w.heap.size = some (e, N) := by unfold World.shape?; rw [hat2]; simp [hcss]
  have hm : More w (w2.freeze ⟨w.heap.size, N, none⟩ 1) := by
    refine ⟨by simp [World.freeze, hw2], fun k hk => ?_, by rw [hw2]; rfl, by rw [hw2]; rfl, by rw [hw2]; rfl⟩
    simp only [World.freeze, Nat.one_ne_zero, if_false, Array.getElem?_modify]
    rw [if_neg (by omega), hw2]
    simp only [Array.getElem?_push]
    rw [if_neg (by omega)]
  have hat3 : (w2.freeze ⟨w.heap.size, N, none⟩ 1).heap[w.heap.size]? = some (.cells cs e (N, N + 1)) := by
    simp [World.freeze, Array.getElem?_modify, hat2]
  obtain ⟨r1, r2⟩ := newRows_spec (e := 1) (n := b.size) (by omega) (cellsOfBytes (b.data.toList.map UInt8.toNat)) (by rw [cellsOfBytes_length, hsz]; omega)
  rw [hsz]
  refine Made.of (x := .slice (some ⟨w.heap.size, 0, none⟩) b.size N) ?_ (i := ⟨w.heap.size, 0, b.size, N⟩) ⟨hm, Nat.le_refl _, (lt_of_heap hat3), ?_⟩ ?_
  · simp only [execOp, ho, e2, convert, Sem.run_bind, run_underlying h1, run_underlying h2, run_underlying h3, Result.andThen_ok, Conv.stringToBytes, run_choose, forced_cap, Bool.false_eq_true, if_false, newRow, run_newObj, Sem.run_pure, markStringish, run_shape]
    rw [← hN, ← hcs, ← hw2]
    simp [hsh]
  · refine ⟨by simp, by omega, r1, cs, e, (N, N + 1), hat3, hcss, by simpa using hge, fun q => (by cases q), ?_, fun _ k hk => by have : k < N := hk; simp; omega⟩
    intro j v hj hcell
    rw [Nat.mul_one] at hj
    rw [r2 j (by omega)] at hcell
    obtain ⟨y, hy, r⟩ := (VRs_bytes (ι := ι) b).get hcell
    refine ⟨allFlat_get (cellsOfBytes_flat _) hcell, y, ?_, r.mono (ext_mono' hb _)⟩
    rw [hcs]
    simp only [Nat.zero_add]
    rw [Array.getElem?_append_left (by simp only [Array.size_map, hbd]; exact hj)]
    rwa [Array.getElem?_toList] at hy
  · simp only [VR]
    exact ⟨_, 0, N, ext_same _ _ _, rfl, by omega, Nat.le_refl _, by simp, .inr ⟨rfl, hge, by simp, .inl (by simp)⟩⟩

theorem bytesOfCells_ok : ∀ {cs : List V} {l : List Nat} {xs : List Value}, bytesOfCells cs = some l → VRs ι cs xs →
    xs = (l.map fun n : Nat => (n : Int)).map (Value.int .u8) ∧ ∀ n ∈ l, n < 256
  | [], l, xs, h, hv => by
    simp only [bytesOfCells, Option.some.injEq] at h
    subst h
    rw [VRs_nil] at hv
    exact ⟨by simpa using hv, by simp⟩
  | c :: cs, l, xs, h, hv => by
    unfold bytesOfCells at h
    split at h
    · rename_i heq; cases heq
    · rename_i n r heq
      cases heq
      obtain ⟨x, ys, rfl, hx, hy⟩ := VRs_cons.1 hv
      by_cases hn : n < 256
      · rw [show Nat.blt n 256 = true from ble_yes hn] at h
        simp only [cond_true] at h
        split at h
        · rename_i r' hr
          cases h
          obtain ⟨e, hl⟩ := bytesOfCells_ok hr hy
          obtain rfl := VR_int hx
          refine ⟨by rw [e]; rfl, fun m hm => ?_⟩
          rcases List.mem_cons.1 hm with rfl | hm
          · exact hn
          · exact hl m hm
        · cases h
      · rw [show Nat.blt n 256 = false from ble_no (by omega)] at h
        simp at h
    · cases h

theorem fold_push : ∀ (l : List Nat) (acc : ByteArray), (∀ n ∈ l, n < 256) →
    (((l.map fun n : Nat => (n : Int)).foldl (fun r n => r.push (UInt8.ofNat n.toNat)) acc).data.toList.map UInt8.toNat) = acc.data.toList.map UInt8.toNat ++ l
  | [], acc, _ => by simp
  | n :: l, acc, h => by
    simp only [List.map_cons, List.foldl_cons]
    rw [fold_push l _ fun m hm => h m (List.mem_cons_of_mem _ hm)]
    have := h n (List.mem_cons_self ..)
    simp [ByteArray.push, Nat.mod_eq_of_lt this]

theorem op_conv_bytesStr_nil {src dst e : TypeId} {x : Operand} {s : S} (ho : o.op = .convert src dst x) (hc : cS P x = some s) (h1 : P.underlying src = some (.slice e)) (h2 : P.underlying dst = some .string)
    (h3 : P.underlying e = some (.int .u8)) (he : ev tm s = .nilSlice) (hw : WR P ι h w) (ht : TR ι tm a.tmps) (hg : GI P ι) : Goes P ι h w (.str []) h ((execOp a.eval o).run P w) := by
  have e2 := cS_ok hc ht hg
  rw [he] at e2
  simp only [VR] at e2
  refine .pure (x := .string .empty) hw ?_ (by simp only [VR]; exact ⟨_, rfl, rfl⟩)
  simp [execOp, ho, e2, convert, run_underlying h1, run_underlying h2, run_underlying h3, Conv.bytesToString]

theorem op_conv_bytesStr {src dst e : TypeId} {x : Operand} {s : S} {b off len cap : Nat} {cs : List V} {l : List Nat} (ho : o.op = .convert src dst x) (hc : cS P x = some s) (h1 : P.underlying src = some (.slice e)) (h2 : P.underlying dst = some .string)
    (h3 : P.underlying e = some (.int .u8)) (he : ev tm s = .slice b off len cap 1) (hl : h.load b off len = some cs) (hb : bytesOfCells cs = some l)
    (hw : WR P ι h w) (ht : TR ι tm a.tmps) (hg : GI P ι) : Goes P ι h w (.str l) h ((execOp a.eval o).run P w) := by
  obtain ⟨i, coff, ccap, hi, e2, _, hlen, _, hcap⟩ := VR_slice (he ▸ cS_ok hc ht hg)
  obtain ⟨_, xs, v1, v2, v3, _⟩ := hw.load hi hl
  obtain ⟨ex, hn⟩ := bytesOfCells_ok hb v1
  refine .pure (x := .string ((l.map fun n : Nat => (n : Int)).foldl (fun r n => r.push (UInt8.ofNat n.toNat)) ByteArray.empty)) hw ?_ ?_
  · have hload : (loadCells ⟨i.cb, coff, none⟩ len).run P w = .ok ((l.map fun n : Nat => (n : Int)).map (Value.int .u8)).toArray w := by
      rw [← ex]
      rcases hcap with ⟨c1, c2⟩ | ⟨c1, _⟩
      · have : len = 0 := by omega
        subst this
        have : xs = [] := List.eq_nil_of_length_eq_zero v2
        subst this
        simp [loadCells, loadCellsFrom]
      · rw [c1]; exact run_loadCells P w _ _ _ xs v2 v3
    simp [execOp, ho, e2, run_convert_bytes_string w src dst e _ _ _ h1 h3 h2, run_bytesToString w _ _ _ _ hload]
  · simp only [VR]
    refine ⟨_, rfl, ?_⟩
    rw [fold_push l _ hn]
    simp

/-! ### Values made -/
theorem op_mkIface {t : TypeId} {d : TypeDesc} {x : Operand} {s : S} (ho : o.op = .makeInterface t x) (hc : cS P x = some s) (hu : P.underlying t = some d) (hd : ∀ ms, d ≠ .interface ms)
    (hw : WR P ι h w) (ht : TR ι tm a.tmps) (hg : GI P ι) : Goes P ι h w (.iface t (ev tm s)) h ((execOp a.eval o).run P w) := by
  refine .pure (x := .iface t (a.eval x)) hw ?_ (by simp only [VR]; exact ⟨_, rfl, cS_ok hc ht hg⟩)
  have : (Instr.makeInterface t (a.eval x)).run P w = .ok (.iface t (a.eval x)) w := by
    simp only [Instr.makeInterface, Sem.run_bind, run_underlying hu, Result.andThen_ok]
    rfl
  simp [execOp, ho, this]

theorem op_mkFunc {f : FuncId} {fi ca : Array Operand} {sf sc : List S} (ho : o.op = .makeFunc (.func f) fi ca) (hf : cSs P fi.toList = some sf) (hc : cSs P ca.toList = some sc)
    (hw : WR P ι h w) (ht : TR ι tm a.tmps) (hg : GI P ι) : Goes P ι h w (.func f (evs tm sf) (evs tm sc)) h ((execOp a.eval o).run P w) := by
  refine .pure (x := .func (.func f) (fi.map a.eval) (ca.map a.eval)) hw ?_ (by simp only [VR]; exact ⟨_, _, rfl, cSs_ok' ht hg hf, cSs_ok' ht hg hc⟩)
  simp [execOp, ho, Instr.makeFunc]

theorem op_mkMap {t : TypeId} (ho : o.op = .makeMap t none) {b : Nat} (hb : ι b = none) : Made P ι w b (.map b) (.map []) ((execOp a.eval o).run P w) := by
  refine Made.of (x := .map (some w.heap.size)) ?_ (i := ⟨w.heap.size, 0, 0, 0⟩) ⟨(More.push w (.map #[] 0)), Nat.le_refl _, (by simp), ?_⟩ ?_
  · simp [execOp, ho, Instr.makeMap]
  · exact ⟨#[], 0, heap_push w _, by simp [ER]⟩
  · simp only [VR]; exact ⟨_, ext_same _ _ _, rfl⟩

theorem op_mkSlice {t e : TypeId} {x y : Operand} {s q : S} {size bytes l c : Nat} {zero : List V} (ho : o.op = .makeSlice t x y) (hu : P.underlying t = some (.slice e)) (hs : sizeB P e = some size) (hpos : size ≠ 0)
    (hby : bytesB P e = some bytes) (hz : zeroCellsB P e = some zero) (hc : cS P x = some s) (hd : cS P y = some q) (he : asNat (ev tm s) = some l) (he' : asNat (ev tm q) = some c) (hlc : l ≤ c) (hbc : bytes * c ≤ 2 ^ 48) (hc63 : c < 2 ^ 63)
    {b : Nat} (hb : ι b = none) (ht : TR ι tm a.tmps) (hg : GI P ι) : Made P ι w b (.slice b 0 l c size) (.cells size (c * size) .exact (newRows size c (zerosOf zero c))) ((execOp a.eval o).run P w) := by
  obtain ⟨k1, ek1⟩ := asNat_some he
  obtain ⟨k2, ek2⟩ := asNat_some he'
  have e1 := VR_int (ek1 ▸ cS_ok hc ht hg)
  have e2 := VR_int (ek2 ▸ cS_ok hd ht hg)
  obtain ⟨i, hi, hib⟩ := info_of_bytes hby
  obtain ⟨x0, n, hx, hn, hv, hl, hfl⟩ := run_zeroCells (ι := ι) (w := w) hz
  obtain rfl := Option.some.inj (hs.symm.trans hn)
  have hxl := hv.length
  rw [Array.length_toList, hl] at hxl
  have p48 : (2 : Nat) ^ 48 = 281474976710656 := by decide
  have p63 : (2 : Nat) ^ 63 = 9223372036854775808 := by decide
  have hvz : ∃ zs : Array Value, (c * size = 0 → zs = #[]) ∧ (c * size ≠ 0 → zs = x0.cells) ∧ VRs ι (zerosOf zero c) ((Array.range (c * size)).map (zs[· % zs.size]!)).toList := by
    by_cases h0 : c * size = 0
    · have : c = 0 := by
        rcases Nat.mul_eq_zero.1 h0 with q | q
        · exact q
        · exact absurd q hpos
      subst this
      exact ⟨#[], fun _ => rfl, fun q => absurd h0 q, by simpa [zerosOf] using VRs.nil⟩
    · refine ⟨x0.cells, fun q => absurd q h0, fun _ => rfl, ?_⟩
      have := VRs_zeros hv c (.inl (by omega))
      rwa [hxl] at this ⊢
  obtain ⟨zs, hr1, hr2, hvz⟩ := hvz
  refine Made.of (x := .slice (some ⟨w.heap.size, 0, none⟩) l c) ?_
    (made_newBlk hb (t := e) (cs := (Array.range (c * size)).map (zs[· % zs.size]!)) (by omega) hvz (by rw [zerosOf_length, hl]) (zerosOf_flat hfl c) (by simp) (fun j _ => by rw [Array.getElem?_toList]) (fun _ => by simp)) ?_
  · have w1 : IntKind.i64.wrap (c : Int) = c := wrap_i64_in (by omega) (by omega)
    have w2 : IntKind.i64.wrap (l : Int) = l := wrap_i64_in (by omega) (by omega)
    have tl : ((c : Int) < 0 || (bytes : Int) * (c : Int) > 2 ^ 48) = false := by
      have : ((bytes * c : Nat) : Int) ≤ 281474976710656 := by omega
      simp only [Bool.or_eq_false_iff, decide_eq_false_iff_not]
      refine ⟨by omega, ?_⟩
      rw [← Int.natCast_mul]
      have p : (2 : Int) ^ 48 = 281474976710656 := by decide
      rw [p]; omega
    have cond : ((c : Int) < 0 || (bytes : Int) * (c : Int) > 2 ^ 48 || (l : Int) < 0 || (l : Int) > (c : Int)) = false := by
      rw [tl]
      simp only [Bool.false_or, Bool.or_eq_false_iff, decide_eq_false_iff_not]
      omega
    simp only [execOp, ho, Instr.makeSlice, Sem.run_bind, run_underlying hu, Result.andThen_ok, e1, e2, asInt, asIntOf, Sem.run_pure, run_typeInfo hi, hib, w1, w2]
    rw [cond]
    simp only [Bool.false_eq_true, if_false, Sem.run_bind, run_askRoom, Result.andThen_ok, Int.toNat_natCast, run_sizeOf hs]
    by_cases h0 : c * size = 0
    · have := hr1 h0
      subst this
      rw [if_pos h0]
      simp [newRow]
    · have := hr2 h0
      subst this
      rw [if_neg h0]
      simp only [Sem.run_bind, hx, Result.andThen_ok, pure_bind]
      simp [newRow]
  · simp only [VR]
    exact ⟨_, 0, c, ext_same _ _ _, rfl, by omega, hlc, by simp, .inr ⟨rfl, Nat.le_refl _, by simp, .inr rfl⟩⟩

/-! ### Slices -/
theorem VR_nat {u : V} {n : Nat} {x : Value} (h : asNat u = some n) (hv : VR ι u x) : ∃ k, x = .int k (n : Int) := by
  obtain ⟨k, rfl⟩ := asNat_some h
  exact ⟨k, VR_int hv⟩

theorem run_sliceBound {x : Value} {k : IntKind} {n most : Nat} {c : BoundsCode} (hx : x = .int k (n : Int)) (h : n ≤ most) : (Instr.sliceBound x most c).run P w = .ok n w := by
  subst hx
  simp only [Instr.sliceBound, asIntOf, Sem.run_bind, Sem.run_pure, Result.andThen_ok]
  rw [if_pos (by omega)]
  simp

theorem bound_some {z : Operand} {so : Option S} {d most r : Nat} (e1 : cSo P (some z) = some so) (e2 : bound tm so d most = some r) (ht : TR ι tm a.tmps) (hg : GI P ι) :
    ∃ kk, a.eval z = .int kk (r : Int) ∧ r ≤ most := by
  simp only [cSo, Option.map_eq_some_iff] at e1
  obtain ⟨s, hs, rfl⟩ := e1
  simp only [bound] at e2
  split at e2
  · rename_i n hn
    by_cases hle : n ≤ most
    · rw [ble_yes hle] at e2
      cases e2
      obtain ⟨kk, e3⟩ := VR_nat hn (cS_ok hs ht hg)
      exact ⟨kk, e3, hle⟩
    · rw [ble_no hle] at e2; cases e2
  · cases e2

theorem bound_none {so : Option S} {d most r : Nat} (e1 : cSo P none = some so) (e2 : bound tm so d most = some r) : r = d := by
  simp only [cSo, Option.some.injEq] at e1
  subst e1
  simp only [bound, Option.some.injEq] at e2
  exact e2.symm

/-- bounds that the evaluator takes, the model takes: whatever the capacity that stands behind -/
theorem run_bounds (isSlice : Bool) {len cap ccap : Nat} {lo hi mx : Option Operand} {sl sh sm : Option S} {l m k : Nat} (hl : cSo P lo = some sl) (hh : cSo P hi = some sh) (hm : cSo P mx = some sm)
    (hmx : (mx.isSome && hi.isNone) = false) (hb : bounds tm len cap sl sh sm = some (l, m, k)) (hc : cap ≤ ccap) (hlc : len ≤ cap) (ht : TR ι tm a.tmps) (hg : GI P ι) :
    ∃ ck, (Instr.sliceBounds isSlice len ccap (lo.map a.eval) (hi.map a.eval) (mx.map a.eval)).run P w = .ok (l, m, ck) w ∧ l ≤ m ∧ m ≤ k ∧ k ≤ cap ∧ ((mx = none ∧ k = cap ∧ ck = ccap) ∨ (mx ≠ none ∧ ck = k)) := by
  unfold bounds at hb
  split at hb
  · cases hb
  · rename_i m0 hm0
    split at hb
    · cases hb
    · rename_i h0 hh0
      split at hb
      · cases hb
      · rename_i l0 hl0
        cases hb
        have low : ∀ (c : BoundsCode) (ck : Nat), ((match lo.map a.eval with | some v => (do let l ← Instr.sliceBound v m c; pure (l, m, ck)) | none => (do let l ← pure 0; pure (l, m, ck)) : Sem (Nat × Nat × Nat)).run P w = .ok (l, m, ck) w) ∧ l ≤ m := by
          intro c ck
          cases lo with
          | none =>
            have := bound_none hl hl0
            subst this
            exact ⟨by simp, Nat.zero_le _⟩
          | some z =>
            obtain ⟨kk, e, hle⟩ := bound_some hl hl0 ht hg
            exact ⟨by simp [run_sliceBound (P := P) (w := w) e hle], hle⟩
        cases mx with
        | none =>
          have := bound_none hm hm0
          subst this
          cases hi with
          | none =>
            have := bound_none hh hh0
            subst this
            refine ⟨ccap, ?_, (low .index 0).2, hlc, Nat.le_refl _, .inl ⟨rfl, rfl, rfl⟩⟩
            unfold Instr.sliceBounds
            simp only [Option.map_none, pure_bind]
            exact (low _ _).1
          | some z =>
            obtain ⟨kk, e, hle⟩ := bound_some hh hh0 ht hg
            refine ⟨ccap, ?_, (low .index 0).2, hle, Nat.le_refl _, .inl ⟨rfl, rfl, rfl⟩⟩
            unfold Instr.sliceBounds
            simp only [Option.map_none, Option.map_some, pure_bind, Sem.run_bind, run_sliceBound e (Nat.le_trans hle hc), Result.andThen_ok]
            exact (low _ _).1
        | some y =>
          obtain ⟨ky, ey, hley⟩ := bound_some hm hm0 ht hg
          cases hi with
          | none => simp at hmx
          | some z =>
            obtain ⟨kk, e, hle⟩ := bound_some hh hh0 ht hg
            refine ⟨k, ?_, (low .index 0).2, hle, hley, .inr ⟨by simp, rfl⟩⟩
            unfold Instr.sliceBounds
            simp only [Option.map_some, Sem.run_bind, run_sliceBound ey (Nat.le_trans hley hc), run_sliceBound e hle, Result.andThen_ok]
            exact (low _ _).1

theorem op_sliceStr {t : TypeId} {x : Operand} {s : S} {lo hi : Option Operand} {sl sh : Option S} {q : List Nat} {l m k : Nat} (ho : o.op = .slice t x lo hi none) (hc : cS P x = some s) (hu : P.underlying t = some .string)
    (hl : cSo P lo = some sl) (hh : cSo P hi = some sh) (he : ev tm s = .str q) (hb : bounds tm q.length q.length sl sh none = some (l, m, k)) (hw : WR P ι h w) (ht : TR ι tm a.tmps) (hg : GI P ι) :
    Goes P ι h w (.str ((q.take m).drop l)) h ((execOp a.eval o).run P w) := by
  obtain ⟨b, e, rfl⟩ := VR_str (he ▸ cS_ok hc ht hg)
  rw [str_len] at hb
  obtain ⟨ck, hr, h1, h2, h3, _⟩ := run_bounds (P := P) (w := w) false (mx := none) hl hh (sm := none) rfl (by simp) hb (Nat.le_refl _) (Nat.le_refl _) ht hg
  refine .pure (x := .string (b.extract l m)) hw ?_ ?_
  · simp only [Option.map_none] at hr
    simp [execOp, ho, Instr.sliceAt, run_underlying hu, Instr.slice, e, hr]
  · simp only [VR]
    refine ⟨_, rfl, ?_⟩
    rw [ByteArray.data_extract]
    rw [Array.toList_extract, List.extract_eq_take_drop, List.map_take, List.map_drop, List.drop_take]

theorem op_slice_nil {t e : TypeId} {x : Operand} {s : S} {lo hi mx : Option Operand} {sl sh sm : Option S} {r : Nat × Nat × Nat} {size : Nat} (ho : o.op = .slice t x lo hi mx) (hc : cS P x = some s) (hu : P.underlying t = some (.slice e))
    (hs : sizeB P e = some size) (hmx : (mx.isSome && hi.isNone) = false)
    (hl : cSo P lo = some sl) (hh : cSo P hi = some sh) (hm : cSo P mx = some sm) (he : ev tm s = .nilSlice) (hb : bounds tm 0 0 sl sh sm = some r) (hw : WR P ι h w) (ht : TR ι tm a.tmps) (hg : GI P ι) :
    Goes P ι h w .nilSlice h ((execOp a.eval o).run P w) := by
  have e1 := cS_ok hc ht hg
  rw [he] at e1
  simp only [VR] at e1
  obtain ⟨l, m, k⟩ := r
  obtain ⟨ck, hr, h1, h2, h3, h4⟩ := run_bounds (P := P) (w := w) true hl hh hm hmx hb (Nat.le_refl _) (Nat.le_refl _) ht hg
  have hk : k = 0 := by omega
  have hck : ck = 0 := by rcases h4 with h4 | h4 <;> omega
  have hm0 : m = 0 := by omega
  have hl0 : l = 0 := by omega
  subst hk; subst hck; subst hm0; subst hl0
  refine .pure (x := .slice none 0 0) hw ?_ (by simp [VR])
  simp [execOp, ho, Instr.sliceAt, run_underlying hu, Instr.slice, e1, hr, run_sizeOf hs]

theorem slice_rel {i : BI} {b off cap e coff ccap l m k ck : Nat} (hi : ι b = some i) (hpos : 0 < e) (hn : off + cap * e ≤ i.n) (h1 : l ≤ m) (h2 : m ≤ k) (h3 : k ≤ cap)
    (hr : (cap = 0 ∧ ccap = 0) ∨ (coff = i.d + off ∧ cap ≤ ccap ∧ i.d + off + ccap * e ≤ i.cn ∧ (off + cap * e = i.n ∨ ccap = cap))) (h4 : (k = cap ∧ ck = ccap) ∨ ck = k) :
    VR ι (.slice b (off + l * e) (m - l) (k - l) e) (.slice (if ck = l then some ⟨i.cb, coff, none⟩ else (some (⟨i.cb, coff, none⟩ : Addr)).map (·.add (l * e))) (m - l) (ck - l)) := by
  have hle : l * e + (k - l) * e = k * e := by rw [← Nat.add_mul]; congr 1; omega
  have hke : k * e ≤ cap * e := Nat.mul_le_mul_right e h3
  simp only [VR]
  by_cases hcl : ck = l
  · rw [if_pos hcl]
    have hk0 : k ≤ ck := by rcases h4 with ⟨q1, q2⟩ | q <;> rcases hr with ⟨a1, a2⟩ | ⟨a1, a2, _⟩ <;> omega
    exact ⟨i, coff, ck - l, hi, rfl, hpos, by omega, by omega, .inl ⟨by omega, by omega⟩⟩
  · rw [if_neg hcl]
    simp only [Option.map_some, add_at]
    refine ⟨i, coff + l * e, ck - l, hi, rfl, hpos, by omega, by omega, ?_⟩
    rcases hr with ⟨a1, a2⟩ | ⟨a1, a2, a3, a4⟩
    · exfalso; rcases h4 with ⟨q1, q2⟩ | q <;> omega
    · refine .inr ⟨by omega, by rcases h4 with ⟨q1, q2⟩ | q <;> omega, ?_, ?_⟩
      · have hck : ck ≤ ccap := by rcases h4 with ⟨q1, q2⟩ | q <;> omega
        have hlk : l ≤ ck := by rcases h4 with ⟨q1, q2⟩ | q <;> omega
        have : l * e + (ck - l) * e = ck * e := by rw [← Nat.add_mul]; congr 1; omega
        have : ck * e ≤ ccap * e := Nat.mul_le_mul_right e hck
        omega
      · rcases h4 with ⟨q1, q2⟩ | q
        · rcases a4 with a4 | a4
          · left; subst q1; omega
          · right; omega
        · right; omega

theorem op_slice {t e : TypeId} {x : Operand} {s : S} {lo hi mx : Option Operand} {sl sh sm : Option S} {size b off len cap l m k : Nat} (ho : o.op = .slice t x lo hi mx) (hc : cS P x = some s) (hu : P.underlying t = some (.slice e))
    (hs : sizeB P e = some size) (hmx : (mx.isSome && hi.isNone) = false)
    (hl : cSo P lo = some sl) (hh : cSo P hi = some sh) (hm : cSo P mx = some sm) (he : ev tm s = .slice b off len cap size) (hb : bounds tm len cap sl sh sm = some (l, m, k)) (hw : WR P ι h w) (ht : TR ι tm a.tmps) (hg : GI P ι) :
    Goes P ι h w (.slice b (off + l * size) (m - l) (k - l) size) h ((execOp a.eval o).run P w) := by
  obtain ⟨i, coff, ccap, hi', e1, hpos, hlen, hn, hr⟩ := VR_slice (he ▸ cS_ok hc ht hg)
  have hcc : cap ≤ ccap := by rcases hr with ⟨a1, a2⟩ | ⟨_, a2, _⟩ <;> omega
  obtain ⟨ck, hrun, h1, h2, h3, h4⟩ := run_bounds (P := P) (w := w) true hl hh hm hmx hb hcc hlen ht hg
  refine .pure (x := .slice (if ck = l then some ⟨i.cb, coff, none⟩ else (some (⟨i.cb, coff, none⟩ : Addr)).map (·.add (l * size))) (m - l) (ck - l)) hw ?_
    (slice_rel hi' hpos hn h1 h2 h3 hr (by rcases h4 with ⟨_, q1, q2⟩ | ⟨_, q⟩; exact .inl ⟨q1, q2⟩; exact .inr q))
  simp [execOp, ho, Instr.sliceAt, run_underlying hu, Instr.slice, e1, hrun, run_sizeOf hs]
end
end Go.Ev
