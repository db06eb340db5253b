/-
  Reading, writing and making blocks: the evaluator's heap and the model's.
-/
import Derived.Test.YteikmdigmjlmdaaGreatDoorEvRel
import Derived.Laws.Sem
import Derived.Laws.World
set_option linter.unusedVariables false
set_option linter.unusedSimpArgs false
namespace Go.Ev

theorem add_at (cb off n : Nat) : (⟨cb, off, none⟩ : Addr).add n = ⟨cb, off + n, none⟩ := by
  unfold Addr.add
  by_cases h : n = 0
  · subst h; simp
  · simp [h]

/-- a world in which one block became another thing -/
structure Upd (w : World) (cb : Nat) (o : Obj) (w' : World) : Prop where
  size : w'.heap.size = w.heap.size
  at_ : w'.heap[cb]? = some o
  other : ∀ k, k ≠ cb → w'.heap[k]? = w.heap[k]?
  os : w'.os = w.os
  tape : w'.tape = w.tape
  output : w'.output = w.output

/-- a world with more blocks -/
structure More (w w' : World) : Prop where
  size : w.heap.size ≤ w'.heap.size
  old : ∀ k, k < w.heap.size → w'.heap[k]? = w.heap[k]?
  os : w'.os = w.os
  tape : w'.tape = w.tape
  output : w'.output = w.output

theorem More.refl (w : World) : More w w := ⟨Nat.le_refl _, fun _ _ => rfl, rfl, rfl, rfl⟩
theorem More.drew (w : World) : More w { w with drawn := w.drawn + 1 } := ⟨Nat.le_refl _, fun _ _ => rfl, rfl, rfl, rfl⟩
theorem More.push (w : World) (o : Obj) : More w { w with heap := w.heap.push o } :=
  ⟨by simp, fun k hk => by simp only [Array.getElem?_push]; rw [if_neg (by omega)], rfl, rfl, rfl⟩
theorem More.trans {a b c : World} (h : More a b) (k : More b c) : More a c :=
  ⟨Nat.le_trans h.size k.size, fun i hi => (k.old i (Nat.lt_of_lt_of_le hi h.size)).trans (h.old i hi), k.os.trans h.os, k.tape.trans h.tape, k.output.trans h.output⟩

section
variable {P : Program} {ι : Inj} {h : Hp} {w w' : World} {b : Nat} {i : BI} {k : Blk}

theorem lt_of_heap {w : World} {k : Nat} {o : Obj} (h : w.heap[k]? = some o) : k < w.heap.size := (Array.getElem?_eq_some_iff.1 h).1

theorem WR.more (hw : WR P ι h w) (m : More w w') : WR P ι h w' ∧ Sim ι h w ι h w' :=
  ⟨⟨fun b i k hi hk => (hw.rel b i k hi hk).mono (fun _ _ h => h) (m.old _ (hw.lt _ _ hi)), hw.inj, fun b i hi => Nat.lt_of_lt_of_le (hw.lt b i hi) m.size, hw.nx, hw.hnx⟩,
   ⟨fun _ _ h => h, fun _ _ h => .inl h, Nat.le_refl _, m.size, fun _ _ h => h, fun cb hc _ => m.old cb hc, fun _ _ _ => rfl, m.os, m.tape, m.output⟩⟩

theorem get_put (h : Hp) (b : Nat) (k : Blk) (c : Nat) : (h.put b k).get c = if b = c then some k else h.get c := by
  simp [Hp.put, Hp.get, T.get_set]
theorem get_add (h : Hp) (k : Blk) (c : Nat) : (h.add k).get c = if h.nx = c then some k else h.get c := by
  simp [Hp.add, Hp.get, T.get_set]
@[simp] theorem put_nx (h : Hp) (b : Nat) (k : Blk) : (h.put b k).nx = h.nx := rfl
@[simp] theorem add_nx (h : Hp) (k : Blk) : (h.add k).nx = h.nx + 1 := rfl

/-- one block written -/
theorem WR.upd {o : Obj} (hw : WR P ι h w) (hi : ι b = some i) {k0 : Blk} (hk : h.get b = some k0) (hd : k0.isDead = false) (hro : k0.isRo = false)
    (u : Upd w i.cb o w') (hb : BR P ι i w' k) : WR P ι (h.put b k) w' ∧ Sim ι h w ι (h.put b k) w' := by
  refine ⟨⟨?_, ?_, ?_, hw.nx, ?_⟩, ⟨fun _ _ h => h, fun _ _ h => .inl h, Nat.le_refl _, by rw [u.size]; exact Nat.le_refl _, ?_, ?_, fun c _ hn => by rw [get_put, if_neg (fun e => by subst e; rw [hi] at hn; cases hn)], u.os, u.tape, u.output⟩⟩
  · intro c j q hc hq
    rw [get_put] at hq
    by_cases e : b = c
    · subst e
      rw [if_pos rfl] at hq; cases hq
      rw [hi] at hc; cases hc
      exact hb
    · rw [if_neg e] at hq
      cases hqd : q.isDead with
      | true => cases q <;> simp_all [Blk.isDead, BR]
      | false =>
        have hne : i.cb ≠ j.cb := hw.inj b c i j k0 q e hi hc hk hq hd hqd (by simp [hro])
        exact (hw.rel c j q hc hq).mono (fun _ _ h => h) (u.other _ (Ne.symm hne))
  · intro c c' j j' q q' hne hc hc' hq hq' hqd hqd' hr
    rw [get_put] at hq hq'
    by_cases e : b = c
    · subst e
      rw [if_pos rfl] at hq; cases hq
      rw [if_neg hne] at hq'
      rw [hi] at hc; cases hc
      exact hw.inj b c' i j' k0 q' hne hi hc' hk hq' hd hqd' (by simp [hro])
    · rw [if_neg e] at hq
      by_cases e' : b = c'
      · subst e'
        rw [if_pos rfl] at hq'; cases hq'
        rw [hi] at hc'; cases hc'
        exact hw.inj c b j i q k0 hne hc hi hq hk hqd hd (by simp [hro])
      · rw [if_neg e'] at hq'
        exact hw.inj c c' j j' q q' hne hc hc' hq hq' hqd hqd' hr
  · intro c j hc; rw [u.size]; exact hw.lt c j hc
  · intro c q hq
    rw [get_put] at hq
    by_cases e : b = c
    · subst e; exact hw.nx b i hi
    · rw [if_neg e] at hq; exact hw.hnx c q hq
  · intro cb hcb ⟨c, j, q, hc, e, hq, hr⟩
    rw [get_put] at hq
    by_cases e' : b = c
    · subst e'
      rw [hi] at hc; cases hc
      exact ⟨b, i, k0, hi, e, hk, hro⟩
    · rw [if_neg e'] at hq; exact ⟨c, j, q, hc, e, hq, hr⟩
  · intro cb hcb hn
    exact u.other cb fun e => hn ⟨b, i, k0, hi, e.symm, hk, hro⟩

theorem WR.kill (hw : WR P ι h w) (hi : ι b = some i) {k0 : Blk} (hk : h.get b = some k0) (hro : k0.isRo = false) :
    WR P ι (h.put b .dead) w ∧ Sim ι h w ι (h.put b .dead) w := by
  refine ⟨⟨?_, ?_, hw.lt, hw.nx, ?_⟩, ⟨fun _ _ h => h, fun _ _ h => .inl h, Nat.le_refl _, Nat.le_refl _, ?_, fun _ _ _ => rfl, fun c _ hn => by rw [get_put, if_neg (fun e => by subst e; rw [hi] at hn; cases hn)], rfl, rfl, rfl⟩⟩
  · intro c j q hc hq
    rw [get_put] at hq
    by_cases e : b = c
    · rw [if_pos e] at hq; cases hq; trivial
    · rw [if_neg e] at hq; exact hw.rel c j q hc hq
  · intro c c' j j' q q' hne hc hc' hq hq' hqd hqd' hr
    rw [get_put] at hq hq'
    by_cases e : b = c
    · rw [if_pos e] at hq; cases hq; simp [Blk.isDead] at hqd
    · rw [if_neg e] at hq
      by_cases e' : b = c'
      · rw [if_pos e'] at hq'; cases hq'; simp [Blk.isDead] at hqd'
      · rw [if_neg e'] at hq'
        exact hw.inj c c' j j' q q' hne hc hc' hq hq' hqd hqd' hr
  · intro c q hq
    rw [get_put] at hq
    by_cases e : b = c
    · subst e; exact hw.nx b i hi
    · rw [if_neg e] at hq; exact hw.hnx c q hq
  · intro cb hcb ⟨c, j, q, hc, e, hq, hr⟩
    rw [get_put] at hq
    by_cases e' : b = c
    · subst e'
      rw [hi] at hc; cases hc
      exact ⟨b, i, k0, hi, e, hk, hro⟩
    · rw [if_neg e'] at hq; exact ⟨c, j, q, hc, e, hq, hr⟩

/-- the injection with one block more -/
def ext (ι : Inj) (b : Nat) (i : BI) : Inj := fun c => if c = b then some i else ι c

theorem ext_same (ι : Inj) (b : Nat) (i : BI) : ext ι b i b = some i := by simp [ext]
theorem ext_mono (hw : WR P ι h w) (i : BI) : ∀ b j, ι b = some j → ext ι h.nx i b = some j := by
  intro b j hb
  have := hw.nx b j hb
  unfold ext
  rw [if_neg (by omega)]
  exact hb

/-- a block made -/
theorem WR.new (hw : WR P ι h w) (m : More w w') (hi1 : w.heap.size ≤ i.cb) (hi2 : i.cb < w'.heap.size) (hb : BR P (ext ι h.nx i) i w' k) :
    WR P (ext ι h.nx i) (h.add k) w' ∧ Sim ι h w (ext ι h.nx i) (h.add k) w' := by
  have hm := ext_mono hw i
  have hold : ∀ c j, ext ι h.nx i c = some j → c ≠ h.nx → ι c = some j := by
    intro c j hc hne
    unfold ext at hc
    rwa [if_neg hne] at hc
  refine ⟨⟨?_, ?_, ?_, ?_, ?_⟩, ⟨hm, ?_, by simp, m.size, ?_, fun cb hc _ => m.old cb hc, fun c hc _ => by rw [get_add, if_neg (by omega)], m.os, m.tape, m.output⟩⟩
  · intro c j q hc hq
    rw [get_add] at hq
    by_cases e : h.nx = c
    · subst e
      rw [if_pos rfl] at hq; cases hq
      rw [ext_same] at hc; cases hc
      exact hb
    · rw [if_neg e] at hq
      have hc' := hold c j hc (Ne.symm e)
      exact (hw.rel c j q hc' hq).mono hm (m.old _ (hw.lt _ _ hc'))
  · intro c c' j j' q q' hne hc hc' hq hq' hqd hqd' hr
    rw [get_add] at hq hq'
    by_cases e : h.nx = c
    · subst e
      rw [ext_same] at hc; cases hc
      have := hw.lt _ _ (hold c' j' hc' (Ne.symm hne))
      omega
    · rw [if_neg e] at hq
      have hc1 := hold c j hc (Ne.symm e)
      by_cases e' : h.nx = c'
      · subst e'
        rw [ext_same] at hc'; cases hc'
        have := hw.lt _ _ hc1
        omega
      · rw [if_neg e'] at hq'
        exact hw.inj c c' j j' q q' hne hc1 (hold c' j' hc' (Ne.symm e')) hq hq' hqd hqd' hr
  · intro c j hc
    by_cases e : c = h.nx
    · subst e; rw [ext_same] at hc; cases hc; exact hi2
    · exact Nat.lt_of_lt_of_le (hw.lt _ _ (hold c j hc e)) m.size
  · intro c j hc
    by_cases e : c = h.nx
    · subst e; simp
    · have := hw.nx _ _ (hold c j hc e); simp; omega
  · intro c q hq
    rw [get_add] at hq
    by_cases e : h.nx = c
    · subst e; simp
    · rw [if_neg e] at hq; have := hw.hnx c q hq; simp; omega
  · intro c j hc
    by_cases e : c = h.nx
    · exact .inr (by omega)
    · exact .inl (hold c j hc e)
  · intro cb hcb ⟨c, j, q, hc, e, hq, hr⟩
    rw [get_add] at hq
    by_cases e' : h.nx = c
    · subst e'
      rw [ext_same] at hc; cases hc
      omega
    · rw [if_neg e'] at hq
      exact ⟨c, j, q, hold c j hc (Ne.symm e'), e, hq, hr⟩

theorem heap_push (w : World) (o : Obj) : ({ w with heap := w.heap.push o } : World).heap[w.heap.size]? = some o := by simp

/-! ### Reading -/
theorem run_loadCellsFrom (P : Program) (w : World) (a : Addr) : ∀ (xs : List Value) (i : Nat) (acc : Array Value),
    (∀ j x, xs[j]? = some x → w.cell? (a.add (i + j)) = some x) → (loadCellsFrom a i xs.length acc).run P w = .ok (acc ++ xs.toArray) w
  | [], i, acc, _ => by simp [loadCellsFrom]
  | x :: xs, i, acc, h => by
    have h0 := h 0 x rfl
    rw [Nat.add_zero] at h0
    have hr := run_loadCellsFrom P w a xs (i + 1) (acc.push x) (fun j y hy => by
      have := h (j + 1) y (by simpa using hy)
      rwa [show i + 1 + j = i + (j + 1) from by omega])
    simp only [List.length_cons, loadCellsFrom, Sem.run_bind, run_load, h0, Result.andThen_ok, hr]
    simp

theorem run_loadCells (P : Program) (w : World) (cb off n : Nat) (xs : List Value) (hn : xs.length = n)
    (h : ∀ j x, xs[j]? = some x → w.cell? ⟨cb, off + j, none⟩ = some x) : (loadCells ⟨cb, off, none⟩ n).run P w = .ok xs.toArray w := by
  subst hn
  unfold loadCells
  rw [run_loadCellsFrom P w ⟨cb, off, none⟩ xs 0 #[] (fun j x hx => by rw [add_at, Nat.zero_add]; exact h j x hx)]
  simp

/-- what the evaluator reads lies in the model's block -/
theorem WR.load {off n : Nat} {vs : List V} (hw : WR P ι h w) (hi : ι b = some i) (hl : h.load b off n = some vs) :
    (vs.length = n ∧ allFlat vs = true) ∧ ∃ xs, VRs ι vs xs ∧ xs.length = n ∧ (∀ j x, xs[j]? = some x → w.cell? ⟨i.cb, i.d + off + j, none⟩ = some x) ∧ i.d + off + n ≤ i.cn ∧
      ∃ c t fr, w.heap[i.cb]? = some (.cells c t fr) ∧ c.size = i.cn := by
  unfold Hp.load at hl
  split at hl
  · rename_i e m kd rows hk
    have hbr := hw.rel b i _ hi hk
    obtain ⟨h1, h2, h3, c, t, fr, h4, h5, h6, _, h8, _⟩ := hbr
    by_cases hle : off + n ≤ m
    · rw [ble_yes hle] at hl
      simp only [cond_true] at hl
      obtain ⟨l1, l2⟩ := readCells_spec h2 _ rows off n vs h3 (by omega) hl
      have hx : ∀ j, j < n → ∃ v x, vs[j]? = some v ∧ v.flat = true ∧ c[i.d + (off + j)]? = some x ∧ VR ι v x := by
        intro j hj
        have hv : vs[j]? = some vs[j] := List.getElem?_eq_getElem (by omega)
        obtain ⟨fl, x, hx, r⟩ := h8 (off + j) vs[j] (by omega) (by rw [← l2 j hj]; exact hv)
        exact ⟨_, x, hv, fl, hx, r⟩
      have hflat : allFlat vs = true := allFlat_of fun j v hv => by
        have hj : j < n := by have := (List.getElem?_eq_some_iff.1 hv).1; omega
        obtain ⟨v', x', hv', fl, _⟩ := hx j hj
        rw [hv] at hv'; cases hv'; exact fl
      refine ⟨⟨l1, hflat⟩, (c.toList.drop (i.d + off)).take n, ?_, ?_, ?_, by omega, c, t, fr, h4, h5⟩
      · refine VRs.of_get ?_ ?_
        · simp only [List.length_take, List.length_drop, Array.length_toList]; omega
        · intro j v x hv hxx
          have hj : j < n := by
            have := (List.getElem?_eq_some_iff.1 hv).1; omega
          obtain ⟨v', x', hv', _, hx', r⟩ := hx j hj
          rw [hv] at hv'; cases hv'
          rw [List.getElem?_take, if_pos hj, List.getElem?_drop, Array.getElem?_toList, Nat.add_assoc, hx'] at hxx
          cases hxx
          exact r
      · simp only [List.length_take, List.length_drop, Array.length_toList]; omega
      · intro j x hxx
        have hj : j < n := by
          have := (List.getElem?_eq_some_iff.1 hxx).1
          simp only [List.length_take, List.length_drop, Array.length_toList] at this; omega
        rw [List.getElem?_take, if_pos hj, List.getElem?_drop, Array.getElem?_toList] at hxx
        unfold World.cell?
        rw [h4]
        simpa using hxx
    · rw [ble_no hle] at hl
      simp at hl
  · cases hl

theorem cell_of_ι {off : Nat} {v : V} (hw : WR P ι h w) (hi : ι b = some i) (hl : h.load b off 1 = some [v]) : ∃ x, w.cell? ⟨i.cb, i.d + off, none⟩ = some x ∧ VR ι v x := by
  obtain ⟨_, xs, h1, h2, h3, _⟩ := hw.load hi hl
  obtain ⟨x, r, rfl, hx, _⟩ := VRs_cons.1 h1
  exact ⟨x, by simpa using h3 0 x rfl, hx⟩

/-! ### Writing -/
def putRange (c : Array Value) (off : Nat) : List Value → Array Value
  | [] => c
  | x :: xs => putRange (c.setIfInBounds off x) (off + 1) xs

theorem putRange_size : ∀ (xs : List Value) (c : Array Value) (off : Nat), (putRange c off xs).size = c.size
  | [], _, _ => rfl
  | x :: xs, c, off => by simp [putRange, putRange_size xs]

theorem putRange_get : ∀ (xs : List Value) (c : Array Value) (off j : Nat), off + xs.length ≤ c.size →
    (putRange c off xs)[j]? = if off ≤ j ∧ j < off + xs.length then xs[j - off]? else c[j]?
  | [], c, off, j, _ => by
    rw [putRange, if_neg]
    simp only [List.length_nil]; omega
  | x :: xs, c, off, j, hl => by
    simp only [List.length_cons] at hl ⊢
    rw [putRange, putRange_get xs _ _ _ (by simp; omega)]
    by_cases c1 : off + 1 ≤ j ∧ j < off + 1 + xs.length
    · rw [if_pos c1, if_pos (by omega)]
      obtain ⟨q, hq⟩ : ∃ q, j - off = q + 1 := ⟨j - off - 1, by omega⟩
      rw [hq, show j - (off + 1) = q from by omega]; rfl
    · rw [if_neg c1]
      by_cases c2 : j = off
      · subst c2
        rw [if_pos (by omega)]
        simp [show j < c.size from by omega]
      · rw [if_neg (by omega)]
        rw [Array.getElem?_setIfInBounds_ne (by omega)]

theorem heap_setCell (w : World) (a : Addr) (v : Value) {c : Array Value} {t : TypeId} {fr : Nat × Nat} (h : w.heap[a.block]? = some (.cells c t fr)) (hs : a.spot = none) :
    Upd w a.block (.cells (c.setIfInBounds a.off v) t fr) (w.setCell a v) := by
  refine ⟨by simp, ?_, ?_, rfl, rfl, rfl⟩
  · simp [World.setCell, Array.getElem?_modify, h, hs]
  · intro k hk
    simp [World.setCell, Array.getElem?_modify, Ne.symm hk]

theorem Upd.trans {w w1 w2 : World} {cb : Nat} {o o' : Obj} (h : Upd w cb o w1) (k : Upd w1 cb o' w2) : Upd w cb o' w2 :=
  ⟨k.size.trans h.size, k.at_, fun j hj => (k.other j hj).trans (h.other j hj), k.os.trans h.os, k.tape.trans h.tape, k.output.trans h.output⟩

theorem run_storeCells (P : Program) : ∀ (xs : List Value) (w : World) (cb off k : Nat) (c : Array Value) (t : TypeId) (fr : Nat × Nat),
    w.heap[cb]? = some (.cells c t fr) → off + k + xs.length ≤ c.size → (∀ x ∈ xs, x.oneCell' = true) → (∀ j, off + k ≤ j → j < off + k + xs.length → ¬ (fr.1 ≤ j ∧ j < fr.2)) →
    ∃ w', (storeCells ⟨cb, off, none⟩ xs k).run P w = .ok () w' ∧ Upd w cb (.cells (putRange c (off + k) xs) t fr) w'
  | [], w, cb, off, k, c, t, fr, hc, _, _, _ => ⟨w, by simp [storeCells], rfl, by simpa [putRange] using hc, fun _ _ => rfl, rfl, rfl, rfl⟩
  | x :: xs, w, cb, off, k, c, t, fr, hc, hl, hx, hf => by
    simp only [List.length_cons] at hl hf
    have hcell : w.cell? ⟨cb, off + k, none⟩ = some (c[off + k]'(by omega)) := by
      unfold World.cell?
      simp only [hc, Option.isSome_none, Bool.false_eq_true, if_false]
      exact Array.getElem?_eq_getElem (by omega)
    have hfz : w.frozen? ⟨cb, off + k, none⟩ = false := by
      unfold World.frozen?
      simp only [hc]
      have := hf (off + k) (by omega) (by omega)
      simp only [Bool.and_eq_false_iff, decide_eq_false_iff_not]
      by_cases q : fr.1 ≤ off + k
      · exact .inr fun q2 => this ⟨q, q2⟩
      · exact .inl q
    have u1 := heap_setCell w ⟨cb, off + k, none⟩ x (c := c) (t := t) (fr := fr) hc rfl
    obtain ⟨w', hr, u2⟩ := run_storeCells P xs (w.setCell ⟨cb, off + k, none⟩ x) cb off (k + 1) (c.setIfInBounds (off + k) x) t fr u1.at_ (by simp; omega)
      (fun y hy => hx y (List.mem_cons_of_mem _ hy)) (fun j h1 h2 => hf j (by omega) (by omega))
    refine ⟨w', ?_, ?_⟩
    · simp only [storeCells, Sem.run_bind, add_at, run_store P w _ x .plain (hx x (List.mem_cons_self ..)), hcell, hfz, Bool.false_eq_true, if_false, Result.andThen_ok]
      exact hr
    · rw [putRange, ← Nat.add_assoc] at *
      exact u1.trans u2

theorem flat_of {v : V} {x : Value} (h : VR ι v x) (hf : v.flat = true) : x.oneCell' = true := by
  cases v with
  | agg cs => simp [V.flat] at hf
  | tuple vs => simp [V.flat] at hf
  | str s => simp only [VR] at h; obtain ⟨a, rfl, _⟩ := h; rfl
  | ptr b off => simp only [VR] at h; obtain ⟨a, _, rfl⟩ := h; rfl
  | slice b off len cap e => simp only [VR] at h; obtain ⟨a, _, _, _, rfl, _⟩ := h; rfl
  | map b => simp only [VR] at h; obtain ⟨a, _, rfl⟩ := h; rfl
  | func f a c => simp only [VR] at h; obtain ⟨a, _, rfl, _⟩ := h; rfl
  | yield b => simp only [VR] at h; obtain ⟨a, _, rfl⟩ := h; rfl
  | iface t v => simp only [VR] at h; obtain ⟨a, rfl, _⟩ := h; rfl
  | bool b => simp only [VR] at h; subst h; rfl
  | int k n => simp only [VR] at h; subst h; rfl
  | nilPtr => simp only [VR] at h; subst h; rfl
  | nilSlice => simp only [VR] at h; subst h; rfl
  | nilMap => simp only [VR] at h; subst h; rfl
  | nilFunc => simp only [VR] at h; subst h; rfl
  | nilIface => simp only [VR] at h; subst h; rfl

theorem flats_of : ∀ {vs : List V} {xs : List Value}, VRs ι vs xs → allFlat vs = true → ∀ x ∈ xs, x.oneCell' = true
  | [], xs, h, _ => by rw [VRs_nil] at h; subst h; simp
  | v :: vs, xs, h, hf => by
    rw [VRs_cons] at h
    obtain ⟨x, l, rfl, hx, t⟩ := h
    simp only [allFlat, Bool.and_eq_true] at hf
    intro y hy
    rcases List.mem_cons.1 hy with rfl | hy
    · exact flat_of hx hf.1
    · exact flats_of t hf.2 y hy

/-- the model's store behind the evaluator's -/
theorem WR.store {off n : Nat} {vs : List V} {xs : List Value} {h' : Hp} (hw : WR P ι h w) (hi : ι b = some i) (hs : h.store b off n vs = some h') (hv : VRs ι vs xs)
    (hn : vs.length = n) (hf : allFlat vs = true) :
    ∃ w', (storeCells ⟨i.cb, i.d + off, none⟩ xs).run P w = .ok () w' ∧ WR P ι h' w' ∧ Sim ι h w ι h' w' := by
  unfold Hp.store at hs
  split at hs
  · rename_i e m kd rows hk
    have hbr := hw.rel b i _ hi hk
    obtain ⟨h1, h2, h3, c, t, fr, h4, h5, h6, h7, h8, h9⟩ := hbr
    by_cases hle : off + n ≤ m
    · rw [ble_yes hle] at hs
      have hkd : kd.isRo = false := by
        cases hq : kd.isRo with
        | false => rfl
        | true => rw [hq] at hs; simp at hs
      have hkd' : kd ≠ .ro := by intro e; subst e; simp [BK.isRo] at hkd
      rw [hkd] at hs
      simp only [Bool.not_false, Bool.and_self, cond_true] at hs
      split at hs
      · rename_i rows' hwr
        cases hs
        have hxl : xs.length = n := by rw [hv.length, hn]
        obtain ⟨r1, r2⟩ := writeCells_spec h2 _ rows off n vs rows' h3 (by omega) hn hwr
        obtain ⟨w', hr, u⟩ := run_storeCells P xs w i.cb (i.d + off) 0 c t fr h4 (by omega) (flats_of hv hf) (fun j a1 a2 => h9 hkd' j (by omega))
        refine ⟨w', hr, ?_⟩
        refine hw.upd hi hk rfl (by simpa [Blk.isRo] using hkd) u ?_
        refine ⟨h1, h2, r1, _, t, fr, u.at_, by rw [putRange_size]; exact h5, h6, h7, ?_, h9⟩
        intro j v hj hcell
        rw [r2] at hcell
        rw [Nat.add_zero, putRange_get _ _ _ _ (by omega)]
        by_cases cc : off ≤ j ∧ j < off + n
        · rw [if_pos cc] at hcell
          obtain ⟨x, hx, r⟩ := hv.get hcell
          refine ⟨allFlat_get hf hcell, x, ?_, r⟩
          rw [if_pos (by omega), show i.d + j - (i.d + off) = j - off from by omega]
          exact hx
        · rw [if_neg cc] at hcell
          rw [if_neg (by omega)]
          exact h8 j v hj hcell
      · cases hs
    · rw [ble_no hle] at hs
      simp at hs
  · cases hs

/-- a new block of rows -/
theorem WR.newBlk {e n : Nat} {kd : BK} {vs : List V} {xs : List Value} {cs : Array Value} {t : TypeId} (hw : WR P ι h w) (he : 0 < e) (hv : VRs ι vs xs) (hn : vs.length = n * e) (hfl : allFlat vs = true)
    (hcs : n * e ≤ cs.size) (hx : ∀ j, j < n * e → cs[j]? = xs[j]?) (hex : kd = .exact → cs.size = n * e) :
    WR P (ext ι h.nx ⟨w.heap.size, 0, n * e, cs.size⟩) (h.newBlk e n kd vs) { w with heap := w.heap.push (.cells cs t) } ∧
    Sim ι h w (ext ι h.nx ⟨w.heap.size, 0, n * e, cs.size⟩) (h.newBlk e n kd vs) { w with heap := w.heap.push (.cells cs t) } := by
  obtain ⟨r1, r2⟩ := newRows_spec he vs hn
  refine hw.new (i := ⟨w.heap.size, 0, n * e, cs.size⟩) (More.push w _) (Nat.le_refl _) (by simp) ?_
  refine ⟨rfl, he, r1, cs, t, (0, 0), heap_push w _, rfl, by simpa using hcs, fun q => ⟨by simpa using (hex q).symm, rfl⟩, ?_, fun _ k _ => by simp⟩
  intro j v hj hc
  rw [r2 j hj] at hc
  obtain ⟨x, hxx, r⟩ := hv.get hc
  refine ⟨allFlat_get hfl hc, x, ?_, r.mono (ext_mono hw _)⟩
  simp only [Nat.zero_add]
  rw [hx j hj]
  exact hxx
end
end Go.Ev
