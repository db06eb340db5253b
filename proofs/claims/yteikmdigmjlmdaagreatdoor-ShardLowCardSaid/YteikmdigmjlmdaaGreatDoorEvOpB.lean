/-
  The evaluator's operations stand for the model's: moves, loads, stores, new blocks, struct and array parts.
-/
import Derived.Test.YteikmdigmjlmdaaGreatDoorEvOpA
set_option linter.unusedVariables false
set_option linter.unusedSimpArgs false
namespace Go.Ev
section
variable {P : Program} {ι : Inj} {h h' : Hp} {w : World} {tm : T V} {a : Act} {v : V} {o : Oper}

theorem op_mov {x : Operand} {s : S} (ho : o.op = .move x ∨ o.op = .assign x) (hc : cS P x = some s) (hw : WR P ι h w) (ht : TR ι tm a.tmps) (hg : GI P ι) :
    Goes P ι h w (ev tm s) h ((execOp a.eval o).run P w) := by
  refine .pure hw ?_ (cS_ok hc ht hg)
  rcases ho with ho | ho <;> simp [execOp, ho]

theorem op_pick {c x y : Operand} {sc sx sy : S} {t : Bool} (ho : o.op = .pick c x y) (hc : cS P c = some sc) (hx : cS P x = some sx) (hy : cS P y = some sy)
    (ht' : ev tm sc = .bool t) (hw : WR P ι h w) (ht : TR ι tm a.tmps) (hg : GI P ι) :
    Goes P ι h w (bif t then ev tm sx else ev tm sy) h ((execOp a.eval o).run P w) := by
  have e := VR_bool (ht' ▸ cS_ok hc ht hg)
  cases t with
  | true => exact .pure hw (by simp [execOp, ho, e, asBool]) (cS_ok hx ht hg)
  | false => exact .pure hw (by simp [execOp, ho, e, asBool]) (cS_ok hy ht hg)

theorem rows_len (size : Nat) : (bif Nat.beq size 0 then 0 else 1) * max size 1 = size := by
  cases size with
  | zero => rfl
  | succ n => rw [beq_no (by omega)]; simp

theorem op_alloc {t : TypeId} {size : Nat} {zero : List V} (ho : o.op = .alloc t) (hs : sizeB P t = some size) (hz : zeroCellsB P t = some zero) {b : Nat} (hb : ι b = none) :
    Made P ι w b (.ptr b 0) (.cells (max size 1) ((bif Nat.beq size 0 then 0 else 1) * max size 1) .exact (newRows (max size 1) (bif Nat.beq size 0 then 0 else 1) zero)) ((execOp a.eval o).run P w) := by
  obtain ⟨x, n, hx, hn, hv, hl, hfl⟩ := run_zeroCells (ι := ι) (w := w) hz
  obtain rfl := Option.some.inj (hs.symm.trans hn)
  have hl2 := hv.length
  refine Made.of (x := .pointer (some ⟨w.heap.size, 0, none⟩)) ?_
    (made_newBlk hb (t := t) (cs := x.cells) (by omega) hv (by rw [rows_len, hl]) hfl ?_ ?_ ?_) ?_
  · simp [execOp, ho, Instr.alloc, hx, newVar, newRow]
  · rw [rows_len]; rw [Array.length_toList] at hl2; omega
  · intro j _; simp
  · intro _; rw [rows_len]; rw [Array.length_toList] at hl2; omega
  · simp only [VR]; exact ⟨_, ext_same _ _ _, by simp⟩

theorem op_box {t : TypeId} {x : Operand} {s : S} {size : Nat} (ho : o.op = .box t x) (hc : cS P x = some s) (hl : (ev tm s).cells.length = size) (hfl : allFlat (ev tm s).cells = true)
    {b : Nat} (hb : ι b = none) (ht : TR ι tm a.tmps) (hg : GI P ι) :
    Made P ι w b (.ptr b 0) (.cells (max size 1) ((bif Nat.beq size 0 then 0 else 1) * max size 1) .exact (newRows (max size 1) (bif Nat.beq size 0 then 0 else 1) (ev tm s).cells)) ((execOp a.eval o).run P w) := by
  have hv := (cS_ok hc ht hg).cells
  have hl2 := hv.length
  refine Made.of (x := .pointer (some ⟨w.heap.size, 0, none⟩)) ?_
    (made_newBlk hb (t := t) (cs := (a.eval x).cells) (by omega) hv (by rw [rows_len, hl]) hfl ?_ ?_ ?_) ?_
  · simp [execOp, ho, Instr.box, newVar, newRow]
  · rw [rows_len]; rw [Array.length_toList] at hl2; omega
  · intro j _; simp
  · intro _; rw [rows_len]; rw [Array.length_toList] at hl2; omega
  · simp only [VR]; exact ⟨_, ext_same _ _ _, by simp⟩

/-! ### Aggregates built -/
theorem zipIdx_fold (cells : Array Value) : ∀ (l : List Value) (k off : Nat) (cs : Array Value),
    (l.zipIdx k).foldl (fun cs (p : Value × Nat) => cs.setIfInBounds (off + p.2) p.1) cs = putRange cs (off + k) l
  | [], k, off, cs => rfl
  | x :: l, k, off, cs => by
    simp only [List.zipIdx_cons, List.foldl_cons, putRange]
    rw [zipIdx_fold cells l (k + 1) off]
    rfl

theorem VRs_setRow {cs ws : List V} {xs : Array Value} {ys : List Value} {off : Nat} (h1 : VRs ι cs xs.toList) (h2 : VRs ι ws ys) (hl : off + ws.length ≤ cs.length) :
    VRs ι (setRow cs off ws) (putRange xs off ys).toList := by
  have l1 := h1.length
  have l2 := h2.length
  rw [Array.length_toList] at l1
  refine VRs.of_get ?_ ?_
  · rw [Array.length_toList, putRange_size, setRow_length]; exact l1
  · intro j v x hv hx
    rw [setRow_get _ _ _ _ hl] at hv
    rw [Array.getElem?_toList, putRange_get _ _ _ _ (by omega)] at hx
    rw [l2] at hx
    by_cases c : off ≤ j ∧ j < off + ws.length
    · rw [if_pos c] at hv hx
      obtain ⟨y, hy, r⟩ := h2.get hv
      rw [hy] at hx; cases hx; exact r
    · rw [if_neg c] at hv hx
      obtain ⟨y, hy, r⟩ := h1.get hv
      rw [Array.getElem?_toList] at hy
      rw [hy] at hx; cases hx; exact r

theorem fill_ok {place : Nat → Option (Nat × Nat)} (ht : TR ι tm a.tmps) (hg : GI P ι) : ∀ {ps : List (Nat × Operand)} {qs : List (Nat × Nat × S)} {cs r : List V} {xs : Array Value},
    partsB P place ps = some qs → fill tm cs qs = some r → VRs ι cs xs.toList →
    ∃ ys : Array Value, Instr.fill place xs (ps.map fun p => (p.1, a.eval p.2)) = some ys ∧ VRs ι r ys.toList ∧ r.length = cs.length
  | [], qs, cs, r, xs, hp, hf, hv => by
    simp only [partsB, Option.some.injEq] at hp
    subst hp
    simp only [fill, Option.some.injEq] at hf
    subst hf
    exact ⟨xs, rfl, hv, rfl⟩
  | (i, x) :: ps, qs, cs, r, xs, hp, hf, hv => by
    simp only [partsB] at hp
    split at hp
    · rename_i off size s q h1 h2 h3
      cases hp
      simp only [fill] at hf
      by_cases hh : (ev tm s).cells.length = size ∧ off + size ≤ cs.length
      · rw [beq_yes hh.1, ble_yes hh.2] at hf
        simp only [Bool.and_self, cond_true] at hf
        have hx := (cS_ok h2 ht hg).cells
        have hxl := hx.length
        have hcl := hv.length
        rw [Array.length_toList] at hxl hcl
        have hset := VRs_setRow (off := off) hv hx (by omega)
        obtain ⟨ys, e1, e2, e3⟩ := fill_ok ht hg h3 hf hset
        refine ⟨ys, ?_, e2, by rw [e3, setRow_length]⟩
        simp only [List.map_cons, Instr.fill, h1]
        rw [if_neg]
        · rw [← Array.foldl_toList, Array.toList_zipIdx, zipIdx_fold xs _ 0 off, Nat.add_zero]
          exact e1
        · simp only [ne_eq, Bool.or_eq_true, decide_eq_true_eq, not_or]
          omega
      · have : (Nat.beq (ev tm s).cells.length size && Nat.ble (off + size) cs.length) = false := by
          by_cases q1 : (ev tm s).cells.length = size
          · rw [ble_no (fun q2 => hh ⟨q1, q2⟩)]; simp
          · rw [beq_no q1]; rfl
        rw [this] at hf
        simp at hf
    · cases hp

theorem run_mapM {α β : Type} {w : World} {g : α → Sem β} {r : α → β} : ∀ {l : List α}, (∀ f ∈ l, (g f).run P w = .ok (r f) w) → (l.mapM g).run P w = .ok (l.map r) w
  | [], _ => by simp
  | f :: l, hl => by
    have h1 := hl f (List.mem_cons_self ..)
    have h2 := run_mapM (l := l) (fun x hx => hl x (List.mem_cons_of_mem _ hx))
    simp [List.mapM_cons, h1, h2]

theorem run_mapM_arr {α β : Type} {w : World} {g : α → Sem β} {r : α → β} {l : Array α} (h : ∀ f ∈ l.toList, (g f).run P w = .ok (r f) w) : (l.mapM g).run P w = .ok (l.map r) w := by
  rw [Array.mapM_eq_mapM_toList]
  simp only [Sem.run_map, run_mapM h, Result.andThen_ok]
  rw [← Array.toList_map, Array.toArray_toList]

theorem op_build_struct {t : TypeId} {ps : Array (Nat × Operand)} {fs : Array Field} {zero r : List V} {qs : List (Nat × Nat × S)} (ho : o.op = .build t ps) (hz : zeroCellsB P t = some zero)
    (hu : P.underlying t = some (.struct fs)) (ha : fs.toList.all (fun f => (sizeB P f.type).isSome) = true)
    (hp : partsB P (placeB P fs) ps.toList = some qs) (hf : fill tm zero qs = some r)
    (hw : WR P ι h w) (ht : TR ι tm a.tmps) (hg : GI P ι) : Goes P ι h w (.agg r) h ((execOp a.eval o).run P w) := by
  obtain ⟨x, n, hx, hn, hv, hl, _⟩ := run_zeroCells (ι := ι) (w := w) hz
  have hm : (fs.mapM fun f => (do pure (f.offset, ← sizeOf f.type) : Sem (Nat × Nat))).run P w = .ok (fs.map fun f => (f.offset, (sizeB P f.type).getD 0)) w := by
    refine run_mapM_arr fun f hf => ?_
    have := List.all_eq_true.1 ha f hf
    obtain ⟨m, hm⟩ := Option.isSome_iff_exists.1 this
    simp [run_sizeOf hm, hm]
  have hplace : placeB P fs = (fun i => (fs.map fun f => (f.offset, (sizeB P f.type).getD 0))[i]?) := by
    funext i
    simp only [Array.getElem?_map, placeB]
    cases hfi : fs[i]? with
    | none => rfl
    | some f =>
      have hmem : f ∈ fs.toList := by
        obtain ⟨hlt, e⟩ := Array.getElem?_eq_some_iff.1 hfi
        rw [← e]; exact Array.getElem_mem_toList hlt
      obtain ⟨m, hm⟩ := Option.isSome_iff_exists.1 (List.all_eq_true.1 ha f hmem)
      simp [hm]
  rw [hplace] at hp
  obtain ⟨ys, e1, e2, _⟩ := fill_ok ht hg hp hf hv
  refine .pure (x := .agg ys) hw ?_ (by simp only [VR]; exact ⟨ys, rfl, e2⟩)
  simp only [execOp, ho, Instr.build, Sem.run_bind, hx, Result.andThen_ok, run_underlying hu, hm]
  have e1' : Instr.fill (fun i => (fs.map fun f => (f.offset, (sizeB P f.type).getD 0))[i]?) x.cells (ps.map fun p => (p.1, a.eval p.2)).toList = some ys := by
    rw [Array.toList_map]; exact e1
  rw [e1']
  rfl

theorem op_build_array {t e : TypeId} {m size : Nat} {ps : Array (Nat × Operand)} {zero r : List V} {qs : List (Nat × Nat × S)} (ho : o.op = .build t ps) (hz : zeroCellsB P t = some zero)
    (hu : P.underlying t = some (.array m e)) (hs : sizeB P e = some size)
    (hp : partsB P (fun i => some (i * size, size)) ps.toList = some qs) (hf : fill tm zero qs = some r)
    (hw : WR P ι h w) (ht : TR ι tm a.tmps) (hg : GI P ι) : Goes P ι h w (.agg r) h ((execOp a.eval o).run P w) := by
  obtain ⟨x, n, hx, hn, hv, hl, _⟩ := run_zeroCells (ι := ι) (w := w) hz
  obtain ⟨ys, e1, e2, _⟩ := fill_ok ht hg hp hf hv
  refine .pure (x := .agg ys) hw ?_ (by simp only [VR]; exact ⟨ys, rfl, e2⟩)
  simp only [execOp, ho, Instr.build, Sem.run_bind, hx, Result.andThen_ok, run_underlying hu, run_sizeOf hs]
  have e1' : Instr.fill (fun i => some (i * size, size)) x.cells (ps.map fun p => (p.1, a.eval p.2)).toList = some ys := by
    rw [Array.toList_map]; exact e1
  rw [e1']
  rfl

theorem zerosOf_get {zero : List V} : ∀ (n : Nat) (j : Nat), (zerosOf zero n)[j]? = if j < n * zero.length then zero[j % zero.length]? else none
  | 0, j => by simp [zerosOf]
  | n + 1, j => by
    simp only [zerosOf]
    by_cases hj : j < zero.length
    · rw [List.getElem?_append_left hj, if_pos, Nat.mod_eq_of_lt hj]
      rw [Nat.succ_mul]; omega
    · rw [List.getElem?_append_right (by omega), zerosOf_get n]
      by_cases hz : zero.length = 0
      · simp [hz]
      · rw [show j % zero.length = (j - zero.length) % zero.length from Nat.mod_eq_sub_mod (by omega)]
        by_cases hc : j - zero.length < n * zero.length
        · rw [if_pos hc, if_pos (by rw [Nat.succ_mul]; omega)]
        · rw [if_neg hc, if_neg (by rw [Nat.succ_mul]; omega)]

theorem zerosOf_length (zero : List V) : ∀ n, (zerosOf zero n).length = n * zero.length
  | 0 => by simp [zerosOf]
  | n + 1 => by rw [zerosOf, List.length_append, zerosOf_length zero n, Nat.succ_mul]; omega

theorem zerosOf_flat {zero : List V} (h : allFlat zero = true) : ∀ n, allFlat (zerosOf zero n) = true
  | 0 => rfl
  | n + 1 => allFlat_append h (zerosOf_flat h n)

theorem VRs_zeros {zero : List V} {x : Array Value} (hv : VRs ι zero x.toList) (n : Nat) (hx : x.size ≠ 0 ∨ n = 0) :
    VRs ι (zerosOf zero n) ((Array.range (n * x.size)).map (x[· % x.size]!)).toList := by
  have hl := hv.length
  rw [Array.length_toList] at hl
  refine VRs.of_get ?_ ?_
  · rw [Array.length_toList, zerosOf_length, ← hl]; simp
  · intro j v y h1 h2
    rw [zerosOf_get, ← hl] at h1
    rw [Array.getElem?_toList] at h2
    by_cases hj : j < n * x.size
    · rw [if_pos hj] at h1
      obtain ⟨z, hz, r⟩ := hv.get h1
      have hpos : 0 < x.size := by
        rcases hx with hx | hx
        · omega
        · subst hx; simp at hj
      have hlt := Nat.mod_lt j hpos
      have : y = z := by
        simp only [Array.getElem?_map, Array.getElem?_range, hj, if_true, Option.map_some, Option.some.injEq] at h2
        rw [Array.getElem?_toList] at hz
        rw [← h2, getElem!_def, hz]
      rw [this]; exact r
    · rw [if_neg hj] at h1; cases h1

theorem op_buildSlice {t e : TypeId} {len size : Nat} {ps : Array (Nat × Operand)} {zero r : List V} {qs : List (Nat × Nat × S)} (ho : o.op = .buildSlice t len ps)
    (hu : P.underlying t = some (.slice e)) (hs : sizeB P e = some size) (hpos : ¬ (size = 0 ∨ len * size > 2 ^ 24)) (hz : zeroCellsB P e = some zero)
    (hp : partsB P (fun i => some (i * size, size)) ps.toList = some qs) (hf : fill tm (zerosOf zero len) qs = some r) (hfl : allFlat r = true)
    {b : Nat} (hb : ι b = none) (ht : TR ι tm a.tmps) (hg : GI P ι) :
    Made P ι w b (.slice b 0 len len size) (.cells size (len * size) .exact (newRows size len r)) ((execOp a.eval o).run P w) := by
  obtain ⟨x, n, hx, hn, hv, hl, _⟩ := run_zeroCells (ι := ι) (w := w) hz
  obtain rfl := Option.some.inj (hs.symm.trans hn)
  have hxl := hv.length
  rw [Array.length_toList, hl] at hxl
  have hpos1 : 0 < size := by omega
  have hzs : ∃ zs : Array Value, (len * size = 0 → zs = #[]) ∧ (len * size ≠ 0 → zs = x.cells) ∧
      VRs ι (zerosOf zero len) ((Array.range (len * size)).map (zs[· % zs.size]!)).toList := by
    by_cases h0 : len * size = 0
    · have : len = 0 := by
        rcases Nat.mul_eq_zero.1 h0 with q | q
        · exact q
        · omega
      subst this
      exact ⟨#[], fun _ => rfl, fun q => absurd h0 q, by simpa [zerosOf] using VRs.nil⟩
    · refine ⟨x.cells, fun q => absurd q h0, fun _ => rfl, ?_⟩
      have := VRs_zeros hv len (.inl (by omega))
      rwa [hxl] at this ⊢
  obtain ⟨zs, hr1, hr2, hvz⟩ := hzs
  obtain ⟨ys, e1, e2, e3⟩ := fill_ok ht hg hp hf hvz
  have e1' : Instr.fill (fun i => some (i * size, size)) ((Array.range (len * size)).map (zs[· % zs.size]!)) (ps.map fun p => (p.1, a.eval p.2)).toList = some ys := by
    rw [Array.toList_map]; exact e1
  have hyl := e2.length
  rw [Array.length_toList, e3, zerosOf_length, hl] at hyl
  refine Made.of (x := .slice (some ⟨w.heap.size, 0, none⟩) len len) ?_
    (made_newBlk hb (t := e) (cs := ys) hpos1 e2 (by rw [e3, zerosOf_length, hl]) hfl (by omega) (fun j _ => by simp) (fun _ => by omega)) ?_
  · simp only [execOp, ho, Instr.buildSlice, Sem.run_bind, run_underlying hu, run_sizeOf hs, Result.andThen_ok]
    rw [if_neg (by omega)]
    by_cases h0 : len * size = 0
    · have := hr1 h0
      subst this
      rw [if_pos h0]
      simp only [pure_bind, e1']
      simp [newRow]
    · have := hr2 h0
      subst this
      rw [if_neg h0]
      simp only [Sem.run_bind, hx, Result.andThen_ok, pure_bind, e1']
      simp [newRow]
  · simp only [VR]
    refine ⟨_, 0, len, ext_same _ _ _, rfl, hpos1, Nat.le_refl _, by simp, .inr ⟨by simp, Nat.le_refl _, ?_, .inr rfl⟩⟩
    simp only [Nat.zero_add]; omega
end
end Go.Ev
