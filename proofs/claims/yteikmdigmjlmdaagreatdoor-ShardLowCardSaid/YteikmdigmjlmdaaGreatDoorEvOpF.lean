/-
  The evaluator's operations stand for the model's: append, copy, clear, min and max.
-/
import Derived.Test.YteikmdigmjlmdaaGreatDoorEvOpE
set_option linter.unusedVariables false
set_option linter.unusedSimpArgs false
namespace Go.Ev
section
variable {P : Program} {ι : Inj} {h h' : Hp} {w w' : World} {tm : T V} {a : Act} {v : V} {o : Oper}

theorem extract_zero (b : ByteArray) (n : Nat) : (b.extract 0 n).data.toList = b.data.toList.take n := by
  rw [ByteArray.data_extract, Array.toList_extract, List.extract_eq_take_drop]
  simp

/-- what is appended or copied: as many cells as the evaluator's, read out of the model's value -/
theorem source_ok {size n : Nat} {u : V} {x : Value} {new : List V} (hw : WR P ι h w) (hs : source h size n u = some new) (hx : VR ι u x) (hn : ∀ k, lenOf u = some k → n ≤ k) :
    ∃ xs : Array Value, (Builtin.firstCells size n x).run P w = .ok xs w ∧ VRs ι new xs.toList ∧ new.length = n * size ∧ allFlat new = true := by
  unfold source at hs
  split at hs
  · cases hs
    simp only [VR] at hx
    subst hx
    have := hn 0 rfl
    obtain rfl : n = 0 := by omega
    exact ⟨#[], rfl, by simpa using VRs.nil, by simp, rfl⟩
  · rename_i l
    obtain ⟨b, rfl, rfl⟩ := VR_str hx
    by_cases h1 : size = 1
    · subst h1
      rw [beq_yes rfl] at hs
      simp only [cond_true, Option.some.injEq] at hs
      subst hs
      have hl := hn _ rfl
      refine ⟨(b.extract 0 n).data.map fun c => .int .u8 c.toNat, rfl, ?_, ?_, cellsOfBytes_flat _⟩
      · have := VRs_bytes (ι := ι) (b.extract 0 n)
        rw [extract_zero, List.map_take] at this
        exact this
      · rw [cellsOfBytes_length, List.length_take]; omega
    · rw [beq_no h1] at hs; simp at hs
  · rename_i b off l c e
    by_cases h1 : e = size
    · subst h1
      rw [beq_yes rfl] at hs
      simp only [cond_true] at hs
      obtain ⟨i, coff, ccap, hi, rfl, hpos, hlen, hcn, hr⟩ := VR_slice hx
      obtain ⟨⟨l1, l2⟩, xs, v1, v2, v3, _⟩ := hw.load hi hs
      have hl := hn _ rfl
      refine ⟨xs.toArray, ?_, by simpa using v1, l1, l2⟩
      unfold Builtin.firstCells
      rcases hr with ⟨a1, a2⟩ | ⟨a1, _⟩
      · obtain rfl : n = 0 := by omega
        have : xs = [] := List.eq_nil_of_length_eq_zero (by rw [v2]; simp)
        subst this
        simp [loadCells, loadCellsFrom]
      · rw [a1]; exact run_loadCells P w _ _ _ xs v2 v3
    · rw [beq_no h1] at hs; simp at hs
  · cases hs

theorem lenOf_ok {u : V} {x : Value} {n : Nat} (hl : lenOf u = some n) (hx : VR ι u x) : (Builtin.lenOf x).run P w = .ok n w := by
  unfold lenOf at hl
  split at hl
  · cases hl; simp only [VR] at hx; subst hx; rfl
  · cases hl; obtain ⟨b, rfl, rfl⟩ := VR_str hx; rw [str_len]; rfl
  · cases hl; obtain ⟨i, _, _, _, rfl, _⟩ := VR_slice hx; rfl
  · cases hl

theorem growBy_le (newLen : Nat) : ∀ (r c : Nat), c ≤ newLen → Builtin.growBy newLen r c ≤ newLen + (newLen + 768) / 4
  | 0, c, h => by simp [Builtin.growBy]; omega
  | r + 1, c, h => by
    unfold Builtin.growBy
    split
    · omega
    · by_cases hc : c + (c + 768) / 4 ≤ newLen
      · exact growBy_le newLen r _ hc
      · have : ∀ q, Builtin.growBy newLen q (c + (c + 768) / 4) = c + (c + 768) / 4 := by
          intro q
          cases q with
          | zero => rfl
          | succ q => unfold Builtin.growBy; rw [if_pos (by omega)]
        rw [this]; omega

theorem nextcap_le {need cap : Nat} (h : cap < need) : Builtin.nextslicecap need cap ≤ 2 * need + 200 := by
  unfold Builtin.nextslicecap
  split
  · omega
  · split
    · omega
    · have := growBy_le need 4 cap (by omega)
      omega

/-- a block laid over one that is no longer asked -/
theorem WR.adopt {i : BI} {k : Blk} {ob : Obj} (hw : WR P ι h w) (hno : ∀ b j q, ι b = some j → h.get b = some q → q.isDead = false → j.cb ≠ i.cb) (hwr : Wr ι h i.cb) (hlt : i.cb < w.heap.size)
    (u : Upd w i.cb ob w') (hb : BR P (ext ι h.nx i) i w' k) : WR P (ext ι h.nx i) (h.add k) w' ∧ Sim ι h w (ext ι h.nx i) (h.add k) w' := by
  have hm := ext_mono hw i
  have hold : ∀ c j, ext ι h.nx i c = some j → c ≠ h.nx → ι c = some j := by
    intro c j hc hne
    unfold ext at hc
    rwa [if_neg hne] at hc
  refine ⟨⟨?_, ?_, ?_, ?_, ?_⟩, ⟨hm, ?_, by simp, by rw [u.size]; exact Nat.le_refl _, ?_, ?_, fun c hc _ => by rw [get_add, if_neg (by omega)], u.os, u.tape, u.output⟩⟩
  · intro c j q hc hq
    rw [get_add] at hq
    by_cases e : h.nx = c
    · subst e
      rw [if_pos rfl] at hq; cases hq
      rw [ext_same] at hc; cases hc
      exact hb
    · rw [if_neg e] at hq
      have hc' := hold c j hc (Ne.symm e)
      cases hqd : q.isDead with
      | true => cases q <;> simp_all [Blk.isDead, BR]
      | false => exact (hw.rel c j q hc' hq).mono hm (u.other _ (hno c j q hc' hq hqd))
  · intro c c' j j' q q' hne hc hc' hq hq' hqd hqd' hr
    rw [get_add] at hq hq'
    by_cases e : h.nx = c
    · subst e
      rw [ext_same] at hc; cases hc
      rw [if_neg hne] at hq'
      exact Ne.symm (hno c' j' q' (hold c' j' hc' (Ne.symm hne)) hq' hqd')
    · rw [if_neg e] at hq
      have hc1 := hold c j hc (Ne.symm e)
      by_cases e' : h.nx = c'
      · subst e'
        rw [ext_same] at hc'; cases hc'
        exact hno c j q hc1 hq hqd
      · rw [if_neg e'] at hq'
        exact hw.inj c c' j j' q q' hne hc1 (hold c' j' hc' (Ne.symm e')) hq hq' hqd hqd' hr
  · intro c j hc
    rw [u.size]
    by_cases e : c = h.nx
    · subst e; rw [ext_same] at hc; cases hc; exact hlt
    · exact hw.lt _ _ (hold c j hc e)
  · intro c j hc
    by_cases e : c = h.nx
    · subst e; simp
    · have := hw.nx _ _ (hold c j hc e); simp; omega
  · intro c q hq
    rw [get_add] at hq
    by_cases e : h.nx = c
    · subst e; simp
    · rw [if_neg e] at hq; have := hw.hnx c q hq; simp; omega
  · intro c j hc
    by_cases e : c = h.nx
    · exact .inr (by omega)
    · exact .inl (hold c j hc e)
  · intro cb hcb ⟨c, j, q, hc, e, hq, hr⟩
    rw [get_add] at hq
    by_cases e' : h.nx = c
    · subst e'
      rw [ext_same] at hc; cases hc
      rw [← e]; exact hwr
    · rw [if_neg e'] at hq
      exact ⟨c, j, q, hold c j hc (Ne.symm e'), e, hq, hr⟩
  · intro cb hcb hn
    exact u.other cb fun e => hn (e ▸ hwr)

/-- in a block of which more may follow, a slice that ends it grows where it lies -/
theorem WR.extend {b off l n size m : Nat} {i : BI} {rows : T (List V)} {e' : Nat} {old new : List V} {xs : List Value} (hw : WR P ι h w) (hi : ι b = some i) (hb : h.get b = some (.cells e' m .loose rows))
    (hpos : 0 < size) (hold : h.load b off (l * size) = some old) (hv : VRs ι new xs) (hn : new.length = n * size) (hf : allFlat new = true)
    (hfit : i.d + off + (l + n) * size ≤ i.cn) {rows' : T (List V)} (hrows : RowsOk size rows') (hcell : ∀ j, j < (l + n) * size → cellAt size rows' j = (old ++ new)[j]?) :
    ∃ w', (storeCells ⟨i.cb, i.d + off + l * size, none⟩ xs).run P w = .ok () w' ∧
      WR P (ext ι h.nx ⟨i.cb, i.d + off, (l + n) * size, i.cn⟩) ((h.put b .dead).add (.cells size ((l + n) * size) .loose rows')) w' ∧
      Sim ι h w (ext ι h.nx ⟨i.cb, i.d + off, (l + n) * size, i.cn⟩) ((h.put b .dead).add (.cells size ((l + n) * size) .loose rows')) w' := by
  obtain ⟨h1, h2, h3, cc, t, fr, h4, h5, h6, h7, h8, h9⟩ := hw.rel b i _ hi hb
  obtain ⟨⟨l1, l2⟩, ys, v1, v2, v3, _⟩ := hw.load hi hold
  have hsum : (l + n) * size = l * size + n * size := Nat.add_mul ..
  have hxl : xs.length = n * size := by rw [hv.length, hn]
  obtain ⟨w', hr, u⟩ := run_storeCells P xs w i.cb (i.d + off + l * size) 0 cc t fr h4 (by omega) (flats_of hv hf) (fun j a1 a2 => h9 (by simp) j (by omega))
  obtain ⟨k1, k2⟩ := hw.kill hi hb (by simp [Blk.isRo, BK.isRo])
  have hno : ∀ b' j q, ι b' = some j → (h.put b .dead).get b' = some q → q.isDead = false → j.cb ≠ i.cb := by
    intro b' j q hb' hq hqd
    rw [get_put] at hq
    by_cases e : b = b'
    · rw [if_pos e] at hq; cases hq; simp [Blk.isDead] at hqd
    · rw [if_neg e] at hq
      exact Ne.symm (hw.inj b b' i j _ q e hi hb' hb hq rfl hqd (by simp [Blk.isRo, BK.isRo]))
  have hwr : Wr ι (h.put b .dead) i.cb := ⟨b, i, .dead, hi, rfl, by simp [get_put], rfl⟩
  have hbr : BR P (ext ι (h.put b .dead).nx ⟨i.cb, i.d + off, (l + n) * size, i.cn⟩) ⟨i.cb, i.d + off, (l + n) * size, i.cn⟩ w' (.cells size ((l + n) * size) .loose rows') := by
    refine ⟨rfl, hpos, hrows, _, t, fr, u.at_, by rw [putRange_size]; exact h5, hfit, fun q => (by cases q), ?_, fun _ => h9 (by simp)⟩
    intro j v hj hc
    rw [hcell j hj] at hc
    refine ⟨allFlat_get (allFlat_append l2 hf) hc, ?_⟩
    show ∃ x, (putRange cc (i.d + off + l * size + 0) xs)[i.d + off + j]? = some x ∧ _
    rw [Nat.add_zero, putRange_get _ _ _ _ (by omega)]
    by_cases q : l * size ≤ j
    · rw [List.getElem?_append_right (by omega), l1] at hc
      obtain ⟨x, hx, r⟩ := hv.get hc
      refine ⟨x, ?_, r.mono (ext_mono k1 _)⟩
      rw [if_pos (by omega), show i.d + off + j - (i.d + off + l * size) = j - l * size from by omega]
      exact hx
    · rw [List.getElem?_append_left (by omega)] at hc
      obtain ⟨x, hx, r⟩ := v1.get hc
      refine ⟨x, ?_, r.mono (ext_mono k1 _)⟩
      rw [if_neg (by omega)]
      have := v3 j x hx
      unfold World.cell? at this
      rw [h4] at this
      simpa using this
  obtain ⟨r1, r2⟩ := k1.adopt (i := ⟨i.cb, i.d + off, (l + n) * size, i.cn⟩) hno hwr (show i.cb < w.heap.size from hw.lt _ _ hi) u hbr
  exact ⟨w', hr, r1, k2.trans r2⟩

/-! ### append -/
theorem grow_rows {b off l c n size e' m : Nat} {kd : BK} {rows : T (List V)} {old new : List V} (hpos : 0 < size) (hb : h.get b = some (.cells e' m kd rows)) (hro : RowsOk e' rows) (hold : h.load b off (l * size) = some old) (ho : old.length = l * size) (hn : new.length = n * size) :
    RowsOk size (bif Nat.beq off 0 && Nat.beq e' size && Nat.beq (c * size) m then T.setMany rows l (rowsOf size n new) else newRows size (l + n) (old ++ new)) ∧
    ∀ j, j < (l + n) * size → cellAt size (bif Nat.beq off 0 && Nat.beq e' size && Nat.beq (c * size) m then T.setMany rows l (rowsOf size n new) else newRows size (l + n) (old ++ new)) j = (old ++ new)[j]? := by
  cases hc : Nat.beq off 0 && Nat.beq e' size && Nat.beq (c * size) m with
  | true =>
    simp only [Bool.and_eq_true] at hc
    obtain ⟨⟨q1, q2⟩, _⟩ := hc
    obtain rfl := Nat.eq_of_beq_eq_true q1
    obtain rfl := Nat.eq_of_beq_eq_true q2
    simp only [cond_true]
    obtain ⟨r1, r2⟩ := setMany_rows hpos rows l n new hn hro
    refine ⟨r1, fun j hj => ?_⟩
    rw [r2 j hj]
    by_cases q : l * e' ≤ j
    · rw [if_pos q, List.getElem?_append_right (by omega), ho]
    · rw [if_neg q, List.getElem?_append_left (by omega)]
      unfold Hp.load at hold
      rw [hb] at hold
      simp only at hold
      by_cases hle : 0 + l * e' ≤ m
      · rw [ble_yes hle] at hold
        simp only [cond_true] at hold
        obtain ⟨_, s2⟩ := readCells_spec hpos _ rows 0 (l * e') old hro (by omega) hold
        rw [s2 j (by omega), Nat.zero_add]
      · rw [ble_no hle] at hold; cases hold
  | false =>
    simp only [cond_false]
    have hsum : (old ++ new).length = (l + n) * size := by rw [List.length_append, ho, hn, Nat.add_mul]
    exact newRows_spec hpos _ hsum

theorem zeroCells_size (z : Array Value) (n : Nat) : (Builtin.zeroCells z n).size = n * z.size := by simp [Builtin.zeroCells]

/-- a new block of given rows -/
theorem WR.newGiven {e n : Nat} {vs : List V} {xs : List Value} {cs : Array Value} {t : TypeId} {rows : T (List V)} (hw : WR P ι h w) (hm : More w w') (hat : w'.heap[w.heap.size]? = some (.cells cs t)) (he : 0 < e) (hv : VRs ι vs xs) (hfl : allFlat vs = true)
    (hr : RowsOk e rows) (hc : ∀ j, j < n * e → cellAt e rows j = vs[j]?)
    (hcs : n * e ≤ cs.size) (hx : ∀ j, j < n * e → cs[j]? = xs[j]?) :
    WR P (ext ι h.nx ⟨w.heap.size, 0, n * e, cs.size⟩) (h.add (.cells e (n * e) .loose rows)) w' ∧
    Sim ι h w (ext ι h.nx ⟨w.heap.size, 0, n * e, cs.size⟩) (h.add (.cells e (n * e) .loose rows)) w' := by
  refine hw.new (i := ⟨w.heap.size, 0, n * e, cs.size⟩) hm (Nat.le_refl _) (lt_of_heap hat) ?_
  refine ⟨rfl, he, hr, cs, t, (0, 0), hat, rfl, by simpa using hcs, fun q => (by cases q), ?_, fun _ k _ => by simp⟩
  intro j v hj hcell
  rw [hc j hj] at hcell
  obtain ⟨x, hxx, r⟩ := hv.get hcell
  refine ⟨allFlat_get hfl hcell, x, ?_, r.mono (ext_mono hw _)⟩
  simp only [Nat.zero_add]
  rw [hx j hj]
  exact hxx

/-- how great a new row becomes -/
def newCap (w : World) (need old : Nat) (e : TypeId) : Nat := (Question.appendCap need old e).cut (w.tape w.drawn (Question.appendCap need old e))
/-- a world behind a draw -/
def drewW (w : World) : World := { w with drawn := w.drawn + 1 }

/-- WHAT AN APPEND COMES TO, BY ITS TWO WAYS: there is room; a new row. 'mk': what gives the cells that are added -/
structure AppOK (P : Program) (w : World) (X : Sem Value) (mk : Sem (Array Value)) (zs : Bool) (e : TypeId) (size bytes n : Nat) (base : Option Addr) (sLen sCap : Nat) : Prop where
  room : ∀ xs : Array Value, sLen + n ≤ sCap → mk.run P w = .ok xs w →
    X.run P w = (match base with | some a => (storeCells (a.add (sLen * size)) xs.toList).run P w | none => .ok () w).andThen fun _ w' => .ok (.slice base (sLen + n) sCap) w'
  new : ∀ (xo xn : Array Value) (z : Value), ¬ sLen + n ≤ sCap → ¬ (((sLen + n : Nat) : Int) > IntKind.i64.max ∧ (zs = true ∨ bytes = 0)) → ¬ (Builtin.nextslicecap (sLen + n) sCap * bytes > 2 ^ 48) →
    (Builtin.firstCells size sLen (.slice base sLen sCap)).run P (drewW w) = .ok xo (drewW w) → mk.run P (drewW w) = .ok xn (drewW w) → (zeroValue e).run P (drewW w) = .ok z (drewW w) →
    X.run P w = .ok (.slice (some ⟨w.heap.size, 0, none⟩) (sLen + n) (newCap w (sLen + n) sCap e)) { w with heap := w.heap.push (.cells (xo ++ xn ++ Builtin.zeroCells z.cells (newCap w (sLen + n) sCap e - (sLen + n))) e), drawn := w.drawn + 1 }

theorem ite_ff {α : Type} (x y : α) : (if false = true then x else y) = y := rfl
theorem ite_tt {α : Type} (x y : α) : (if true = true then x else y) = x := rfl

theorem append_ok {ts : Array TypeId} {rt t0 t1 e : TypeId} {d : TypeDesc} {args : Array Value} {base : Option Addr} {sLen sCap size n bytes : Nat} {y : Value} (ht0 : ts[0]? = some t0) (ha0 : args[0]? = some (.slice base sLen sCap)) (ha1 : args[1]? = some y)
    (hu : P.underlying t0 = some (.slice e)) (hsz : sizeB P e = some size) (ht1 : ts[1]? = some t1) (hd : P.underlying t1 = some d) (hni : ∀ k, d ≠ .int k) (hb : bytesB P e = some bytes) (hlen : (Builtin.lenOf y).run P w = .ok n w) :
    AppOK P w (Builtin.append_ ts rt args) (Builtin.firstCells size n y) false e size bytes n base sLen sCap := by
  obtain ⟨ti, hti, htib⟩ := info_of_bytes hb
  constructor
  · intro xs hroom hmk
    unfold Builtin.append_
    rw [ht0, ha0, ha1]
    dsimp only
    rw [Sem.run_bind, run_underlying hu, Result.andThen_ok]
    dsimp only
    rw [Sem.run_bind, run_sizeOf hsz, Result.andThen_ok, ht1]
    dsimp only
    rw [Sem.run_bind, run_underlying hd, Result.andThen_ok, Sem.run_bind, Sem.run_pure, Result.andThen_ok]
    cases d with
    | int k => exact absurd rfl (hni k)
    | _ =>
      dsimp only
      rw [if_neg Bool.false_ne_true, Sem.run_bind, hlen, Result.andThen_ok, if_pos hroom]
      simp only [Bool.not_false, if_true, Sem.run_bind, hmk, Result.andThen_ok]
      cases base <;> simp
  · intro xo xn z hroom c1 c2 ro rn hzr
    unfold Builtin.append_
    rw [ht0, ha0, ha1]
    dsimp only
    rw [Sem.run_bind, run_underlying hu, Result.andThen_ok]
    dsimp only
    rw [Sem.run_bind, run_sizeOf hsz, Result.andThen_ok, ht1]
    dsimp only
    rw [Sem.run_bind, run_underlying hd, Result.andThen_ok, Sem.run_bind, Sem.run_pure, Result.andThen_ok]
    unfold drewW at ro rn hzr
    cases d with
    | int k => exact absurd rfl (hni k)
    | _ =>
      dsimp only
      rw [if_neg Bool.false_ne_true, Sem.run_bind, hlen, Result.andThen_ok, if_neg hroom]
      simp only [Bool.false_eq_true] at c1
      simp only [Bool.not_false, if_true, Sem.run_bind, run_typeInfo hti, Result.andThen_ok, htib, c1, c2, if_false, run_choose, forced_cap, Bool.false_eq_true, run_askRoom, ro, rn, hzr, newRow, run_newObj, Sem.run_pure, newCap]

theorem append_ok_zeros {ts : Array TypeId} {rt t0 t1 e : TypeId} {k k' : IntKind} {args : Array Value} {base : Option Addr} {sLen sCap size n bytes : Nat} (ht0 : ts[0]? = some t0) (ha0 : args[0]? = some (.slice base sLen sCap)) (ha1 : args[1]? = some (.int k' (n : Int)))
    (hu : P.underlying t0 = some (.slice e)) (hsz : sizeB P e = some size) (ht1 : ts[1]? = some t1) (hd : P.underlying t1 = some (.int k)) (hb : bytesB P e = some bytes) (h1 : n * bytes ≤ 2 ^ 40) (h2 : n ≤ 2 ^ 40) :
    AppOK P w (Builtin.append_ ts rt args) (if n * size = 0 then pure #[] else zeroValue e >>= fun z => pure (Builtin.zeroCells z.cells n)) true e size bytes n base sLen sCap := by
  obtain ⟨i, hi, hib⟩ := info_of_bytes hb
  have p40 : (2 : Nat) ^ 40 = 1099511627776 := by decide
  have hwrap : IntKind.i64.wrap (n : Int) = n := wrap_i64_in (by omega) (by omega)
  have c1 : ¬ ((n : Int) < 0) := by omega
  have c2 : ¬ ((n : Int) * (bytes : Int) > 2 ^ 48) := by
    rw [← Int.natCast_mul]
    have p : (2 : Int) ^ 48 = 281474976710656 := by decide
    rw [p]; omega
  constructor
  · intro xs hroom hmk
    unfold Builtin.append_
    rw [ht0, ha0, ha1]
    dsimp only
    rw [Sem.run_bind, run_underlying hu, Result.andThen_ok]
    dsimp only
    rw [Sem.run_bind, run_sizeOf hsz, Result.andThen_ok, ht1]
    dsimp only
    rw [Sem.run_bind, run_underlying hd, Result.andThen_ok, Sem.run_bind, Sem.run_pure, Result.andThen_ok]
    dsimp only
    rw [if_pos rfl, Sem.run_bind, show (asInt (.int k' (n : Int))).run P w = .ok (n : Int) w from rfl, Result.andThen_ok, hwrap, if_neg c1, Sem.run_bind, run_typeInfo hi, Result.andThen_ok, hib, if_neg c2, Sem.run_bind, Sem.run_pure, Result.andThen_ok, Int.toNat_natCast, if_pos hroom]
    simp only [Bool.not_true, Bool.false_eq_true, if_false, Sem.run_bind, hmk, Result.andThen_ok]
    cases base <;> simp
  · intro xo xn z hroom d1 d2 ro rn hzr
    have d1' : ¬ (((sLen + n : Nat) : Int) > IntKind.i64.max) := fun q => d1 ⟨q, .inl rfl⟩
    unfold Builtin.append_
    rw [ht0, ha0, ha1]
    dsimp only
    rw [Sem.run_bind, run_underlying hu, Result.andThen_ok]
    dsimp only
    rw [Sem.run_bind, run_sizeOf hsz, Result.andThen_ok, ht1]
    dsimp only
    rw [Sem.run_bind, run_underlying hd, Result.andThen_ok, Sem.run_bind, Sem.run_pure, Result.andThen_ok]
    dsimp only
    rw [if_pos rfl, Sem.run_bind, show (asInt (.int k' (n : Int))).run P w = .ok (n : Int) w from rfl, Result.andThen_ok, hwrap, if_neg c1, Sem.run_bind, run_typeInfo hi, Result.andThen_ok, hib, if_neg c2, Sem.run_bind, Sem.run_pure, Result.andThen_ok, Int.toNat_natCast, if_neg hroom]
    unfold drewW at ro rn hzr
    simp only [Bool.not_true, Bool.false_eq_true, if_false, Sem.run_bind, run_typeInfo hi, Result.andThen_ok, hib, d1', d2, false_and, run_choose, forced_cap, run_askRoom, ro, rn, hzr, newRow, run_newObj, Sem.run_pure, newCap]

/-- what the model's append comes to -/
theorem run_append {X : Sem Value} {mk : Sem (Array Value)} {zs : Bool} {e : TypeId} {size bytes n : Nat} {zero new : List V} {us u : V} {base : Option Addr} {sLen sCap : Nat}
    (hsz : sizeB P e = some size) (hpos : 0 < size) (hby : bytesB P e = some bytes) (hbpos : 0 < bytes) (hz : zeroCellsB P e = some zero) (hx : VR ι us (.slice base sLen sCap)) (hgrow : grow h size bytes us n new = some (u, h')) (hw : WR P ι h w)
    (hX : AppOK P w X mk zs e size bytes n base sLen sCap)
    (happ : ∀ w' : World, WR P ι h w' → ∃ xs : Array Value, mk.run P w' = .ok xs w' ∧ VRs ι new xs.toList)
    (hn : new.length = n * size) (hfl : allFlat new = true) :
    ∃ ι' z w', X.run P w = .ok z w' ∧ VR ι' u z ∧ WR P ι' h' w' ∧ Sim ι h w ι' h' w' := by
  obtain ⟨ti, hti, htib⟩ := info_of_bytes hby
  have p48 : (2 : Nat) ^ 48 = 281474976710656 := by decide
  -- the way on which it makes a new block
  have makes : ∀ (need : Nat) (h1 : Hp) (old : List V) (rows' : T (List V)), sLen + n = need → sCap < need → (2 * need + 200) * bytes ≤ 2 ^ 48 → WR P ι h1 w → Sim ι h w ι h1 w →
      (∀ w' : World, WR P ι h w' → ∃ xs : Array Value, (Builtin.firstCells size sLen (.slice base sLen sCap)).run P w' = .ok xs w' ∧ VRs ι old xs.toList) → old.length = sLen * size → allFlat old = true →
      RowsOk size rows' → (∀ j, j < need * size → cellAt size rows' j = (old ++ new)[j]?) →
      ∃ ι' z w', X.run P w = .ok z w' ∧ VR ι' (.slice h1.nx 0 need need size) z ∧ WR P ι' (h1.add (.cells size (need * size) .loose rows')) w' ∧ Sim ι h w ι' (h1.add (.cells size (need * size) .loose rows')) w' := by
    intro need h1 old rows' hneed hgt hbd hw1 hs1 hold hol hofl hr hc
    subst hneed
    have hw1' : WR P ι h { w with drawn := w.drawn + 1 } := (hw.more (More.drew w)).1
    obtain ⟨xo, ro, vo⟩ := hold _ hw1'
    obtain ⟨xn, rn, vn⟩ := happ _ hw1'
    obtain ⟨z, zn, hzr, hzn, hzv, hzl, hzf⟩ := run_zeroCells (ι := ι) (w := { w with drawn := w.drawn + 1 }) hz
    obtain rfl := Option.some.inj (hsz.symm.trans hzn)
    have hzs : z.cells.size = size := by have := hzv.length; rw [Array.length_toList] at this; omega
    obtain ⟨N, hN⟩ : ∃ N, N = (Question.appendCap (sLen + n) sCap e).cut (w.tape w.drawn (Question.appendCap (sLen + n) sCap e)) := ⟨_, rfl⟩
    have hge : sLen + n ≤ N := hN ▸ cap_ge _ _ _ _
    have lo := vo.length
    have ln := vn.length
    rw [Array.length_toList] at lo ln
    have hsum : (sLen + n) * size = sLen * size + n * size := Nat.add_mul ..
    have hNs : (N - (sLen + n)) * size = N * size - (sLen + n) * size := Nat.sub_mul ..
    have hNle : (sLen + n) * size ≤ N * size := Nat.mul_le_mul_right size hge
    obtain ⟨cs, hcs⟩ : ∃ cs : Array Value, cs = xo ++ xn ++ Builtin.zeroCells z.cells (N - (sLen + n)) := ⟨_, rfl⟩
    have hcsz : cs.size = N * size := by
      rw [hcs]
      simp only [Array.size_append, zeroCells_size, hzs]
      omega
    have hmore : More w { w with heap := w.heap.push (.cells cs e), drawn := w.drawn + 1 } :=
      ⟨by simp, fun k hk => by simp only [Array.getElem?_push]; rw [if_neg (by omega)], rfl, rfl, rfl⟩
    have hg := hw1.newGiven (n := sLen + n) (vs := old ++ new) (xs := xo.toList ++ xn.toList) (cs := cs) (t := e) (rows := rows') hmore (by simp) hpos (vo.append vn) (allFlat_append hofl hfl) hr hc (by omega) (by
      intro j hj
      rw [hcs, Array.getElem?_append_left (by simp only [Array.size_append]; omega), ← Array.toList_append, Array.getElem?_toList])
    refine ⟨_, .slice (some ⟨w.heap.size, 0, none⟩) (sLen + n) N, _, ?_, ?_, hg.1, hs1.trans hg.2⟩
    · have hnc := nextcap_le hgt
      have hnb : Builtin.nextslicecap (sLen + n) sCap * bytes ≤ 2 ^ 48 := Nat.le_trans (Nat.mul_le_mul_right bytes hnc) hbd
      have hnl : sLen + n ≤ 2 ^ 48 := by
        have : (2 * (sLen + n) + 200) * 1 ≤ (2 * (sLen + n) + 200) * bytes := Nat.mul_le_mul_left _ hbpos
        omega
      have hmax : IntKind.i64.max = 9223372036854775807 := by decide
      have c1 : ¬ (((sLen + n : Nat) : Int) > IntKind.i64.max ∧ (zs = true ∨ bytes = 0)) := by rw [hmax]; omega
      have c2 : ¬ (Builtin.nextslicecap (sLen + n) sCap * bytes > 2 ^ 48) := by omega
      have := hX.new xo xn z (by omega) c1 c2 ro rn hzr
      rw [show newCap w (sLen + n) sCap e = N from hN.symm, ← hcs] at this
      exact this
    · simp only [VR]
      exact ⟨_, 0, N, ext_same _ _ _, rfl, hpos, Nat.le_refl _, by simp, .inr ⟨rfl, hge, by simp; omega, .inl (by simp)⟩⟩
  unfold grow at hgrow
  split at hgrow
  · -- nil
    simp only [VR, Value.slice.injEq] at hx
    obtain ⟨rfl, rfl, rfl⟩ := hx
    by_cases hn0 : n = 0
    · subst hn0
      rw [beq_yes rfl] at hgrow
      simp only [cond_true, Option.some.injEq, Prod.mk.injEq] at hgrow
      obtain ⟨rfl, rfl⟩ := hgrow
      obtain ⟨xs, hr, _⟩ := happ w hw
      exact ⟨ι, .slice none 0 0, w, by have := hX.room xs (by omega) hr; simpa using this, by simp [VR], hw, .refl _ _ _⟩
    · rw [beq_no hn0] at hgrow
      simp only [cond_false] at hgrow
      by_cases hb : (2 * n + 200) * bytes ≤ 2 ^ 48
      · rw [ble_yes hb] at hgrow
        simp only [cond_true, Option.some.injEq, Prod.mk.injEq] at hgrow
        obtain ⟨rfl, rfl⟩ := hgrow
        obtain ⟨r1, r2⟩ := newRows_spec hpos new hn
        exact makes n h [] (newRows size n new) (by omega) (by omega) hb hw (.refl _ _ _) (fun w' _ => ⟨#[], rfl, by simpa using VRs.nil⟩) (by simp) rfl r1 (fun j hj => by rw [r2 j hj]; rfl)
      · rw [ble_no hb] at hgrow; simp at hgrow
  · rename_i b off l c e'
    obtain ⟨i, coff, ccap, hi, hse, hpos', hlen, hcn, hr⟩ := VR_slice hx
    simp only [Value.slice.injEq] at hse
    obtain ⟨rfl, rfl, rfl⟩ := hse
    by_cases he : e' = size
    · subst he
      rw [beq_yes rfl] at hgrow
      simp only [cond_true] at hgrow
      have hccap : c ≤ sCap := by rcases hr with ⟨a1, a2⟩ | ⟨_, a2, _⟩ <;> omega
      by_cases hfit : sLen + n ≤ c
      · rw [ble_yes hfit] at hgrow
        simp only [cond_true] at hgrow
        split at hgrow
        · rename_i h1 hst
          simp only [Option.some.injEq, Prod.mk.injEq] at hgrow
          obtain ⟨rfl, rfl⟩ := hgrow
          obtain ⟨xs, rn, vn⟩ := happ w hw
          obtain ⟨w', hrun, hh⟩ := hw.store hi hst vn hn hfl
          refine ⟨ι, .slice (some ⟨i.cb, coff, none⟩) (sLen + n) sCap, w', ?_, ?_, hh.1, hh.2⟩
          · rw [hX.room xs (by omega) rn]
            simp only [add_at]
            rcases hr with ⟨a1, a2⟩ | ⟨a1, _⟩
            · have hn0 : n = 0 := by omega
              have hx0 : xs.toList = [] := List.eq_nil_of_length_eq_zero (by rw [vn.length, hn, hn0]; simp)
              rw [hx0] at hrun ⊢
              simp only [storeCells, Sem.run_pure, Result.ok.injEq, true_and] at hrun ⊢
              subst hrun
              rfl
            · rw [a1, Nat.add_assoc, hrun]
              rfl
          · simp only [VR]
            exact ⟨i, coff, sCap, hi, rfl, hpos, hfit, hcn, hr⟩
        · cases hgrow
      · rw [ble_no hfit] at hgrow
        simp only [cond_false] at hgrow
        by_cases hb : (2 * (sLen + n) + 200) * bytes ≤ 2 ^ 48
        · rw [ble_yes hb] at hgrow
          simp only [cond_true] at hgrow
          split at hgrow
          · rename_i e0 m kd rows hblk
            cases hro : kd.isRo with
            | true => rw [hro] at hgrow; simp at hgrow
            | false =>
              rw [hro] at hgrow
              simp only [cond_false] at hgrow
              split at hgrow
              · rename_i old hold
                simp only [Option.some.injEq, Prod.mk.injEq] at hgrow
                obtain ⟨rfl, rfl⟩ := hgrow
                obtain ⟨g1, g2, g3, cc, t, fr, g4, g5, g6, g7, g8, g9⟩ := hw.rel b i _ hi hblk
                obtain ⟨⟨ol, ofl⟩, _⟩ := hw.load hi hold
                obtain ⟨q1, q2⟩ := grow_rows (c := c) (n := n) hpos hblk g3 hold ol hn
                by_cases hin : sLen + n ≤ sCap
                · -- it lies where it lay
                  have hr' : coff = i.d + off ∧ i.d + off + sCap * e' ≤ i.cn ∧ off + c * e' = i.n := by
                    rcases hr with ⟨a1, a2⟩ | ⟨a1, a2, a3, a4⟩
                    · omega
                    · exact ⟨a1, a3, by rcases a4 with a4 | a4 <;> omega⟩
                  obtain ⟨rfl, hcn2, hend⟩ := hr'
                  have hmul : (c + 1) * e' ≤ sCap * e' := Nat.mul_le_mul_right e' (by omega)
                  rw [Nat.succ_mul] at hmul
                  have hkd : kd = .loose := by
                    cases kd with
                    | loose => rfl
                    | ro => simp [BK.isRo] at hro
                    | exact => have := (g7 rfl).1; omega
                  subst hkd
                  have hbeq : (BK.loose.isLoose && Nat.beq (off + c * e') m) = true := by
                    rw [beq_yes (by omega : off + c * e' = m)]; rfl
                  rw [hbeq]
                  simp only [cond_true]
                  have hfit2 : (sLen + n) * e' ≤ sCap * e' := Nat.mul_le_mul_right e' hin
                  obtain ⟨xs, rn, vn⟩ := happ w hw
                  obtain ⟨w', hrun, hh⟩ := hw.extend hi hblk hpos hold vn hn hfl (by omega) q1 q2
                  refine ⟨_, .slice (some ⟨i.cb, i.d + off, none⟩) (sLen + n) sCap, w', ?_, ?_, hh.1, hh.2⟩
                  · rw [hX.room xs hin rn]
                    simp only [add_at, hrun, Result.andThen_ok]
                  · simp only [VR, put_nx]
                    exact ⟨_, i.d + off, sCap, ext_same _ _ _, rfl, hpos, Nat.le_refl _, by simp, .inr ⟨by simp, hin, by simpa using hcn2, .inl (by simp)⟩⟩
                · -- it is laid anew
                  have hfirst : ∀ w' : World, WR P ι h w' → ∃ xs : Array Value, (Builtin.firstCells e' sLen (.slice (some ⟨i.cb, coff, none⟩) sLen sCap)).run P w' = .ok xs w' ∧ VRs ι old xs.toList := by
                    intro w' hw'
                    obtain ⟨xs, r1, r2, _⟩ := source_ok (n := sLen) (size := e') (u := .slice b off sLen c e') (new := old) hw' (by simp only [source]; rw [beq_yes rfl]; exact hold) hx (by intro k hk; simp only [lenOf, Option.some.injEq] at hk; omega)
                    exact ⟨xs, r1, r2⟩
                  cases hq : kd.isLoose && Nat.beq (off + c * e') m with
                  | true =>
                    simp only [cond_true]
                    obtain ⟨k1, k2⟩ := hw.kill hi hblk (by simpa [Blk.isRo] using hro)
                    exact makes (sLen + n) (h.put b .dead) old _ rfl (by omega) hb k1 k2 hfirst ol ofl q1 q2
                  | false =>
                    simp only [cond_false]
                    exact makes (sLen + n) h old _ rfl (by omega) hb hw (.refl _ _ _) hfirst ol ofl q1 q2
              · cases hgrow
          · cases hgrow
        · rw [ble_no hb] at hgrow; simp at hgrow
    · rw [beq_no he] at hgrow; simp at hgrow
  · cases hgrow

theorem VR_sliceLike {us : V} {x : Value} (h : us = .nilSlice ∨ ∃ b off l c e, us = .slice b off l c e) (hx : VR ι us x) : ∃ base l c, x = .slice base l c := by
  rcases h with rfl | ⟨b, off, l, c, e, rfl⟩
  · simp only [VR] at hx; exact ⟨_, _, _, hx⟩
  · obtain ⟨i, _, _, _, e, _⟩ := VR_slice hx; exact ⟨_, _, _, e⟩

theorem grow_shape {size bytes n : Nat} {us u : V} {new : List V} (hg : grow h size bytes us n new = some (u, h')) : us = .nilSlice ∨ ∃ b off l c e, us = .slice b off l c e := by
  unfold grow at hg
  split at hg
  · exact .inl rfl
  · exact .inr ⟨_, _, _, _, _, rfl⟩
  · cases hg

theorem op_append {c : Call} {t0 t1 e : TypeId} {d : TypeDesc} {s q : S} {size bytes n : Nat} {zero new : List V} {u : V} (ho : o.op = .call c) (hcal : c.callee = .builtin .append) (hl : cSs P c.args.toList = some [s, q]) (ht0 : c.argTypes[0]? = some t0) (ht1 : c.argTypes[1]? = some t1)
    (hu : P.underlying t0 = some (.slice e)) (hsz : sizeB P e = some size) (hby : bytesB P e = some bytes) (hpos : ¬ (size = 0 ∨ bytes = 0)) (hz : zeroCellsB P e = some zero) (hd : P.underlying t1 = some d) (hni : ∀ k, d ≠ .int k)
    (hlen : lenOf (ev tm q) = some n) (hsrc : source h size n (ev tm q) = some new) (hgr : grow h size bytes (ev tm s) n new = some (u, h')) (hw : WR P ι h w) (ht : TR ι tm a.tmps) (hg : GI P ι) :
    Goes P ι h w u h' ((execOp a.eval o).run P w) := by
  obtain ⟨x, hx0, hx⟩ := getD_map (j := 0) hl rfl ht hg
  obtain ⟨y, hy0, hy⟩ := getD_map (j := 1) hl rfl ht hg
  obtain ⟨base, l, cc, rfl⟩ := VR_sliceLike (grow_shape hgr) hx
  have hn : ∀ k, lenOf (ev tm q) = some k → n ≤ k := fun k hk => by rw [hlen] at hk; cases hk; exact Nat.le_refl _
  obtain ⟨_, _, _, hnl, hfl⟩ := source_ok hw hsrc hy hn
  obtain ⟨ι', z, w', hr, hv, hw', hs⟩ := run_append hsz (by omega) hby (by omega) hz hx hgr hw (append_ok (rt := o.type) ht0 hx0 hy0 hu hsz ht1 hd hni hby (lenOf_ok hlen hy)) (fun w1 h1 => by
    obtain ⟨xs, r1, r2, _⟩ := source_ok h1 hsrc hy hn
    exact ⟨xs, r1, r2⟩) hnl hfl
  refine .of (x := z) (builtin_shape ho hcal (fun _ => rfl) ?_) ⟨hw', hs⟩ hv
  exact hr

theorem VRs_zeroCells {zero : List V} {z : Array Value} (hv : VRs ι zero z.toList) (hz : z.size ≠ 0) (n : Nat) : VRs ι (zerosOf zero n) (Builtin.zeroCells z n).toList := by
  have := VRs_zeros hv n (.inl hz)
  exact this

theorem op_appendZeros {c : Call} {t0 t1 e : TypeId} {k : IntKind} {s q : S} {size bytes n : Nat} {zero : List V} {u : V} (ho : o.op = .call c) (hcal : c.callee = .builtin .append) (hl : cSs P c.args.toList = some [s, q]) (ht0 : c.argTypes[0]? = some t0) (ht1 : c.argTypes[1]? = some t1)
    (hu : P.underlying t0 = some (.slice e)) (hsz : sizeB P e = some size) (hby : bytesB P e = some bytes) (hpos : ¬ (size = 0 ∨ bytes = 0)) (hz : zeroCellsB P e = some zero) (hd : P.underlying t1 = some (.int k))
    (hlen : asNat (ev tm q) = some n) (hb1 : n * bytes ≤ 2 ^ 40) (hb2 : n ≤ 2 ^ 40) (hgr : grow h size bytes (ev tm s) n (zerosOf zero n) = some (u, h')) (hw : WR P ι h w) (ht : TR ι tm a.tmps) (hg : GI P ι) :
    Goes P ι h w u h' ((execOp a.eval o).run P w) := by
  obtain ⟨x, hx0, hx⟩ := getD_map (j := 0) hl rfl ht hg
  obtain ⟨y, hy0, hy⟩ := getD_map (j := 1) hl rfl ht hg
  obtain ⟨base, l, cc, rfl⟩ := VR_sliceLike (grow_shape hgr) hx
  obtain ⟨k', rfl⟩ := VR_nat hlen hy
  obtain ⟨_, m, _, hm, _, hzl, hzf⟩ := run_zeroCells (ι := ι) (w := w) hz
  obtain rfl := Option.some.inj (hsz.symm.trans hm)
  obtain ⟨ι', z, w', hr, hv, hw', hs⟩ := run_append hsz (by omega) hby (by omega) hz hx hgr hw (append_ok_zeros (rt := o.type) ht0 hx0 hy0 hu hsz ht1 hd hby hb1 hb2) (fun w1 h1 => by
    obtain ⟨z, m, hzr, hm2, hzv, _, _⟩ := run_zeroCells (ι := ι) (w := w1) hz
    have hzs : z.cells.size = size := by have := hzv.length; rw [Array.length_toList] at this; omega
    by_cases h0 : n * size = 0
    · have : n = 0 := by
        rcases Nat.mul_eq_zero.1 h0 with q | q
        · exact q
        · omega
      subst this
      exact ⟨#[], by simp, by simpa [zerosOf] using VRs.nil⟩
    · refine ⟨Builtin.zeroCells z.cells n, ?_, VRs_zeroCells hzv (by omega) n⟩
      simp [h0, hzr]) (by rw [zerosOf_length, hzl]) (zerosOf_flat hzf n)
  refine .of (x := z) (builtin_shape ho hcal (fun _ => rfl) ?_) ⟨hw', hs⟩ hv
  exact hr

/-! ### copy, clear -/
theorem op_copy {c : Call} {t0 e : TypeId} {s q : S} {size n m : Nat} {new : List V} (ho : o.op = .call c) (hcal : c.callee = .builtin .copy) (hl : cSs P c.args.toList = some [s, q]) (ht0 : c.argTypes[0]? = some t0)
    (hu : P.underlying t0 = some (.slice e)) (hsz : sizeB P e = some size) (hlen : lenOf (ev tm q) = some n)
    (hr : (ev tm s = .nilSlice ∧ m = 0 ∧ h' = h) ∨ ∃ b off l cap, ev tm s = .slice b off l cap size ∧ m = min n l ∧ source h size m (ev tm q) = some new ∧ h.store b off (m * size) new = some h')
    (hw : WR P ι h w) (ht : TR ι tm a.tmps) (hg : GI P ι) : Goes P ι h w (.int .i64 m) h' ((execOp a.eval o).run P w) := by
  obtain ⟨x, hx0, hx⟩ := getD_map (j := 0) hl rfl ht hg
  obtain ⟨y, hy0, hy⟩ := getD_map (j := 1) hl rfl ht hg
  have hlr := lenOf_ok (P := P) (w := w) hlen hy
  rcases hr with ⟨e1, rfl, rfl⟩ | ⟨b, off, l, cap, e1, rfl, hsrc, hst⟩
  · rw [e1] at hx
    simp only [VR] at hx
    subst hx
    have hf : ∃ xs, (Builtin.firstCells size 0 y).run P w = .ok xs w := by
      unfold lenOf at hlen
      split at hlen
      · rename_i e2; rw [e2] at hy; simp only [VR] at hy; subst hy; exact ⟨_, rfl⟩
      · rename_i e2; rw [e2] at hy; obtain ⟨b, rfl, _⟩ := VR_str hy; exact ⟨_, rfl⟩
      · rename_i e2; rw [e2] at hy; obtain ⟨i, _, _, _, rfl, _⟩ := VR_slice hy
        exact ⟨#[], by simp [Builtin.firstCells, loadCells, loadCellsFrom]⟩
      · cases hlen
    obtain ⟨xs, hxs⟩ := hf
    refine .of (ι' := ι) (x := .int .i64 0) (builtin_shape ho hcal (fun _ => rfl) ?_) ⟨hw, .refl _ _ _⟩ (by simp [VR])
    have hmin : Nat.min n 0 = 0 := Nat.min_zero n
    simp [Builtin.copy_, ht0, hx0, hy0, run_underlying hu, hlr, run_sizeOf hsz, hmin, hxs, goInt]
  · rw [e1] at hx
    obtain ⟨i, coff, ccap, hi, rfl, hpos, hlc, hcn, hcr⟩ := VR_slice hx
    obtain ⟨xs, r1, r2, r3, r4⟩ := source_ok hw hsrc hy (fun k hk => by rw [hlen] at hk; cases hk; omega)
    obtain ⟨w', hrun, hh⟩ := hw.store hi hst r2 r3 r4
    refine .of (ι' := ι) (x := .int .i64 (min n l : Nat)) (builtin_shape ho hcal (fun _ => rfl) ?_) hh (by simp [VR])
    have hmin : Nat.min n l = min n l := rfl
    have hrun' : (storeCells ⟨i.cb, coff, none⟩ xs.toList).run P w = .ok () w' := by
      rcases hcr with ⟨a1, a2⟩ | ⟨a1, _⟩
      · have hx0 : xs.toList = [] := List.eq_nil_of_length_eq_zero (by rw [r2.length, r3]; have h0 : min n l = 0 := (by omega); rw [h0, Nat.zero_mul])
        rw [hx0] at hrun ⊢
        simpa [storeCells] using hrun
      · rw [a1]; exact hrun
    simp only [Builtin.copy_, ht0, hx0, hy0, Sem.run_bind, run_underlying hu, hlr, run_sizeOf hsz, hmin, r1, Result.andThen_ok, hrun', goInt, Sem.run_pure]

theorem op_clearSlice {c : Call} {t0 e : TypeId} {s : S} {size : Nat} {zero : List V} (ho : o.op = .call c) (hcal : c.callee = .builtin .clear) (hl : cSs P c.args.toList = some [s]) (ht0 : c.argTypes[0]? = some t0)
    (hu : P.underlying t0 = some (.slice e)) (hsz : sizeB P e = some size) (hpos0 : size ≠ 0) (hz : zeroCellsB P e = some zero)
    (hr : (ev tm s = .nilSlice ∧ h' = h) ∨ ∃ b off l cap, ev tm s = .slice b off l cap size ∧ h.store b off (l * size) (zerosOf zero l) = some h')
    (hw : WR P ι h w) (ht : TR ι tm a.tmps) (hg : GI P ι) : Goes P ι h w undef h' ((execOp a.eval o).run P w) := by
  obtain ⟨x, hx0, hx⟩ := getD_map (j := 0) hl rfl ht hg
  rcases hr with ⟨e1, rfl⟩ | ⟨b, off, l, cap, e1, hst⟩
  · rw [e1] at hx
    simp only [VR] at hx
    subst hx
    refine .of (ι' := ι) (x := .tuple #[]) (builtin_shape ho hcal (fun _ => rfl) ?_) ⟨hw, .refl _ _ _⟩ VR_undef
    simp [Builtin.clear_, ht0, hx0, run_underlying hu]
  · rw [e1] at hx
    obtain ⟨i, coff, ccap, hi, rfl, hpos, hlc, hcn, hcr⟩ := VR_slice hx
    obtain ⟨z, m, hzr, hm, hzv, hzl, hzf⟩ := run_zeroCells (ι := ι) (w := w) hz
    obtain rfl := Option.some.inj (hsz.symm.trans hm)
    have hzs : z.cells.size = size := by have := hzv.length; rw [Array.length_toList] at this; omega
    obtain ⟨w', hrun, hh⟩ := hw.store hi hst (VRs_zeroCells hzv (by omega) l) (by rw [zerosOf_length, hzl]) (zerosOf_flat hzf l)
    refine .of (ι' := ι) (x := .tuple #[]) (builtin_shape ho hcal (fun _ => rfl) ?_) hh VR_undef
    cases l with
    | zero =>
      have : (Builtin.zeroCells z.cells 0).toList = [] := by simp [Builtin.zeroCells]
      rw [this] at hrun
      simp only [storeCells, Sem.run_pure, Result.ok.injEq, true_and] at hrun
      subst hrun
      simp [Builtin.clear_, ht0, hx0, run_underlying hu]
    | succ l =>
      have hco : coff = i.d + off := by rcases hcr with ⟨a1, a2⟩ | ⟨a1, _⟩ <;> omega
      subst hco
      simp [Builtin.clear_, ht0, hx0, run_underlying hu, hzr, hrun]

/-! ### min and max -/
theorem evs_minmax_int {mx : Bool} {k : IntKind} : ∀ {l : List V} {xs : List Value} {p : Int} {u : V}, evOp.minmaxInt mx k p l h = some (u, h') → VRs ι l xs →
    ∃ z, (xs.foldlM (if mx then Builtin.max2 else Builtin.min2) (.int k p)).run P w = .ok z w ∧ VR ι u z ∧ h' = h
  | [], xs, p, u, hm, hv => by
    rw [VRs_nil] at hv
    subst hv
    simp only [evOp.minmaxInt, Option.some.injEq, Prod.mk.injEq] at hm
    obtain ⟨rfl, rfl⟩ := hm
    exact ⟨_, rfl, by simp [VR], rfl⟩
  | v :: l, xs, p, u, hm, hv => by
    obtain ⟨x, ys, rfl, hx, hy⟩ := VRs_cons.1 hv
    cases v with
    | int j q =>
      simp only [evOp.minmaxInt] at hm
      cases hk : kindEq k j with
      | false => rw [hk] at hm; simp at hm
      | true =>
        rw [hk] at hm
        obtain rfl := kindEq_iff.1 hk
        simp only [cond_true] at hm
        obtain rfl := VR_int hx
        obtain ⟨z, hr, hz, e⟩ := evs_minmax_int hm hy
        refine ⟨z, ?_, hz, e⟩
        rw [List.foldlM_cons, Sem.run_bind]
        cases mx with
        | true =>
          simp only [if_true, cond_true] at hr ⊢
          have : (Builtin.max2 (.int k p) (.int k q)).run P w = .ok (.int k (bif decide (p < q) then q else p)) w := by
            simp only [Builtin.max2, Sem.run_pure]
            by_cases c : p < q <;> simp [c]
          rw [this]; exact hr
        | false =>
          simp only [Bool.false_eq_true, if_false, cond_false] at hr ⊢
          have : (Builtin.min2 (.int k p) (.int k q)).run P w = .ok (.int k (bif decide (q < p) then q else p)) w := by
            simp only [Builtin.min2, Sem.run_pure]
            by_cases c : q < p <;> simp [c]
          rw [this]; exact hr
    | _ => simp [evOp.minmaxInt] at hm

theorem evs_minmax_str {mx : Bool} : ∀ {l : List V} {xs : List Value} {p : ByteArray} {u : V}, evOp.minmaxStr mx (p.data.toList.map UInt8.toNat) l h = some (u, h') → VRs ι l xs →
    ∃ z, (xs.foldlM (if mx then Builtin.max2 else Builtin.min2) (.string p)).run P w = .ok z w ∧ VR ι u z ∧ h' = h
  | [], xs, p, u, hm, hv => by
    rw [VRs_nil] at hv
    subst hv
    simp only [evOp.minmaxStr, Option.some.injEq, Prod.mk.injEq] at hm
    obtain ⟨rfl, rfl⟩ := hm
    exact ⟨_, rfl, by simp only [VR]; exact ⟨_, rfl, rfl⟩, rfl⟩
  | v :: l, xs, p, u, hm, hv => by
    obtain ⟨x, ys, rfl, hx, hy⟩ := VRs_cons.1 hv
    cases v with
    | str q =>
      obtain ⟨q, rfl, rfl⟩ := VR_str hx
      simp only [evOp.minmaxStr] at hm
      cases mx with
      | true =>
        simp only [cond_true] at hm
        have hop : (Builtin.max2 (.string p) (.string q)).run P w = .ok (.string (if lessNats (p.data.toList.map UInt8.toNat) (q.data.toList.map UInt8.toNat) = true then q else p)) w := by
          simp only [Builtin.max2, Op.stringOp, ba_toList, less_eq, Sem.run_bind, Sem.run_pure, Result.andThen_ok, asBool]
          cases lessNats (p.data.toList.map UInt8.toNat) (q.data.toList.map UInt8.toNat) <;> simp
        have hm' : evOp.minmaxStr true ((if lessNats (p.data.toList.map UInt8.toNat) (q.data.toList.map UInt8.toNat) = true then q else p).data.toList.map UInt8.toNat) l h = some (u, h') := by
          rw [← hm]; cases lessNats (p.data.toList.map UInt8.toNat) (q.data.toList.map UInt8.toNat) <;> rfl
        obtain ⟨z, hr, hz, e⟩ := evs_minmax_str hm' hy
        refine ⟨z, ?_, hz, e⟩
        rw [List.foldlM_cons, Sem.run_bind]
        simp only [if_true] at hr ⊢
        rw [hop]; exact hr
      | false =>
        simp only [cond_false] at hm
        have hop : (Builtin.min2 (.string p) (.string q)).run P w = .ok (.string (if lessNats (q.data.toList.map UInt8.toNat) (p.data.toList.map UInt8.toNat) = true then q else p)) w := by
          simp only [Builtin.min2, Op.stringOp, Sem.run_bind, Sem.run_pure, Result.andThen_ok, asBool]
          rw [str_eq]
          simp only [ba_toList, less_eq, less_total]
          cases lessNats (q.data.toList.map UInt8.toNat) (p.data.toList.map UInt8.toNat) <;> simp
        have hm' : evOp.minmaxStr false ((if lessNats (q.data.toList.map UInt8.toNat) (p.data.toList.map UInt8.toNat) = true then q else p).data.toList.map UInt8.toNat) l h = some (u, h') := by
          rw [← hm]; cases lessNats (q.data.toList.map UInt8.toNat) (p.data.toList.map UInt8.toNat) <;> rfl
        obtain ⟨z, hr, hz, e⟩ := evs_minmax_str hm' hy
        refine ⟨z, ?_, hz, e⟩
        rw [List.foldlM_cons, Sem.run_bind]
        simp only [Bool.false_eq_true, if_false] at hr ⊢
        rw [hop]; exact hr
    | _ => simp [evOp.minmaxStr] at hm

theorem op_minmax {c : Call} {mx : Bool} {l : List S} {u : V} (ho : o.op = .call c) (hcal : c.callee = .builtin (if mx then .max else .min)) (hl : cSs P c.args.toList = some l)
    (hr : evOp tm h (.minmax mx l) = some (u, h')) (hw : WR P ι h w) (ht : TR ι tm a.tmps) (hg : GI P ι) : Goes P ι h w u h' ((execOp a.eval o).run P w) := by
  have hv := cSs_ok' ht hg hl
  simp only [evOp] at hr
  have key : ∃ z, ((if mx then Builtin.max_ else Builtin.min_) c.argTypes o.type (c.args.map a.eval)).run P w = .ok z w ∧ VR ι u z ∧ h' = h := by
    split at hr
    · rename_i k p r e
      rw [e] at hv
      obtain ⟨x, xs, e2, hx, hy⟩ := VRs_cons.1 hv
      obtain rfl := VR_int hx
      obtain ⟨z, h1, h2, h3⟩ := evs_minmax_int (P := P) (w := w) hr hy
      refine ⟨z, ?_, h2, h3⟩
      cases mx with
      | true => simp only [if_true, Builtin.max_, e2] at h1 ⊢; exact h1
      | false => simp only [Bool.false_eq_true, if_false, Builtin.min_, e2] at h1 ⊢; exact h1
    · rename_i p r e
      rw [e] at hv
      obtain ⟨x, xs, e2, hx, hy⟩ := VRs_cons.1 hv
      obtain ⟨b, rfl, rfl⟩ := VR_str hx
      obtain ⟨z, h1, h2, h3⟩ := evs_minmax_str (P := P) (w := w) hr hy
      refine ⟨z, ?_, h2, h3⟩
      cases mx with
      | true => simp only [if_true, Builtin.max_, e2] at h1 ⊢; exact h1
      | false => simp only [Bool.false_eq_true, if_false, Builtin.min_, e2] at h1 ⊢; exact h1
    · cases hr
  obtain ⟨z, h1, h2, rfl⟩ := key
  cases mx with
  | true => exact .pure hw (builtin_shape ho hcal (fun _ => rfl) h1) h2
  | false => exact .pure hw (builtin_shape ho hcal (fun _ => rfl) h1) h2
end
end Go.Ev
