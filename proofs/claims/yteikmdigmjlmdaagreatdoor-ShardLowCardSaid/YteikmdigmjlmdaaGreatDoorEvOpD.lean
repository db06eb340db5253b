/-
  The evaluator's operations stand for the model's: addresses, parts, lengths.
-/
import Derived.Test.YteikmdigmjlmdaaGreatDoorEvOpC
set_option linter.unusedVariables false
set_option linter.unusedSimpArgs false
namespace Go.Ev
section
variable {P : Program} {ι : Inj} {h h' : Hp} {w : World} {tm : T V} {a : Act} {v : V} {o : Oper}

theorem op_sliceArr {t e : TypeId} {x : Operand} {s : S} {lo hi mx : Option Operand} {sl sh sm : Option S} {n size b off l m k : Nat} (ho : o.op = .slice t x lo hi mx) (hc : cS P x = some s)
    (hu : P.underlying t = some (.array n e) ∨ ∃ arr, P.underlying t = some (.pointer arr) ∧ P.underlying arr = some (.array n e))
    (hs : sizeB P e = some size) (hpos : size ≠ 0) (hmx : (mx.isSome && hi.isNone) = false)
    (hl : cSo P lo = some sl) (hh : cSo P hi = some sh) (hm : cSo P mx = some sm) (he : ev tm s = .ptr b off) (hb : bounds tm n n sl sh sm = some (l, m, k)) (hcov : ∀ i, ι b = some i → off + n * size ≤ i.n ∧ i.d + i.n ≤ i.cn)
    (hw : WR P ι h w) (ht : TR ι tm a.tmps) (hg : GI P ι) :
    Goes P ι h w (.slice b (off + l * size) (m - l) (k - l) size) h ((execOp a.eval o).run P w) := by
  obtain ⟨i, hi', e1⟩ := VR_ptr (he ▸ cS_ok hc ht hg)
  obtain ⟨hcov1, hcov2⟩ := hcov i hi'
  obtain ⟨ck, hrun, h1, h2, h3, h4⟩ := run_bounds (P := P) (w := w) false hl hh hm hmx hb (Nat.le_refl _) (Nat.le_refl _) ht hg
  have hck : ck = k := by rcases h4 with ⟨_, q1, q2⟩ | ⟨_, q⟩ <;> omega
  subst hck
  have hrel := slice_rel (ι := ι) (coff := i.d + off) (ccap := n) hi' (by omega : 0 < size) hcov1 h1 h2 h3 (.inr ⟨rfl, Nat.le_refl _, by omega, .inr rfl⟩) (.inr rfl)
  refine .pure (x := _) hw ?_ hrel
  rcases hu with hu | ⟨arr, hu, hu2⟩
  · simp [execOp, ho, Instr.sliceAt, run_underlying hu, e1, Instr.sureAddr, hrun, run_sizeOf hs]
    split <;> simp
  · simp [execOp, ho, Instr.sliceAt, run_underlying hu, run_underlying hu2, Instr.slice, e1, asAddr, hrun, run_sizeOf hs]
    split <;> simp

theorem op_fieldAddr {t : TypeId} {x : Operand} {s : S} {fs : Array Field} {j : Nat} {f : Field} {size b off : Nat} (ho : o.op = .fieldAddr t x j) (hc : cS P x = some s) (hu : P.underlying t = some (.struct fs)) (hf : fs[j]? = some f)
    (hs : sizeB P f.type = some size) (hpos : size ≠ 0) (he : ev tm s = .ptr b off) (hw : WR P ι h w) (ht : TR ι tm a.tmps) (hg : GI P ι) :
    Goes P ι h w (.ptr b (off + f.offset)) h ((execOp a.eval o).run P w) := by
  obtain ⟨i, hi', e1⟩ := VR_ptr (he ▸ cS_ok hc ht hg)
  refine .pure (x := .pointer (some ⟨i.cb, i.d + (off + f.offset), none⟩)) hw ?_ (by simp only [VR]; exact ⟨i, hi', rfl⟩)
  simp [execOp, ho, Instr.fieldAt, run_underlying hu, hf, e1, Instr.sureAddr, fieldPlace, run_sizeOf hs, hpos, add_at, Nat.add_assoc]

theorem run_part {t : TypeId} {cs : List V} {xs : Array Value} {off size : Nat} {agg : Bool} {u : V} (hs : sizeB P t = some size) (ha : isAggB P t = some agg) (hv : VRs ι cs xs.toList) (hp : part cs off size agg = some u) :
    ∃ y, (Go.part t xs off).run P w = .ok y w ∧ VR ι u y := by
  have hl := hv.length
  rw [Array.length_toList] at hl
  cases agg with
  | true =>
    simp only [part, cond_true] at hp
    by_cases hle : off + size ≤ cs.length
    · rw [ble_yes hle] at hp
      cases hp
      refine ⟨.agg (xs.extract off (off + size)), ?_, ?_⟩
      · simp [Go.part, run_isAgg ha, run_sizeOf hs]
      · simp only [VR]
        refine ⟨_, rfl, ?_⟩
        rw [Array.toList_extract, List.extract_eq_take_drop, show off + size - off = size from by omega]
        exact (hv.drop off).take size
    · rw [ble_no hle] at hp; cases hp
  | false =>
    simp only [part, cond_false] at hp
    obtain ⟨y, hy, r⟩ := hv.get hp
    rw [Array.getElem?_toList] at hy
    exact ⟨y, by simp [Go.part, run_isAgg ha, hy], r⟩

theorem op_field {t : TypeId} {x : Operand} {s : S} {fs : Array Field} {j : Nat} {f : Field} {size : Nat} {agg : Bool} {cs : List V} {u : V} (ho : o.op = .field t x j) (hc : cS P x = some s) (hu : P.underlying t = some (.struct fs)) (hf : fs[j]? = some f)
    (hs : sizeB P f.type = some size) (ha : isAggB P f.type = some agg) (he : ev tm s = .agg cs) (hp : part cs f.offset size agg = some u) (hw : WR P ι h w) (ht : TR ι tm a.tmps) (hg : GI P ι) :
    Goes P ι h w u h ((execOp a.eval o).run P w) := by
  obtain ⟨xs, e1, hv⟩ := VR_agg (he ▸ cS_ok hc ht hg)
  obtain ⟨y, hr, r⟩ := run_part (w := w) hs ha hv hp
  refine .pure (x := y) hw ?_ r
  simp [execOp, ho, Instr.field, run_underlying hu, hf, e1, asAgg, hr]

theorem op_idxAddrArr {t e : TypeId} {x y : Operand} {s q : S} {n size b off j : Nat} (ho : o.op = .indexAddr t x y) (hc : cS P x = some s) (hd : cS P y = some q) (hu : P.underlying t = some (.array n e)) (hs : sizeB P e = some size)
    (he : ev tm s = .ptr b off) (hj : asNat (ev tm q) = some j) (hlt : j < n) (hw : WR P ι h w) (ht : TR ι tm a.tmps) (hg : GI P ι) :
    Goes P ι h w (.ptr b (off + j * size)) h ((execOp a.eval o).run P w) := by
  obtain ⟨i, hi', e1⟩ := VR_ptr (he ▸ cS_ok hc ht hg)
  obtain ⟨k, e2⟩ := VR_nat hj (cS_ok hd ht hg)
  refine .pure (x := .pointer (some ⟨i.cb, i.d + (off + j * size), none⟩)) hw ?_ (by simp only [VR]; exact ⟨i, hi', rfl⟩)
  have : (0 : Int) ≤ (j : Int) ∧ (j : Int) < (n : Int) := by omega
  simp [execOp, ho, Instr.indexAt, e2, asIntOf, run_underlying hu, e1, Instr.sureAddr, this, run_sizeOf hs, add_at, Nat.add_assoc, hlt]

theorem op_idxAddr {t e : TypeId} {x y : Operand} {s q : S} {size b off len cap j : Nat} (ho : o.op = .indexAddr t x y) (hc : cS P x = some s) (hd : cS P y = some q) (hu : P.underlying t = some (.slice e)) (hs : sizeB P e = some size)
    (he : ev tm s = .slice b off len cap size) (hj : asNat (ev tm q) = some j) (hlt : j < len) (hw : WR P ι h w) (ht : TR ι tm a.tmps) (hg : GI P ι) :
    Goes P ι h w (.ptr b (off + j * size)) h ((execOp a.eval o).run P w) := by
  obtain ⟨i, coff, ccap, hi', e1, hpos, hlen, hn, hr⟩ := VR_slice (he ▸ cS_ok hc ht hg)
  obtain ⟨k, e2⟩ := VR_nat hj (cS_ok hd ht hg)
  have hco : coff = i.d + off := by rcases hr with ⟨a1, a2⟩ | ⟨a1, _⟩ <;> omega
  subst hco
  refine .pure (x := .pointer (some ⟨i.cb, i.d + (off + j * size), none⟩)) hw ?_ (by simp only [VR]; exact ⟨i, hi', rfl⟩)
  have : (0 : Int) ≤ (j : Int) ∧ (j : Int) < (len : Int) := by omega
  simp [execOp, ho, Instr.indexAt, e2, asIntOf, run_underlying hu, e1, this, run_sizeOf hs, add_at, Nat.add_assoc, hlt]

theorem op_idxArr {t e : TypeId} {x y : Operand} {s q : S} {n size j : Nat} {agg : Bool} {cs : List V} {u : V} (ho : o.op = .index t x y) (hc : cS P x = some s) (hd : cS P y = some q) (hu : P.underlying t = some (.array n e)) (hs : sizeB P e = some size)
    (ha : isAggB P e = some agg) (he : ev tm s = .agg cs) (hj : asNat (ev tm q) = some j) (hlt : j < n) (hp : part cs (j * size) size agg = some u) (hw : WR P ι h w) (ht : TR ι tm a.tmps) (hg : GI P ι) :
    Goes P ι h w u h ((execOp a.eval o).run P w) := by
  obtain ⟨xs, e1, hv⟩ := VR_agg (he ▸ cS_ok hc ht hg)
  obtain ⟨k, e2⟩ := VR_nat hj (cS_ok hd ht hg)
  obtain ⟨y, hr, r⟩ := run_part (w := w) hs ha hv hp
  refine .pure (x := y) hw ?_ r
  have : (0 : Int) ≤ (j : Int) ∧ (j : Int) < (n : Int) := by omega
  simp [execOp, ho, Instr.index, e2, asIntOf, run_underlying hu, e1, this, run_sizeOf hs, hr, hlt]

theorem op_idxStr {t : TypeId} {x y : Operand} {s q : S} {l : List Nat} {j c : Nat} (ho : o.op = .index t x y) (hc : cS P x = some s) (hd : cS P y = some q) (hu : P.underlying t = some .string)
    (he : ev tm s = .str l) (hj : asNat (ev tm q) = some j) (hlt : l[j]? = some c) (hw : WR P ι h w) (ht : TR ι tm a.tmps) (hg : GI P ι) :
    Goes P ι h w (.int .u8 c) h ((execOp a.eval o).run P w) := by
  obtain ⟨b, e1, rfl⟩ := VR_str (he ▸ cS_ok hc ht hg)
  obtain ⟨k, e2⟩ := VR_nat hj (cS_ok hd ht hg)
  refine .pure (x := .int .u8 c) hw ?_ (by simp [VR])
  rw [List.getElem?_map, Array.getElem?_toList] at hlt
  have hb : b[j]? = b.data[j]? := by
    by_cases hjs : j < b.size
    · rw [getElem?_pos b j hjs, Array.getElem?_eq_getElem (show j < b.data.size from hjs)]; rfl
    · rw [getElem?_neg b j hjs]; symm; exact Array.getElem?_eq_none (by have : b.data.size = b.size := rfl; omega)
  cases hbj : b.data[j]? with
  | none => rw [hbj] at hlt; cases hlt
  | some u =>
    rw [hbj] at hlt
    simp only [Option.map_some, Option.some.injEq] at hlt
    subst hlt
    rw [hbj] at hb
    simp [execOp, ho, Instr.index, e2, asIntOf, run_underlying hu, e1, hb]

theorem op_extract {x : Operand} {s : S} {j : Nat} {vs : List V} {u : V} (ho : o.op = .extract x j) (hc : cS P x = some s) (he : ev tm s = .tuple vs) (hu : vs[j]? = some u) (hw : WR P ι h w) (ht : TR ι tm a.tmps) (hg : GI P ι) :
    Goes P ι h w u h ((execOp a.eval o).run P w) := by
  obtain ⟨xs, e1, hv⟩ := VR_tuple (he ▸ cS_ok hc ht hg)
  obtain ⟨y, hy, r⟩ := hv.get hu
  rw [Array.getElem?_toList] at hy
  refine .pure (x := y) hw ?_ r
  simp [execOp, ho, Instr.extract, e1, hy]

/-! ### Built-in functions -/
theorem builtin_shape {c : Call} {b : Builtin} {s : Sem Value} (ho : o.op = .call c) (hcal : c.callee = .builtin b)
    (hb : ∀ cs, builtin b c.argTypes o.type cs (c.args.map a.eval) = (do pure (.value (← s)))) {x : Value} {w' : World} (hr : s.run P w = .ok x w') :
    (execOp a.eval o).run P w = .ok (.value x) w' := by
  simp [execOp, ho, resolve, hcal, invoke, hb, hr]

theorem getD_map {xs : Array Operand} {l : List S} (hl : cSs P xs.toList = some l) {j : Nat} {s : S} (hj : l[j]? = some s) (ht : TR ι tm a.tmps) (hg : GI P ι) :
    ∃ y, (xs.map a.eval)[j]? = some y ∧ VR ι (ev tm s) y := by
  have h1 := cSs_ok' ht hg hl
  have : (evs tm l)[j]? = some (ev tm s) := by
    clear h1 hl
    induction l generalizing j with
    | nil => simp at hj
    | cons q l ih => cases j with
      | zero => simp at hj; subst hj; rfl
      | succ j => simp at hj; simpa [evs] using ih hj
  obtain ⟨y, hy, r⟩ := h1.get this
  exact ⟨y, by rwa [Array.getElem?_toList] at hy, r⟩

theorem op_lenConst {c : Call} {t arr e : TypeId} {s : S} {n : Nat} (ho : o.op = .call c) (hcal : c.callee = .builtin .len) (hl : cSs P c.args.toList = some [s]) (ht0 : c.argTypes[0]? = some t)
    (hu : P.underlying t = some (.array n e) ∨ (P.underlying t = some (.pointer arr) ∧ P.underlying arr = some (.array n e))) (hw : WR P ι h w) (ht : TR ι tm a.tmps) (hg : GI P ι) :
    Goes P ι h w (.int .i64 n) h ((execOp a.eval o).run P w) := by
  obtain ⟨y, hy, _⟩ := getD_map (j := 0) hl rfl ht hg
  refine .pure (x := .int .i64 n) hw (builtin_shape ho hcal (fun _ => rfl) ?_) (by simp [VR])
  rcases hu with hu | ⟨hu, hu2⟩
  · simp only [Builtin.len_, ht0, hy, Sem.run_bind, run_underlying hu, Result.andThen_ok]
    cases y <;> rfl
  · simp only [Builtin.len_, ht0, hy, Sem.run_bind, run_underlying hu, Result.andThen_ok]
    cases y <;> simp [run_underlying hu2, goInt]

theorem op_len_str {c : Call} {t : TypeId} {s : S} {l : List Nat} (ho : o.op = .call c) (hcal : c.callee = .builtin .len) (hl : cSs P c.args.toList = some [s]) (ht0 : c.argTypes[0]? = some t)
    (hu : P.underlying t = some .string) (he : ev tm s = .str l) (hw : WR P ι h w) (ht : TR ι tm a.tmps) (hg : GI P ι) :
    Goes P ι h w (.int .i64 l.length) h ((execOp a.eval o).run P w) := by
  obtain ⟨y, hy, r⟩ := getD_map (j := 0) hl rfl ht hg
  rw [he] at r
  obtain ⟨b, rfl, rfl⟩ := VR_str r
  refine .pure (x := .int .i64 b.size) hw (builtin_shape ho hcal (fun _ => rfl) ?_) (by simp only [VR, str_len])
  simp [Builtin.len_, ht0, hy, run_underlying hu, goInt]

theorem op_len_slice {c : Call} {t e : TypeId} {s : S} (ho : o.op = .call c) (hcal : c.callee = .builtin .len) (hl : cSs P c.args.toList = some [s]) (ht0 : c.argTypes[0]? = some t)
    (hu : P.underlying t = some (.slice e)) {n : Nat} (he : (ev tm s = .nilSlice ∧ n = 0) ∨ ∃ b off cap e, ev tm s = .slice b off n cap e) (hw : WR P ι h w) (ht : TR ι tm a.tmps) (hg : GI P ι) :
    Goes P ι h w (.int .i64 n) h ((execOp a.eval o).run P w) := by
  obtain ⟨y, hy, r⟩ := getD_map (j := 0) hl rfl ht hg
  refine .pure (x := .int .i64 n) hw (builtin_shape ho hcal (fun _ => rfl) ?_) (by simp [VR])
  rcases he with ⟨he, rfl⟩ | ⟨b, off, cap, e', he⟩
  · rw [he] at r
    simp only [VR] at r
    subst r
    simp [Builtin.len_, ht0, hy, run_underlying hu, goInt]
  · rw [he] at r
    obtain ⟨i, coff, ccap, _, rfl, _⟩ := VR_slice r
    simp [Builtin.len_, ht0, hy, run_underlying hu, goInt]

theorem ER.length : ∀ {es : List (V × V)} {l : List MapEntry}, ER ι es l → l.length = es.length
  | [], _, h => by simp only [ER] at h; subst h; rfl
  | (k, v) :: es, _, ⟨e, r, q, _, _, h3⟩ => by subst q; simp [ER.length h3]

theorem op_len_map {c : Call} {t k e : TypeId} {s : S} (ho : o.op = .call c) (hcal : c.callee = .builtin .len) (hl : cSs P c.args.toList = some [s]) (ht0 : c.argTypes[0]? = some t)
    (hu : P.underlying t = some (.map k e)) {n : Nat} (he : (ev tm s = .nilMap ∧ n = 0) ∨ ∃ b es, ev tm s = .map b ∧ h.get b = some (.map es) ∧ n = es.length) (hw : WR P ι h w) (ht : TR ι tm a.tmps) (hg : GI P ι) :
    Goes P ι h w (.int .i64 n) h ((execOp a.eval o).run P w) := by
  obtain ⟨y, hy, r⟩ := getD_map (j := 0) hl rfl ht hg
  refine .pure (x := .int .i64 n) hw (builtin_shape ho hcal (fun _ => rfl) ?_) (by simp [VR])
  rcases he with ⟨he, rfl⟩ | ⟨b, es, he, hb, rfl⟩
  · rw [he] at r
    simp only [VR] at r
    subst r
    simp [Builtin.len_, ht0, hy, run_underlying hu, goInt]
  · rw [he] at r
    obtain ⟨i, hi, rfl⟩ := VR_map r
    obtain ⟨l, clock, hat, her⟩ := hw.rel b i _ hi hb
    have hlen := her.length
    rw [Array.length_toList] at hlen
    simp [Builtin.len_, ht0, hy, run_underlying hu, goInt, Go.getObj, Sem.run, hat, hlen]

theorem op_cap {c : Call} {t e : TypeId} {s : S} (ho : o.op = .call c) (hcal : c.callee = .builtin .cap) (hl : cSs P c.args.toList = some [s]) (ht0 : c.argTypes[0]? = some t)
    (hu : P.underlying t = some (.slice e)) {n : Nat} (he : (ev tm s = .nilSlice ∧ n = 0) ∨ ∃ b off len e' e0 m kd rows, ev tm s = .slice b off len n e' ∧ h.get b = some (.cells e0 m kd rows) ∧ (kd.isExact || Nat.blt (off + n * e') m) = true)
    (hw : WR P ι h w) (ht : TR ι tm a.tmps) (hg : GI P ι) :
    Goes P ι h w (.int .i64 n) h ((execOp a.eval o).run P w) := by
  obtain ⟨y, hy, r⟩ := getD_map (j := 0) hl rfl ht hg
  refine .pure (x := .int .i64 n) hw (builtin_shape ho hcal (fun _ => rfl) ?_) (by simp [VR])
  rcases he with ⟨he, rfl⟩ | ⟨b, off, len, e', e0, m, kd, rows, he, hb, hk⟩
  · rw [he] at r
    simp only [VR] at r
    subst r
    simp [Builtin.cap_, ht0, hy, run_underlying hu, goInt]
  · rw [he] at r
    obtain ⟨i, coff, ccap, hi, rfl, hpos, hlen, hn, hr⟩ := VR_slice r
    obtain ⟨b1, b2, b3, cc, tt, fr, b4, b5, b6, b7, _⟩ := hw.rel b i _ hi hb
    have : ccap = n := by
      rcases hr with ⟨a1, a2⟩ | ⟨a1, a2, a3, a4⟩
      · omega
      · rcases a4 with a4 | a4
        · simp only [Bool.or_eq_true] at hk
          rcases hk with hk | hk
          · have hex : kd = .exact := by cases kd <;> simp_all [BK.isExact]
            have hd := (b7 hex).1
            have hle : ccap * e' ≤ n * e' := by omega
            have := Nat.le_of_mul_le_mul_right hle hpos
            omega
          · have := Nat.le_of_ble_eq_true hk
            omega
        · exact a4
    subst this
    simp [Builtin.cap_, ht0, hy, run_underlying hu, goInt]
end
end Go.Ev
