/-
  The evaluator's operations stand for the model's: operands, constants, types; operations that do not touch memory.
-/
import Derived.Test.YteikmdigmjlmdaaGreatDoorEvMem
import Derived.CallsIn
import Derived.IntWalk
set_option linter.unusedVariables false
set_option linter.unusedSimpArgs false
namespace Go.Ev

/-- the model's variables of the package level lie at their own numbers -/
def GI (P : Program) (ι : Inj) : Prop := ∀ g, g < P.globals.size → ∃ n cn, ι g = some ⟨g, 0, n, cn⟩

theorem GI.mono {P : Program} {ι ι' : Inj} (hm : ∀ b i, ι b = some i → ι' b = some i) (h : GI P ι) : GI P ι' :=
  fun g hg => let ⟨n, cn, e⟩ := h g hg; ⟨n, cn, hm _ _ e⟩

section
variable {P : Program} {ι : Inj}

theorem toV1_ok {v : Value} {u : V} (h : toV.toV1 v = some u) : VR ι u v := by
  cases v with
  | bool b => simp only [toV.toV1, Option.some.injEq] at h; subst h; simp [VR]
  | int k n => simp only [toV.toV1, Option.some.injEq] at h; subst h; simp [VR]
  | string s => simp only [toV.toV1, Option.some.injEq] at h; subst h; simp [VR]
  | pointer a => cases a with
    | none => simp only [toV.toV1, Option.some.injEq] at h; subst h; simp [VR]
    | some a => simp [toV.toV1] at h
  | slice a l c =>
    cases a with
    | some a => simp [toV.toV1] at h
    | none =>
      cases l with
      | succ l => simp [toV.toV1] at h
      | zero => cases c with
        | succ c => simp [toV.toV1] at h
        | zero => simp only [toV.toV1, Option.some.injEq] at h; subst h; simp [VR]
  | map a => cases a with
    | none => simp only [toV.toV1, Option.some.injEq] at h; subst h; simp [VR]
    | some a => simp [toV.toV1] at h
  | nilFunc => simp only [toV.toV1, Option.some.injEq] at h; subst h; simp [VR]
  | nilIface => simp only [toV.toV1, Option.some.injEq] at h; subst h; simp [VR]
  | _ => simp [toV.toV1] at h

theorem toVgo_ok : ∀ {l : List Value} {r : List V}, toV.go l = some r → VRs ι r l
  | [], r, h => by simp only [toV.go, Option.some.injEq] at h; subst h; exact VRs.nil
  | v :: l, r, h => by
    simp only [toV.go] at h
    split at h
    · rename_i x r' h1 h2
      cases h
      exact VRs.cons (toV1_ok h1) (toVgo_ok h2)
    · cases h

theorem toV_ok {v : Value} {u : V} (h : toV v = some u) : VR ι u v := by
  cases v with
  | bool b => simp only [toV, Option.some.injEq] at h; subst h; simp [VR]
  | int k n => simp only [toV, Option.some.injEq] at h; subst h; simp [VR]
  | string s => simp only [toV, Option.some.injEq] at h; subst h; simp [VR]
  | pointer a => cases a with
    | none => simp only [toV, Option.some.injEq] at h; subst h; simp [VR]
    | some a => simp [toV] at h
  | slice a l c =>
    cases a with
    | some a => simp [toV] at h
    | none =>
      cases l with
      | succ l => simp [toV] at h
      | zero => cases c with
        | succ c => simp [toV] at h
        | zero => simp only [toV, Option.some.injEq] at h; subst h; simp [VR]
  | map a => cases a with
    | none => simp only [toV, Option.some.injEq] at h; subst h; simp [VR]
    | some a => simp [toV] at h
  | nilFunc => simp only [toV, Option.some.injEq] at h; subst h; simp [VR]
  | nilIface => simp only [toV, Option.some.injEq] at h; subst h; simp [VR]
  | agg cs =>
    simp only [toV] at h
    split at h
    · rename_i l hl
      cases h
      simp only [VR]
      exact ⟨cs, rfl, toVgo_ok hl⟩
    · cases h
  | tuple cs =>
    simp only [toV] at h
    split at h
    · rename_i l hl
      cases h
      simp only [VR]
      exact ⟨cs, rfl, toVgo_ok hl⟩
    · cases h
  | _ => simp [toV] at h

theorem cS_ok {x : Operand} {s : S} {tm : T V} {a : Act} (hc : cS P x = some s) (ht : TR ι tm a.tmps) (hg : GI P ι) : VR ι (ev tm s) (a.eval x) := by
  cases x with
  | tmp t => simp only [cS, Option.some.injEq] at hc; subst hc; exact ht t
  | const v =>
    simp only [cS, Option.map_eq_some_iff] at hc
    obtain ⟨u, hu, rfl⟩ := hc
    exact toV_ok hu
  | global g =>
    simp only [cS] at hc
    split at hc
    · rename_i h
      cases hc
      obtain ⟨n, cn, e⟩ := hg g h
      simp only [ev, VR]
      exact ⟨_, e, by simp [Act.eval]⟩
    · cases hc
  | func f => simp only [cS, Option.some.injEq] at hc; subst hc; simp [ev, VR, Act.eval, VRs]

theorem cSs_ok {tm : T V} {a : Act} (ht : TR ι tm a.tmps) (hg : GI P ι) : ∀ {l : List Operand} {r : List S}, cSs P l = some r → VRs ι (evs tm r) (l.map a.eval)
  | [], r, h => by simp only [cSs, Option.some.injEq] at h; subst h; exact VRs.nil
  | x :: l, r, h => by
    simp only [cSs] at h
    split at h
    · rename_i s r' h1 h2
      cases h
      exact VRs.cons (cS_ok h1 ht hg) (cSs_ok ht hg h2)
    · cases h

theorem cSs_ok' {tm : T V} {a : Act} {xs : Array Operand} {r : List S} (ht : TR ι tm a.tmps) (hg : GI P ι) (h : cSs P xs.toList = some r) : VRs ι (evs tm r) (xs.map a.eval).toList := by
  have := cSs_ok ht hg h
  simpa using this

/-! ### Types -/
theorem run_typeInfo {w : World} {t : TypeId} {i : TypeInfo} (h : P.info? t = some i) : (typeInfo t).run P w = .ok i w := by simp [typeInfo, h]
theorem run_underlying {w : World} {t : TypeId} {d : TypeDesc} (h : P.underlying t = some d) : (underlying t).run P w = .ok d w := by simp [underlying, h]
theorem run_sizeOf {w : World} {t : TypeId} {n : Nat} (h : sizeB P t = some n) : (sizeOf t).run P w = .ok n w := by
  simp only [sizeB, Option.map_eq_some_iff] at h
  obtain ⟨i, hi, rfl⟩ := h
  simp [sizeOf, run_typeInfo hi]
theorem info_of_bytes {t : TypeId} {n : Nat} (h : bytesB P t = some n) : ∃ i, P.info? t = some i ∧ i.bytes = n := by
  simp only [bytesB, Option.map_eq_some_iff] at h
  exact h
theorem run_isAgg {w : World} {t : TypeId} {b : Bool} (h : isAggB P t = some b) : (isAgg t).run P w = .ok b w := by
  unfold isAggB at h
  unfold isAgg
  split at h
  · rename_i hu; cases h; simp [run_underlying hu]
  · rename_i hu; cases h; simp [run_underlying hu]
  · rename_i d h1 h2 hu
    cases h
    simp only [Sem.run_bind, run_underlying hu, Result.andThen_ok]
    rfl
  · cases h
theorem run_zero {w : World} {t : TypeId} {z : V} (h : zeroB P t = some z) : ∃ x, (zeroValue t).run P w = .ok x w ∧ VR ι z x := by
  unfold zeroB at h
  split at h
  · rename_i i hi
    split at h
    · rename_i x hx
      exact ⟨x, by simp [zeroValue, run_typeInfo hi, hx], toV_ok h⟩
    · cases h
  · cases h
theorem run_zeroCells {w : World} {t : TypeId} {zs : List V} (h : zeroCellsB P t = some zs) : ∃ x n, (zeroValue t).run P w = .ok x w ∧ sizeB P t = some n ∧ VRs ι zs x.cells.toList ∧ zs.length = n ∧ allFlat zs = true := by
  unfold zeroCellsB at h
  split at h
  · rename_i z n hz hn
    split at h
    · rename_i hh
      cases h
      obtain ⟨x, hx, r⟩ := run_zero (ι := ι) (w := w) hz
      exact ⟨x, n, hx, hn, r.cells, hh.1, hh.2⟩
    · cases h
  · cases h

/-! ### What an operation's soundness says -/
/-- the model's operation has come to what the evaluator's came to -/
def Goes (P : Program) (ι : Inj) (h : Hp) (w : World) (v : V) (h' : Hp) (r : Result Next) : Prop :=
  ∃ ι' x w', (r = .ok (.value x) w' ∨ (x = Go.undef ∧ r = .ok .skip w')) ∧ WR P ι' h' w' ∧ Sim ι h w ι' h' w' ∧ VR ι' v x

theorem Goes.pure {h : Hp} {w : World} {v : V} {x : Value} {r : Result Next} (hw : WR P ι h w) (hr : r = .ok (.value x) w) (hv : VR ι v x) : Goes P ι h w v h r :=
  ⟨ι, x, w, .inl hr, hw, .refl _ _ _, hv⟩

theorem Goes.of {ι' : Inj} {h h' : Hp} {w w' : World} {v : V} {x : Value} {r : Result Next} (hr : r = .ok (.value x) w') (hw : WR P ι' h' w' ∧ Sim ι h w ι' h' w') (hv : VR ι' v x) : Goes P ι h w v h' r :=
  ⟨ι', x, w', .inl hr, hw.1, hw.2, hv⟩

theorem Goes.skip {ι' : Inj} {h h' : Hp} {w w' : World} {r : Result Next} (hr : r = .ok .skip w') (hw : WR P ι' h' w' ∧ Sim ι h w ι' h' w') : Goes P ι h w undef h' r :=
  ⟨ι', Go.undef, w', .inr ⟨rfl, hr⟩, hw.1, hw.2, VR_undef⟩

theorem ext_mono' {b : Nat} (hb : ι b = none) (i : BI) : ∀ c j, ι c = some j → ext ι b i c = some j := by
  intro c j hc
  unfold ext
  rw [if_neg]
  · exact hc
  · intro e; subst e; rw [hb] at hc; cases hc

theorem WR.free {h : Hp} {w : World} (hw : WR P ι h w) : ι h.nx = none := by
  cases q : ι h.nx with
  | none => rfl
  | some i => exact absurd (hw.nx _ _ q) (Nat.lt_irrefl _)

/-- a new block of the model's stands behind the abstract block b -/
def Made (P : Program) (ι : Inj) (w : World) (b : Nat) (v : V) (k : Blk) (r : Result Next) : Prop :=
  ∃ i x w', r = .ok (.value x) w' ∧ (More w w' ∧ w.heap.size ≤ i.cb ∧ i.cb < w'.heap.size ∧ BR P (ext ι b i) i w' k) ∧ VR (ext ι b i) v x

theorem Made.of {w w' : World} {b : Nat} {v : V} {k : Blk} {r : Result Next} {i : BI} {x : Value} (hr : r = .ok (.value x) w')
    (hm : More w w' ∧ w.heap.size ≤ i.cb ∧ i.cb < w'.heap.size ∧ BR P (ext ι b i) i w' k) (hv : VR (ext ι b i) v x) : Made P ι w b v k r := ⟨i, x, w', hr, hm, hv⟩

theorem Made.goes {h : Hp} {w : World} {v : V} {k : Blk} {r : Result Next} (m : Made P ι w h.nx v k r) (hw : WR P ι h w) : Goes P ι h w v (h.add k) r :=
  let ⟨_, _, _, hr, ⟨h1, h2, h3, h4⟩, hv⟩ := m
  .of hr (hw.new h1 h2 h3 h4) hv

theorem made_newBlk {b e n : Nat} {kd : BK} {vs : List V} {xs : List Value} {cs : Array Value} {t : TypeId} {w : World} (hb : ι b = none) (he : 0 < e) (hv : VRs ι vs xs) (hn : vs.length = n * e) (hfl : allFlat vs = true)
    (hcs : n * e ≤ cs.size) (hx : ∀ j, j < n * e → cs[j]? = xs[j]?) (hex : kd = .exact → cs.size = n * e) :
    More w { w with heap := w.heap.push (.cells cs t) } ∧ w.heap.size ≤ (⟨w.heap.size, 0, n * e, cs.size⟩ : BI).cb ∧ (⟨w.heap.size, 0, n * e, cs.size⟩ : BI).cb < ({ w with heap := w.heap.push (.cells cs t) } : World).heap.size ∧
      BR P (ext ι b ⟨w.heap.size, 0, n * e, cs.size⟩) ⟨w.heap.size, 0, n * e, cs.size⟩ { w with heap := w.heap.push (.cells cs t) } (.cells e (n * e) kd (newRows e n vs)) := by
  obtain ⟨r1, r2⟩ := newRows_spec he vs hn
  refine ⟨More.push w _, Nat.le_refl _, by simp, ?_⟩
  refine ⟨rfl, he, r1, cs, t, (0, 0), heap_push w _, rfl, by simpa using hcs, fun q => ⟨by simpa using (hex q).symm, rfl⟩, ?_, fun _ k _ => by simp⟩
  intro j v hj hc
  rw [r2 j hj] at hc
  obtain ⟨x, hxx, r⟩ := hv.get hc
  refine ⟨allFlat_get hfl hc, x, ?_, r.mono (ext_mono' hb _)⟩
  simp only [Nat.zero_add]
  rw [hx j hj]
  exact hxx

/-- shapes of values -/
theorem VR_bool {b : Bool} {x : Value} (h : VR ι (.bool b) x) : x = .bool b := by simpa [VR] using h
theorem VR_int {k : IntKind} {n : Int} {x : Value} (h : VR ι (.int k n) x) : x = .int k n := by simpa [VR] using h
theorem VR_str {s : List Nat} {x : Value} (h : VR ι (.str s) x) : ∃ a : ByteArray, x = .string a ∧ a.data.toList.map UInt8.toNat = s := by simpa [VR] using h
theorem VR_ptr {b off : Nat} {x : Value} (h : VR ι (.ptr b off) x) : ∃ i, ι b = some i ∧ x = .pointer (some ⟨i.cb, i.d + off, none⟩) := by simpa [VR] using h
theorem VR_agg {cs : List V} {x : Value} (h : VR ι (.agg cs) x) : ∃ a : Array Value, x = .agg a ∧ VRs ι cs a.toList := by simpa [VR] using h
theorem VR_tuple {cs : List V} {x : Value} (h : VR ι (.tuple cs) x) : ∃ a : Array Value, x = .tuple a ∧ VRs ι cs a.toList := by simpa [VR] using h
theorem VR_map {b : Nat} {x : Value} (h : VR ι (.map b) x) : ∃ i, ι b = some i ∧ x = .map (some i.cb) := by simpa [VR] using h
theorem VR_slice {b off len cap e : Nat} {x : Value} (h : VR ι (.slice b off len cap e) x) : ∃ i coff ccap, ι b = some i ∧ x = .slice (some ⟨i.cb, coff, none⟩) len ccap ∧ 0 < e ∧ len ≤ cap ∧ off + cap * e ≤ i.n ∧
      ((cap = 0 ∧ ccap = 0) ∨ (coff = i.d + off ∧ cap ≤ ccap ∧ i.d + off + ccap * e ≤ i.cn ∧ (off + cap * e = i.n ∨ ccap = cap))) := by simpa [VR] using h

theorem kindEq_iff {j k : IntKind} : kindEq j k = true ↔ j = k := by cases j <;> cases k <;> simp [kindEq]

theorem asNat_some {v : V} {n : Nat} (h : asNat v = some n) : ∃ k, v = .int k (n : Int) := by
  unfold asNat at h
  split at h
  · cases h; exact ⟨_, rfl⟩
  · cases h

theorem wrap_i64_in {n : Int} (h1 : -9223372036854775808 ≤ n) (h2 : n ≤ 9223372036854775807) : IntKind.i64.wrap n = n :=
  IntWalk.i64_in n ⟨h1, h2⟩

theorem wrapK_eq (k : IntKind) (n : Int) : wrapK k n = k.wrap n := by
  cases k <;> try rfl
  show (bif decide (-9223372036854775808 ≤ n) && decide (n ≤ 9223372036854775807) then n else IntKind.i64.wrap n) = _
  by_cases h1 : -9223372036854775808 ≤ n
  · by_cases h2 : n ≤ 9223372036854775807
    · simp [h1, h2, wrap_i64_in h1 h2]
    · simp [h2]
  · simp [h1]

theorem eqNats_iff : ∀ {a b : List Nat}, eqNats a b = true ↔ a = b
  | [], [] => by simp [eqNats]
  | [], b :: y => by simp [eqNats]
  | a :: x, [] => by simp [eqNats]
  | a :: x, b :: y => by
    simp only [eqNats, List.cons.injEq]
    by_cases e : a = b
    · rw [beq_yes e]; simp [e, eqNats_iff]
    · rw [beq_no e]; simp [e]

theorem eqNats_eq (a b : List Nat) : eqNats a b = decide (a = b) := by
  by_cases h : a = b
  · rw [eqNats_iff.2 h]; simp [h]
  · cases e : eqNats a b with
    | false => simp [h]
    | true => exact absurd (eqNats_iff.1 e) h
end
end Go.Ev
