/-
  Functions without a walk that count or find a byte in a text: what the evaluator takes them to answer.
-/
import Derived.Test.YteikmdigmjlmdaaGreatDoorEvSound
import Derived.Laws.Externs
import Derived.Lib.Bytealg
set_option linter.unusedVariables false
set_option linter.unusedSimpArgs false
namespace Go.Ev

def countB (c : Nat) : List Nat → Nat
  | [] => 0
  | x :: l => bif Nat.beq x c then countB c l + 1 else countB c l

theorem countB_eq (c : Nat) (hc : c < 256) : ∀ l : List UInt8, countB c (l.map UInt8.toNat) = l.count c.toUInt8
  | [] => rfl
  | x :: l => by
    have e : Nat.beq x.toNat c = (x == c.toUInt8) := by
      have h : (x == c.toUInt8) = true ↔ x.toNat = c := by
        rw [beq_iff_eq]
        constructor
        · rintro rfl; simp [Nat.mod_eq_of_lt hc]
        · intro q; apply UInt8.toNat_inj.1; rw [q]; simp [Nat.mod_eq_of_lt hc]
      cases hx : (x == c.toUInt8) with
      | true => rw [h.1 hx]; exact Nat.beq_refl c
      | false =>
        apply beq_no
        intro q
        rw [h.2 q] at hx
        cases hx
    simp only [List.map_cons, countB, e, countB_eq c hc l, List.count_cons]
    cases (x == c.toUInt8) <;> rfl

def indexB (c : Nat) : List Nat → Int
  | [] => -1
  | x :: l => bif Nat.beq x c then 0 else (bif decide (indexB c l = -1) then -1 else indexB c l + 1)

theorem indexB_eq (c : Nat) (hc : c < 256) : ∀ l : List UInt8, indexB c (l.map UInt8.toNat) = Go.Lib.indexByte l c.toUInt8
  | [] => rfl
  | x :: l => by
    have e : Nat.beq x.toNat c = (x == c.toUInt8) := by
      have h : (x == c.toUInt8) = true ↔ x.toNat = c := by
        rw [beq_iff_eq]
        constructor
        · rintro rfl; simp [Nat.mod_eq_of_lt hc]
        · intro q; apply UInt8.toNat_inj.1; rw [q]; simp [Nat.mod_eq_of_lt hc]
      cases hx : (x == c.toUInt8) with
      | true => rw [h.1 hx]; exact Nat.beq_refl c
      | false =>
        apply beq_no
        intro q
        rw [h.2 q] at hx
        cases hx
    simp only [List.map_cons, indexB, e, indexB_eq c hc l, Go.Lib.indexByte]
    cases (x == c.toUInt8) with
    | true => rfl
    | false =>
      simp only [cond_false, Bool.false_eq_true, if_false]
      by_cases q : Go.Lib.indexByte l c.toUInt8 = -1
      · simp [q]
      · simp [q]

section
variable {P : Program} {ι : Inj} {h : Hp} {w : World} {f : Nat} {fn : Func}

theorem ext_count (hf : P.funcs[f]? = some fn) (hname : (fn.name == "runtime.NumGoroutine") = false) (hb : fn.body.isNone = true) (hn : Extern.findNext fn = none) (he : Extern.find fn = some Extern.BytealgCount.count)
    {s : List Nat} {c : Nat} (hc : c < 256) {ys : List Value} (hy : VRs ι [.str s, .int .u8 (Int.ofNat c)] ys) (hw : WR P ι h w) :
    CallRes P false ι h w (.int .i64 (Int.ofNat (countB c s))) h ((callFunc f ys.toArray).run P w) := by
  obtain ⟨x, xs, rfl, hx, hxs⟩ := VRs_cons.1 hy
  obtain ⟨y, ys, rfl, hy1, hys⟩ := VRs_cons.1 hxs
  rw [VRs_nil] at hys
  subst hys
  simp only [VR] at hx hy1
  obtain ⟨a, rfl, rfl⟩ := hx
  subst hy1
  rw [run_callFunc_extern hf hname hb hn he]
  rw [Go.Lib.run_countString]
  simp only [Result.andThen, CallRes]
  refine ⟨trivial, ι, hw, Sim.refl _ _ _, ?_⟩
  simp only [VR]
  rw [countB_eq c hc]
  rfl

theorem ext_index (hf : P.funcs[f]? = some fn) (hname : (fn.name == "runtime.NumGoroutine") = false) (hb : fn.body.isNone = true) (hn : Extern.findNext fn = none) (he : Extern.find fn = some Extern.BytealgIndexByte.indexByte)
    {s : List Nat} {c : Nat} (hc : c < 256) {ys : List Value} (hy : VRs ι [.str s, .int .u8 (Int.ofNat c)] ys) (hw : WR P ι h w) :
    CallRes P false ι h w (.int .i64 (indexB c s)) h ((callFunc f ys.toArray).run P w) := by
  obtain ⟨x, xs, rfl, hx, hxs⟩ := VRs_cons.1 hy
  obtain ⟨y, ys, rfl, hy1, hys⟩ := VRs_cons.1 hxs
  rw [VRs_nil] at hys
  subst hys
  simp only [VR] at hx hy1
  obtain ⟨a, rfl, rfl⟩ := hx
  subst hy1
  rw [run_callFunc_extern hf hname hb hn he]
  rw [Go.Lib.run_indexByteString]
  simp only [Result.andThen, CallRes]
  refine ⟨trivial, ι, hw, Sim.refl _ _ _, ?_⟩
  simp only [VR]
  rw [indexB_eq c hc]
  rfl
end
end Go.Ev
