/-
  What a call of the evaluator's says of the model; one operation of a region; a region that is taken as it is written.
-/
import Derived.Test.YteikmdigmjlmdaaGreatDoorEvLook
import Derived.OrdersIn
import Derived.RangeFuncLeaves
set_option linter.unusedVariables false
set_option linter.unusedSimpArgs false
namespace Go.Ev

/-- the fence of a walk: within a round of a loop, or in none -/
def Fw : Option Nat → Fence
  | none => Fence.wide
  | some l => Fence.wide.inRound l

@[simp] theorem Fw_round : ∀ lo, (Fw lo).round = lo
  | none => rfl
  | some _ => rfl
theorem Fw_fn : ∀ (lo : Option Nat) (f : FuncId), (Fw lo).fn f
  | none, _ => trivial
  | some _, _ => trivial
theorem Fw_depth : ∀ lo, (Fw lo).depth = none
  | none => rfl
  | some _ => rfl

theorem callsIn_Fw {lo : Option Nat} {P : Program} {f : FuncId} {args : Array Value} {w : World} {R : Ending → World → Prop} (h : CallsIn Fence.wide 0 P f args w R) : CallsIn (Fw lo) 0 P f args w R := by
  cases lo with
  | none => exact h
  | some l => exact h

theorem roundIn_Fw {lo : Option Nat} {P : Program} {l : Nat} {f : FuncId} {tmps : Array Value} {as bo : Code} {w : World} {R : Ending → World → Prop} (h : RoundIn Fence.wide 0 P l f tmps as bo w R) :
    RoundIn (Fw lo) 0 P l f tmps as bo w R := by
  cases lo with
  | none => exact h
  | some l => exact h

section
variable {P : Program} {ι : Inj} {h h' : Hp} {w : World} {tm : T V} {a : Act} {v : V} {o : Oper} {e : EOp}

/-- the model has come to what the evaluator has -/
def Back (P : Program) (ι : Inj) (h : Hp) (w : World) (v : V) (h' : Hp) (x : Value) (w' : World) : Prop :=
  ∃ ι', WR P ι' h' w' ∧ Sim ι h w ι' h' w' ∧ VR ι' v x

def Ret (P : Program) (ι : Inj) (h : Hp) (w : World) (v : V) (h' : Hp) : Ending → World → Prop
  | .returned x, w' => Back P ι h w v h' x w'
  | _, _ => False

/-- what a call comes to -/
def CallRes (P : Program) (must : Bool) (ι : Inj) (h : Hp) (w : World) (v : V) (h' : Hp) : Result Next → Prop
  | .ok (.enter f args) w1 => w1 = w ∧ CallsIn Fence.wide 0 P f args w (Ret P ι h w v h')
  | .ok (.value x) w' => must = false ∧ Back P ι h w v h' x w'
  | .ok (.round l f tmps as bo) w1 => must = false ∧ w1 = w ∧ RoundIn Fence.wide 0 P l f tmps as bo w (Ret P ι h w v h')
  | _ => False

/-- a call of a function's value -/
def callOf (x : Value) (ys : Array Value) : Sem Next := do
  let d ← Deferred.ofValue x ys
  invoke d.target d.args

/-- the evaluator's calls stand for the model's -/
def CallOK (P : Program) (call : Caller) : Prop :=
  ∀ (must : Bool) (f : V) (args : List V) (h : Hp) (v : V) (h' : Hp) (ι : Inj) (w : World) (x : Value) (ys : List Value),
    call must f args h = some (v, h') → VR ι f x → VRs ι args ys → WR P ι h w → GI P ι → CallRes P must ι h w v h' ((callOf x ys.toArray).run P w)

theorem cOp_spec (hc : cOp P o = e) (hb : e ≠ .bad) : cOpO P o = some e ∧ okOp o.op e = true := by
  unfold cOp at hc
  split at hc
  · rename_i e' he
    cases hk : okOp o.op e' with
    | true => rw [hk] at hc; simp only [cond_true] at hc; subst hc; exact ⟨he, hk⟩
    | false => rw [hk] at hc; exact absurd hc.symm hb
  · exact absurd hc.symm hb

theorem not_defer (hc : cOpO P o = some e) : ∀ c, o.op ≠ .defer c := by
  intro c he
  unfold cOpO at hc
  rw [he] at hc
  cases hc

/-- one operation -/
theorem opStep {call : Caller} {lo : Option Nat} {K : Act → World → Prop} {Q : Exit → Act → World → Prop} (hcall : CallOK P call) (hc : cOp P o = e) (hs : stepOp call e tm h = some (v, h'))
    (hw : WR P ι h w) (ht : TR ι tm a.tmps) (hg : GI P ι) (hK : ∀ ι' x w', WR P ι' h' w' → Sim ι h w ι' h' w' → VR ι' v x → K (a.put o.dst x) w') :
    o.wpIn (Fw lo) 0 P a w K Q := by
  have hb : e ≠ .bad := by rintro rfl; simp [stepOp, evOp] at hs
  obtain ⟨hc1, hk⟩ := cOp_spec hc hb
  refine ⟨fun f _ => Fw_fn lo f, ?_⟩
  rw [Oper.semAt_eq _ _ _ (not_defer hc1)]
  by_cases hcl : ∃ f args, e = .call f args
  · obtain ⟨f, args, rfl⟩ := hcl
    simp only [okOp] at hk
    unfold isCallV at hk
    split at hk
    · rename_i c ho
      split at hk
      · rename_i g hcal
        unfold cOpO at hc1
        rw [ho] at hc1
        simp only [hcal, Option.bind_eq_bind, Option.bind_eq_some_iff, Option.some.injEq, EOp.call.injEq] at hc1
        obtain ⟨s, h1, l, h2, rfl, rfl⟩ := hc1
        simp only [stepOp] at hs
        have hvs := cSs_ok ht hg h2
        have hres := hcall _ _ _ _ _ _ ι w _ _ hs (cS_ok h1 ht hg) hvs hw hg
        have heq : (execOp a.eval o).run P w = (callOf (a.eval g) (c.args.toList.map a.eval).toArray).run P w := by
          simp only [execOp, ho, resolve, hcal, callOf]
          rw [← Array.toList_map, Array.toArray_toList]
        rw [heq]
        generalize (callOf (a.eval g) (c.args.toList.map a.eval).toArray).run P w = r at hres
        have hd : (Fw lo).depth.isSome = true → 1 ≤ 0 := by rw [Fw_depth]; simp
        unfold CallRes at hres
        split at hres
        · obtain ⟨rfl, hres⟩ := hres
          refine ⟨hd, CallsIn.mono (callsIn_Fw hres) ?_⟩
          intro e w' hr
          cases e with
          | returned x => obtain ⟨ι', q1, q2, q3⟩ := hr; exact hK ι' x w' q1 q2 q3
          | panicked _ => exact hr.elim
          | outgrown => exact hr.elim
        · obtain ⟨_, ι', q1, q2, q3⟩ := hres
          exact hK ι' _ _ q1 q2 q3
        · obtain ⟨_, rfl, hres⟩ := hres
          refine ⟨hd, RoundIn.mono (roundIn_Fw hres) ?_⟩
          intro e w' hr
          cases e with
          | returned x => obtain ⟨ι', q1, q2, q3⟩ := hr; exact hK ι' x w' q1 q2 q3
          | panicked _ => exact hr.elim
          | outgrown => exact hr.elim
        · exact hres.elim
      · cases hk
    · cases hk
  · have hev : evOp tm h e = some (v, h') := by
      cases e <;> first | exact hs | (exact absurd ⟨_, _, rfl⟩ hcl)
    obtain ⟨ι', x, w', hr, q1, q2, q3⟩ := evOp_ok hc1 hev hw ht hg
    rcases hr with hr | ⟨rfl, hr⟩
    · rw [hr]; exact hK ι' x w' q1 q2 q3
    · rw [hr]; exact hK ι' _ w' q1 q2 q3

/-! ### Guards -/
theorem VR_bool_of {v : V} {x : Value} (hv : VR ι v x) {b : Bool} (hx : x = .bool b) : v = .bool b := by
  subst hx
  cases v with
  | bool c => simp only [VR] at hv; cases hv; rfl
  | int k n => simp [VR] at hv
  | str s => simp only [VR] at hv; obtain ⟨_, q, _⟩ := hv; cases q
  | ptr b off => simp only [VR] at hv; obtain ⟨_, _, q⟩ := hv; cases q
  | nilPtr => simp [VR] at hv
  | slice b off len cap e => simp only [VR] at hv; obtain ⟨_, _, _, _, q, _⟩ := hv; cases q
  | nilSlice => simp [VR] at hv
  | map b => simp only [VR] at hv; obtain ⟨_, _, q⟩ := hv; cases q
  | nilMap => simp [VR] at hv
  | func f a c => simp only [VR] at hv; obtain ⟨_, _, q, _⟩ := hv; cases q
  | yield b => simp only [VR] at hv; obtain ⟨_, _, q⟩ := hv; cases q
  | nilFunc => simp [VR] at hv
  | iface t v => simp only [VR] at hv; obtain ⟨_, q, _⟩ := hv; cases q
  | nilIface => simp [VR] at hv
  | agg cs => simp only [VR] at hv; obtain ⟨_, q, _⟩ := hv; cases q
  | tuple vs => simp only [VR] at hv; obtain ⟨_, q, _⟩ := hv; cases q

theorem wanted_ok {ops : Array Oper} {N : Nat} {eo : EOper} (hc : cOper P N ops o = eo) (hb : eo.op = .bad → wanted tm eo.guard = false) (ht : TR ι tm a.tmps) :
    Region.wanted o (yielded ops a.tmps) = wanted tm eo.guard ∧ eo.dst = o.dst ∧ cOp P o = eo.op ∧ dstOk N o.dst = true := by
  unfold cOper at hc
  split at hc
  · rename_i hd
    split at hc
    · rename_i hgd
      subst hc
      exact ⟨by simp [Region.wanted, hgd, wanted], rfl, rfl, hd⟩
    · rename_i j want hgd
      split at hc
      · rename_i t hj
        subst hc
        refine ⟨?_, rfl, rfl, hd⟩
        simp only [Region.wanted, hgd, wanted, yielded, hj, Option.bind_some]
        have hi := ht t
        simp only [ev, Array.getD_eq_getD_getElem?] at hi
        cases hx : a.tmps[t]? with
        | none =>
          rw [hx] at hi
          simp only [Option.getD_none] at hi
          cases hq : tm.get t with
          | none => simp
          | some v0 =>
            simp only [hq] at hi
            cases v0 <;> simp
            rename_i b
            simp only [VR] at hi
            cases hi
        | some x =>
          rw [hx] at hi
          simp only [Option.getD_some] at hi
          cases hq : tm.get t with
          | none =>
            simp only [hq] at hi
            cases x <;> simp
            rename_i b
            have := VR_bool_of hi rfl
            cases this
          | some v0 =>
            simp only [hq] at hi
            cases x with
            | bool b =>
              have := VR_bool_of hi rfl
              subst this
              simp
            | _ =>
              cases v0 <;> simp
              simp only [VR] at hi
              cases hi
      · subst hc; have := hb rfl; simp [wanted] at this
  · subst hc; have := hb rfl; simp [wanted] at this

theorem dst_lt {N : Nat} {d : Option Tmp} (h : dstOk N d = true) : ∀ t, d = some t → t < N := by
  intro t ht
  subst ht
  simpa [dstOk] using h

theorem TR.put {x : Value} (ht : TR ι tm a.tmps) {d : Option Tmp} (hd : ∀ t, d = some t → t < a.tmps.size) (hv : VR ι v x) : TR ι (putT tm d v) (a.put d x).tmps := by
  cases d with
  | none => exact ht
  | some t => exact ht.set (hd t rfl) hv

theorem put_size (d : Option Tmp) (x : Value) : (a.put d x).tmps.size = a.tmps.size := by
  cases d <;> simp [Act.put]
theorem put_defers (d : Option Tmp) (x : Value) : (a.put d x).defers = a.defers := by
  cases d <;> rfl

/-! ### A region taken as it is written -/
theorem runOps_ok {call : Caller} {lo : Option Nat} {Q : Exit → Act → World → Prop} {N : Nat} {ops : Array Oper} (hcall : CallOK P call) {tm1 : T V} {h1 : Hp} :
    ∀ (m k : Nat) (ι : Inj) (tm : T V) (h : Hp) (a : Act) (w : World), k + m = ops.size → runOps call ((ops.toList.map (cOper P N ops)).drop k) tm h = some (tm1, h1) →
      WR P ι h w → TR ι tm a.tmps → GI P ι → a.tmps.size = N →
      (∀ ι' a' w', WR P ι' h1 w' → Sim ι h w ι' h1 w' → TR ι' tm1 a'.tmps → a'.tmps.size = N → a'.defers = a.defers → Q .normal a' w') →
      wpOpsIn (Fw lo) 0 P ops Q (List.range' k m) a w
  | 0, k, ι, tm, h, a, w, hk, hr, hw, ht, hg, hN, hQ => by
    rw [List.drop_eq_nil_of_le (by simp; omega)] at hr
    simp only [runOps, Option.some.injEq, Prod.mk.injEq] at hr
    obtain ⟨rfl, rfl⟩ := hr
    exact hQ ι a w hw (.refl _ _ _) ht hN rfl
  | m + 1, k, ι, tm, h, a, w, hk, hr, hw, ht, hg, hN, hQ => by
    have hlt : k < ops.size := by omega
    have hd : (ops.toList.map (cOper P N ops)).drop k = cOper P N ops ops[k] :: (ops.toList.map (cOper P N ops)).drop (k + 1) := by
      rw [List.drop_eq_getElem_cons (by simpa using hlt)]
      simp
    rw [hd] at hr
    obtain ⟨eo, heo⟩ : ∃ eo, eo = cOper P N ops ops[k] := ⟨_, rfl⟩
    rw [← heo] at hr
    simp only [runOps] at hr
    rw [List.range'_succ, wpOpsIn_cons, wpOpIn]
    rw [Array.getElem?_eq_getElem hlt]
    simp only
    have hbad : eo.op = .bad → wanted tm eo.guard = false := by
      intro q
      cases hwd : wanted tm eo.guard with
      | false => rfl
      | true => rw [hwd, q] at hr; simp [stepOp, evOp] at hr
    obtain ⟨w1, w2, w3, w4⟩ := wanted_ok heo.symm hbad ht
    have hsz : ∀ t, (ops[k]).dst = some t → t < a.tmps.size := hN ▸ dst_lt w4
    rw [w1]
    cases hwd : wanted tm eo.guard with
    | true =>
      rw [hwd] at hr
      simp only [cond_true] at hr
      split at hr
      · rename_i v h2 hs
        rw [if_pos rfl]
        refine opStep hcall w3 hs hw ht hg ?_
        intro ι' x w' q1 q2 q3
        rw [w2] at hr
        refine runOps_ok hcall m (k + 1) ι' _ h2 _ w' (by omega) hr q1 ((ht.mono q2.mono).put hsz q3) (hg.mono q2.mono) (by rw [put_size]; exact hN) ?_
        intro ι2 a2 w2' r1 r2 r3 r4 r5
        exact hQ ι2 a2 w2' r1 (q2.trans r2) r3 r4 (r5.trans (put_defers _ _))
      · cases hr
    | false =>
      rw [hwd] at hr
      simp only [cond_false] at hr
      rw [if_neg (by simp)]
      refine ⟨fun f _ => Fw_fn lo f, ?_⟩
      rw [w2] at hr
      refine runOps_ok hcall m (k + 1) ι _ h _ w (by omega) hr hw (ht.put hsz VR_undef) hg (by rw [put_size]; exact hN) ?_
      intro ι2 a2 w2' r1 r2 r3 r4 r5
      exact hQ ι2 a2 w2' r1 r2 r3 r4 (r5.trans (put_defers _ _))
end
end Go.Ev
