/-
  A call that was walked once, from the empty heap, is known in every heap, where arguments and result are plain.
-/
import Derived.Test.YteikmdigmjlmdaaGreatDoorEvSound
set_option linter.unusedVariables false
set_option linter.unusedSimpArgs false
namespace Go.Ev

/-- values without blocks -/
def plainB : V → Bool
  | .bool _ => true
  | .int _ _ => true
  | .str _ => true
  | _ => false

theorem VR_plain {ι ι' : Inj} {v : V} {x : Value} (hp : plainB v = true) (h : VR ι v x) : VR ι' v x := by
  cases v <;> simp only [plainB, Bool.false_eq_true] at hp <;> simpa [VR] using h

theorem VRs_plain {ι ι' : Inj} : ∀ {vs : List V} {xs : List Value}, (vs.all plainB) = true → VRs ι vs xs → VRs ι' vs xs
  | [], xs, _, h => by rw [VRs_nil] at h; subst h; exact VRs.nil
  | v :: vs, xs, hp, h => by
    simp only [List.all_cons, Bool.and_eq_true] at hp
    obtain ⟨x, l, rfl, hx, ht⟩ := VRs_cons.1 h
    exact VRs.cons (VR_plain hp.1 hx) (VRs_plain hp.2 ht)

section
variable {P : Program} {fs : T EFunc} {ext : Ext}

theorem WR_start {ι : Inj} {w : World} (hlt : ∀ b i, ι b = some i → b < P.globals.size → i.cb < w.heap.size) :
    WR P (fun b => if b < P.globals.size then ι b else none) ⟨P.globals.size, .nil⟩ w := by
  have hno : ∀ b k, (⟨P.globals.size, .nil⟩ : Hp).get b = some k → False := by
    intro b k h; simp [Hp.get, T.get] at h
  refine ⟨fun b i k _ hk => (hno b k hk).elim, fun b b' i i' k k' _ _ _ hk => (hno b k hk).elim, ?_, ?_, fun b k hk => (hno b k hk).elim⟩
  · intro b i hb
    by_cases h : b < P.globals.size
    · simp only [h, if_true] at hb; exact hlt b i hb h
    · simp [h] at hb
  · intro b i hb
    by_cases h : b < P.globals.size
    · exact h
    · simp [h] at hb

theorem More.of_sim {ι0 ι' : Inj} {g : Nat} {h1 : Hp} {w w' : World} (s : Sim ι0 ⟨g, .nil⟩ w ι' h1 w') : More w w' :=
  ⟨s.size, fun cb hc => s.frame cb hc (by rintro ⟨b, i, k, _, _, hk, _⟩; simp [Hp.get, T.get] at hk), s.os, s.tape, s.output⟩

theorem closed_ok (hmix : P.follows .mixedOrders = true) (htab : TabOK P fs) (hext : ExtOK P fs ext) {f n : Nat} {args : List V} {v : V} {h1 : Hp}
    (hrun : callN fs ext n false (.func f [] []) args ⟨P.globals.size, .nil⟩ = some (v, h1)) (hpa : args.all plainB = true) (hpv : plainB v = true)
    {ι : Inj} {h : Hp} {w : World} {ys : List Value} (hy : VRs ι args ys) (hw : WR P ι h w) (hg : GI P ι) : CallRes P false ι h w v h ((callFunc f ys.toArray).run P w) := by
  have hw0 := WR_start (P := P) (ι := ι) (w := w) fun b i hb _ => hw.lt b i hb
  have hg0 : GI P (fun b => if b < P.globals.size then ι b else none) := by
    intro g hlt
    obtain ⟨n, cn, e⟩ := hg g hlt
    exact ⟨n, cn, by simp only [hlt, if_true]; exact e⟩
  have hres := callN_ok hmix htab hext n false (.func f [] []) args _ v h1 _ w (.func (.func f) #[] #[]) ys hrun (by simp only [VR]; exact ⟨#[], #[], rfl, VRs.nil, VRs.nil⟩) (VRs_plain hpa hy) hw0 hg0
  have heq : (callOf (.func (.func f) #[] #[]) ys.toArray).run P w = (callFunc f ys.toArray).run P w := by
    simp only [callOf, Deferred.ofValue, Sem.run_bind, Sem.run_pure, Result.andThen_ok, pure_bind, invoke]
    congr 2
    simp
  rw [heq] at hres
  have back : ∀ x w', Back P (fun b => if b < P.globals.size then ι b else none) ⟨P.globals.size, .nil⟩ w v h1 x w' → Back P ι h w v h x w' := by
    rintro x w' ⟨ι', q1, q2, q3⟩
    have m := More.of_sim q2
    exact ⟨ι, (hw.more m).1, (hw.more m).2, VR_plain hpv q3⟩
  have ret : ∀ e w', Ret P (fun b => if b < P.globals.size then ι b else none) ⟨P.globals.size, .nil⟩ w v h1 e w' → Ret P ι h w v h e w' := by
    intro e w' hr
    cases e with
    | returned x => exact back x w' hr
    | panicked _ => exact hr.elim
    | outgrown => exact hr.elim
  generalize (callFunc f ys.toArray).run P w = r at hres
  unfold CallRes at hres ⊢
  split at hres
  · exact ⟨hres.1, CallsIn.mono hres.2 ret⟩
  · exact ⟨hres.1, back _ _ hres.2⟩
  · exact ⟨hres.1, hres.2.1, RoundIn.mono hres.2.2 ret⟩
  · exact hres.elim

/-- what the model's call of a function comes to, from any world, where the evaluator came to a plain value from the empty heap -/
theorem calls_plain (hmix : P.follows .mixedOrders = true) (htab : TabOK P fs) (hext : ExtOK P fs ext) {f n : Nat} {args : List V} {v : V} {h1 : Hp} {fn : Func}
    (hrun : callN fs ext n false (.func f [] []) args ⟨P.globals.size, .nil⟩ = some (v, h1)) (hf : fs.get f ≠ none) {w : World} (hsz : P.globals.size ≤ w.heap.size)
    {ys : List Value} (hy : ∀ ι, VRs ι args ys) : CallsIn Fence.wide 0 P f ys.toArray w fun e w' => ∃ x ι', e = .returned x ∧ VR ι' v x ∧ More w w' := by
  let ι : Inj := fun b => if b < P.globals.size then some ⟨b, 0, 0, 0⟩ else none
  have hw0 := WR_start (P := P) (ι := fun b => some ⟨b, 0, 0, 0⟩) (w := w) fun b i hb hlt => by cases hb; exact Nat.lt_of_lt_of_le hlt hsz
  have hg0 : GI P (fun b => if b < P.globals.size then some ⟨b, 0, 0, 0⟩ else none) := fun g hlt => ⟨0, 0, by simp [hlt]⟩
  have hres := callN_ok hmix htab hext n false (.func f [] []) args _ v h1 _ w (.func (.func f) #[] #[]) ys hrun (by simp only [VR]; exact ⟨#[], #[], rfl, VRs.nil, VRs.nil⟩) (hy _) hw0 hg0
  have heq : (callOf (.func (.func f) #[] #[]) ys.toArray).run P w = (callFunc f ys.toArray).run P w := by
    simp only [callOf, Deferred.ofValue, Sem.run_bind, Sem.run_pure, Result.andThen_ok, pure_bind, invoke]
    congr 2
    simp
  rw [heq] at hres
  cases hq : fs.get f with
  | none => exact absurd hq hf
  | some ef =>
    obtain ⟨fn, h2, h3, h4⟩ := htab f ef hq
    have hb : ∃ c, fn.body = some c := by
      unfold compF at h4
      split at h4
      · rename_i c rs hb _; exact ⟨c, hb⟩
      · cases h4
    obtain ⟨c, hb⟩ := hb
    have hn : ¬ fn.name = "runtime.NumGoroutine" := fun e => by rw [e] at h3; simp at h3
    have hcall : (callFunc f ys.toArray).run P w = .ok (.enter f ys.toArray) w := by
      simp [callFunc, h2, hn, hb]
    rw [hcall] at hres
    refine CallsIn.mono hres.2 fun e w' hr => ?_
    cases e with
    | returned x =>
      obtain ⟨ι', q1, q2, q3⟩ := hr
      exact ⟨x, ι', rfl, q3, More.of_sim q2⟩
    | panicked _ => exact hr.elim
    | outgrown => exact hr.elim
end
end Go.Ev
