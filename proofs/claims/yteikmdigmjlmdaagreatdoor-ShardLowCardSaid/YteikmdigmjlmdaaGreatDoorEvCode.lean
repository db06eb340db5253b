/-
  The evaluator's walk of code stands for the model's.
-/
import Derived.Test.YteikmdigmjlmdaaGreatDoorEvReg
import Derived.Scope
set_option linter.unusedVariables false
set_option linter.unusedSimpArgs false
namespace Go.Ev

/-! ### Scopes -/
section
variable {F : Fence} {n : Nat} {P : Program} {Q : Exit → Act → World → Prop} {a : Act} {w : World}
theorem stepR_scope {b : Frame} {k : List Item} {cs : List Frame} {c : Code} : step P (lone (b.atR a (.code (.scope c) :: k)) cs w) = .next (lone (b.atR a (.code c :: .inScope c :: k)) cs w) :=
  step_lone_go (by simp [stepG, stepG.exec, Frame.atR])
theorem stepR_inScope {b : Frame} {k : List Item} {cs : List Frame} {c : Code} : step P (lone (b.atR a (.inScope c :: k)) cs w) = .next (lone (b.atR a k) cs w) :=
  step_lone_go (by simp [stepG, stepG.exec, Frame.atR])

theorem wpIn_scope {c : Code} (h : c.wpIn F n P (Exit.noGoto Q) a w) : (Code.scope c).wpIn F n P Q a w := by
  intro b k cs hro hb hr
  have h0 : (lone (b.atR a (.code (.scope c) :: k)) cs w).fenced P F := fenced_calm hb hr rfl
  obtain ⟨e, a₁, w₁, hq, harr⟩ := h b (.inScope c :: k) cs hro hb hr
  cases e with
  | normal => exact ⟨.normal, a₁, w₁, hq, .head h0 stepR_scope (StepsIn.trans harr (.one (fenced_calm hb hr rfl) stepR_inScope))⟩
  | exit id =>
    have hx : exitTo id (.inScope c :: k) = exitTo id k := by simp [exitTo]
    exact ⟨.exit id, a₁, w₁, hq, fun k' hk => .head h0 stepR_scope (harr.1 k' (by rw [hx]; exact hk)),
      fun hr' hk => let ⟨k₁, h1, h2⟩ := harr.2 hr' (by rw [hx]; exact hk); ⟨k₁, h1, .head h0 stepR_scope h2⟩⟩
  | goto l => exact hq.elim
  | ret => exact ⟨_, a₁, w₁, hq, .of_steps (.one h0 stepR_scope) harr⟩
  | panic ch => exact ⟨_, a₁, w₁, hq, .of_steps (.one h0 stepR_scope) harr⟩
  | outgrown => exact ⟨_, a₁, w₁, hq, .of_steps (.one h0 stepR_scope) harr⟩
end

/-! ### The marks of loops over functions -/
def marks (rs : List Nat) : List Deferred := rs.map fun r => { target := .collected r, args := #[] }

structure MK (rs : List Nat) (base : Nat) (ι : Inj) (h : Hp) (w : World) : Prop where
  nd : rs.Nodup
  each : ∀ r ∈ rs, base ≤ r ∧ r < w.heap.size ∧ w.heap[r]? = some (.deferred (some [])) ∧ ¬ Wr ι h r

theorem MK.sim {rs : List Nat} {base : Nat} {ι ι' : Inj} {h h' : Hp} {w w' : World} (m : MK rs base ι h w) (s : Sim ι h w ι' h' w') : MK rs base ι' h' w' :=
  ⟨m.nd, fun r hr => let ⟨h1, h2, h3, h4⟩ := m.each r hr; ⟨h1, Nat.lt_of_lt_of_le h2 s.size, (s.frame r h2 h4).trans h3, fun q => h4 (s.wr r h2 q)⟩⟩

/-- within a round of which loop: the evaluator's, the model's -/
def RO (ι : Inj) : Option Nat → Option Nat → Prop
  | none, none => True
  | some b, some l => ∃ i, ι b = some i ∧ i.cb = l
  | _, _ => False

theorem RO.mono {ι ι' : Inj} {ro lo : Option Nat} (hm : ∀ b i, ι b = some i → ι' b = some i) (h : RO ι ro lo) : RO ι' ro lo := by
  cases ro <;> cases lo <;> simp only [RO] at h ⊢
  obtain ⟨i, h1, h2⟩ := h
  exact ⟨i, hm _ _ h1, h2⟩

def XE : Ex → Exit → Prop
  | .normal, e => e = .normal
  | .exit id, e => e = .exit id
  | .goto l, e => e = .goto l
  | .ret, e => e = .ret

/-- how the evaluator's state stands to an activation -/
structure ST (P : Program) (N base : Nat) (ro lo : Option Nat) (ι : Inj) (tm : T V) (h : Hp) (a : Act) (w : World) (rs : List Nat) : Prop where
  ro : RO ι ro lo
  wr : WR P ι h w
  tr : TR ι tm a.tmps
  gi : GI P ι
  sz : a.tmps.size = N
  df : a.defers = marks rs
  mks : MK rs base ι h w
  bs : base ≤ w.heap.size

theorem ST.next {P : Program} {N base : Nat} {ro lo : Option Nat} {ι ι' : Inj} {tm tm' : T V} {h h' : Hp} {a a' : Act} {w w' : World} {rs : List Nat} (s : ST P N base ro lo ι tm h a w rs)
    (hw : WR P ι' h' w') (hs : Sim ι h w ι' h' w') (ht : TR ι' tm' a'.tmps) (hN : a'.tmps.size = N) (hd : a'.defers = a.defers) : ST P N base ro lo ι' tm' h' a' w' rs :=
  ⟨s.ro.mono hs.mono, hw, ht, s.gi.mono hs.mono, hN, hd.trans s.df, s.mks.sim hs, Nat.le_trans s.bs hs.size⟩

/-- what is asked of the way out -/
def Ends (P : Program) (N base : Nat) (ro lo : Option Nat) (ι : Inj) (h : Hp) (w : World) (ex : Ex) (tm' : T V) (h' : Hp) (Q : Exit → Act → World → Prop) : Prop :=
  ∀ e a' w' ι' rs', XE ex e → ST P N base ro lo ι' tm' h' a' w' rs' → Sim ι h w ι' h' w' → Q e a' w'

theorem callOf_enter {P : Program} {x : Value} {ys args : Array Value} {w w1 : World} {f : FuncId} (h : (callOf x ys).run P w = .ok (.enter f args) w1) :
    ∃ d, (Deferred.ofValue x ys).run P w = .ok d w ∧ (invoke d.target d.args).run P w = .ok (.enter f args) w1 := by
  unfold callOf at h
  cases x with
  | func fn first captured =>
    simp only [Deferred.ofValue, Sem.run_bind, Sem.run_pure, Result.andThen_ok] at h
    exact ⟨_, Sem.run_pure .., h⟩
  | nilFunc =>
    simp only [Deferred.ofValue, Sem.run_bind, Sem.run_pure, Result.andThen_ok] at h
    exact ⟨_, Sem.run_pure .., h⟩
  | _ => simp [Deferred.ofValue, stuck] at h

section
variable {P : Program} {call : Caller} {N base : Nat} {ro lo : Option Nat}

theorem range_ok {f : Operand} {ps : Array Tmp} {as bo : Code} {s : S} {tm tm' : T V} {h h' : Hp} {ι : Inj} {a : Act} {w : World} {rs : List Nat} {ex : Ex} {Q : Exit → Act → World → Prop} (hcall : CallOK P call)
    (hf : cS P f = some s) (hps : ∀ p ∈ ps.toList, p < N)
    (hev : evC call ro (.rangeFunc s ps.toList (comp P N as) (comp P N bo)) tm h = some (ex, tm', h')) (st : ST P N base ro lo ι tm h a w rs) (hQ : Ends P N base ro lo ι h w ex tm' h' Q) :
    (Code.rangeFunc f ps as bo).wpIn (Fw lo) 0 P Q a w := by
  simp only [evC] at hev
  obtain ⟨hil, hev⟩ := bif_some hev
  split at hev
  · rename_i v h2 hc
    split at hev
    · rename_i sta pend tm0 ps0 as0 bo0 hg2
      have hnb : sta ≠ .busy := by rintro rfl; cases hev
      have hev' : some (pend, tm, h2.put h.nx (.loop .exhausted pend tm0 ps0 as0 bo0)) = some (ex, tm', h') := by
        cases sta <;> first | exact hev | exact absurd rfl hnb
      simp only [Option.some.injEq, Prod.mk.injEq] at hev'
      obtain ⟨rfl, rfl, rfl⟩ := hev'
      refine wpIn_rangeFunc fun fn _ => ?_
      -- the record is laid
      have lay : ∃ (l : Nat) (rs0 : List Nat) (w1 : World) (rec : Loop), (Instr.enterLoop fn a.tmps ps as bo lo).run P w = .ok (l, marks rs0) w1 ∧ More w w1 ∧ w.heap.size ≤ l ∧ w1.heap[l]? = some (.loop rec) ∧
          rec.state = .ready ∧ rec.pending = none ∧ rec.tmps = a.tmps ∧ rec.params = ps ∧ rec.assign = as ∧ rec.body = bo ∧
          (∀ r ∈ rs0, w.heap.size ≤ r ∧ r < w1.heap.size ∧ w1.heap[r]? = some (.deferred (some [])) ∧ r ≠ l) ∧ rs0.Nodup := by
        cases lo with
        | none =>
          refine ⟨w.heap.size + 1, [w.heap.size], { w with heap := (w.heap.push (.deferred (some []))).push (.loop { state := .ready, pending := none, fn, tmps := a.tmps, params := ps, assign := as, body := bo, defers := w.heap.size }) }, { state := .ready, pending := none, fn, tmps := a.tmps, params := ps, assign := as, body := bo, defers := w.heap.size }, ?_, ?_, by omega, ?_, rfl, rfl, rfl, rfl, rfl, rfl, ?_, by simp⟩
          · simp only [Instr.enterLoop, Sem.run_bind, run_newObj, Result.andThen_ok, Sem.run_pure, pure_bind, marks, List.map_cons, List.map_nil, Array.size_push]
          · exact (More.push w _).trans (More.push _ _)
          · have := heap_push { w with heap := w.heap.push (.deferred (some [])) } (.loop { state := .ready, pending := none, fn, tmps := a.tmps, params := ps, assign := as, body := bo, defers := w.heap.size })
            simp only [Array.size_push] at this
            exact this
          · intro r hr
            simp only [List.mem_singleton] at hr
            subst hr
            refine ⟨Nat.le_refl _, by simp; omega, ?_, by omega⟩
            simp only [Array.getElem?_push, Array.size_push]
            rw [if_neg (by omega)]
            simp
        | some l0 =>
          cases ro with
          | none => exact st.ro.elim
          | some b =>
            obtain ⟨i, hi, rfl⟩ := st.ro
            unfold isLoop at hil
            split at hil
            · rename_i e; cases e
            · rename_i b' e
              cases e
              split at hil
              · rename_i hk
                obtain ⟨r, hr, _⟩ := st.wr.rel _ i _ hi hk
                have hget : (getObj i.cb).run P w = .ok (.loop r) w := run_getObj hr (by intros; simp)
                refine ⟨w.heap.size, [], { w with heap := w.heap.push (.loop { state := .ready, pending := none, fn, tmps := a.tmps, params := ps, assign := as, body := bo, defers := r.defers }) }, { state := .ready, pending := none, fn, tmps := a.tmps, params := ps, assign := as, body := bo, defers := r.defers }, ?_, More.push w _, Nat.le_refl _, by simp, rfl, rfl, rfl, rfl, rfl, rfl, by simp, by simp⟩
                simp [Instr.enterLoop, Instr.getLoop, hget, marks]
              · cases hil
      obtain ⟨l, rs0, w1, rec, hent, hmore, hl1, hrec, e1, e2, e3, e4, e5, e6, hrs0, hnd0⟩ := lay
      have hl2 : l < w1.heap.size := lt_of_heap hrec
      obtain ⟨wr1, sim1⟩ := st.wr.new (i := ⟨l, 0, 0, 0⟩) (k := .loop .ready .normal tm ps.toList (comp P N as) (comp P N bo)) hmore hl1 hl2 (by
        refine ⟨rec, hrec, by simp [LR, e1], by simp [XR, e2], ?_, by rw [e4], ?_, ?_, ?_⟩
        · rw [e3]; exact st.tr.mono (ext_mono st.wr _)
        · rw [e3, st.sz]; exact hps
        · rw [e3, e5, st.sz]
        · rw [e3, e6, st.sz])
      have hι : ext ι h.nx ⟨l, 0, 0, 0⟩ h.nx = some ⟨l, 0, 0, 0⟩ := ext_same _ _ _
      have gi1 := st.gi.mono sim1.mono
      have hvf : VR (ext ι h.nx ⟨l, 0, 0, 0⟩) (ev tm s) (a.eval f) := (cS_ok hf st.tr st.gi).mono sim1.mono
      have hva : VRs (ext ι h.nx ⟨l, 0, 0, 0⟩) [.yield h.nx] [.func (.yield l) #[] #[]] := VRs.cons (by simp only [VR]; exact ⟨_, hι, rfl⟩) VRs.nil
      have hres := hcall true _ _ _ _ _ _ w1 _ _ hc hvf hva wr1 gi1
      have hent2 : ∃ f' args, (callOf (a.eval f) #[.func (.yield l) #[] #[]]).run P w1 = .ok (.enter f' args) w1 ∧ CallsIn Fence.wide 0 P f' args w1 (Ret P (ext ι h.nx ⟨l, 0, 0, 0⟩) (h.add (.loop .ready .normal tm ps.toList (comp P N as) (comp P N bo))) w1 v h2) := by
        generalize hq : (callOf (a.eval f) [Value.func (.yield l) #[] #[]].toArray).run P w1 = r at hres
        unfold CallRes at hres
        split at hres
        · obtain ⟨rfl, hres⟩ := hres
          exact ⟨_, _, rfl, hres⟩
        · cases hres.1
        · cases hres.1
        · exact hres.elim
      obtain ⟨f', args, hrun, hcalls⟩ := hent2
      obtain ⟨d, hd1, hd2⟩ := callOf_enter hrun
      refine ⟨l, marks rs0, w1, d, w1, f', args, w1, by rw [Fw_round]; exact hent, ?_, fun f2 _ => Fw_fn lo f2, hd2, by rw [Fw_depth]; simp, ?_⟩
      · have hm : (#[Operand.const (.func (.yield l) #[] #[])] : Array Operand).map a.eval = #[.func (.yield l) #[] #[]] := by simp [Act.eval]
        simp only [resolve, hm]
        exact hd1
      · refine CallsIn.mono (callsIn_Fw hcalls) ?_
        intro e w3 hr
        cases e with
        | panicked _ => exact hr.elim
        | outgrown => exact hr.elim
        | returned x =>
          obtain ⟨ι2, q1, q2, q3⟩ := hr
          have hι2 : ι2 h.nx = some ⟨l, 0, 0, 0⟩ := q2.mono _ _ hι
          have hbr := q1.rel _ _ _ hι2 hg2
          obtain ⟨r, hr1, hr2, hr3, hr4, hr5, hr6, hr7, hr8⟩ := hbr
          have hst : (r.state == .busy) = false := by
            cases sta <;> simp only [LR] at hr2 <;> rw [hr2] <;> first | rfl | exact absurd rfl hnb
          obtain ⟨w4, hset, hu⟩ := run_setObj (P := P) (ob' := .loop { r with state := .exhausted }) hr1 (by intros; simp)
          have hget : (getObj l).run P w3 = .ok (.loop r) w3 := run_getObj hr1 (by intros; simp)
          obtain ⟨wr4, sim4⟩ := q1.upd (k := .loop .exhausted pend tm0 ps0 as0 bo0) hι2 hg2 rfl rfl hu ⟨{ r with state := .exhausted }, hu.at_, rfl, hr3, hr4, hr5, hr6, hr7, hr8⟩
          have simA := sim1.trans (q2.trans sim4)
          refine ⟨r.pending, w4, ?_, ?_⟩
          · simp only [Instr.endLoop, Instr.getLoop, Sem.run_bind, hget, Result.andThen_ok, Sem.run_pure, pure_bind, hst, Bool.false_eq_true, if_false, hset]
          · have stN : ST P N base ro lo ι2 tm (h2.put h.nx (.loop .exhausted pend tm0 ps0 as0 bo0)) { a with defers := marks rs0 ++ a.defers } w4 (rs0 ++ rs) := by
              refine ⟨st.ro.mono simA.mono, wr4, st.tr.mono simA.mono, st.gi.mono simA.mono, st.sz, ?_, ?_, Nat.le_trans st.bs simA.size⟩
              · simp [marks, st.df]
              · have m1 : MK (rs0 ++ rs) base (ext ι h.nx ⟨l, 0, 0, 0⟩) (h.add (.loop .ready .normal tm ps.toList (comp P N as) (comp P N bo))) w1 := by
                  have mk1 := st.mks.sim sim1
                  refine ⟨?_, ?_⟩
                  · rw [List.nodup_append]
                    refine ⟨hnd0, st.mks.nd, ?_⟩
                    intro x hx y hy e
                    subst e
                    have := (hrs0 x hx).1
                    have := (st.mks.each x hy).2.1
                    omega
                  · intro r0 hr0
                    rcases List.mem_append.1 hr0 with hm | hm
                    · obtain ⟨c1, c2, c3, c4⟩ := hrs0 r0 hm
                      refine ⟨Nat.le_trans st.bs c1, c2, c3, ?_⟩
                      rintro ⟨b, i, k, hb, hcb, _⟩
                      unfold ext at hb
                      split at hb
                      · cases hb
                        exact c4 hcb.symm
                      · have := st.wr.lt b i hb
                        omega
                    · exact mk1.each r0 hm
                exact m1.sim (q2.trans sim4)
            cases pend with
            | normal => simp only [XR] at hr3; rw [hr3]; exact hQ .normal _ _ _ _ rfl stN simA
            | exit id => simp only [XR] at hr3; rw [hr3]; exact wpIn_exit (hQ (.exit id) _ _ _ _ rfl stN simA)
            | goto t => simp only [XR] at hr3; rw [hr3]; exact wpIn_goto (hQ (.goto t) _ _ _ _ rfl stN simA)
            | ret => simp only [XR] at hr3; rw [hr3]; exact wpIn_ret (hQ .ret _ _ _ _ rfl stN simA)
    · cases hev
  · cases hev

theorem evC_ok (hmix : P.follows .mixedOrders = true) (hcall : CallOK P call) : ∀ (c : Code) (tm tm' : T V) (h h' : Hp) (ι : Inj) (a : Act) (w : World) (rs : List Nat) (ex : Ex) (Q : Exit → Act → World → Prop),
    evC call ro (comp P N c) tm h = some (ex, tm', h') → ST P N base ro lo ι tm h a w rs → Ends P N base ro lo ι h w ex tm' h' Q → c.wpIn (Fw lo) 0 P Q a w := by
  intro c
  induction c with
  | skip =>
    intro tm tm' h h' ι a w rs ex Q hev st hQ
    simp only [comp, evC, Option.some.injEq, Prod.mk.injEq] at hev
    obtain ⟨rfl, rfl, rfl⟩ := hev
    exact wpIn_skip (hQ .normal _ _ _ _ rfl st (.refl _ _ _))
  | label l =>
    intro tm tm' h h' ι a w rs ex Q hev st hQ
    simp only [comp, evC, Option.some.injEq, Prod.mk.injEq] at hev
    obtain ⟨rfl, rfl, rfl⟩ := hev
    exact wpIn_label (hQ .normal _ _ _ _ rfl st (.refl _ _ _))
  | exit id =>
    intro tm tm' h h' ι a w rs ex Q hev st hQ
    simp only [comp, evC, Option.some.injEq, Prod.mk.injEq] at hev
    obtain ⟨rfl, rfl, rfl⟩ := hev
    exact wpIn_exit (hQ (.exit id) _ _ _ _ rfl st (.refl _ _ _))
  | goto l =>
    intro tm tm' h h' ι a w rs ex Q hev st hQ
    simp only [comp, evC, Option.some.injEq, Prod.mk.injEq] at hev
    obtain ⟨rfl, rfl, rfl⟩ := hev
    exact wpIn_goto (hQ (.goto l) _ _ _ _ rfl st (.refl _ _ _))
  | ret =>
    intro tm tm' h h' ι a w rs ex Q hev st hQ
    simp only [comp, evC, Option.some.injEq, Prod.mk.injEq] at hev
    obtain ⟨rfl, rfl, rfl⟩ := hev
    exact wpIn_ret (hQ .ret _ _ _ _ rfl st (.refl _ _ _))
  | refuse why =>
    intro tm tm' h h' ι a w rs ex Q hev st hQ
    simp [comp, evC] at hev
  | region id ops draw =>
    intro tm tm' h h' ι a w rs ex Q hev st hQ
    cases draw with
    | false =>
      simp only [comp, evC] at hev
      split at hev
      · rename_i tm1 h1 hr
        simp only [Option.some.injEq, Prod.mk.injEq] at hev
        obtain ⟨rfl, rfl, rfl⟩ := hev
        refine wpIn_region ?_
        rw [List.range_eq_range']
        refine runOps_ok hcall ops.size 0 ι tm h a w (by omega) (by simpa using hr) st.wr st.tr st.gi st.sz ?_
        intro ι' a' w' q1 q2 q3 q4 q5
        exact hQ .normal _ _ _ _ rfl (st.next q1 q2 q3 q4 q5) q2
      · cases hev
    | true =>
      cases hcp : comp P N (.region id ops true) with
      | draw es' pairs =>
        rw [hcp] at hev
        simp only [evC] at hev
        split at hev
        · rename_i tm1 h1 ns hr
          obtain ⟨hk, hev⟩ := bif_some hev
          simp only [Option.some.injEq, Prod.mk.injEq] at hev
          obtain ⟨rfl, rfl, rfl⟩ := hev
          refine draw_ok hmix hcall hcp hr hk st.wr st.tr st.gi st.sz ?_
          intro ι' a' w' q1 q2 q3 q4 q5
          exact hQ .normal _ _ _ _ rfl (st.next q1 q2 q3 q4 q5) q2
        · cases hev
      | bad => rw [hcp] at hev; simp [evC] at hev
      | _ => simp only [comp] at hcp; cases hok : okDraw ops (ancs ops) (ordOf (ancs ops) (ops.toList.map (cOper P N ops))) (ops.toList.map (cOper P N ops)) <;> rw [hok] at hcp <;> cases hcp
  | seq x y ihx ihy =>
    intro tm tm' h h' ι a w rs ex Q hev st hQ
    simp only [comp, evC] at hev
    refine wpIn_seq ?_
    cases hx : evC call ro (comp P N x) tm h with
    | none => rw [hx] at hev; cases hev
    | some r =>
      obtain ⟨ex1, tm1, h1⟩ := r
      rw [hx] at hev
      refine ihx tm tm1 h h1 ι a w rs ex1 _ hx st ?_
      intro e a1 w1 ι1 rs1 hxe st1 sim1
      cases ex1 with
      | normal =>
        simp only [XE] at hxe; subst hxe
        exact ihy tm1 tm' h1 h' ι1 a1 w1 rs1 ex Q hev st1 fun e a' w' ι' rs' x1 x2 x3 => hQ e a' w' ι' rs' x1 x2 (sim1.trans x3)
      | exit id =>
        simp only [Option.some.injEq, Prod.mk.injEq] at hev
        obtain ⟨rfl, rfl, rfl⟩ := hev
        simp only [XE] at hxe; subst hxe
        exact hQ (.exit id) _ _ _ _ rfl st1 sim1
      | goto l =>
        simp only [Option.some.injEq, Prod.mk.injEq] at hev
        obtain ⟨rfl, rfl, rfl⟩ := hev
        simp only [XE] at hxe; subst hxe
        exact hQ (.goto l) _ _ _ _ rfl st1 sim1
      | ret =>
        simp only [Option.some.injEq, Prod.mk.injEq] at hev
        obtain ⟨rfl, rfl, rfl⟩ := hev
        simp only [XE] at hxe; subst hxe
        exact hQ .ret _ _ _ _ rfl st1 sim1
  | cond c x y ihx ihy =>
    intro tm tm' h h' ι a w rs ex Q hev st hQ
    simp only [comp] at hev
    split at hev
    · rename_i s hs
      have hv := cS_ok hs st.tr st.gi
      simp only [evC] at hev
      split at hev
      · rename_i he
        rw [he] at hv
        simp only [VR] at hv
        exact wpIn_cond_true hv (ihx tm tm' h h' ι a w rs ex Q hev st hQ)
      · rename_i he
        rw [he] at hv
        simp only [VR] at hv
        exact wpIn_cond_false hv (ihy tm tm' h h' ι a w rs ex Q hev st hQ)
      · cases hev
    · simp [evC] at hev
  | block id x ih =>
    intro tm tm' h h' ι a w rs ex Q hev st hQ
    simp only [comp, evC] at hev
    refine wpIn_block ?_
    cases hx : evC call ro (comp P N x) tm h with
    | none => rw [hx] at hev; cases hev
    | some r =>
      obtain ⟨ex1, tm1, h1⟩ := r
      rw [hx] at hev
      refine ih tm tm1 h h1 ι a w rs ex1 _ hx st ?_
      intro e a1 w1 ι1 rs1 hxe st1 sim1
      cases ex1 with
      | normal =>
        simp only [Option.some.injEq, Prod.mk.injEq] at hev
        obtain ⟨rfl, rfl, rfl⟩ := hev
        simp only [XE] at hxe; subst hxe
        exact hQ .normal _ _ _ _ rfl st1 sim1
      | exit j =>
        simp only [XE] at hxe; subst hxe
        simp only at hev
        by_cases hj : j = id
        · subst hj
          rw [beq_yes rfl] at hev
          simp only [cond_true, Option.some.injEq, Prod.mk.injEq] at hev
          obtain ⟨rfl, rfl, rfl⟩ := hev
          simp only [Exit.inBlock, if_true]
          exact hQ .normal _ _ _ _ rfl st1 sim1
        · rw [beq_no hj] at hev
          simp only [cond_false, Option.some.injEq, Prod.mk.injEq] at hev
          obtain ⟨rfl, rfl, rfl⟩ := hev
          simp only [Exit.inBlock, hj, if_false]
          exact hQ (.exit j) _ _ _ _ rfl st1 sim1
      | goto l =>
        simp only [Option.some.injEq, Prod.mk.injEq] at hev
        obtain ⟨rfl, rfl, rfl⟩ := hev
        simp only [XE] at hxe; subst hxe
        exact hQ (.goto l) _ _ _ _ rfl st1 sim1
      | ret =>
        simp only [Option.some.injEq, Prod.mk.injEq] at hev
        obtain ⟨rfl, rfl, rfl⟩ := hev
        simp only [XE] at hxe; subst hxe
        exact hQ .ret _ _ _ _ rfl st1 sim1
  | scope x ih =>
    intro tm tm' h h' ι a w rs ex Q hev st hQ
    simp only [comp, evC] at hev
    refine wpIn_scope ?_
    cases hx : evC call ro (comp P N x) tm h with
    | none => rw [hx] at hev; cases hev
    | some r =>
      obtain ⟨ex1, tm1, h1⟩ := r
      rw [hx] at hev
      refine ih tm tm1 h h1 ι a w rs ex1 _ hx st ?_
      intro e a1 w1 ι1 rs1 hxe st1 sim1
      cases ex1 with
      | goto l => cases hev
      | normal =>
        simp only [Option.some.injEq, Prod.mk.injEq] at hev
        obtain ⟨rfl, rfl, rfl⟩ := hev
        simp only [XE] at hxe; subst hxe
        exact hQ .normal _ _ _ _ rfl st1 sim1
      | exit j =>
        simp only [Option.some.injEq, Prod.mk.injEq] at hev
        obtain ⟨rfl, rfl, rfl⟩ := hev
        simp only [XE] at hxe; subst hxe
        exact hQ (.exit j) _ _ _ _ rfl st1 sim1
      | ret =>
        simp only [Option.some.injEq, Prod.mk.injEq] at hev
        obtain ⟨rfl, rfl, rfl⟩ := hev
        simp only [XE] at hxe; subst hxe
        exact hQ .ret _ _ _ _ rfl st1 sim1
  | loop x ih =>
    intro tm tm' h h' ι a w rs ex Q hev st hQ
    simp only [comp, evC] at hev
    intro b k cs hro hb hr
    have key : ∀ (n : Nat) (tm : T V) (h : Hp) (ι : Inj) (a : Act) (w : World) (rs : List Nat), iter (evC call ro (comp P N x)) n tm h = some (ex, tm', h') → ST P N base ro lo ι tm h a w rs → Ends P N base ro lo ι h w ex tm' h' Q →
        ∃ e a' w', Q e a' w' ∧ ArrivesIn (Machine.fenced P (Fw lo)) P (lone (b.atR a (.code x :: .inLoop x :: k)) cs w) b k cs e a' w' := by
      intro n
      induction n with
      | zero => intro tm h ι a w rs hev; simp [iter] at hev
      | succ n ihn =>
        intro tm h ι a w rs hev st hQ
        simp only [iter] at hev
        cases hx : evC call ro (comp P N x) tm h with
        | none => rw [hx] at hev; cases hev
        | some r =>
          obtain ⟨ex1, tm1, h1⟩ := r
          rw [hx] at hev
          have hb1 := ih tm tm1 h h1 ι a w rs ex1 (fun e a1 w1 => ∃ ι1 rs1, XE ex1 e ∧ ST P N base ro lo ι1 tm1 h1 a1 w1 rs1 ∧ Sim ι h w ι1 h1 w1) hx st fun e a' w' ι' rs' x1 x2 x3 => ⟨ι', rs', x1, x2, x3⟩
          obtain ⟨e, a1, w1, ⟨ι1, rs1, hxe, st1, sim1⟩, harr⟩ := hb1 b (.inLoop x :: k) cs hro hb hr
          cases ex1 with
          | normal =>
            simp only [XE] at hxe; subst hxe
            obtain ⟨e2, a2, w2, hq2, harr2⟩ := ihn tm1 h1 ι1 a1 w1 rs1 hev st1 fun e a' w' ι' rs' x1 x2 x3 => hQ e a' w' ι' rs' x1 x2 (sim1.trans x3)
            exact ⟨e2, a2, w2, hq2, .of_steps (StepsIn.trans harr (.one (fenced_calm hb hr rfl) stepR_inLoop)) harr2⟩
          | exit j =>
            simp only [Option.some.injEq, Prod.mk.injEq] at hev
            obtain ⟨rfl, rfl, rfl⟩ := hev
            simp only [XE] at hxe; subst hxe
            exact ⟨_, a1, w1, hQ (.exit j) _ _ _ _ rfl st1 sim1, .pass (x := .inLoop x) rfl (fun _ _ => .inl (by simp)) harr⟩
          | goto l =>
            simp only [Option.some.injEq, Prod.mk.injEq] at hev
            obtain ⟨rfl, rfl, rfl⟩ := hev
            simp only [XE] at hxe; subst hxe
            exact ⟨_, a1, w1, hQ (.goto l) _ _ _ _ rfl st1 sim1, .pass (x := .inLoop x) rfl (fun _ _ => .inl (by simp)) harr⟩
          | ret =>
            simp only [Option.some.injEq, Prod.mk.injEq] at hev
            obtain ⟨rfl, rfl, rfl⟩ := hev
            simp only [XE] at hxe; subst hxe
            exact ⟨_, a1, w1, hQ .ret _ _ _ _ rfl st1 sim1, .pass (x := .inLoop x) rfl (fun _ _ => .inl (by simp)) harr⟩
    obtain ⟨e, a', w', hq, harr⟩ := key rounds tm h ι a w rs hev st hQ
    exact ⟨e, a', w', hq, .of_steps (.one (fenced_calm hb hr rfl) stepR_loop) harr⟩
  | rangeFunc f ps as bo _ _ =>
    intro tm tm' h h' ι a w rs ex Q hev st hQ
    simp only [comp] at hev
    split at hev
    · rename_i s hs
      split at hev
      · rename_i hps
        exact range_ok hcall hs (fun p hp => by simpa using List.all_eq_true.1 hps p hp) hev st hQ
      · simp [evC] at hev
    · simp [evC] at hev
end
end Go.Ev
