/-
  The evaluator's calls stand for the model's.
-/
import Derived.Test.YteikmdigmjlmdaaGreatDoorEvCode
set_option linter.unusedVariables false
set_option linter.unusedSimpArgs false
namespace Go.Ev

/-- the functions that the evaluator has are the program's -/
def TabOK (P : Program) (fs : T EFunc) : Prop :=
  ∀ f ef, fs.get f = some ef → ∃ fn, P.funcs[f]? = some fn ∧ (fn.name == "runtime.NumGoroutine") = false ∧ compF P fn = some ef

/-- what it takes for a function without a walk -/
def ExtOK (P : Program) (fs : T EFunc) (ext : Ext) : Prop :=
  ∀ (f : Nat) (args : List V) (h : Hp) (v : V) (h' : Hp) (ι : Inj) (w : World) (ys : List Value), fs.get f = none → ext f args h = some (v, h') → VRs ι args ys → WR P ι h w → GI P ι →
    CallRes P false ι h w v h' ((callFunc f ys.toArray).run P w)

section
variable {P : Program} {ι : Inj} {h h' : Hp} {w w' : World} {tm : T V}

theorem WR.off {r : Nat} {d : Option (List Deferred)} {o : Obj} (hw : WR P ι h w) (hr : w.heap[r]? = some (.deferred d)) (u : Upd w r o w') : WR P ι h w' := by
  refine ⟨?_, hw.inj, fun b i hi => by rw [u.size]; exact hw.lt b i hi, hw.nx, hw.hnx⟩
  intro b i k hi hk
  have hb := hw.rel b i k hi hk
  cases k with
  | dead => trivial
  | cells e n kd rows =>
    have hne : i.cb ≠ r := by
      rintro rfl
      obtain ⟨_, _, _, c, t, fr, h4, _⟩ := hb
      rw [hr] at h4; cases h4
    exact hb.mono (fun _ _ q => q) (u.other _ hne)
  | map es =>
    have hne : i.cb ≠ r := by
      rintro rfl
      obtain ⟨l, c, h4, _⟩ := hb
      rw [hr] at h4; cases h4
    exact hb.mono (fun _ _ q => q) (u.other _ hne)
  | loop st pend tm ps as bo =>
    have hne : i.cb ≠ r := by
      rintro rfl
      obtain ⟨l, h4, _⟩ := hb
      rw [hr] at h4; cases h4
    exact hb.mono (fun _ _ q => q) (u.other _ hne)

theorem Sim.off {ι0 : Inj} {h0 : Hp} {w0 : World} {r : Nat} {o : Obj} (s : Sim ι0 h0 w0 ι h w) (u : Upd w r o w') (hr : w0.heap.size ≤ r) : Sim ι0 h0 w0 ι h w' :=
  ⟨s.mono, s.fresh, s.nx, by rw [u.size]; exact s.size, s.wr, fun cb hc hn => (u.other cb (by omega)).trans (s.frame cb hc hn), s.keep, u.os.trans s.os, u.tape.trans s.tape, u.output.trans s.output⟩

theorem marks_leave {ι0 : Inj} {h0 : Hp} {w0 : World} {fn : Func} {tmps : Array Value} {R : Ending → World → Prop}
    (hR : ∀ w', WR P ι h w' → Sim ι0 h0 w0 ι h w' → ∃ v, (results fn tmps).run P w' = .ok v w' ∧ R (.returned v) w') :
    ∀ (rs : List Nat) (w : World), WR P ι h w → MK rs w0.heap.size ι h w → Sim ι0 h0 w0 ι h w → LeavesInM Fence.wide 0 P fn tmps R (marks rs) .returning w
  | [], w, hw, _, hs => hR w hw hs
  | r :: rs, w, hw, hm, hs => by
    obtain ⟨c1, c2, c3, c4⟩ := hm.each r (List.mem_cons_self ..)
    obtain ⟨w', hset, u⟩ := run_setObj (P := P) (ob' := .deferred none) c3 (by intros; simp)
    have hget : (getObj r).run P w = .ok (.deferred (some [])) w := run_getObj c3 (by intros; simp)
    have hnd := hm.nd
    rw [List.nodup_cons] at hnd
    refine ⟨by simp, .inl ⟨r, w', rfl, ?_, marks_leave hR rs w' (hw.off c3 u) ⟨hnd.2, fun x hx => ?_⟩ (hs.off u c1)⟩⟩
    · simp only [Instr.takeDeferred, Sem.run_bind, hget, Result.andThen_ok, hset, Sem.run_pure]
    · obtain ⟨d1, d2, d3, d4⟩ := hm.each x (List.mem_cons_of_mem _ hx)
      refine ⟨d1, by rw [u.size]; exact d2, ?_, d4⟩
      rw [u.other x (fun e => hnd.1 (e ▸ hx))]
      exact d3

def resOp (tmps : Array Value) : ResultVar → Sem Value
  | .tmp t => pure (tmps.getD t Go.undef)
  | .cell a t => do loadVar t (← asAddr (tmps.getD a Go.undef))

theorem results_ok {tmps : Array Value} (hw : WR P ι h w) (ht : TR ι tm tmps) : ∀ {l : List ResultVar} {rs : List ERes} {vs : List V}, cRess P l = some rs → resultsOf tm h rs = some vs →
    ∃ xs : List Value, (l.mapM (resOp tmps)).run P w = .ok xs w ∧ VRs ι vs xs
  | [], rs, vs, hc, hr => by
    simp only [cRess, Option.some.injEq] at hc
    subst hc
    simp only [resultsOf, Option.some.injEq] at hr
    subst hr
    exact ⟨[], by simp, VRs.nil⟩
  | r :: l, rs, vs, hc, hr => by
    simp only [cRess] at hc
    split at hc
    · rename_i a b h1 h2
      cases hc
      simp only [resultsOf] at hr
      split at hr
      · rename_i v hv
        split at hr
        · rename_i vs2 hvs
          cases hr
          obtain ⟨xs, e1, e2⟩ := results_ok hw ht h2 hvs
          have : ∃ x, (resOp tmps r).run P w = .ok x w ∧ VR ι v x := by
            cases r with
            | tmp t =>
              simp only [cRes, Option.some.injEq] at h1
              subst h1
              simp only [resultOf, Option.some.injEq] at hv
              subst hv
              exact ⟨_, by simp [resOp], ht t⟩
            | cell ad t =>
              simp only [cRes] at h1
              split at h1
              · rename_i n g hn hg
                cases h1
                simp only [resultOf] at hv
                split at hv
                · rename_i b off he
                  split at hv
                  · rename_i cs hl
                    have hp := ht ad
                    rw [he] at hp
                    obtain ⟨i, hi, hx⟩ := VR_ptr hp
                    obtain ⟨y, hy, hyv⟩ := run_loadVar hn hg hw hi hl hv
                    exact ⟨y, by simp [resOp, hx, asAddr, hy], hyv⟩
                  · cases hv
                · cases hv
              · cases h1
          obtain ⟨x, hx, hxv⟩ := this
          exact ⟨x :: xs, by simp [List.mapM_cons, hx, e1], VRs.cons hxv e2⟩
        · cases hr
      · cases hr
    · cases hc

theorem results_run {fn : Func} {tmps : Array Value} {rs : List ERes} {vs : List V} (hw : WR P ι h w) (ht : TR ι tm tmps) (hc : cRess P fn.results.toList = some rs) (hr : resultsOf tm h rs = some vs) :
    ∃ v, (results fn tmps).run P w = .ok v w ∧ VR ι (packResults vs) v := by
  obtain ⟨xs, e1, e2⟩ := results_ok hw ht hc hr
  have hl := e2.length
  have hrun : (fn.results.mapM (resOp tmps)).run P w = .ok xs.toArray w := by
    rw [Array.mapM_eq_mapM_toList]
    simp only [Sem.run_map, e1, Result.andThen_ok]
  have heq : results fn tmps = (do let vs ← fn.results.mapM (resOp tmps); pure (if h : vs.size = 1 then vs[0] else .tuple vs)) := by
    unfold results
    congr 1
  refine ⟨_, by rw [heq, Sem.run_bind, hrun, Result.andThen_ok, Sem.run_pure], ?_⟩
  match vs, xs, hl, e2 with
  | [], xs, hl, e2 =>
    rw [dif_neg (by simp at hl; simp [hl])]
    simp only [packResults, VR]
    exact ⟨_, rfl, by simpa using e2⟩
  | [v], xs, hl, e2 =>
    rw [dif_pos (by simpa using hl)]
    obtain ⟨x, t, rfl, hx, ht'⟩ := VRs_cons.1 e2
    simpa [packResults] using hx
  | v :: u :: l, xs, hl, e2 =>
    rw [dif_neg (by simp at hl; simp; omega)]
    simp only [packResults, VR]
    exact ⟨_, rfl, by simpa using e2⟩

theorem TR_args {vs : List V} {ys : List Value} {n : Nat} (hv : VRs ι vs ys) : TR ι (T.setMany .nil 0 vs) (ys.toArray ++ Array.replicate n Go.undef) := by
  intro i
  have hl := hv.length
  simp only [ev, T.get_setMany, Nat.zero_le, if_true, Nat.sub_zero, Array.getD_eq_getD_getElem?]
  cases hq : vs[i]? with
  | some v =>
    obtain ⟨x, hx, r⟩ := hv.get hq
    have hi := (List.getElem?_eq_some_iff.1 hx).1
    rw [Array.getElem?_append_left (by simpa using hi)]
    simpa [hx] using r
  | none =>
    have hi : vs.length ≤ i := by simpa using hq
    rw [Array.getElem?_append_right (by simp; omega)]
    simp only [T.get]
    have : ((Array.replicate n Go.undef)[i - ys.toArray.size]?).getD Go.undef = Go.undef := by
      rw [Array.getElem?_replicate]
      split <;> rfl
    rw [this]
    exact VR_undef

theorem setParams_ok : ∀ {ps : List Nat} {vs : List V} {xs : List Value} {tm : T V} {tmps : Array Value}, VRs ι vs xs → ps.length = vs.length → TR ι tm tmps → (∀ p ∈ ps, p < tmps.size) →
    TR ι (setParams tm ps vs) ((ps.zip xs).foldl (fun tmps (p : Nat × Value) => tmps.setIfInBounds p.1 p.2) tmps) ∧ ((ps.zip xs).foldl (fun tmps (p : Nat × Value) => tmps.setIfInBounds p.1 p.2) tmps).size = tmps.size
  | [], vs, xs, tm, tmps, hv, hl, ht, _ => by
    cases vs with
    | nil => rw [VRs_nil] at hv; subst hv; exact ⟨ht, rfl⟩
    | cons v vs => simp at hl
  | p :: ps, vs, xs, tm, tmps, hv, hl, ht, hp => by
    cases vs with
    | nil => simp at hl
    | cons v vs =>
      obtain ⟨x, t, rfl, hx, hr⟩ := VRs_cons.1 hv
      have := setParams_ok (ps := ps) hr (by simpa using hl) (ht.set (hp p (List.mem_cons_self ..)) hx) (fun q hq => by simpa using hp q (List.mem_cons_of_mem _ hq))
      simp only [setParams, List.zip_cons_cons, List.foldl_cons]
      refine ⟨this.1, this.2.trans (by simp)⟩
end

theorem callN_ok {P : Program} {fs : T EFunc} {ext : Ext} (hmix : P.follows .mixedOrders = true) (htab : TabOK P fs) (hext : ExtOK P fs ext) : ∀ n, CallOK P (callN fs ext n) := by
  intro n
  induction n with
  | zero => intro must f args h v h' ι w x ys hc; simp [callN] at hc
  | succ n ih =>
    intro must f args h v h' ι w x ys hc hx hy hw hg
    cases f with
    | func fi first captured =>
      simp only [VR] at hx
      obtain ⟨fa, ca, rfl, hfa, hca⟩ := hx
      have hargs : VRs ι (first ++ args ++ captured) (fa.toList ++ ys ++ ca.toList) := (hfa.append hy).append hca
      have hrun : (callOf (.func (.func fi) fa ca) ys.toArray).run P w = (callFunc fi (fa.toList ++ ys ++ ca.toList).toArray).run P w := by
        simp only [callOf, Deferred.ofValue, Sem.run_bind, Sem.run_pure, Result.andThen_ok, pure_bind, invoke]
        congr 2
        simp
      rw [hrun]
      simp only [callN] at hc
      split at hc
      · rename_i ef hef
        obtain ⟨fn, hf, hname, hcf⟩ := htab fi ef hef
        obtain ⟨hle, hc⟩ := bif_some hc
        unfold compF at hcf
        split at hcf
        · rename_i c rs hbody hres
          cases hcf
          simp only at hc hle
          have hle' : (first ++ args ++ captured).length ≤ fn.ntmps := Nat.le_of_ble_eq_true hle
          have hal := hargs.length
          have hcallf : (callFunc fi (fa.toList ++ ys ++ ca.toList).toArray).run P w = .ok (.enter fi (fa.toList ++ ys ++ ca.toList).toArray) w := by
            have hname' : ¬ fn.name = "runtime.NumGoroutine" := fun e => by rw [e] at hname; simp at hname
            simp [callFunc, hf, hname', hbody]
          rw [hcallf]
          -- what the evaluator came to
          have hcases : ∃ ex tm1 vs, (ex = .normal ∨ ex = .ret) ∧ evC (callN fs ext n) none (comp P fn.ntmps c) (T.setMany .nil 0 (first ++ args ++ captured)) h = some (ex, tm1, h') ∧ resultsOf tm1 h' rs = some vs ∧ v = packResults vs := by
            split at hc
            · rename_i tm1 h1 he
              split at hc
              · rename_i vs hvs
                simp only [Option.some.injEq, Prod.mk.injEq] at hc
                obtain ⟨rfl, rfl⟩ := hc
                exact ⟨.normal, tm1, vs, .inl rfl, he, hvs, rfl⟩
              · cases hc
            · rename_i tm1 h1 he
              split at hc
              · rename_i vs hvs
                simp only [Option.some.injEq, Prod.mk.injEq] at hc
                obtain ⟨rfl, rfl⟩ := hc
                exact ⟨.ret, tm1, vs, .inr rfl, he, hvs, rfl⟩
              · cases hc
            · cases hc
          obtain ⟨ex, tm1, vs, hex, he, hvs, rfl⟩ := hcases
          refine ⟨rfl, callsIn_of_wp_marks hf hbody trivial ?_⟩
          have st : ST P fn.ntmps w.heap.size none none ι (T.setMany .nil 0 (first ++ args ++ captured)) h { tmps := (fa.toList ++ ys ++ ca.toList).toArray ++ Array.replicate (fn.ntmps - (fa.toList ++ ys ++ ca.toList).toArray.size) Go.undef, defers := [] } w [] := by
            refine ⟨trivial, hw, TR_args hargs, hg, ?_, rfl, ⟨List.nodup_nil, by simp⟩, Nat.le_refl _⟩
            simp only [Array.size_append, Array.size_replicate, List.size_toArray]
            omega
          refine evC_ok (lo := none) hmix ih c _ _ _ _ _ _ _ _ ex _ he st ?_
          intro e a' w' ι' rs' hxe st' sim'
          have fin : LeavesInM Fence.wide 0 P fn a'.tmps (Ret P ι h w (packResults vs) h') a'.defers .returning w' := by
            rw [st'.df]
            refine marks_leave (ι0 := ι) (h0 := h) (w0 := w) ?_ rs' w' st'.wr st'.mks sim'
            intro w2 hw2 hs2
            obtain ⟨y, hy1, hy2⟩ := results_run hw2 st'.tr hres hvs
            exact ⟨y, hy1, ι', hw2, hs2, hy2⟩
          rcases hex with rfl | rfl
          · simp only [XE] at hxe; subst hxe; exact fin
          · simp only [XE] at hxe; subst hxe; exact fin
        · cases hcf
      · rename_i hnone
        cases must with
        | true => cases hc
        | false =>
          simp only [cond_false] at hc
          exact hext fi _ h v h' ι w _ hnone hc hargs hw hg
    | yield b =>
      simp only [VR] at hx
      obtain ⟨i, hi, rfl⟩ := hx
      simp only [callN] at hc
      cases must with
      | true => cases hc
      | false =>
        simp only [cond_false] at hc
        split at hc
        · rename_i sta pend tm params assign body hk
          obtain ⟨hlen, hc⟩ := bif_some hc
          have hlen' := Nat.eq_of_beq_eq_true hlen
          obtain ⟨r, hr1, hr2, hr3, hr4, hr5, hr6, hr7, hr8⟩ := hw.rel b i _ hi hk
          have hget : (getObj i.cb).run P w = .ok (.loop r) w := run_getObj hr1 (by intros; simp)
          have hyl := hy.length
          have hps : r.params.size = params.length := by rw [← hr5]; simp
          have hrun : (callOf (.func (.yield i.cb) #[] #[]) ys.toArray).run P w =
              .ok (.round i.cb r.fn ((r.params.zip ys.toArray).foldl (fun tmps (t, a) => tmps.setIfInBounds t a) r.tmps) r.assign r.body) w := by
            simp only [callOf, Deferred.ofValue, Sem.run_bind, Sem.run_pure, Result.andThen_ok, pure_bind, invoke, Instr.yield, Instr.getLoop, hget]
            rw [if_neg (by simp; omega)]
            simp
          rw [hrun]
          refine ⟨rfl, rfl, ?_⟩
          obtain ⟨t1, t2⟩ := setParams_ok (ps := params) hy hlen' hr4 hr6
          have hfold : (r.params.zip ys.toArray).foldl (fun tmps (t, a) => tmps.setIfInBounds t a) r.tmps = (params.zip ys).foldl (fun tmps (p : Nat × Value) => tmps.setIfInBounds p.1 p.2) r.tmps := by
            rw [← hr5, ← Array.foldl_toList]
            simp
          rw [hfold]
          generalize (params.zip ys).foldl (fun tmps (p : Nat × Value) => tmps.setIfInBounds p.1 p.2) r.tmps = tmps1 at t1 t2
          cases ha : evC (callN fs ext n) (some b) assign (setParams tm params args) h with
          | none => rw [ha] at hc; cases hc
          | some ra =>
            obtain ⟨exa, tm1, h1⟩ := ra
            rw [ha] at hc
            cases exa with
            | exit _ => cases hc
            | goto _ => cases hc
            | ret => cases hc
            | normal =>
              simp only at hc
              split at hc
              · rename_i p1 s1 ps1 as1 bo1 hk1
                split at hc
                · rename_i x tmx h2 hb2
                  split at hc
                  · rename_i sta2 p2 s2 ps2 as2 bo2 hk2
                    refine roundIn_of_wpIn trivial ?_
                    have st : ST P r.tmps.size w.heap.size (some b) (some i.cb) ι (setParams tm params args) h { tmps := tmps1, defers := [] } w [] :=
                      ⟨⟨i, hi, rfl⟩, hw, t1, hg, t2, rfl, ⟨List.nodup_nil, by simp⟩, Nat.le_refl _⟩
                    rw [← hr7] at ha
                    refine evC_ok (lo := some i.cb) hmix ih r.assign _ _ _ _ _ _ _ _ .normal _ ha st ?_
                    intro e a1 w1 ι1 rs1 hxe st1 sim1
                    simp only [XE] at hxe; subst hxe
                    have hi1 := sim1.mono _ _ hi
                    obtain ⟨q, q1, q2, q3, q4, q5, q6, q7, q8⟩ := st1.wr.rel b i _ hi1 hk1
                    simp only [LR] at q2
                    obtain ⟨w2, hset, u⟩ := run_setObj (P := P) (ob' := .loop { q with state := .busy }) q1 (by intros; simp)
                    have hgetq : (getObj i.cb).run P w1 = .ok (.loop q) w1 := run_getObj q1 (by intros; simp)
                    obtain ⟨wr2, sim2⟩ := st1.wr.upd (k := .loop .busy p1 s1 ps1 as1 bo1) hi1 hk1 rfl rfl u ⟨{ q with state := .busy }, u.at_, rfl, q3, q4, q5, q6, q7, q8⟩
                    refine ⟨w2, ?_, ?_⟩
                    · simp only [Instr.beginRound, Instr.getLoop, Sem.run_bind, hgetq, Result.andThen_ok, Sem.run_pure, pure_bind, hset, q2]
                    · have st2 : ST P r.tmps.size w.heap.size (some b) (some i.cb) ι1 tm1 (h1.put b (.loop .busy p1 s1 ps1 as1 bo1)) a1 w2 rs1 := st1.next wr2 sim2 st1.tr st1.sz rfl
                      rw [← hr8] at hb2
                      refine evC_ok (lo := some i.cb) hmix ih r.body _ _ _ _ _ _ _ _ x _ hb2 st2 ?_
                      intro e a3 w3 ι3 rs3 hxe3 st3 sim3
                      have simA := sim1.trans (sim2.trans sim3)
                      have hi3 := simA.mono _ _ hi
                      obtain ⟨z, z1, z2, z3, z4, z5, z6, z7, z8⟩ := st3.wr.rel b i _ hi3 hk2
                      have hgetz : (getObj i.cb).run P w3 = .ok (.loop z) w3 := run_getObj z1 (by intros; simp)
                      -- the round's end, whatever it is
                      have fin : ∀ (jump : Option Code) (sx : LState) (px : Ex), LR sx (if jump.isNone then .ready else .done) → XR px jump →
                          v = .bool jump.isNone → h' = h2.put b (.loop sx px s2 ps2 as2 bo2) → ∃ y w', (Instr.endRound i.cb jump).run P w3 = .ok y w' ∧ Ret P ι h w v h' (.returned y) w' := by
                        intro jump sx px hl hp hv hh
                        subst hv hh
                        obtain ⟨w4, hset4, u4⟩ := run_setObj (P := P) (ob' := .loop { z with state := if jump.isNone then .ready else .done, pending := jump }) z1 (by intros; simp)
                        obtain ⟨wr4, sim4⟩ := st3.wr.upd (k := .loop sx px s2 ps2 as2 bo2) hi3 hk2 rfl rfl u4 ⟨{ z with state := if jump.isNone then .ready else .done, pending := jump }, u4.at_, hl, hp, z4, z5, z6, z7, z8⟩
                        refine ⟨.bool jump.isNone, w4, ?_, ι3, wr4, simA.trans sim4, by simp [VR]⟩
                        simp only [Instr.endRound, Instr.getLoop, Sem.run_bind, hgetz, Result.andThen_ok, Sem.run_pure, pure_bind, hset4]
                      cases x with
                      | normal =>
                        simp only [XE] at hxe3; subst hxe3
                        simp only [Option.some.injEq, Prod.mk.injEq] at hc
                        exact fin none .ready .normal rfl rfl hc.1.symm hc.2.symm
                      | exit id =>
                        simp only [XE] at hxe3; subst hxe3
                        simp only [Option.some.injEq, Prod.mk.injEq] at hc
                        exact fin (some (.exit id)) .done (.exit id) rfl rfl hc.1.symm hc.2.symm
                      | goto l =>
                        simp only [XE] at hxe3; subst hxe3
                        simp only [Option.some.injEq, Prod.mk.injEq] at hc
                        exact fin (some (.goto l)) .done (.goto l) rfl rfl hc.1.symm hc.2.symm
                      | ret =>
                        simp only [XE] at hxe3; subst hxe3
                        simp only [Option.some.injEq, Prod.mk.injEq] at hc
                        exact fin (some .ret) .done .ret rfl rfl hc.1.symm hc.2.symm
                  · cases hc
                · cases hc
              · cases hc
        · cases hc
    | _ => simp [callN] at hc
end Go.Ev
