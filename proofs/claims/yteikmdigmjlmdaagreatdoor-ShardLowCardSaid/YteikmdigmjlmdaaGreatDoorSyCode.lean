/-
  The symbolic evaluator's walk stands for the evaluator's walk.
-/
import Derived.Test.YteikmdigmjlmdaaGreatDoorSyMas
import Derived.Test.YteikmdigmjlmdaaGreatDoorEvOrd
set_option linter.unusedVariables false
set_option linter.unusedSimpArgs false
namespace Go.Ev

/-- calls over codes stand for calls -/
def CallSim (ρ : Nat → Int) (c c' : Caller) : Prop :=
  ∀ (must : Bool) (f : V) (args : List V) (h : Hp) (v : V) (h' : Hp), c must f args h = some (v, h') → c' must (fv ρ f) (fvs ρ args) (fh ρ h) = some (fv ρ v, fh ρ h')

section
variable {R : Reg} {ρ : Nat → Int} {c c' : Caller}

theorem sStep_ok (ok : RegOK R ρ) (hc : CallSim ρ c c') {e : EOp} {tm : T V} {h h' : Hp} {v : V} (q : sStep R c e tm h = some (v, h')) : stepOp c' (fOp ρ e) (ft ρ tm) (fh ρ h) = some (fv ρ v, fh ρ h') := by
  by_cases hcl : ∃ f args, e = .call f args
  · obtain ⟨f, args, rfl⟩ := hcl
    simp only [sStep] at q
    simp only [fOp, stepOp, f_ev, f_evs]
    exact hc _ _ _ _ _ _ q
  · have h1 : sStep R c e tm h = sOp R tm h e := by cases e <;> first | rfl | exact absurd ⟨_, _, rfl⟩ hcl
    have h2 : stepOp c' (fOp ρ e) (ft ρ tm) (fh ρ h) = evOp (ft ρ tm) (fh ρ h) (fOp ρ e) := by cases e <;> first | rfl | exact absurd ⟨_, _, rfl⟩ hcl
    rw [h1] at q
    rw [h2]
    exact sOp_ok ok q

theorem sRunOps_ok (ok : RegOK R ρ) (hc : CallSim ρ c c') : ∀ {ops : List EOper} {tm tm' : T V} {h h' : Hp}, sRunOps R c ops tm h = some (tm', h') → runOps c' (ops.map (fOper ρ)) (ft ρ tm) (fh ρ h) = some (ft ρ tm', fh ρ h')
  | [], tm, tm', h, h', q => by
    simp only [sRunOps, Option.some.injEq, Prod.mk.injEq] at q
    obtain ⟨rfl, rfl⟩ := q
    rfl
  | o :: l, tm, tm', h, h', q => by
    simp only [sRunOps] at q
    simp only [List.map_cons, runOps, fOper, f_wanted]
    cases hw : wanted tm o.guard with
    | true =>
      rw [hw] at q
      simp only [cond_true] at q ⊢
      split at q
      · rename_i v h2 hs
        rw [sStep_ok ok hc hs]
        simp only
        rw [← f_putT]
        exact sRunOps_ok ok hc q
      · cases q
    | false =>
      rw [hw] at q
      simp only [cond_false] at q ⊢
      have := sRunOps_ok ok hc q
      rw [f_putT, fv_undef] at this
      exact this

def fNote (ρ : Nat → Int) (n : Note) : Note := ⟨fOp ρ n.op, ft ρ n.tm, fv ρ n.v, fh ρ n.before, fh ρ n.after⟩

theorem sRunDraw_ok (ok : RegOK R ρ) (hc : CallSim ρ c c') : ∀ {ops : List EOper} {tm tm' : T V} {h h' : Hp} {ns : List (Option Note)}, sRunDraw R c ops tm h = some (tm', h', ns) →
    runDraw c' (ops.map (fOper ρ)) (ft ρ tm) (fh ρ h) = some (ft ρ tm', fh ρ h', ns.map (·.map (fNote ρ)))
  | [], tm, tm', h, h', ns, q => by
    simp only [sRunDraw, Option.some.injEq, Prod.mk.injEq] at q
    obtain ⟨rfl, rfl, rfl⟩ := q
    rfl
  | o :: l, tm, tm', h, h', ns, q => by
    simp only [sRunDraw] at q
    simp only [List.map_cons, runDraw, fOper, f_wanted]
    cases hw : wanted tm o.guard with
    | true =>
      rw [hw] at q
      simp only [cond_true] at q ⊢
      split at q
      · rename_i v h2 hs
        rw [sStep_ok ok hc hs]
        simp only
        split at q
        · rename_i tm2 h3 ns2 hr
          simp only [Option.some.injEq, Prod.mk.injEq] at q
          obtain ⟨rfl, rfl, rfl⟩ := q
          rw [← f_putT, sRunDraw_ok ok hc hr]
          rfl
        · cases q
      · cases q
    | false =>
      rw [hw] at q
      simp only [cond_false] at q ⊢
      split at q
      · rename_i tm2 h3 ns2 hr
        simp only [Option.some.injEq, Prod.mk.injEq] at q
        obtain ⟨rfl, rfl, rfl⟩ := q
        have := sRunDraw_ok ok hc hr
        rw [f_putT, fv_undef] at this
        rw [this]
        rfl
      · cases q

theorem V.same_refl_of {a b : V} (h : V.same a b = true) : a = b := V.same_eq h

mutual
theorem V.same_self : ∀ a : V, V.same a a = true
  | .bool a => by simp [V.same]
  | .int k a => by simp [V.same, kindEq_iff]
  | .str a => by simp [V.same, eqNats_iff]
  | .ptr a i => by simp [V.same]
  | .nilPtr => rfl
  | .slice a i l c e => by simp [V.same]
  | .nilSlice => rfl
  | .map a => by simp [V.same]
  | .nilMap => rfl
  | .func f a c => by simp [V.same, V.sames_self a, V.sames_self c]
  | .yield a => by simp [V.same]
  | .nilFunc => rfl
  | .iface t v => by simp [V.same, V.same_self v]
  | .nilIface => rfl
  | .agg a => by simp [V.same, V.sames_self a]
  | .tuple a => by simp [V.same, V.sames_self a]
theorem V.sames_self : ∀ a : List V, V.sames a a = true
  | [] => rfl
  | v :: a => by simp [V.sames, V.same_self v, V.sames_self a]
end

theorem sSameAt_ok (ok : RegOK R ρ) {n : Note} {h : Hp} (q : sSameAt R n h = true) : sameAt (fNote ρ n) (fh ρ h) = true := by
  unfold sSameAt at q
  unfold sameAt
  split at q
  · rename_i v h2 hs
    have := V.same_eq q
    subst this
    simp only [fNote, sOp_ok ok hs]
    exact V.same_self _
  · cases q

theorem sCheckPair_ok (ok : RegOK R ρ) {ns : List (Option Note)} {p : Nat × Nat} (q : sCheckPair R ns p = true) : checkPair (ns.map (·.map (fNote ρ))) p = true := by
  unfold sCheckPair at q
  unfold checkPair
  simp only [List.getElem?_map]
  split at q
  · rename_i r cc h1 h2
    simp only [Bool.and_eq_true] at q
    simp only [h1, h2, Option.map_some, fNote]
    simp only [Bool.and_eq_true]
    exact ⟨sSameAt_ok ok q.1, sSameAt_ok ok q.2⟩
  · rename_i a b hn h1 h2
    simp only [h1, h2, Option.map_some]
    cases a with
    | none => rfl
    | some a =>
      cases b with
      | none => rfl
      | some b => exact (hn a b rfl rfl).elim
  · cases q

theorem sCheckAll_ok (ok : RegOK R ρ) {ns : List (Option Note)} : ∀ {l : List (Nat × Nat)}, sCheckAll R ns l = true → checkAll (ns.map (·.map (fNote ρ))) l = true
  | [], _ => rfl
  | p :: l, q => by
    simp only [sCheckAll, Bool.and_eq_true] at q
    simp only [checkAll, Bool.and_eq_true]
    exact ⟨sCheckPair_ok ok q.1, sCheckAll_ok ok q.2⟩

theorem f_isLoop {h : Hp} (ro : Option Nat) : isLoop (fh ρ h) ro = isLoop h ro := by
  cases ro with
  | none => rfl
  | some b =>
    simp only [isLoop, fh_get]
    cases h.get b with
    | none => rfl
    | some k => cases k <;> rfl

theorem sC_ok (ok : RegOK R ρ) (hc : CallSim ρ c c') {ro : Option Nat} : ∀ (e : E) (tm tm' : T V) (h h' : Hp) (ex : Ex), sC R c ro e tm h = some (ex, tm', h') →
    evC c' ro (fE ρ e) (ft ρ tm) (fh ρ h) = some (ex, ft ρ tm', fh ρ h') := by
  intro e
  induction e with
  | skip => intro tm tm' h h' ex q; simp only [sC, Option.some.injEq, Prod.mk.injEq] at q; obtain ⟨rfl, rfl, rfl⟩ := q; rfl
  | label l => intro tm tm' h h' ex q; simp only [sC, Option.some.injEq, Prod.mk.injEq] at q; obtain ⟨rfl, rfl, rfl⟩ := q; rfl
  | exit l => intro tm tm' h h' ex q; simp only [sC, Option.some.injEq, Prod.mk.injEq] at q; obtain ⟨rfl, rfl, rfl⟩ := q; rfl
  | goto l => intro tm tm' h h' ex q; simp only [sC, Option.some.injEq, Prod.mk.injEq] at q; obtain ⟨rfl, rfl, rfl⟩ := q; rfl
  | ret => intro tm tm' h h' ex q; simp only [sC, Option.some.injEq, Prod.mk.injEq] at q; obtain ⟨rfl, rfl, rfl⟩ := q; rfl
  | bad => intro tm tm' h h' ex q; simp only [sC] at q; cases q
  | region ops =>
    intro tm tm' h h' ex q
    simp only [sC] at q
    simp only [fE, evC]
    split at q
    · rename_i tm1 h1 hr
      simp only [Option.some.injEq, Prod.mk.injEq] at q
      obtain ⟨rfl, rfl, rfl⟩ := q
      rw [sRunOps_ok ok hc hr]
    · cases q
  | draw ops ps =>
    intro tm tm' h h' ex q
    simp only [sC] at q
    simp only [fE, evC]
    split at q
    · rename_i tm1 h1 ns hr
      obtain ⟨hk, q⟩ := bif_some q
      simp only [Option.some.injEq, Prod.mk.injEq] at q
      obtain ⟨rfl, rfl, rfl⟩ := q
      rw [sRunDraw_ok ok hc hr]
      simp only [sCheckAll_ok ok hk, cond_true]
    · cases q
  | seq a b iha ihb =>
    intro tm tm' h h' ex q
    simp only [sC] at q
    simp only [fE, evC]
    cases hx : sC R c ro a tm h with
    | none => rw [hx] at q; cases q
    | some r =>
      obtain ⟨ex1, tm1, h1⟩ := r
      rw [hx] at q
      rw [iha _ _ _ _ _ hx]
      cases ex1 with
      | normal => exact ihb _ _ _ _ _ q
      | _ => simp only [Option.some.injEq, Prod.mk.injEq] at q; obtain ⟨rfl, rfl, rfl⟩ := q; rfl
  | cond s a b iha ihb =>
    intro tm tm' h h' ex q
    simp only [sC] at q
    simp only [fE, evC, f_ev]
    split at q
    · rename_i he; rw [he]; exact iha _ _ _ _ _ q
    · rename_i he; rw [he]; exact ihb _ _ _ _ _ q
    · cases q
  | block id x ih =>
    intro tm tm' h h' ex q
    simp only [sC] at q
    simp only [fE, evC]
    cases hx : sC R c ro x tm h with
    | none => rw [hx] at q; cases q
    | some r =>
      obtain ⟨ex1, tm1, h1⟩ := r
      rw [hx] at q
      rw [ih _ _ _ _ _ hx]
      cases ex1 with
      | exit i =>
        simp only at q ⊢
        cases hb : Nat.beq i id <;> rw [hb] at q <;> simp only [cond_true, cond_false, Option.some.injEq, Prod.mk.injEq] at q ⊢ <;> (obtain ⟨rfl, rfl, rfl⟩ := q; exact ⟨rfl, rfl, rfl⟩)
      | _ => simp only [Option.some.injEq, Prod.mk.injEq] at q; obtain ⟨rfl, rfl, rfl⟩ := q; rfl
  | scope x ih =>
    intro tm tm' h h' ex q
    simp only [sC] at q
    simp only [fE, evC]
    cases hx : sC R c ro x tm h with
    | none => rw [hx] at q; cases q
    | some r =>
      obtain ⟨ex1, tm1, h1⟩ := r
      rw [hx] at q
      rw [ih _ _ _ _ _ hx]
      cases ex1 with
      | goto i => cases q
      | _ => simp only [Option.some.injEq, Prod.mk.injEq] at q; obtain ⟨rfl, rfl, rfl⟩ := q; rfl
  | loop x ih =>
    intro tm tm' h h' ex q
    simp only [sC] at q
    simp only [fE, evC]
    have key : ∀ (n : Nat) (tm : T V) (h : Hp), iter (sC R c ro x) n tm h = some (ex, tm', h') → iter (evC c' ro (fE ρ x)) n (ft ρ tm) (fh ρ h) = some (ex, ft ρ tm', fh ρ h') := by
      intro n
      induction n with
      | zero => intro tm h q; simp [iter] at q
      | succ n ihn =>
        intro tm h q
        simp only [iter] at q ⊢
        cases hx : sC R c ro x tm h with
        | none => rw [hx] at q; cases q
        | some r =>
          obtain ⟨ex1, tm1, h1⟩ := r
          rw [hx] at q
          rw [ih _ _ _ _ _ hx]
          cases ex1 with
          | normal => exact ihn _ _ q
          | _ => simp only [Option.some.injEq, Prod.mk.injEq] at q; obtain ⟨rfl, rfl, rfl⟩ := q; rfl
    exact key _ _ _ q
  | rangeFunc f ps a b _ _ =>
    intro tm tm' h h' ex q
    simp only [sC] at q
    simp only [fE, evC, f_isLoop, f_ev]
    obtain ⟨hl, q⟩ := bif_some q
    rw [hl]
    simp only [cond_true]
    split at q
    · rename_i v h2 hcc
      have := hc _ _ _ _ _ _ hcc
      simp only [fvs, fv, fh_add, fBlk] at this
      rw [fh_nx, this]
      simp only [fh_get]
      split at q
      · rename_i st pend tm0 ps0 as0 bo0 hg
        rw [hg]
        simp only [Option.map_some, fBlk]
        cases st <;> first
          | (cases q; done)
          | (simp only [Option.some.injEq, Prod.mk.injEq] at q
             obtain ⟨rfl, rfl, rfl⟩ := q
             simp only [fh_put, fBlk])
      · cases q
    · cases q

theorem f_resultsOf {tm : T V} {h : Hp} : ∀ {rs : List ERes} {vs : List V}, resultsOf tm h rs = some vs → resultsOf (ft ρ tm) (fh ρ h) rs = some (fvs ρ vs)
  | [], vs, q => by simp only [resultsOf, Option.some.injEq] at q; subst q; rfl
  | r :: rs, vs, q => by
    simp only [resultsOf] at q ⊢
    split at q
    · rename_i v hv
      split at q
      · rename_i vs2 hvs
        simp only [Option.some.injEq] at q
        subst q
        have hr : resultOf (ft ρ tm) (fh ρ h) r = some (fv ρ v) := by
          cases r with
          | tmp t =>
            simp only [resultOf, Option.some.injEq] at hv ⊢
            subst hv
            exact f_ev (.t t)
          | cell t size agg =>
            simp only [resultOf] at hv ⊢
            have he := f_ev (ρ := ρ) (tm := tm) (.t t)
            simp only [fS] at he
            rw [he]
            split at hv
            · rename_i b off hp
              rw [hp]
              simp only [fv]
              split at hv
              · rename_i cs hl
                rw [f_load hl]
                cases agg with
                | true => simp only [cond_true, Option.some.injEq] at hv ⊢; subst hv; rfl
                | false =>
                  simp only [cond_false] at hv ⊢
                  split at hv
                  · simp only [Option.some.injEq] at hv; subst hv; rfl
                  · cases hv
              · cases hv
            · cases hv
        rw [hr]
        simp only [f_resultsOf hvs, fvs]
      · cases q
    · cases q

theorem f_pack (vs : List V) : fv ρ (packResults vs) = packResults (fvs ρ vs) := by
  match vs with
  | [] => rfl
  | [v] => rfl
  | v :: u :: l => rfl

/-- what stands outside the walk -/
def ExtSim (ρ : Nat → Int) (x x' : Ext) : Prop := ∀ (f : Nat) (args : List V) (h : Hp) (v : V) (h' : Hp), x f args h = some (v, h') → x' f (fvs ρ args) (fh ρ h) = some (fv ρ v, fh ρ h')

theorem f_setMany (vs : List V) : ft ρ (T.setMany .nil 0 vs) = T.setMany .nil 0 (fvs ρ vs) := by
  unfold ft
  rw [T.setMany_map, ← fvs_map]
  rfl

theorem sN_ok (ok : RegOK R ρ) {fs fs' : T EFunc} {x x' : Ext} (hx : ExtSim ρ x x') (hfs : ∀ f, fs'.get f = (fs.get f).map (fF ρ)) : ∀ n, CallSim ρ (sN R fs x n) (callN fs' x' n) := by
  intro n
  induction n with
  | zero => intro must f args h v h' q; simp [sN] at q
  | succ n ih =>
    intro must f args h v h' q
    cases f with
    | func fi first captured =>
      simp only [sN] at q
      simp only [fv, callN, hfs, ← fvs_append]
      split at q
      · rename_i ef hef
        rw [hef]
        simp only [Option.map_some, fF, fvs_length]
        obtain ⟨hle, q⟩ := bif_some q
        rw [hle]
        simp only [cond_true, ← f_setMany]
        cases hr : sC R (sN R fs x n) none ef.body (T.setMany .nil 0 (first ++ args ++ captured)) h with
        | none => rw [hr] at q; cases q
        | some r =>
          obtain ⟨ex, tm1, h1⟩ := r
          rw [hr] at q
          rw [sC_ok ok ih _ _ _ _ _ _ hr]
          cases ex with
          | exit _ => cases q
          | goto _ => cases q
          | normal =>
            simp only at q ⊢
            split at q
            · rename_i vs hvs
              obtain ⟨rfl, rfl⟩ := pair_eq q
              rw [f_resultsOf hvs, f_pack]
            · cases q
          | ret =>
            simp only at q ⊢
            split at q
            · rename_i vs hvs
              obtain ⟨rfl, rfl⟩ := pair_eq q
              rw [f_resultsOf hvs, f_pack]
            · cases q
      · rename_i hef
        rw [hef]
        simp only [Option.map_none]
        cases must with
        | true => cases q
        | false => simp only [cond_false] at q ⊢; exact hx _ _ _ _ _ q
    | yield b =>
      simp only [sN] at q
      simp only [fv, callN, fh_get]
      cases must with
      | true => cases q
      | false =>
        simp only [cond_false] at q ⊢
        split at q
        · rename_i st pend tm params as bo hk
          rw [hk]
          simp only [Option.map_some, fBlk, fvs_length]
          obtain ⟨hl, q⟩ := bif_some q
          rw [hl]
          simp only [cond_true, ← f_setParams]
          cases ha : sC R (sN R fs x n) (some b) as (setParams tm params args) h with
          | none => rw [ha] at q; cases q
          | some ra =>
            obtain ⟨exa, tm1, h1⟩ := ra
            rw [ha] at q
            rw [sC_ok ok ih _ _ _ _ _ _ ha]
            cases exa with
            | exit _ => cases q
            | goto _ => cases q
            | ret => cases q
            | normal =>
              simp only [fh_get] at q ⊢
              split at q
              · rename_i p1 t1 ps1 as1 bo1 hk1
                rw [hk1]
                simp only [Option.map_some, fBlk]
                cases hb : sC R (sN R fs x n) (some b) bo tm1 (h1.put b (.loop .busy p1 t1 ps1 as1 bo1)) with
                | none => rw [hb] at q; cases q
                | some rb =>
                  obtain ⟨exb, tm2, h2⟩ := rb
                  rw [hb] at q
                  have := sC_ok ok ih _ _ _ _ _ _ hb
                  simp only [fh_put, fBlk] at this
                  rw [this]
                  simp only [fh_get] at q ⊢
                  split at q
                  · rename_i st2 p2 t2 ps2 as2 bo2 hk2
                    rw [hk2]
                    simp only [Option.map_some, fBlk]
                    cases exb <;> (obtain ⟨rfl, rfl⟩ := pair_eq q; simp only [fh_put, fBlk, fv])
                  · cases q
              · cases q
        · cases q
    | _ => simp [sN] at q
end
end Go.Ev
