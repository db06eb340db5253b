/-
  What an operation's answer does not depend on: temporaries that it does not name, the heap, blocks made since.
-/
import Derived.Test.YteikmdigmjlmdaaGreatDoorEvOpH
set_option linter.unusedVariables false
set_option linter.unusedSimpArgs false
namespace Go.Ev

/-! ### Operations that leave the heap alone -/
theorem ret1_pure {h h' h2 : Hp} {o : Option V} {v : V} (q : ret1 h o = some (v, h')) : h' = h ∧ ret1 h2 o = some (v, h2) := by
  cases o with
  | none => simp [ret1] at q
  | some x => simp only [ret1, Option.some.injEq, Prod.mk.injEq] at q ⊢; exact ⟨q.2.symm, by simpa using q.1⟩

theorem minmaxInt_pure {mx : Bool} {k : IntKind} {h h2 : Hp} : ∀ {l : List V} {a : Int} {v : V} {h' : Hp}, evOp.minmaxInt mx k a l h = some (v, h') → h' = h ∧ evOp.minmaxInt mx k a l h2 = some (v, h2)
  | [], a, v, h', q => by simp only [evOp.minmaxInt, Option.some.injEq, Prod.mk.injEq] at q ⊢; exact ⟨q.2.symm, by simpa using q.1⟩
  | x :: l, a, v, h', q => by
    cases x <;> simp only [evOp.minmaxInt, reduceCtorEq] at q ⊢
    rename_i kk b
    cases hk : kindEq k kk with
    | false => rw [hk] at q; simp at q
    | true => rw [hk] at q; simp only [cond_true] at q ⊢; exact minmaxInt_pure q

theorem minmaxStr_pure {mx : Bool} {h h2 : Hp} : ∀ {l : List V} {a : List Nat} {v : V} {h' : Hp}, evOp.minmaxStr mx a l h = some (v, h') → h' = h ∧ evOp.minmaxStr mx a l h2 = some (v, h2)
  | [], a, v, h', q => by simp only [evOp.minmaxStr, Option.some.injEq, Prod.mk.injEq] at q ⊢; exact ⟨q.2.symm, by simpa using q.1⟩
  | x :: l, a, v, h', q => by
    cases x <;> simp only [evOp.minmaxStr, reduceCtorEq] at q ⊢
    exact minmaxStr_pure q

theorem evOp_pure {tm : T V} {h h' h2 : Hp} {e : EOp} {v : V} (hc : cls e = .pure) (q : evOp tm h e = some (v, h')) : h' = h ∧ evOp tm h2 e = some (v, h2) := by
  cases e with
  | conv c x =>
    cases c <;> simp only [cls, reduceCtorEq] at hc <;> simp only [evOp] at q ⊢ <;> (split at q <;> simp_all)
  | slice size x lo hi mx =>
    simp only [evOp] at q ⊢
    split at q
    · split at q
      · simp_all
      · cases q
    · rename_i b off len cap e he
      cases hb : e.beq size with
      | false => rw [hb] at q; cases q
      | true =>
        rw [hb] at q
        simp only [cond_true] at q ⊢
        split at q
        · simp_all
        · cases q
    · cases q
  | idxAddr size x i =>
    simp only [evOp] at q ⊢
    split at q
    · rename_i b off len cap e i he hi
      obtain ⟨hb, hq⟩ := bif_some q
      simp only [hb, cond_true]
      obtain ⟨rfl, rfl⟩ := pair_eq hq
      exact ⟨rfl, rfl⟩
    · cases q
  | _ =>
    simp only [cls, reduceCtorEq] at hc <;> simp only [evOp] at q ⊢ <;>
    first
      | exact ret1_pure q
      | (split at q <;> first | exact ret1_pure q | exact minmaxInt_pure q | exact minmaxStr_pure q | (simp_all; done) | (split at q <;> first | (simp_all; done) | (split at q <;> simp_all)) | (revert q; cases hb : Nat.blt _ _ <;> simp_all <;> exact ret1_pure))
      | (simp_all; done)

/-! ### Operations that read the heap -/
/-- what was there is there -/
def Old (h h2 : Hp) : Prop := ∀ b k, h.get b = some k → h2.get b = some k

theorem Old.refl (h : Hp) : Old h h := fun _ _ q => q
theorem Old.trans {a b c : Hp} (h : Old a b) (k : Old b c) : Old a c := fun x y q => k x y (h x y q)

section
variable {h h2 : Hp}
theorem live_old (ho : Old h h2) {b off : Nat} (q : h.live b off = true) : h2.live b off = true := by
  unfold Hp.live at q ⊢
  split at q
  · rename_i e n kd rows hk
    rw [ho _ _ hk]; exact q
  · cases q

mutual
theorem eqV_old (ho : Old h h2) : ∀ {d : ED} {x y : V} {r : Bool}, eqV h d x y = some r → eqV h2 d x y = some r
  | .bool, x, y, r, q => by cases x <;> cases y <;> simp only [eqV, reduceCtorEq] at q ⊢ <;> exact q
  | .int, x, y, r, q => by cases x <;> cases y <;> simp only [eqV, reduceCtorEq] at q ⊢ <;> exact q
  | .str, x, y, r, q => by cases x <;> cases y <;> simp only [eqV, reduceCtorEq] at q ⊢ <;> exact q
  | .ptr, x, y, r, q => by
    cases x <;> cases y <;> simp only [eqV, reduceCtorEq] at q ⊢ <;> first | exact q | skip
    rename_i a i b j
    cases hab : a.beq b with
    | true => rw [hab] at q; exact q
    | false =>
      rw [hab] at q
      simp only [cond_false] at q ⊢
      obtain ⟨hl, hq⟩ := bif_some q
      simp only [Bool.and_eq_true] at hl
      rw [live_old ho hl.1, live_old ho hl.2, ← hq]
      rfl
  | .sl, x, y, r, q => by cases x <;> cases y <;> simp only [eqV, reduceCtorEq] at q ⊢ <;> exact q
  | .mp, x, y, r, q => by cases x <;> cases y <;> simp only [eqV, reduceCtorEq] at q ⊢ <;> exact q
  | .fn, x, y, r, q => by cases x <;> cases y <;> simp only [eqV, reduceCtorEq] at q ⊢ <;> exact q
  | .ifc, x, y, r, q => by cases x <;> cases y <;> simp only [eqV, reduceCtorEq] at q ⊢ <;> exact q
  | .struct fs, x, y, r, q => by
    cases x <;> cases y <;> simp only [eqV, reduceCtorEq] at q ⊢
    exact eqFs_old ho q
theorem eqFs_old (ho : Old h h2) : ∀ {fs : List (Nat × Nat × Bool × ED)} {xs ys : List V} {r : Bool}, eqFs h fs xs ys = some r → eqFs h2 fs xs ys = some r
  | [], xs, ys, r, q => by simpa only [eqFs] using q
  | (off, size, agg, d) :: fs, xs, ys, r, q => by
    simp only [eqFs] at q ⊢
    split at q
    · rename_i x y hx hy
      split at q
      · rename_i hd; rw [eqV_old ho hd]; exact eqFs_old ho q
      · rename_i hd; rw [eqV_old ho hd]; exact q
      · cases q
    · cases q
end

theorem findKey_old (ho : Old h h2) {d : ED} {k : V} : ∀ {es : List (V × V)} {r : Option V}, findKey h d k es = some r → findKey h2 d k es = some r
  | [], r, q => by simpa only [findKey] using q
  | (x, v) :: es, r, q => by
    simp only [findKey] at q ⊢
    split at q
    · rename_i hd; rw [eqV_old ho hd]; exact q
    · rename_i hd; rw [eqV_old ho hd]; exact findKey_old ho q
    · cases q

theorem load_old (ho : Old h h2) {b off n : Nat} {l : List V} (q : h.load b off n = some l) : h2.load b off n = some l := by
  unfold Hp.load at q ⊢
  split at q
  · rename_i e m kd rows hk
    rw [ho _ _ hk]; exact q
  · cases q

theorem evOp_read {tm : T V} {h' : Hp} {e : EOp} {v : V} (ho : Old h h2) (hc : cls e = .read) (q : evOp tm h e = some (v, h')) : h' = h ∧ evOp tm h2 e = some (v, h2) := by
  cases e with
  | load size agg a =>
    simp only [evOp] at q ⊢
    split at q
    · rename_i b off he
      split at q
      · rename_i cs hl
        rw [load_old ho hl]
        cases agg with
        | true => simp only [cond_true, Option.some.injEq, Prod.mk.injEq] at q ⊢; exact ⟨q.2.symm, by simpa using q.1⟩
        | false =>
          simp only [cond_false] at q ⊢
          split at q
          · simp_all
          · cases q
      · cases q
    · cases q
  | eqv neg d x y =>
    simp only [evOp] at q ⊢
    split at q
    · rename_i b hb
      rw [eqV_old ho hb]
      simp_all
    · cases q
  | conv c x =>
    cases c <;> simp only [cls, reduceCtorEq] at hc
    simp only [evOp] at q ⊢
    split at q
    · simp_all
    · simp_all
    · simp_all
    · simp_all
    · rename_i hc1 he
      rename_i b off l c0 e
      cases hb : Nat.beq e 1 with
      | false => rw [hb] at q; cases q
      | true =>
        rw [hb] at q
        simp only [cond_true] at q ⊢
        split at q
        · rename_i cs hl
          split at q
          · rename_i s hs
            simp only [load_old ho hl, hs]
            simp_all
          · cases q
        · cases q
    · cases q
  | lookup kd zero ok x k =>
    simp only [evOp] at q ⊢
    split at q
    · rename_i r hr
      split at hr
      · cases hr
      · rename_i b he
        split at hr
        · rename_i es hk
          simp only [ho _ _ hk, findKey_old ho hr]
          simp_all
        · cases hr
      · cases hr
    · rename_i hr
      split at hr
      · simp_all
      · rename_i b he
        split at hr
        · rename_i es hk
          simp only [ho _ _ hk, findKey_old ho hr]
          simp_all
        · cases hr
      · cases hr
    · cases q
  | lenMap x =>
    simp only [evOp] at q ⊢
    split at q
    · simp_all
    · rename_i b he
      split at q
      · rename_i es hk
        simp only [ho _ _ hk]
        simp_all
      · cases q
    · cases q
  | cap x =>
    simp only [evOp] at q ⊢
    split at q
    · simp_all
    · rename_i b off l c e he
      split at q
      · rename_i hk
        simp only [ho _ _ hk]
        obtain ⟨hb, hq⟩ := bif_some q
        simp only [hb, cond_true]
        obtain ⟨rfl, rfl⟩ := pair_eq hq
        exact ⟨rfl, rfl⟩
      · cases q
    · cases q
  | sliceArr n size x lo hi mx =>
    simp only [evOp] at q ⊢
    split at q
    · rename_i b off he
      split at q
      · rename_i hk
        simp only [ho _ _ hk]
        revert q
        cases hb : Nat.ble _ _ with
        | false => intro q; cases q
        | true =>
          intro q
          simp only [cond_true] at q ⊢
          split at q
          · simp_all
          · cases q
      · cases q
    · cases q
  | _ => simp only [cls, reduceCtorEq] at hc
end
end Go.Ev
