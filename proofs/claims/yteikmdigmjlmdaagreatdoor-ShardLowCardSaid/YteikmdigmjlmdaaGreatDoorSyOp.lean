/-
  One operation over codes stands for the operation over what they stand for.
-/
import Derived.Test.YteikmdigmjlmdaaGreatDoorSyVal
set_option linter.unusedVariables false
set_option linter.unusedSimpArgs false
namespace Go.Ev

section
variable {R : Reg} {ρ : Nat → Int} {tm : T V} {h h' : Hp} {v : V}

theorem plainV_ok {o : Option V} (q : plainV o = some v) : o = some v ∧ fv ρ v = v ∨ ∃ s, o = some (.str s) ∧ v = .str s := by
  unfold plainV at q
  split at q
  · rename_i k n
    cases hs : isSym n with
    | true => rw [hs] at q; cases q
    | false =>
      rw [hs] at q
      simp only [cond_false, Option.some.injEq] at q
      subst q
      exact .inl ⟨rfl, by simp only [fv, fi_none (split_of_plain hs)]⟩
  · simp only [Option.some.injEq] at q
    subst q
    exact .inl ⟨rfl, rfl⟩
  · simp only [Option.some.injEq] at q
    subst q
    exact .inr ⟨_, rfl, rfl⟩
  · cases q

theorem arithInt_notStr {op : BinOp} {k : IntKind} {a b : Int} {s : List Nat} : arithInt op k a b ≠ some (.str s) := by
  cases op <;> simp only [arithInt, ob] <;> first | (split <;> simp; done) | (cases decide (b = 0) <;> simp; done) | simp

theorem arithInt_notStr2 {op : BinOp} {k l : IntKind} {a b : Int} {s : List Nat} (hop : op = .shl ∨ op = .shr) : arith op (.int k a) (.int l b) ≠ some (.str s) := by
  rcases hop with rfl | rfl <;> simp only [arith] <;> cases decide (b < 0) <;> simp

theorem sB_ok {o : Option Bool} (q : sB o = some v) : ∃ b, o = some b ∧ v = .bool b := by
  cases o with
  | none => cases q
  | some b => simp only [sB, Option.some.injEq] at q; exact ⟨b, rfl, q.symm⟩

theorem sNot_ok {o : Option Bool} {b : Bool} (q : sNot o = some b) : ∃ c, o = some c ∧ b = !c := by
  cases o with
  | none => cases q
  | some c => simp only [sNot, Option.some.injEq] at q; exact ⟨c, rfl, q.symm⟩

theorem or_zero {k : IntKind} {n : Int} (h0 : 0 ≤ n) (h1 : n ≤ k.max) : (BitVec.ofInt k.bits n).toNat = n.toNat := by
  rw [BitVec.toNat_ofInt]
  have : n % ((2 ^ k.bits : Nat) : Int) = n := by
    refine Int.emod_eq_of_lt h0 ?_
    have : k.max < ((2 ^ k.bits : Nat) : Int) := by cases k <;> simp [IntKind.max, IntKind.bits, IntKind.signed]
    omega
  rw [this]

theorem sOr_ok (ok : RegOK R ρ) {k : IntKind} {a b : Int} (q : sOr R k a b = some v) : arithInt .or k (fi ρ a) (fi ρ b) = some (fv ρ v) := by
  unfold sOr at q
  have step : ∀ x y : Int, 0 ≤ x → x ≤ k.max → 0 ≤ y → y ≤ k.max → ∀ z : Int, k.min ≤ z → z ≤ k.max → ((x.toNat ||| y.toNat : Nat) : Int) = z → arithInt .or k x y = some (.int k z) := by
    intro x y x0 x1 y0 y1 z z0 z1 hz
    simp only [arithInt, BitVec.toNat_or, or_zero x0 x1, or_zero y0 y1, hz, wrap_in z0 z1]
  cases c1 : (!isSym a && decide (a = 0)) with
  | true =>
    rw [c1] at q
    simp only [cond_true] at q
    simp only [Bool.and_eq_true, Bool.not_eq_true', decide_eq_true_eq] at c1
    cases hw : within R k b with
    | false => rw [hw] at q; cases q
    | true =>
      rw [hw] at q
      simp only [cond_true] at q
      split at q
      · rename_i lo hi hr
        obtain ⟨hd, q⟩ : decide (0 ≤ lo) = true ∧ some (V.int k b) = some v := by
          cases hd : decide (0 ≤ lo) with
          | false => rw [hd] at q; cases q
          | true => rw [hd] at q; exact ⟨rfl, q⟩
        simp only [decide_eq_true_eq] at hd
        cases q
        have h1 := within_ok ok hw
        have h2 := rngOf_ok ok hr
        have ha : fi ρ a = 0 := by rw [fi_none (split_of_plain c1.1), c1.2]
        rw [ha]
        simp only [fv]
        refine step 0 (fi ρ b) (Int.le_refl _) ?_ (by omega) h1.2 _ h1.1 h1.2 ?_
        · have : (0 : Int) ≤ k.max := by cases k <;> simp [IntKind.max, IntKind.bits, IntKind.signed]
          exact this
        · simp; omega
      · cases q
  | false =>
    rw [c1] at q
    simp only [cond_false] at q
    cases c2 : (!isSym b && decide (b = 0)) with
    | true =>
      rw [c2] at q
      simp only [cond_true] at q
      simp only [Bool.and_eq_true, Bool.not_eq_true', decide_eq_true_eq] at c2
      cases hw : within R k a with
      | false => rw [hw] at q; cases q
      | true =>
        rw [hw] at q
        simp only [cond_true] at q
        split at q
        · rename_i lo hi hr
          obtain ⟨hd, q⟩ : decide (0 ≤ lo) = true ∧ some (V.int k a) = some v := by
            cases hd : decide (0 ≤ lo) with
            | false => rw [hd] at q; cases q
            | true => rw [hd] at q; exact ⟨rfl, q⟩
          simp only [decide_eq_true_eq] at hd
          cases q
          have h1 := within_ok ok hw
          have h2 := rngOf_ok ok hr
          have hb : fi ρ b = 0 := by rw [fi_none (split_of_plain c2.1), c2.2]
          rw [hb]
          simp only [fv]
          refine step (fi ρ a) 0 (by omega) h1.2 (Int.le_refl _) ?_ _ h1.1 h1.2 ?_
          · have : (0 : Int) ≤ k.max := by cases k <;> simp [IntKind.max, IntKind.bits, IntKind.signed]
            exact this
          · simp; omega
        · cases q
    | false =>
      rw [c2] at q
      simp only [cond_false] at q
      cases c3 : (!isSym a && isSym b && decide (0 ≤ a) && decide (a % 256 = 0)) with
      | false => rw [c3] at q; cases q
      | true =>
        rw [c3] at q
        simp only [cond_true] at q
        simp only [Bool.and_eq_true, Bool.not_eq_true', decide_eq_true_eq] at c3
        obtain ⟨⟨⟨c31, _⟩, c33⟩, c34⟩ := c3
        split at q
        · rename_i lo hi hr
          cases hd : (decide (0 ≤ lo) && decide (hi < 256)) with
          | false => rw [hd] at q; cases q
          | true =>
            rw [hd] at q
            simp only [cond_true] at q
            simp only [Bool.and_eq_true, decide_eq_true_eq] at hd
            obtain ⟨n, hn, rfl, h1, h2⟩ := fit_ok ok q
            have hsum := sAdd_ok ok hn
            have hb := rngOf_ok ok hr
            have ha : fi ρ a = a := fi_none (split_of_plain c31)
            rw [ha] at hsum ⊢
            simp only [fv]
            refine step a (fi ρ b) c33 (by omega) (by omega) (by omega) _ h1 h2 ?_
            have e1 : a.toNat = (a.toNat / 256) <<< 8 := by rw [Nat.shiftLeft_eq]; omega
            have e2 : (fi ρ b).toNat < 2 ^ 8 := by omega
            rw [e1, ← Nat.shiftLeft_add_eq_or_of_lt e2, ← e1]
            omega
        · cases q

theorem arith_plain {op : BinOp} {k l : IntKind} {a b : Int} (h1 : op ≠ .shl) (h2 : op ≠ .shr) : arith op (.int k a) (.int l b) = bif kindEq k l then arithInt op k a b else none := by
  cases op <;> first | rfl | exact absurd rfl h1 | exact absurd rfl h2

theorem sArithInt_ok (ok : RegOK R ρ) {op : BinOp} {k : IntKind} {a b : Int} (q : sArithInt R op k a b = some v) : arithInt op k (fi ρ a) (fi ρ b) = some (fv ρ v) := by
  unfold sArithInt at q
  cases hs : (isSym a || isSym b) with
  | false =>
    rw [hs] at q
    simp only [cond_false] at q
    simp only [Bool.or_eq_false_iff] at hs
    rw [fi_none (split_of_plain hs.1), fi_none (split_of_plain hs.2)]
    rcases plainV_ok (ρ := ρ) q with ⟨e1, e2⟩ | ⟨s, e1, _⟩
    · rw [e1, e2]
    · exact absurd e1 arithInt_notStr
  | true =>
    rw [hs] at q
    simp only [cond_true] at q
    cases op <;> simp only [reduceCtorEq] at q
    case add =>
      obtain ⟨n, hn, rfl, hi⟩ := fit_ok ok q
      have e := sAdd_ok ok hn
      simp only [arithInt, fv, ← e, wrapK_in hi]
    case sub =>
      obtain ⟨n, hn, rfl, hi⟩ := fit_ok ok q
      have e := sSub_ok ok hn
      simp only [arithInt, fv, ← e, wrapK_in hi]
    case or => exact sOr_ok ok q
    case eql =>
      obtain ⟨c, hc, rfl⟩ := sB_ok q
      simp only [arithInt, ob, fv, sEq_ok ok hc]
    case neq =>
      obtain ⟨c, hc, rfl⟩ := sB_ok q
      obtain ⟨d, hd, rfl⟩ := sNot_ok hc
      simp only [arithInt, ob, fv, sEq_ok ok hd]
    case lss =>
      obtain ⟨c, hc, rfl⟩ := sB_ok q
      simp only [arithInt, ob, fv, sLt_ok ok hc]
    case leq =>
      obtain ⟨c, hc, rfl⟩ := sB_ok q
      obtain ⟨d, hd, rfl⟩ := sNot_ok hc
      simp only [arithInt, ob, fv, sLt_ok ok hd]
      by_cases hh : fi ρ b < fi ρ a
      · simp [hh]
      · simp [hh]; omega
    case gtr =>
      obtain ⟨c, hc, rfl⟩ := sB_ok q
      simp only [arithInt, ob, fv, sLt_ok ok hc]
    case geq =>
      obtain ⟨c, hc, rfl⟩ := sB_ok q
      obtain ⟨d, hd, rfl⟩ := sNot_ok hc
      simp only [arithInt, ob, fv, sLt_ok ok hd]
      by_cases hh : fi ρ a < fi ρ b
      · simp [hh]
      · simp [hh]; omega

theorem sArithStr_ok (ok : RegOK R ρ) {op : BinOp} {a b : List Nat} (q : sArithStr R op a b = some v) : arithStr op (a.map (fb ρ)) (b.map (fb ρ)) = some (fv ρ v) := by
  cases op <;> simp only [sArithStr, reduceCtorEq] at q
  case add =>
    simp only [arithStr, List.length_map] at q ⊢
    cases hd : decide (a.length + b.length ≤ 9223372036854775807) with
    | false => rw [hd] at q; cases q
    | true =>
      rw [hd] at q
      simp only [cond_true, Option.some.injEq] at q ⊢
      subst q
      simp only [fv, List.map_append]
  case eql =>
    obtain ⟨c, hc, rfl⟩ := sB_ok q
    simp only [arithStr, ob, fv, sEqS_ok ok hc]
  case neq =>
    obtain ⟨c, hc, rfl⟩ := sB_ok q
    obtain ⟨d, hd, rfl⟩ := sNot_ok hc
    simp only [arithStr, ob, fv, sEqS_ok ok hd]
  case lss =>
    obtain ⟨c, hc, rfl⟩ := sB_ok q
    simp only [arithStr, ob, fv, sLtS_ok ok hc]
  case leq =>
    obtain ⟨c, hc, rfl⟩ := sB_ok q
    obtain ⟨d, hd, rfl⟩ := sNot_ok hc
    simp only [arithStr, ob, fv, sLtS_ok ok hd]
  case gtr =>
    obtain ⟨c, hc, rfl⟩ := sB_ok q
    simp only [arithStr, ob, fv, sLtS_ok ok hc]
  case geq =>
    obtain ⟨c, hc, rfl⟩ := sB_ok q
    obtain ⟨d, hd, rfl⟩ := sNot_ok hc
    simp only [arithStr, ob, fv, sLtS_ok ok hd]

theorem sArith_ok (ok : RegOK R ρ) {op : BinOp} {x y : V} (q : sArith R op x y = some v) : arith op (fv ρ x) (fv ρ y) = some (fv ρ v) := by
  unfold sArith at q
  split at q
  · rename_i k a l b
    simp only [fv]
    split at q
    · -- shl
      cases hb : isSym b with
      | true => rw [hb] at q; cases q
      | false =>
        cases ha : isSym a with
        | true => rw [hb, ha] at q; cases q
        | false =>
          rw [hb, ha] at q
          simp only [cond_false] at q
          rw [fi_none (split_of_plain ha), fi_none (split_of_plain hb)]
          rcases plainV_ok (ρ := ρ) q with ⟨e1, e2⟩ | ⟨s, e1, _⟩
          · rw [e1, e2]
          · exact absurd e1 (arithInt_notStr2 (.inl rfl))
    · -- shr
      cases hb : (isSym b || decide (b < 0)) with
      | true => rw [hb] at q; cases q
      | false =>
        rw [hb] at q
        simp only [cond_false] at q
        simp only [Bool.or_eq_false_iff, decide_eq_false_iff_not] at hb
        rw [fi_none (split_of_plain hb.1)]
        cases ha : isSym a with
        | false =>
          rw [ha] at q
          simp only [cond_false] at q
          rw [fi_none (split_of_plain ha)]
          rcases plainV_ok (ρ := ρ) q with ⟨e1, e2⟩ | ⟨s, e1, _⟩
          · rw [e1, e2]
          · exact absurd e1 (arithInt_notStr2 (.inr rfl))
        | true =>
          rw [ha] at q
          simp only [cond_true] at q
          simp only [arith, hb.2, decide_false, cond_false]
          by_cases h0 : b = 0
          · subst h0
            simp only [decide_true, cond_true, Option.some.injEq] at q
            subst q
            simp [fv]
          · simp only [h0, decide_false, cond_false] at q
            split at q
            · rename_i q1 hq
              simp only [Option.some.injEq] at q
              subst q
              obtain ⟨e1, e2, e3⟩ := sQuot_ok ok hq
              simp only [fv, ← e1]
            · cases q
    · rename_i h1 h2
      rw [arith_plain h1 h2]
      cases hk : kindEq k l with
      | false => rw [hk] at q; cases q
      | true =>
        rw [hk] at q
        simp only [cond_true] at q ⊢
        exact sArithInt_ok ok q
  · simp only [fv, arith]
    exact sArithStr_ok ok q
  · cases q

theorem sUnop_ok (ok : RegOK R ρ) {op : UnOp} {x : V} (q : sUnop R op x = some v) : unop op (fv ρ x) = some (fv ρ v) := by
  unfold sUnop at q
  split at q
  · rename_i k n
    cases hs : isSym n with
    | true =>
      rw [hs] at q
      simp only [cond_true] at q
      obtain ⟨m, hm, rfl, hi⟩ := fit_ok ok q
      have e := sSub_ok ok hm
      rw [fi_none (show split 0 = none by decide)] at e
      simp only [fv, unop, ← e, wrapK_in hi]
    | false =>
      rw [hs] at q
      simp only [cond_false] at q
      simp only [fv, fi_none (split_of_plain hs)]
      rcases plainV_ok (ρ := ρ) q with ⟨e1, e2⟩ | ⟨s, e1, _⟩
      · rw [e1, e2]
      · simp [unop] at e1
  · rename_i k n
    cases hs : isSym n with
    | true => rw [hs] at q; cases q
    | false =>
      rw [hs] at q
      simp only [cond_false] at q
      simp only [fv, fi_none (split_of_plain hs)]
      rcases plainV_ok (ρ := ρ) q with ⟨e1, e2⟩ | ⟨s, e1, _⟩
      · rw [e1, e2]
      · simp [unop] at e1
  · simp only [Option.some.injEq] at q
    subst q
    rfl
  · cases q

theorem sConv_ok (ok : RegOK R ρ) {k : IntKind} {n : Int} (q : sConv R k n = some v) : V.int k (wrapK k (fi ρ n)) = fv ρ v := by
  unfold sConv at q
  cases hs : isSym n with
  | false =>
    rw [hs] at q
    simp only [cond_false] at q
    rw [fi_none (split_of_plain hs)]
    rcases plainV_ok (ρ := ρ) q with ⟨e1, e2⟩ | ⟨s, e1, _⟩
    · simp only [Option.some.injEq] at e1
      rw [e2, ← e1]
    · cases e1
  | true =>
    rw [hs] at q
    simp only [cond_true] at q
    cases hw : within R k n with
    | true =>
      rw [hw] at q
      simp only [cond_true, Option.some.injEq] at q
      subst q
      simp only [fv, wrapK_in (within_ok ok hw)]
    | false =>
      rw [hw] at q
      simp only [cond_false] at q
      split at q
      · split at q
        · rename_i q1 hq
          split at q
          · rename_i mm hmm
            obtain ⟨rfl, hpl⟩ := plainI_ok hmm
            obtain ⟨m, hm, rfl, hi⟩ := fit_ok ok q
            have e := sAdd_ok ok hm
            obtain ⟨e1, _, e3⟩ := sQuot_ok ok hq
            rw [fi_none e3] at e1
            simp only [fv]
            rw [fi_none hpl] at e
            have hdiv := Int.fdiv_eq_ediv_of_nonneg (fi ρ n) (show (0 : Int) ≤ 256 by omega)
            rw [hdiv] at e1
            have : fi ρ m = fi ρ n % 256 := by rw [e, e1]; omega
            rw [wrapK_eq, IntKind.wrap, this]
            simp [IntKind.bits, IntKind.signed]
          · cases q
        · cases q
      · cases q
end
end Go.Ev
