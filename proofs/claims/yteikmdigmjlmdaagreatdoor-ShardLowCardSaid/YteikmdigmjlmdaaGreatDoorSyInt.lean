/-
  What the codes stand for, under a valuation of the forms: integers, bytes, texts.
-/
import Derived.Test.YteikmdigmjlmdaaGreatDoorSyDef
import Derived.Test.YteikmdigmjlmdaaGreatDoorEvOpA
import Derived.Laws.Closers25b
set_option linter.unusedVariables false
set_option linter.unusedSimpArgs false
namespace Go.Ev

/-- a valuation keeps to what is known of the forms -/
structure RegOK (R : Reg) (ρ : Nat → Int) : Prop where
  rng : ∀ k lo hi, R.rng k = some (lo, hi) → lo ≤ ρ k ∧ ρ k ≤ hi
  dif : ∀ k j lo hi, R.dif k j = some (lo, hi) → lo ≤ ρ k - ρ j ∧ ρ k - ρ j ≤ hi
  neg : ∀ k j, R.neg k = some j → ρ j = - ρ k

section
variable (ρ : Nat → Int)
/-- what a number stands for -/
def fi (n : Int) : Int :=
  match split n with
  | none => n
  | some (k, c) => ρ k + c
/-- what a byte stands for -/
def fb (b : Nat) : Nat := bif Nat.ble symB b then (fi ρ (Int.ofNat b)).toNat else b
end

section
variable {R : Reg} {ρ : Nat → Int}
theorem fi_none {n : Int} (h : split n = none) : fi ρ n = n := by simp [fi, h]
theorem fi_some {n : Int} {k : Nat} {c : Int} (h : split n = some (k, c)) : fi ρ n = ρ k + c := by simp [fi, h]

theorem split_sym (n : Int) : (split n).isSome = isSym n := by
  cases n with
  | ofNat m => simp only [split, isSym]; cases Nat.ble symB m <;> rfl
  | negSucc m => rfl
theorem split_of_plain {n : Int} (h : isSym n = false) : split n = none := by
  have := split_sym n
  rw [h] at this
  simpa using this
theorem plain_of_split {n : Int} (h : split n = none) : isSym n = false := by
  rw [← split_sym, h]; rfl

theorem mkSym_ok {k : Nat} {c n : Int} (h : mkSym k c = some n) : split n = some (k, c) := by
  unfold mkSym at h
  split at h
  · rename_i m hm
    cases hb : Nat.blt m symF with
    | false => rw [hb] at h; cases h
    | true =>
      rw [hb] at h
      simp only [cond_true, Option.some.injEq] at h
      subst h
      have hlt : m < symF := by simpa using hb
      have hpos : 0 < symF := by decide
      simp only [split]
      rw [ble_yes (by omega)]
      simp only [cond_true, Option.some.injEq, Prod.mk.injEq]
      have e : symB + k * symF + m - symB = m + symF * k := by rw [Nat.mul_comm]; omega
      rw [e, Nat.add_mul_div_left _ _ hpos, Nat.add_mul_mod_self_left, Nat.div_eq_of_lt hlt, Nat.mod_eq_of_lt hlt]
      exact ⟨by omega, by rw [← hm]; omega⟩
  · cases h

theorem plainI_ok {x n : Int} (h : plainI x = some n) : n = x ∧ split n = none := by
  unfold plainI at h
  cases hs : isSym x with
  | true => rw [hs] at h; cases h
  | false =>
    rw [hs] at h
    simp only [cond_false, Option.some.injEq] at h
    subst h
    exact ⟨rfl, split_of_plain hs⟩

theorem rngOf_ok (ok : RegOK R ρ) {n lo hi : Int} (h : rngOf R n = some (lo, hi)) : lo ≤ fi ρ n ∧ fi ρ n ≤ hi := by
  unfold rngOf at h
  split at h
  · rename_i hs
    simp only [Option.some.injEq, Prod.mk.injEq] at h
    rw [fi_none hs]; omega
  · rename_i k c hs
    split at h
    · rename_i a b hr
      simp only [Option.some.injEq, Prod.mk.injEq] at h
      have := ok.rng k a b hr
      rw [fi_some hs]; omega
    · cases h

theorem difOf_ok (ok : RegOK R ρ) {x y lo hi : Int} (h : difOf R x y = some (lo, hi)) : lo ≤ fi ρ x - fi ρ y ∧ fi ρ x - fi ρ y ≤ hi := by
  unfold difOf at h
  split at h
  · rename_i h1 h2
    simp only [Option.some.injEq, Prod.mk.injEq] at h
    rw [fi_none h1, fi_none h2]; omega
  · rename_i k c h1 h2
    split at h
    · rename_i a b hr
      simp only [Option.some.injEq, Prod.mk.injEq] at h
      have := ok.rng k a b hr
      rw [fi_some h1, fi_none h2]; omega
    · cases h
  · rename_i k c h1 h2
    split at h
    · rename_i a b hr
      simp only [Option.some.injEq, Prod.mk.injEq] at h
      have := ok.rng k a b hr
      rw [fi_none h1, fi_some h2]; omega
    · cases h
  · rename_i k c j d h1 h2
    rw [fi_some h1, fi_some h2]
    cases hb : Nat.beq k j with
    | true =>
      rw [hb] at h
      simp only [cond_true, Option.some.injEq, Prod.mk.injEq] at h
      have := Nat.eq_of_beq_eq_true hb
      subst this
      omega
    | false =>
      rw [hb] at h
      simp only [cond_false] at h
      split at h
      · rename_i a b hr
        simp only [Option.some.injEq, Prod.mk.injEq] at h
        have := ok.dif k j a b hr
        omega
      · cases h

theorem sLt_ok (ok : RegOK R ρ) {x y : Int} {b : Bool} (h : sLt R x y = some b) : b = decide (fi ρ x < fi ρ y) := by
  unfold sLt at h
  split at h
  · rename_i lo hi hd
    have := difOf_ok ok hd
    by_cases c1 : hi < 0
    · simp only [c1, decide_true, cond_true, Option.some.injEq] at h
      subst h
      have : fi ρ x < fi ρ y := by omega
      simp [this]
    · by_cases c2 : 0 ≤ lo
      · simp only [c1, c2, decide_true, decide_false, cond_true, cond_false, Option.some.injEq] at h
        subst h
        have : ¬ fi ρ x < fi ρ y := by omega
        simp [this]
      · simp [c1, c2] at h
  · cases h

theorem sEq_ok (ok : RegOK R ρ) {x y : Int} {b : Bool} (h : sEq R x y = some b) : b = decide (fi ρ x = fi ρ y) := by
  unfold sEq at h
  split at h
  · rename_i lo hi hd
    have := difOf_ok ok hd
    by_cases c1 : hi < 0 ∨ 0 < lo
    · have e : (decide (hi < 0) || decide (0 < lo)) = true := by simpa using c1
      rw [e] at h
      simp only [cond_true, Option.some.injEq] at h
      subst h
      have : ¬ fi ρ x = fi ρ y := by omega
      simp [this]
    · have e : (decide (hi < 0) || decide (0 < lo)) = false := by simpa using c1
      rw [e] at h
      simp only [cond_false] at h
      by_cases c2 : 0 ≤ lo ∧ hi ≤ 0
      · have e : (decide (0 ≤ lo) && decide (hi ≤ 0)) = true := by simpa using c2
        rw [e] at h
        simp only [cond_true, Option.some.injEq] at h
        subst h
        have : fi ρ x = fi ρ y := by omega
        simp [this]
      · have e : (decide (0 ≤ lo) && decide (hi ≤ 0)) = false := by
          cases q : (decide (0 ≤ lo) && decide (hi ≤ 0)) with
          | false => rfl
          | true => exact absurd (by simpa using q) c2
        rw [e] at h
        cases h
  · cases h

theorem sAdd_ok (ok : RegOK R ρ) {x y n : Int} (h : sAdd R x y = some n) : fi ρ n = fi ρ x + fi ρ y := by
  unfold sAdd at h
  split at h
  · rename_i h1 h2
    obtain ⟨rfl, h3⟩ := plainI_ok h
    rw [fi_none h1, fi_none h2, fi_none h3]
  · rename_i h1 h2
    rw [fi_some h1, fi_none h2, fi_some (mkSym_ok h)]; omega
  · rename_i h1 h2
    rw [fi_none h1, fi_some h2, fi_some (mkSym_ok h)]; omega
  · rename_i k c j d h1 h2
    split at h
    · rename_i j' hn
      cases hb : Nat.beq j' j with
      | false => rw [hb] at h; cases h
      | true =>
        rw [hb] at h
        simp only [cond_true] at h
        obtain ⟨rfl, h3⟩ := plainI_ok h
        have := Nat.eq_of_beq_eq_true hb
        subst this
        have := ok.neg k j' hn
        rw [fi_some h1, fi_some h2, fi_none h3]; omega
    · cases h

theorem sSub_ok (ok : RegOK R ρ) {x y n : Int} (h : sSub R x y = some n) : fi ρ n = fi ρ x - fi ρ y := by
  unfold sSub at h
  split at h
  · rename_i h1 h2
    obtain ⟨rfl, h3⟩ := plainI_ok h
    rw [fi_none h1, fi_none h2, fi_none h3]
  · rename_i h1 h2
    rw [fi_some h1, fi_none h2, fi_some (mkSym_ok h)]; omega
  · rename_i h1 h2
    split at h
    · rename_i j' hn
      have := ok.neg _ _ hn
      rw [fi_none h1, fi_some h2, fi_some (mkSym_ok h)]; omega
    · cases h
  · rename_i k c j d h1 h2
    cases hb : Nat.beq k j with
    | false => rw [hb] at h; cases h
    | true =>
      rw [hb] at h
      simp only [cond_true] at h
      obtain ⟨rfl, h3⟩ := plainI_ok h
      have := Nat.eq_of_beq_eq_true hb
      subst this
      rw [fi_some h1, fi_some h2, fi_none h3]; omega

theorem wrap_in {k : IntKind} {n : Int} (h1 : k.min ≤ n) (h2 : n ≤ k.max) : k.wrap n = n := by
  cases k <;> simp [IntKind.min, IntKind.max, IntKind.wrap, IntKind.bits, IntKind.signed] at h1 h2 ⊢ <;> omega

theorem within_ok (ok : RegOK R ρ) {k : IntKind} {n : Int} (h : within R k n = true) : k.min ≤ fi ρ n ∧ fi ρ n ≤ k.max := by
  unfold within at h
  split at h
  · rename_i lo hi hr
    have := rngOf_ok ok hr
    simp only [Bool.and_eq_true, decide_eq_true_eq] at h
    omega
  · cases h

theorem wrapK_in {k : IntKind} {n : Int} (h : k.min ≤ n ∧ n ≤ k.max) : wrapK k n = n := by rw [wrapK_eq, wrap_in h.1 h.2]

theorem fit_ok (ok : RegOK R ρ) {k : IntKind} {r : Option Int} {v : V} (h : fit R k r = some v) : ∃ n, r = some n ∧ v = .int k n ∧ k.min ≤ fi ρ n ∧ fi ρ n ≤ k.max := by
  unfold fit at h
  split at h
  · rename_i n
    cases hw : within R k n with
    | false => rw [hw] at h; cases h
    | true =>
      rw [hw] at h
      simp only [cond_true, Option.some.injEq] at h
      exact ⟨n, rfl, h.symm, within_ok ok hw⟩
  · cases h

theorem sQuot_ok (ok : RegOK R ρ) {n m q : Int} (h : sQuot R n m = some q) : fi ρ q = (fi ρ n).fdiv m ∧ 0 < m ∧ split q = none := by
  unfold sQuot at h
  split at h
  · rename_i lo hi hr
    have hb := rngOf_ok ok hr
    by_cases c : 0 < m ∧ lo.fdiv m = hi.fdiv m
    · have e : (decide (0 < m) && decide (lo.fdiv m = hi.fdiv m)) = true := by simpa using c
      rw [e] at h
      simp only [cond_true] at h
      obtain ⟨rfl, h3⟩ := plainI_ok h
      have hm : 0 ≤ m := by omega
      have e1 := Int.fdiv_eq_ediv_of_nonneg lo hm
      have e2 := Int.fdiv_eq_ediv_of_nonneg hi hm
      have e3 := Int.fdiv_eq_ediv_of_nonneg (fi ρ n) hm
      have m1 := Int.ediv_le_ediv c.1 hb.1
      have m2 := Int.ediv_le_ediv c.1 hb.2
      refine ⟨?_, c.1, h3⟩
      rw [fi_none h3]
      omega
    · have e : (decide (0 < m) && decide (lo.fdiv m = hi.fdiv m)) = false := by
        cases q : (decide (0 < m) && decide (lo.fdiv m = hi.fdiv m)) with
        | false => rfl
        | true => exact absurd (by simpa using q) c
      rw [e] at h
      cases h
  · cases h

/-! ### Bytes and texts -/
theorem okByte_ok (ok : RegOK R ρ) {b : Nat} (h : okByte R b = true) : (fb ρ b : Int) = fi ρ (Int.ofNat b) := by
  unfold okByte at h
  unfold fb
  cases hb : Nat.ble symB b with
  | true =>
    rw [hb] at h
    simp only [cond_true] at h ⊢
    split at h
    · rename_i lo hi hr
      have := rngOf_ok ok hr
      simp only [decide_eq_true_eq] at h
      exact Int.toNat_of_nonneg (by omega)
    · cases h
  | false =>
    simp only [cond_false]
    rw [fi_none (split_of_plain (by simp [isSym, hb]))]
    rfl

theorem sEqB_ok (ok : RegOK R ρ) {a b : Nat} {r : Bool} (h : sEqB R a b = some r) : r = Nat.beq (fb ρ a) (fb ρ b) := by
  unfold sEqB at h
  cases hs : (Nat.ble symB a || Nat.ble symB b) with
  | true =>
    rw [hs] at h
    simp only [cond_true] at h
    cases hk : (okByte R a && okByte R b) with
    | false => rw [hk] at h; cases h
    | true =>
      rw [hk] at h
      simp only [cond_true] at h
      simp only [Bool.and_eq_true] at hk
      have e := sEq_ok ok h
      rw [← okByte_ok ok hk.1, ← okByte_ok ok hk.2] at e
      rw [e]
      by_cases c : fb ρ a = fb ρ b
      · rw [beq_yes c]; simp [c]
      · rw [beq_no c]; simp; exact_mod_cast c
  | false =>
    rw [hs] at h
    simp only [cond_false, Option.some.injEq] at h
    simp only [Bool.or_eq_false_iff] at hs
    subst h
    simp [fb, hs.1, hs.2]

theorem sLtB_ok (ok : RegOK R ρ) {a b : Nat} {r : Bool} (h : sLtB R a b = some r) : r = Nat.blt (fb ρ a) (fb ρ b) := by
  unfold sLtB at h
  cases hs : (Nat.ble symB a || Nat.ble symB b) with
  | true =>
    rw [hs] at h
    simp only [cond_true] at h
    cases hk : (okByte R a && okByte R b) with
    | false => rw [hk] at h; cases h
    | true =>
      rw [hk] at h
      simp only [cond_true] at h
      simp only [Bool.and_eq_true] at hk
      have e := sLt_ok ok h
      rw [← okByte_ok ok hk.1, ← okByte_ok ok hk.2] at e
      rw [e]
      by_cases c : fb ρ a < fb ρ b
      · have : Nat.blt (fb ρ a) (fb ρ b) = true := by simp [c]
        rw [this]; simp [c]
      · have : Nat.blt (fb ρ a) (fb ρ b) = false := by
          cases q : Nat.blt (fb ρ a) (fb ρ b) with
          | false => rfl
          | true => exact absurd (by simpa using q) c
        rw [this]; simp; omega
  | false =>
    rw [hs] at h
    simp only [cond_false, Option.some.injEq] at h
    simp only [Bool.or_eq_false_iff] at hs
    subst h
    simp [fb, hs.1, hs.2]

theorem sEqS_ok (ok : RegOK R ρ) : ∀ {a b : List Nat} {r : Bool}, sEqS R a b = some r → r = eqNats (a.map (fb ρ)) (b.map (fb ρ))
  | [], [], r, h => by simp only [sEqS, Option.some.injEq] at h; subst h; rfl
  | [], _ :: _, r, h => by simp only [sEqS, Option.some.injEq] at h; subst h; rfl
  | _ :: _, [], r, h => by simp only [sEqS, Option.some.injEq] at h; subst h; rfl
  | a :: x, b :: y, r, h => by
    simp only [sEqS] at h
    simp only [List.map_cons, eqNats]
    split at h
    · rename_i he
      rw [← sEqB_ok ok he]
      simp only [cond_true]
      exact sEqS_ok ok h
    · rename_i he
      rw [← sEqB_ok ok he]
      have : r = false := by
        cases hq : Nat.beq x.length y.length <;> rw [hq] at h <;> simp at h <;> exact h
      rw [this]; rfl
    · cases h

theorem sLtS_ok (ok : RegOK R ρ) : ∀ {a b : List Nat} {r : Bool}, sLtS R a b = some r → r = lessNats (a.map (fb ρ)) (b.map (fb ρ))
  | [], [], r, h => by simp only [sLtS, Option.some.injEq] at h; subst h; rfl
  | [], _ :: _, r, h => by simp only [sLtS, Option.some.injEq] at h; subst h; rfl
  | _ :: _, [], r, h => by simp only [sLtS, Option.some.injEq] at h; subst h; rfl
  | a :: x, b :: y, r, h => by
    simp only [sLtS] at h
    simp only [List.map_cons, lessNats]
    split at h
    · rename_i he
      rw [← sLtB_ok ok he]
      simp only [Option.some.injEq] at h
      rw [← h]; rfl
    · rename_i he
      rw [← sLtB_ok ok he]
      simp only [cond_false]
      split at h
      · rename_i he2
        rw [← sEqB_ok ok he2]
        exact sLtS_ok ok h
      · rename_i he2
        rw [← sEqB_ok ok he2]
        simp only [Option.some.injEq] at h
        rw [← h]; rfl
      · cases h
    · cases h
end
end Go.Ev
