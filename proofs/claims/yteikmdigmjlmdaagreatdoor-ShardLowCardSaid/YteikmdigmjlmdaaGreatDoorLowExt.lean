/-
  ShardLow: what stands in for the functions that it calls and that are not walked with it: awake, Bring, CountString; over codes, and over numbers.
-/
import Derived.Test.YteikmdigmjlmdaaGreatDoorLowTabs
namespace Go.Proofs.YteikmdigmjlmdaaGreatDoor
open Go Go.Ev
set_option maxRecDepth 100000
theorem gsize : Tryz.prog.globals.size = 3 := by kernel_rfl
theorem mix : Tryz.prog.follows .mixedOrders = true := by kernel_rfl
def noX : Ext := fun _ _ _ => none
def isT : Option (V × Hp) → Bool
  | some (.bool true, _) => true
  | _ => false
theorem isT_ok {r : Option (V × Hp)} (h : isT r = true) : ∃ h1, r = some (.bool true, h1) := by
  unfold isT at h
  split at h
  · exact ⟨_, rfl⟩
  · cases h
def sy (k : Nat) (c : Int) : V := .int .i64 (Int.ofNat (symB + k * symF + (Int.toNat (Int.ofNat symH + c))))
def syI (k m : Nat) : Int := Int.ofNat (symB + k * symF + m)
/-- CountString, of texts without codes -/
def cntX : Ext := fun g args h =>
  bif Nat.beq g 256 then (match args with
    | [.str s, .int .u8 (.ofNat c)] => bif okNats s && (Nat.blt c 256 && !Nat.ble symB (countB c s)) then some (.int .i64 (Int.ofNat (countB c s)), h) else none
    | _ => none) else none
def lowX : Ext := fun g args h =>
  bif Nat.beq g 12 then (match args with | [] => some (.bool true, h) | _ => none) else
  bif Nat.beq g 25 then (match args with
    | [.int .i64 a, .int .i64 b] =>
      bif decide (a = syI 6 symH) && decide (b = 40) then some (.int .i64 (syI 0 (symH - 1)), h) else
      bif decide (a = syI 7 symH) && decide (b = 40) then some (.int .i64 (syI 2 (symH - 1)), h) else
      bif decide (a = syI 8 symH) && decide (b = 50) then some (.int .i64 (syI 4 symH), h) else none
    | _ => none) else cntX g args h
def lowY : Ext := fun g args h =>
  bif Nat.beq g 12 then (match args with | [] => some (.bool true, h) | _ => none) else
  bif Nat.beq g 25 then (match args with
    | [.int .i64 a, .int .i64 b] => bif decide (b = 40) || decide (b = 50) then some (.int .i64 (a % b), h) else none
    | _ => none) else cntX g args h

/-- the forms' values -/
def rho (a b c : Int) : Nat → Int
  | 0 => a % 40 + 1
  | 1 => - (a % 40 + 1)
  | 2 => b % 40 + 1
  | 3 => - (b % 40 + 1)
  | 4 => c % 50
  | 5 => - (c % 50)
  | 6 => a
  | 7 => b
  | 8 => c
  | _ => 0

theorem fi_syI {a b c : Int} {k m : Nat} (hk : split (syI k m) = some (k, Int.ofNat m - Int.ofNat symH)) : fi (rho a b c) (syI k m) = rho a b c k + (Int.ofNat m - Int.ofNat symH) := fi_some hk
theorem s6 : split (syI 6 symH) = some (6, Int.ofNat symH - Int.ofNat symH) := by decide +kernel
theorem s7 : split (syI 7 symH) = some (7, Int.ofNat symH - Int.ofNat symH) := by decide +kernel
theorem s8 : split (syI 8 symH) = some (8, Int.ofNat symH - Int.ofNat symH) := by decide +kernel
theorem s0 : split (syI 0 (symH - 1)) = some (0, Int.ofNat (symH - 1) - Int.ofNat symH) := by decide +kernel
theorem s2 : split (syI 2 (symH - 1)) = some (2, Int.ofNat (symH - 1) - Int.ofNat symH) := by decide +kernel
theorem s4 : split (syI 4 symH) = some (4, Int.ofNat symH - Int.ofNat symH) := by decide +kernel
theorem hh0 : Int.ofNat symH - Int.ofNat symH = 0 := by decide +kernel
theorem hh1 : Int.ofNat (symH - 1) - Int.ofNat symH = -1 := by decide +kernel

theorem cnt_sim (ρ : Nat → Int) : ExtSim ρ cntX cntX := by
  intro f args h v h' q
  unfold cntX at q
  cases hg : Nat.beq f 256 with
  | false => rw [hg] at q; cases q
  | true =>
    rw [hg] at q
    simp only [cond_true] at q
    split at q
    · rename_i s c
      obtain ⟨hc, q⟩ := bif_some q
      simp only [Bool.and_eq_true, Bool.not_eq_true'] at hc
      obtain ⟨rfl, rfl⟩ := pair_eq q
      have hc2 : split (Int.ofNat c) = none := by
        have : c < 256 := by simpa [Nat.blt_eq] using hc.2.1
        have h2 : Nat.ble symB c = false := ble_no (by have : 256 < symB := by decide +kernel
                                                       omega)
        simp [split, h2]
      have hn : split (Int.ofNat (countB c s)) = none := by simp [split, hc.2.2]
      simp only [fvs, fv, fi_none hc2, fi_none hn, okNats_ok hc.1, cntX, hg, cond_true]
      simp only [hc.1, hc.2.1, hc.2.2, Bool.not_false, Bool.and_self, cond_true]
    · cases q

theorem low_sim (a b c : Int) : ExtSim (rho a b c) lowX lowY := by
  intro f args h v h' q
  unfold lowX at q
  cases h12 : Nat.beq f 12 with
  | true =>
    rw [h12] at q
    simp only [cond_true] at q
    split at q
    · obtain ⟨rfl, rfl⟩ := pair_eq q
      simp only [lowY, h12, cond_true, fvs, fv]
    · cases q
  | false =>
    rw [h12] at q
    simp only [cond_false] at q
    cases h25 : Nat.beq f 25 with
    | false =>
      rw [h25] at q
      simp only [cond_false] at q
      have := cnt_sim (rho a b c) f args h v h' q
      simpa only [lowY, h12, h25, cond_false] using this
    | true =>
      rw [h25] at q
      simp only [cond_true] at q
      split at q
      · rename_i x y
        have p40 : split (40 : Int) = none := by decide +kernel
        have p50 : split (50 : Int) = none := by decide +kernel
        cases c1 : (decide (x = syI 6 symH) && decide (y = 40)) with
        | true =>
          rw [c1] at q
          simp only [cond_true] at q
          simp only [Bool.and_eq_true, decide_eq_true_eq] at c1
          obtain ⟨rfl, rfl⟩ := c1
          obtain ⟨rfl, rfl⟩ := pair_eq q
          simp only [lowY, h12, h25, cond_true, cond_false, fvs, fv, fi_none p40, fi_syI s6, fi_syI s0, hh0, hh1, rho, decide_true, Bool.true_or]
          congr 3
          omega
        | false =>
          rw [c1] at q
          simp only [cond_false] at q
          cases c2 : (decide (x = syI 7 symH) && decide (y = 40)) with
          | true =>
            rw [c2] at q
            simp only [cond_true] at q
            simp only [Bool.and_eq_true, decide_eq_true_eq] at c2
            obtain ⟨rfl, rfl⟩ := c2
            obtain ⟨rfl, rfl⟩ := pair_eq q
            simp only [lowY, h12, h25, cond_true, cond_false, fvs, fv, fi_none p40, fi_syI s7, fi_syI s2, hh0, hh1, rho, decide_true, Bool.true_or]
            congr 3
            omega
          | false =>
            rw [c2] at q
            simp only [cond_false] at q
            cases c3 : (decide (x = syI 8 symH) && decide (y = 50)) with
            | true =>
              rw [c3] at q
              simp only [cond_true] at q
              simp only [Bool.and_eq_true, decide_eq_true_eq] at c3
              obtain ⟨rfl, rfl⟩ := c3
              obtain ⟨rfl, rfl⟩ := pair_eq q
              simp only [lowY, h12, h25, cond_true, cond_false, fvs, fv, fi_none p50, fi_syI s8, fi_syI s4, hh0, rho, decide_true, Bool.or_true]
              congr 3
              omega
            | false =>
              rw [c3] at q
              cases q
      · cases q

/-- Bring, walked -/
theorem bring_run (a : Int) (b : Int) (hb : 0 < b) (hb2 : b ≤ 1000) : ∃ h1, callN briT noX 3 false (.func 25 [] []) [.int .i64 a, .int .i64 b] ⟨3, .nil⟩ = some (.int .i64 (a % b), h1) := by
  have h1 : decide (b ≤ 0) = false := decide_eq_false (by omega)
  have h2 : decide (b = 0) = false := decide_eq_false (by omega)
  refine ⟨⟨3, .nil⟩, ?_⟩
  have hget : briT.get 25 = some e25 := by rfl
  have hble : Nat.ble 2 16 = true := by rfl
  have e := Int.tmod_eq_emod (a := a) (b := b)
  by_cases hn : a.tmod b < 0
  · have h3 : decide (a.tmod b < 0) = true := decide_eq_true hn
    have h4 : wrapK .i64 (a.tmod b + b) = a % b := by
      have hlt : -b < a.tmod b := by
        have := Int.tmod_lt_of_pos a hb
        have := Int.lt_tmod_of_pos a hb
        omega
      have hk : a.tmod b + b = a % b := by
        have := Int.emod_nonneg a (by omega : b ≠ 0)
        split at e <;> omega
      rw [hk]
      have := Int.emod_nonneg a (by omega : b ≠ 0)
      have := Int.emod_lt_of_pos a hb
      exact wrapK_in ⟨by show (-9223372036854775808 : Int) ≤ _; omega, by show _ ≤ (9223372036854775807 : Int); omega⟩
    simp [callN, hget, e25, evC, runOps, stepOp, evOp, ev, wanted, putT, T.get_set, T.setMany, Go.Ev.arith, arithInt, kindEq, ret1, ob, resultsOf, resultOf, packResults, hble, h1, h2, h3, h4]
  · have h3 : decide (a % b < 0) = false := decide_eq_false (by have := Int.emod_nonneg a (by omega : b ≠ 0); omega)
    have h4 : a.tmod b = a % b := by
      have := Int.emod_nonneg a (by omega : b ≠ 0)
      have := Int.emod_lt_of_pos a hb
      split at e <;> omega
    simp [callN, hget, e25, evC, runOps, stepOp, evOp, ev, wanted, putT, T.get_set, T.setMany, Go.Ev.arith, arithInt, kindEq, ret1, ob, resultsOf, resultOf, packResults, hble, h1, h2, h3, h4]

theorem noX_ok (fs : T EFunc) : ExtOK Tryz.prog fs noX := fun _ _ _ _ _ _ _ _ _ h => by cases h
theorem cnt_ok (fs : T EFunc) : ExtOK Tryz.prog fs cntX := by
  intro f args h v h' ι w ys _ q hy hw hg
  unfold cntX at q
  cases hf : Nat.beq f 256 with
  | false => rw [hf] at q; cases q
  | true =>
    obtain rfl : f = 256 := Nat.eq_of_beq_eq_true hf
    rw [hf] at q
    simp only [cond_true] at q
    split at q
    · rename_i s c
      obtain ⟨hc, q⟩ := bif_some q
      simp only [Bool.and_eq_true, Bool.not_eq_true'] at hc
      obtain ⟨rfl, rfl⟩ := pair_eq q
      exact ext_count Tryz.func256 (by kernel_rfl) (by kernel_rfl) (by kernel_rfl) (by kernel_rfl) (by simpa [Nat.blt_eq] using hc.2.1) hy hw
    · cases q
end Go.Proofs.YteikmdigmjlmdaaGreatDoor
