/-
  ShardLow: the sixteen regions of its symbols.
-/
import Derived.Test.YteikmdigmjlmdaaGreatDoorLowExt
namespace Go.Proofs.YteikmdigmjlmdaaGreatDoor
open Go Go.Ev
set_option linter.unusedVariables false
set_option maxRecDepth 1000000
def atP (l : List (Int × Int)) (k : Nat) : Option (Int × Int) := l[k]?
def mkReg (rng : List (Int × Int)) (dif : List (List (Int × Int))) : Reg where
  rng := fun k => rng[k]?
  dif := fun k j => match dif[k]? with
    | some l => l[j]?
    | none => none
  neg := fun k => match k with
    | 0 => some 1
    | 1 => some 0
    | 2 => some 3
    | 3 => some 2
    | 4 => some 5
    | 5 => some 4
    | _ => none
theorem ix0 {α : Type} {a b c d e f x : α} {k : Nat} (h : [a, b, c, d, e, f][k]? = some x) : (k = 0 ∧ x = a) ∨ (k = 1 ∧ x = b) ∨ (k = 2 ∧ x = c) ∨ (k = 3 ∧ x = d) ∨ (k = 4 ∧ x = e) ∨ (k = 5 ∧ x = f) := by
  match k, h with
  | 0, h => simp at h; simp [h]
  | 1, h => simp at h; simp [h]
  | 2, h => simp at h; simp [h]
  | 3, h => simp at h; simp [h]
  | 4, h => simp at h; simp [h]
  | 5, h => simp at h; simp [h]
  | _ + 6, h => simp at h
theorem neg_ok {rng : List (Int × Int)} {dif : List (List (Int × Int))} {a b c : Int} (k j : Nat) (h : (mkReg rng dif).neg k = some j) : rho a b c j = - rho a b c k := by
  unfold mkReg at h
  match k, h with
  | 0, h => cases h; rfl
  | 1, h => cases h; simp [rho]
  | 2, h => cases h; rfl
  | 3, h => cases h; simp [rho]
  | 4, h => cases h; rfl
  | 5, h => cases h; simp [rho]
  | _ + 6, h => cases h
def R0 : Reg := mkReg [(1, 39), (-39, -1), (2, 40), (-40, -2), (0, 0), (0, 0)] [[(0, 0), (2, 78), (-39, -1), (3, 79), (1, 39), (1, 39)], [(-78, -2), (0, 0), (-79, -3), (1, 39), (-39, -1), (-39, -1)], [(1, 39), (3, 79), (0, 0), (4, 80), (2, 40), (2, 40)], [(-79, -3), (-39, -1), (-80, -4), (0, 0), (-40, -2), (-40, -2)], [(-39, -1), (1, 39), (-40, -2), (2, 40), (0, 0), (0, 0)], [(-39, -1), (1, 39), (-40, -2), (2, 40), (0, 0), (0, 0)]]
def R1 : Reg := mkReg [(2, 39), (-39, -2), (3, 40), (-40, -3), (1, 38), (-38, -1)] [[(0, 0), (4, 78), (-38, -1), (5, 79), (1, 38), (3, 77)], [(-78, -4), (0, 0), (-79, -5), (1, 38), (-77, -3), (-38, -1)], [(1, 38), (5, 79), (0, 0), (6, 80), (2, 39), (4, 78)], [(-79, -5), (-38, -1), (-80, -6), (0, 0), (-78, -4), (-39, -2)], [(-38, -1), (3, 77), (-39, -2), (4, 78), (0, 0), (2, 76)], [(-77, -3), (1, 38), (-78, -4), (2, 39), (-76, -2), (0, 0)]]
def R2 : Reg := mkReg [(1, 39), (-39, -1), (2, 40), (-40, -2), (1, 39), (-39, -1)] [[(0, 0), (2, 78), (-39, -1), (3, 79), (0, 0), (2, 78)], [(-78, -2), (0, 0), (-79, -3), (1, 39), (-78, -2), (0, 0)], [(1, 39), (3, 79), (0, 0), (4, 80), (1, 39), (3, 79)], [(-79, -3), (-39, -1), (-80, -4), (0, 0), (-79, -3), (-39, -1)], [(0, 0), (2, 78), (-39, -1), (3, 79), (0, 0), (2, 78)], [(-78, -2), (0, 0), (-79, -3), (1, 39), (-78, -2), (0, 0)]]
def R3 : Reg := mkReg [(1, 38), (-38, -1), (3, 40), (-40, -3), (2, 39), (-39, -2)] [[(0, 0), (2, 76), (-39, -2), (4, 78), (-38, -1), (3, 77)], [(-76, -2), (0, 0), (-78, -4), (2, 39), (-77, -3), (1, 38)], [(2, 39), (4, 78), (0, 0), (6, 80), (1, 38), (5, 79)], [(-78, -4), (-39, -2), (-80, -6), (0, 0), (-79, -5), (-38, -1)], [(1, 38), (3, 77), (-38, -1), (5, 79), (0, 0), (4, 78)], [(-77, -3), (-38, -1), (-79, -5), (1, 38), (-78, -4), (0, 0)]]
def R4 : Reg := mkReg [(1, 39), (-39, -1), (2, 40), (-40, -2), (2, 40), (-40, -2)] [[(0, 0), (2, 78), (-39, -1), (3, 79), (-39, -1), (3, 79)], [(-78, -2), (0, 0), (-79, -3), (1, 39), (-79, -3), (1, 39)], [(1, 39), (3, 79), (0, 0), (4, 80), (0, 0), (4, 80)], [(-79, -3), (-39, -1), (-80, -4), (0, 0), (-80, -4), (0, 0)], [(1, 39), (3, 79), (0, 0), (4, 80), (0, 0), (4, 80)], [(-79, -3), (-39, -1), (-80, -4), (0, 0), (-80, -4), (0, 0)]]
def R5 : Reg := mkReg [(1, 39), (-39, -1), (2, 40), (-40, -2), (3, 49), (-49, -3)] [[(0, 0), (2, 78), (-39, -1), (3, 79), (-48, -2), (4, 88)], [(-78, -2), (0, 0), (-79, -3), (1, 39), (-88, -4), (2, 48)], [(1, 39), (3, 79), (0, 0), (4, 80), (-47, -1), (5, 89)], [(-79, -3), (-39, -1), (-80, -4), (0, 0), (-89, -5), (1, 47)], [(2, 48), (4, 88), (1, 47), (5, 89), (0, 0), (6, 98)], [(-88, -4), (-48, -2), (-89, -5), (-47, -1), (-98, -6), (0, 0)]]
def R6 : Reg := mkReg [(1, 40), (-40, -1), (1, 40), (-40, -1), (0, 0), (0, 0)] [[(0, 0), (2, 80), (0, 0), (2, 80), (1, 40), (1, 40)], [(-80, -2), (0, 0), (-80, -2), (0, 0), (-40, -1), (-40, -1)], [(0, 0), (2, 80), (0, 0), (2, 80), (1, 40), (1, 40)], [(-80, -2), (0, 0), (-80, -2), (0, 0), (-40, -1), (-40, -1)], [(-40, -1), (1, 40), (-40, -1), (1, 40), (0, 0), (0, 0)], [(-40, -1), (1, 40), (-40, -1), (1, 40), (0, 0), (0, 0)]]
def R7 : Reg := mkReg [(2, 40), (-40, -2), (2, 40), (-40, -2), (1, 39), (-39, -1)] [[(0, 0), (4, 80), (0, 0), (4, 80), (1, 39), (3, 79)], [(-80, -4), (0, 0), (-80, -4), (0, 0), (-79, -3), (-39, -1)], [(0, 0), (4, 80), (0, 0), (4, 80), (1, 39), (3, 79)], [(-80, -4), (0, 0), (-80, -4), (0, 0), (-79, -3), (-39, -1)], [(-39, -1), (3, 79), (-39, -1), (3, 79), (0, 0), (2, 78)], [(-79, -3), (1, 39), (-79, -3), (1, 39), (-78, -2), (0, 0)]]
def R8 : Reg := mkReg [(1, 40), (-40, -1), (1, 40), (-40, -1), (1, 40), (-40, -1)] [[(0, 0), (2, 80), (0, 0), (2, 80), (0, 0), (2, 80)], [(-80, -2), (0, 0), (-80, -2), (0, 0), (-80, -2), (0, 0)], [(0, 0), (2, 80), (0, 0), (2, 80), (0, 0), (2, 80)], [(-80, -2), (0, 0), (-80, -2), (0, 0), (-80, -2), (0, 0)], [(0, 0), (2, 80), (0, 0), (2, 80), (0, 0), (2, 80)], [(-80, -2), (0, 0), (-80, -2), (0, 0), (-80, -2), (0, 0)]]
def R9 : Reg := mkReg [(1, 40), (-40, -1), (1, 40), (-40, -1), (2, 49), (-49, -2)] [[(0, 0), (2, 80), (0, 0), (2, 80), (-48, -1), (3, 89)], [(-80, -2), (0, 0), (-80, -2), (0, 0), (-89, -3), (1, 48)], [(0, 0), (2, 80), (0, 0), (2, 80), (-48, -1), (3, 89)], [(-80, -2), (0, 0), (-80, -2), (0, 0), (-89, -3), (1, 48)], [(1, 48), (3, 89), (1, 48), (3, 89), (0, 0), (4, 98)], [(-89, -3), (-48, -1), (-89, -3), (-48, -1), (-98, -4), (0, 0)]]
def R10 : Reg := mkReg [(2, 40), (-40, -2), (1, 39), (-39, -1), (0, 0), (0, 0)] [[(0, 0), (4, 80), (1, 39), (3, 79), (2, 40), (2, 40)], [(-80, -4), (0, 0), (-79, -3), (-39, -1), (-40, -2), (-40, -2)], [(-39, -1), (3, 79), (0, 0), (2, 78), (1, 39), (1, 39)], [(-79, -3), (1, 39), (-78, -2), (0, 0), (-39, -1), (-39, -1)], [(-40, -2), (2, 40), (-39, -1), (1, 39), (0, 0), (0, 0)], [(-40, -2), (2, 40), (-39, -1), (1, 39), (0, 0), (0, 0)]]
def R11 : Reg := mkReg [(3, 40), (-40, -3), (2, 39), (-39, -2), (1, 38), (-38, -1)] [[(0, 0), (6, 80), (1, 38), (5, 79), (2, 39), (4, 78)], [(-80, -6), (0, 0), (-79, -5), (-38, -1), (-78, -4), (-39, -2)], [(-38, -1), (5, 79), (0, 0), (4, 78), (1, 38), (3, 77)], [(-79, -5), (1, 38), (-78, -4), (0, 0), (-77, -3), (-38, -1)], [(-39, -2), (4, 78), (-38, -1), (3, 77), (0, 0), (2, 76)], [(-78, -4), (2, 39), (-77, -3), (1, 38), (-76, -2), (0, 0)]]
def R12 : Reg := mkReg [(2, 40), (-40, -2), (1, 39), (-39, -1), (1, 39), (-39, -1)] [[(0, 0), (4, 80), (1, 39), (3, 79), (1, 39), (3, 79)], [(-80, -4), (0, 0), (-79, -3), (-39, -1), (-79, -3), (-39, -1)], [(-39, -1), (3, 79), (0, 0), (2, 78), (0, 0), (2, 78)], [(-79, -3), (1, 39), (-78, -2), (0, 0), (-78, -2), (0, 0)], [(-39, -1), (3, 79), (0, 0), (2, 78), (0, 0), (2, 78)], [(-79, -3), (1, 39), (-78, -2), (0, 0), (-78, -2), (0, 0)]]
def R13 : Reg := mkReg [(3, 40), (-40, -3), (1, 38), (-38, -1), (2, 39), (-39, -2)] [[(0, 0), (6, 80), (2, 39), (4, 78), (1, 38), (5, 79)], [(-80, -6), (0, 0), (-78, -4), (-39, -2), (-79, -5), (-38, -1)], [(-39, -2), (4, 78), (0, 0), (2, 76), (-38, -1), (3, 77)], [(-78, -4), (2, 39), (-76, -2), (0, 0), (-77, -3), (1, 38)], [(-38, -1), (5, 79), (1, 38), (3, 77), (0, 0), (4, 78)], [(-79, -5), (1, 38), (-77, -3), (-38, -1), (-78, -4), (0, 0)]]
def R14 : Reg := mkReg [(2, 40), (-40, -2), (1, 39), (-39, -1), (2, 40), (-40, -2)] [[(0, 0), (4, 80), (1, 39), (3, 79), (0, 0), (4, 80)], [(-80, -4), (0, 0), (-79, -3), (-39, -1), (-80, -4), (0, 0)], [(-39, -1), (3, 79), (0, 0), (2, 78), (-39, -1), (3, 79)], [(-79, -3), (1, 39), (-78, -2), (0, 0), (-79, -3), (1, 39)], [(0, 0), (4, 80), (1, 39), (3, 79), (0, 0), (4, 80)], [(-80, -4), (0, 0), (-79, -3), (-39, -1), (-80, -4), (0, 0)]]
def R15 : Reg := mkReg [(2, 40), (-40, -2), (1, 39), (-39, -1), (3, 49), (-49, -3)] [[(0, 0), (4, 80), (1, 39), (3, 79), (-47, -1), (5, 89)], [(-80, -4), (0, 0), (-79, -3), (-39, -1), (-89, -5), (1, 47)], [(-39, -1), (3, 79), (0, 0), (2, 78), (-48, -2), (4, 88)], [(-79, -3), (1, 39), (-78, -2), (0, 0), (-88, -4), (2, 48)], [(1, 47), (5, 89), (2, 48), (4, 88), (0, 0), (6, 98)], [(-89, -5), (-47, -1), (-88, -4), (-48, -2), (-98, -6), (0, 0)]]
theorem R0_ok {a b c l m w : Int} (hl : l = a % 40 + 1) (hm : m = b % 40 + 1) (hw : w = c % 50) (c1 : l < m) (c2 : w < m) (c3 : w < l) (c4 : w = 0) : RegOK R0 (rho a b c) := by
  have b1 : 1 ≤ l ∧ l ≤ 40 := by omega
  have b2 : 1 ≤ m ∧ m ≤ 40 := by omega
  have b3 : 0 ≤ w ∧ w ≤ 49 := by omega
  have r0 : rho a b c 0 = l := hl.symm
  have r1 : rho a b c 1 = -l := by rw [hl]; rfl
  have r2 : rho a b c 2 = m := hm.symm
  have r3 : rho a b c 3 = -m := by rw [hm]; rfl
  have r4 : rho a b c 4 = w := hw.symm
  have r5 : rho a b c 5 = -w := by rw [hw]; rfl
  clear hl hm hw
  refine ⟨fun k lo hi h => ?_, fun k j lo hi h => ?_, fun k j h => neg_ok k j h⟩
  · rcases ix0 (show [(1, 39), (-39, -1), (2, 40), (-40, -2), (0, 0), (0, 0)][k]? = some (lo, hi) from h) with ⟨rfl, e⟩ | ⟨rfl, e⟩ | ⟨rfl, e⟩ | ⟨rfl, e⟩ | ⟨rfl, e⟩ | ⟨rfl, e⟩ <;> cases e <;> simp only [r0, r1, r2, r3, r4, r5] <;> omega
  · unfold R0 mkReg at h
    dsimp only at h
    split at h
    · rename_i l' hl'
      rcases ix0 hl' with ⟨rfl, rfl⟩ | ⟨rfl, rfl⟩ | ⟨rfl, rfl⟩ | ⟨rfl, rfl⟩ | ⟨rfl, rfl⟩ | ⟨rfl, rfl⟩ <;> rcases ix0 h with ⟨rfl, e⟩ | ⟨rfl, e⟩ | ⟨rfl, e⟩ | ⟨rfl, e⟩ | ⟨rfl, e⟩ | ⟨rfl, e⟩ <;> cases e <;> simp only [r0, r1, r2, r3, r4, r5] <;> omega
    · cases h
theorem R1_ok {a b c l m w : Int} (hl : l = a % 40 + 1) (hm : m = b % 40 + 1) (hw : w = c % 50) (c1 : l < m) (c2 : w < m) (c3 : w < l) (c4 : w ≠ 0) : RegOK R1 (rho a b c) := by
  have b1 : 1 ≤ l ∧ l ≤ 40 := by omega
  have b2 : 1 ≤ m ∧ m ≤ 40 := by omega
  have b3 : 0 ≤ w ∧ w ≤ 49 := by omega
  have r0 : rho a b c 0 = l := hl.symm
  have r1 : rho a b c 1 = -l := by rw [hl]; rfl
  have r2 : rho a b c 2 = m := hm.symm
  have r3 : rho a b c 3 = -m := by rw [hm]; rfl
  have r4 : rho a b c 4 = w := hw.symm
  have r5 : rho a b c 5 = -w := by rw [hw]; rfl
  clear hl hm hw
  refine ⟨fun k lo hi h => ?_, fun k j lo hi h => ?_, fun k j h => neg_ok k j h⟩
  · rcases ix0 (show [(2, 39), (-39, -2), (3, 40), (-40, -3), (1, 38), (-38, -1)][k]? = some (lo, hi) from h) with ⟨rfl, e⟩ | ⟨rfl, e⟩ | ⟨rfl, e⟩ | ⟨rfl, e⟩ | ⟨rfl, e⟩ | ⟨rfl, e⟩ <;> cases e <;> simp only [r0, r1, r2, r3, r4, r5] <;> omega
  · unfold R1 mkReg at h
    dsimp only at h
    split at h
    · rename_i l' hl'
      rcases ix0 hl' with ⟨rfl, rfl⟩ | ⟨rfl, rfl⟩ | ⟨rfl, rfl⟩ | ⟨rfl, rfl⟩ | ⟨rfl, rfl⟩ | ⟨rfl, rfl⟩ <;> rcases ix0 h with ⟨rfl, e⟩ | ⟨rfl, e⟩ | ⟨rfl, e⟩ | ⟨rfl, e⟩ | ⟨rfl, e⟩ | ⟨rfl, e⟩ <;> cases e <;> simp only [r0, r1, r2, r3, r4, r5] <;> omega
    · cases h
theorem R2_ok {a b c l m w : Int} (hl : l = a % 40 + 1) (hm : m = b % 40 + 1) (hw : w = c % 50) (c1 : l < m) (c2 : w < m) (c3 : w = l) (c4 : w ≠ 0) : RegOK R2 (rho a b c) := by
  have b1 : 1 ≤ l ∧ l ≤ 40 := by omega
  have b2 : 1 ≤ m ∧ m ≤ 40 := by omega
  have b3 : 0 ≤ w ∧ w ≤ 49 := by omega
  have r0 : rho a b c 0 = l := hl.symm
  have r1 : rho a b c 1 = -l := by rw [hl]; rfl
  have r2 : rho a b c 2 = m := hm.symm
  have r3 : rho a b c 3 = -m := by rw [hm]; rfl
  have r4 : rho a b c 4 = w := hw.symm
  have r5 : rho a b c 5 = -w := by rw [hw]; rfl
  clear hl hm hw
  refine ⟨fun k lo hi h => ?_, fun k j lo hi h => ?_, fun k j h => neg_ok k j h⟩
  · rcases ix0 (show [(1, 39), (-39, -1), (2, 40), (-40, -2), (1, 39), (-39, -1)][k]? = some (lo, hi) from h) with ⟨rfl, e⟩ | ⟨rfl, e⟩ | ⟨rfl, e⟩ | ⟨rfl, e⟩ | ⟨rfl, e⟩ | ⟨rfl, e⟩ <;> cases e <;> simp only [r0, r1, r2, r3, r4, r5] <;> omega
  · unfold R2 mkReg at h
    dsimp only at h
    split at h
    · rename_i l' hl'
      rcases ix0 hl' with ⟨rfl, rfl⟩ | ⟨rfl, rfl⟩ | ⟨rfl, rfl⟩ | ⟨rfl, rfl⟩ | ⟨rfl, rfl⟩ | ⟨rfl, rfl⟩ <;> rcases ix0 h with ⟨rfl, e⟩ | ⟨rfl, e⟩ | ⟨rfl, e⟩ | ⟨rfl, e⟩ | ⟨rfl, e⟩ | ⟨rfl, e⟩ <;> cases e <;> simp only [r0, r1, r2, r3, r4, r5] <;> omega
    · cases h
theorem R3_ok {a b c l m w : Int} (hl : l = a % 40 + 1) (hm : m = b % 40 + 1) (hw : w = c % 50) (c1 : l < m) (c2 : w < m) (c3 : w > l) (c4 : w ≠ 0) : RegOK R3 (rho a b c) := by
  have b1 : 1 ≤ l ∧ l ≤ 40 := by omega
  have b2 : 1 ≤ m ∧ m ≤ 40 := by omega
  have b3 : 0 ≤ w ∧ w ≤ 49 := by omega
  have r0 : rho a b c 0 = l := hl.symm
  have r1 : rho a b c 1 = -l := by rw [hl]; rfl
  have r2 : rho a b c 2 = m := hm.symm
  have r3 : rho a b c 3 = -m := by rw [hm]; rfl
  have r4 : rho a b c 4 = w := hw.symm
  have r5 : rho a b c 5 = -w := by rw [hw]; rfl
  clear hl hm hw
  refine ⟨fun k lo hi h => ?_, fun k j lo hi h => ?_, fun k j h => neg_ok k j h⟩
  · rcases ix0 (show [(1, 38), (-38, -1), (3, 40), (-40, -3), (2, 39), (-39, -2)][k]? = some (lo, hi) from h) with ⟨rfl, e⟩ | ⟨rfl, e⟩ | ⟨rfl, e⟩ | ⟨rfl, e⟩ | ⟨rfl, e⟩ | ⟨rfl, e⟩ <;> cases e <;> simp only [r0, r1, r2, r3, r4, r5] <;> omega
  · unfold R3 mkReg at h
    dsimp only at h
    split at h
    · rename_i l' hl'
      rcases ix0 hl' with ⟨rfl, rfl⟩ | ⟨rfl, rfl⟩ | ⟨rfl, rfl⟩ | ⟨rfl, rfl⟩ | ⟨rfl, rfl⟩ | ⟨rfl, rfl⟩ <;> rcases ix0 h with ⟨rfl, e⟩ | ⟨rfl, e⟩ | ⟨rfl, e⟩ | ⟨rfl, e⟩ | ⟨rfl, e⟩ | ⟨rfl, e⟩ <;> cases e <;> simp only [r0, r1, r2, r3, r4, r5] <;> omega
    · cases h
theorem R4_ok {a b c l m w : Int} (hl : l = a % 40 + 1) (hm : m = b % 40 + 1) (hw : w = c % 50) (c1 : l < m) (c2 : w = m) (c3 : w > l) (c4 : w ≠ 0) : RegOK R4 (rho a b c) := by
  have b1 : 1 ≤ l ∧ l ≤ 40 := by omega
  have b2 : 1 ≤ m ∧ m ≤ 40 := by omega
  have b3 : 0 ≤ w ∧ w ≤ 49 := by omega
  have r0 : rho a b c 0 = l := hl.symm
  have r1 : rho a b c 1 = -l := by rw [hl]; rfl
  have r2 : rho a b c 2 = m := hm.symm
  have r3 : rho a b c 3 = -m := by rw [hm]; rfl
  have r4 : rho a b c 4 = w := hw.symm
  have r5 : rho a b c 5 = -w := by rw [hw]; rfl
  clear hl hm hw
  refine ⟨fun k lo hi h => ?_, fun k j lo hi h => ?_, fun k j h => neg_ok k j h⟩
  · rcases ix0 (show [(1, 39), (-39, -1), (2, 40), (-40, -2), (2, 40), (-40, -2)][k]? = some (lo, hi) from h) with ⟨rfl, e⟩ | ⟨rfl, e⟩ | ⟨rfl, e⟩ | ⟨rfl, e⟩ | ⟨rfl, e⟩ | ⟨rfl, e⟩ <;> cases e <;> simp only [r0, r1, r2, r3, r4, r5] <;> omega
  · unfold R4 mkReg at h
    dsimp only at h
    split at h
    · rename_i l' hl'
      rcases ix0 hl' with ⟨rfl, rfl⟩ | ⟨rfl, rfl⟩ | ⟨rfl, rfl⟩ | ⟨rfl, rfl⟩ | ⟨rfl, rfl⟩ | ⟨rfl, rfl⟩ <;> rcases ix0 h with ⟨rfl, e⟩ | ⟨rfl, e⟩ | ⟨rfl, e⟩ | ⟨rfl, e⟩ | ⟨rfl, e⟩ | ⟨rfl, e⟩ <;> cases e <;> simp only [r0, r1, r2, r3, r4, r5] <;> omega
    · cases h
theorem R5_ok {a b c l m w : Int} (hl : l = a % 40 + 1) (hm : m = b % 40 + 1) (hw : w = c % 50) (c1 : l < m) (c2 : w > m) (c3 : w > l) (c4 : w ≠ 0) : RegOK R5 (rho a b c) := by
  have b1 : 1 ≤ l ∧ l ≤ 40 := by omega
  have b2 : 1 ≤ m ∧ m ≤ 40 := by omega
  have b3 : 0 ≤ w ∧ w ≤ 49 := by omega
  have r0 : rho a b c 0 = l := hl.symm
  have r1 : rho a b c 1 = -l := by rw [hl]; rfl
  have r2 : rho a b c 2 = m := hm.symm
  have r3 : rho a b c 3 = -m := by rw [hm]; rfl
  have r4 : rho a b c 4 = w := hw.symm
  have r5 : rho a b c 5 = -w := by rw [hw]; rfl
  clear hl hm hw
  refine ⟨fun k lo hi h => ?_, fun k j lo hi h => ?_, fun k j h => neg_ok k j h⟩
  · rcases ix0 (show [(1, 39), (-39, -1), (2, 40), (-40, -2), (3, 49), (-49, -3)][k]? = some (lo, hi) from h) with ⟨rfl, e⟩ | ⟨rfl, e⟩ | ⟨rfl, e⟩ | ⟨rfl, e⟩ | ⟨rfl, e⟩ | ⟨rfl, e⟩ <;> cases e <;> simp only [r0, r1, r2, r3, r4, r5] <;> omega
  · unfold R5 mkReg at h
    dsimp only at h
    split at h
    · rename_i l' hl'
      rcases ix0 hl' with ⟨rfl, rfl⟩ | ⟨rfl, rfl⟩ | ⟨rfl, rfl⟩ | ⟨rfl, rfl⟩ | ⟨rfl, rfl⟩ | ⟨rfl, rfl⟩ <;> rcases ix0 h with ⟨rfl, e⟩ | ⟨rfl, e⟩ | ⟨rfl, e⟩ | ⟨rfl, e⟩ | ⟨rfl, e⟩ | ⟨rfl, e⟩ <;> cases e <;> simp only [r0, r1, r2, r3, r4, r5] <;> omega
    · cases h
theorem R6_ok {a b c l m w : Int} (hl : l = a % 40 + 1) (hm : m = b % 40 + 1) (hw : w = c % 50) (c1 : l = m) (c2 : w < m) (c3 : w < l) (c4 : w = 0) : RegOK R6 (rho a b c) := by
  have b1 : 1 ≤ l ∧ l ≤ 40 := by omega
  have b2 : 1 ≤ m ∧ m ≤ 40 := by omega
  have b3 : 0 ≤ w ∧ w ≤ 49 := by omega
  have r0 : rho a b c 0 = l := hl.symm
  have r1 : rho a b c 1 = -l := by rw [hl]; rfl
  have r2 : rho a b c 2 = m := hm.symm
  have r3 : rho a b c 3 = -m := by rw [hm]; rfl
  have r4 : rho a b c 4 = w := hw.symm
  have r5 : rho a b c 5 = -w := by rw [hw]; rfl
  clear hl hm hw
  refine ⟨fun k lo hi h => ?_, fun k j lo hi h => ?_, fun k j h => neg_ok k j h⟩
  · rcases ix0 (show [(1, 40), (-40, -1), (1, 40), (-40, -1), (0, 0), (0, 0)][k]? = some (lo, hi) from h) with ⟨rfl, e⟩ | ⟨rfl, e⟩ | ⟨rfl, e⟩ | ⟨rfl, e⟩ | ⟨rfl, e⟩ | ⟨rfl, e⟩ <;> cases e <;> simp only [r0, r1, r2, r3, r4, r5] <;> omega
  · unfold R6 mkReg at h
    dsimp only at h
    split at h
    · rename_i l' hl'
      rcases ix0 hl' with ⟨rfl, rfl⟩ | ⟨rfl, rfl⟩ | ⟨rfl, rfl⟩ | ⟨rfl, rfl⟩ | ⟨rfl, rfl⟩ | ⟨rfl, rfl⟩ <;> rcases ix0 h with ⟨rfl, e⟩ | ⟨rfl, e⟩ | ⟨rfl, e⟩ | ⟨rfl, e⟩ | ⟨rfl, e⟩ | ⟨rfl, e⟩ <;> cases e <;> simp only [r0, r1, r2, r3, r4, r5] <;> omega
    · cases h
theorem R7_ok {a b c l m w : Int} (hl : l = a % 40 + 1) (hm : m = b % 40 + 1) (hw : w = c % 50) (c1 : l = m) (c2 : w < m) (c3 : w < l) (c4 : w ≠ 0) : RegOK R7 (rho a b c) := by
  have b1 : 1 ≤ l ∧ l ≤ 40 := by omega
  have b2 : 1 ≤ m ∧ m ≤ 40 := by omega
  have b3 : 0 ≤ w ∧ w ≤ 49 := by omega
  have r0 : rho a b c 0 = l := hl.symm
  have r1 : rho a b c 1 = -l := by rw [hl]; rfl
  have r2 : rho a b c 2 = m := hm.symm
  have r3 : rho a b c 3 = -m := by rw [hm]; rfl
  have r4 : rho a b c 4 = w := hw.symm
  have r5 : rho a b c 5 = -w := by rw [hw]; rfl
  clear hl hm hw
  refine ⟨fun k lo hi h => ?_, fun k j lo hi h => ?_, fun k j h => neg_ok k j h⟩
  · rcases ix0 (show [(2, 40), (-40, -2), (2, 40), (-40, -2), (1, 39), (-39, -1)][k]? = some (lo, hi) from h) with ⟨rfl, e⟩ | ⟨rfl, e⟩ | ⟨rfl, e⟩ | ⟨rfl, e⟩ | ⟨rfl, e⟩ | ⟨rfl, e⟩ <;> cases e <;> simp only [r0, r1, r2, r3, r4, r5] <;> omega
  · unfold R7 mkReg at h
    dsimp only at h
    split at h
    · rename_i l' hl'
      rcases ix0 hl' with ⟨rfl, rfl⟩ | ⟨rfl, rfl⟩ | ⟨rfl, rfl⟩ | ⟨rfl, rfl⟩ | ⟨rfl, rfl⟩ | ⟨rfl, rfl⟩ <;> rcases ix0 h with ⟨rfl, e⟩ | ⟨rfl, e⟩ | ⟨rfl, e⟩ | ⟨rfl, e⟩ | ⟨rfl, e⟩ | ⟨rfl, e⟩ <;> cases e <;> simp only [r0, r1, r2, r3, r4, r5] <;> omega
    · cases h
theorem R8_ok {a b c l m w : Int} (hl : l = a % 40 + 1) (hm : m = b % 40 + 1) (hw : w = c % 50) (c1 : l = m) (c2 : w = m) (c3 : w = l) (c4 : w ≠ 0) : RegOK R8 (rho a b c) := by
  have b1 : 1 ≤ l ∧ l ≤ 40 := by omega
  have b2 : 1 ≤ m ∧ m ≤ 40 := by omega
  have b3 : 0 ≤ w ∧ w ≤ 49 := by omega
  have r0 : rho a b c 0 = l := hl.symm
  have r1 : rho a b c 1 = -l := by rw [hl]; rfl
  have r2 : rho a b c 2 = m := hm.symm
  have r3 : rho a b c 3 = -m := by rw [hm]; rfl
  have r4 : rho a b c 4 = w := hw.symm
  have r5 : rho a b c 5 = -w := by rw [hw]; rfl
  clear hl hm hw
  refine ⟨fun k lo hi h => ?_, fun k j lo hi h => ?_, fun k j h => neg_ok k j h⟩
  · rcases ix0 (show [(1, 40), (-40, -1), (1, 40), (-40, -1), (1, 40), (-40, -1)][k]? = some (lo, hi) from h) with ⟨rfl, e⟩ | ⟨rfl, e⟩ | ⟨rfl, e⟩ | ⟨rfl, e⟩ | ⟨rfl, e⟩ | ⟨rfl, e⟩ <;> cases e <;> simp only [r0, r1, r2, r3, r4, r5] <;> omega
  · unfold R8 mkReg at h
    dsimp only at h
    split at h
    · rename_i l' hl'
      rcases ix0 hl' with ⟨rfl, rfl⟩ | ⟨rfl, rfl⟩ | ⟨rfl, rfl⟩ | ⟨rfl, rfl⟩ | ⟨rfl, rfl⟩ | ⟨rfl, rfl⟩ <;> rcases ix0 h with ⟨rfl, e⟩ | ⟨rfl, e⟩ | ⟨rfl, e⟩ | ⟨rfl, e⟩ | ⟨rfl, e⟩ | ⟨rfl, e⟩ <;> cases e <;> simp only [r0, r1, r2, r3, r4, r5] <;> omega
    · cases h
theorem R9_ok {a b c l m w : Int} (hl : l = a % 40 + 1) (hm : m = b % 40 + 1) (hw : w = c % 50) (c1 : l = m) (c2 : w > m) (c3 : w > l) (c4 : w ≠ 0) : RegOK R9 (rho a b c) := by
  have b1 : 1 ≤ l ∧ l ≤ 40 := by omega
  have b2 : 1 ≤ m ∧ m ≤ 40 := by omega
  have b3 : 0 ≤ w ∧ w ≤ 49 := by omega
  have r0 : rho a b c 0 = l := hl.symm
  have r1 : rho a b c 1 = -l := by rw [hl]; rfl
  have r2 : rho a b c 2 = m := hm.symm
  have r3 : rho a b c 3 = -m := by rw [hm]; rfl
  have r4 : rho a b c 4 = w := hw.symm
  have r5 : rho a b c 5 = -w := by rw [hw]; rfl
  clear hl hm hw
  refine ⟨fun k lo hi h => ?_, fun k j lo hi h => ?_, fun k j h => neg_ok k j h⟩
  · rcases ix0 (show [(1, 40), (-40, -1), (1, 40), (-40, -1), (2, 49), (-49, -2)][k]? = some (lo, hi) from h) with ⟨rfl, e⟩ | ⟨rfl, e⟩ | ⟨rfl, e⟩ | ⟨rfl, e⟩ | ⟨rfl, e⟩ | ⟨rfl, e⟩ <;> cases e <;> simp only [r0, r1, r2, r3, r4, r5] <;> omega
  · unfold R9 mkReg at h
    dsimp only at h
    split at h
    · rename_i l' hl'
      rcases ix0 hl' with ⟨rfl, rfl⟩ | ⟨rfl, rfl⟩ | ⟨rfl, rfl⟩ | ⟨rfl, rfl⟩ | ⟨rfl, rfl⟩ | ⟨rfl, rfl⟩ <;> rcases ix0 h with ⟨rfl, e⟩ | ⟨rfl, e⟩ | ⟨rfl, e⟩ | ⟨rfl, e⟩ | ⟨rfl, e⟩ | ⟨rfl, e⟩ <;> cases e <;> simp only [r0, r1, r2, r3, r4, r5] <;> omega
    · cases h
theorem R10_ok {a b c l m w : Int} (hl : l = a % 40 + 1) (hm : m = b % 40 + 1) (hw : w = c % 50) (c1 : l > m) (c2 : w < m) (c3 : w < l) (c4 : w = 0) : RegOK R10 (rho a b c) := by
  have b1 : 1 ≤ l ∧ l ≤ 40 := by omega
  have b2 : 1 ≤ m ∧ m ≤ 40 := by omega
  have b3 : 0 ≤ w ∧ w ≤ 49 := by omega
  have r0 : rho a b c 0 = l := hl.symm
  have r1 : rho a b c 1 = -l := by rw [hl]; rfl
  have r2 : rho a b c 2 = m := hm.symm
  have r3 : rho a b c 3 = -m := by rw [hm]; rfl
  have r4 : rho a b c 4 = w := hw.symm
  have r5 : rho a b c 5 = -w := by rw [hw]; rfl
  clear hl hm hw
  refine ⟨fun k lo hi h => ?_, fun k j lo hi h => ?_, fun k j h => neg_ok k j h⟩
  · rcases ix0 (show [(2, 40), (-40, -2), (1, 39), (-39, -1), (0, 0), (0, 0)][k]? = some (lo, hi) from h) with ⟨rfl, e⟩ | ⟨rfl, e⟩ | ⟨rfl, e⟩ | ⟨rfl, e⟩ | ⟨rfl, e⟩ | ⟨rfl, e⟩ <;> cases e <;> simp only [r0, r1, r2, r3, r4, r5] <;> omega
  · unfold R10 mkReg at h
    dsimp only at h
    split at h
    · rename_i l' hl'
      rcases ix0 hl' with ⟨rfl, rfl⟩ | ⟨rfl, rfl⟩ | ⟨rfl, rfl⟩ | ⟨rfl, rfl⟩ | ⟨rfl, rfl⟩ | ⟨rfl, rfl⟩ <;> rcases ix0 h with ⟨rfl, e⟩ | ⟨rfl, e⟩ | ⟨rfl, e⟩ | ⟨rfl, e⟩ | ⟨rfl, e⟩ | ⟨rfl, e⟩ <;> cases e <;> simp only [r0, r1, r2, r3, r4, r5] <;> omega
    · cases h
theorem R11_ok {a b c l m w : Int} (hl : l = a % 40 + 1) (hm : m = b % 40 + 1) (hw : w = c % 50) (c1 : l > m) (c2 : w < m) (c3 : w < l) (c4 : w ≠ 0) : RegOK R11 (rho a b c) := by
  have b1 : 1 ≤ l ∧ l ≤ 40 := by omega
  have b2 : 1 ≤ m ∧ m ≤ 40 := by omega
  have b3 : 0 ≤ w ∧ w ≤ 49 := by omega
  have r0 : rho a b c 0 = l := hl.symm
  have r1 : rho a b c 1 = -l := by rw [hl]; rfl
  have r2 : rho a b c 2 = m := hm.symm
  have r3 : rho a b c 3 = -m := by rw [hm]; rfl
  have r4 : rho a b c 4 = w := hw.symm
  have r5 : rho a b c 5 = -w := by rw [hw]; rfl
  clear hl hm hw
  refine ⟨fun k lo hi h => ?_, fun k j lo hi h => ?_, fun k j h => neg_ok k j h⟩
  · rcases ix0 (show [(3, 40), (-40, -3), (2, 39), (-39, -2), (1, 38), (-38, -1)][k]? = some (lo, hi) from h) with ⟨rfl, e⟩ | ⟨rfl, e⟩ | ⟨rfl, e⟩ | ⟨rfl, e⟩ | ⟨rfl, e⟩ | ⟨rfl, e⟩ <;> cases e <;> simp only [r0, r1, r2, r3, r4, r5] <;> omega
  · unfold R11 mkReg at h
    dsimp only at h
    split at h
    · rename_i l' hl'
      rcases ix0 hl' with ⟨rfl, rfl⟩ | ⟨rfl, rfl⟩ | ⟨rfl, rfl⟩ | ⟨rfl, rfl⟩ | ⟨rfl, rfl⟩ | ⟨rfl, rfl⟩ <;> rcases ix0 h with ⟨rfl, e⟩ | ⟨rfl, e⟩ | ⟨rfl, e⟩ | ⟨rfl, e⟩ | ⟨rfl, e⟩ | ⟨rfl, e⟩ <;> cases e <;> simp only [r0, r1, r2, r3, r4, r5] <;> omega
    · cases h
theorem R12_ok {a b c l m w : Int} (hl : l = a % 40 + 1) (hm : m = b % 40 + 1) (hw : w = c % 50) (c1 : l > m) (c2 : w = m) (c3 : w < l) (c4 : w ≠ 0) : RegOK R12 (rho a b c) := by
  have b1 : 1 ≤ l ∧ l ≤ 40 := by omega
  have b2 : 1 ≤ m ∧ m ≤ 40 := by omega
  have b3 : 0 ≤ w ∧ w ≤ 49 := by omega
  have r0 : rho a b c 0 = l := hl.symm
  have r1 : rho a b c 1 = -l := by rw [hl]; rfl
  have r2 : rho a b c 2 = m := hm.symm
  have r3 : rho a b c 3 = -m := by rw [hm]; rfl
  have r4 : rho a b c 4 = w := hw.symm
  have r5 : rho a b c 5 = -w := by rw [hw]; rfl
  clear hl hm hw
  refine ⟨fun k lo hi h => ?_, fun k j lo hi h => ?_, fun k j h => neg_ok k j h⟩
  · rcases ix0 (show [(2, 40), (-40, -2), (1, 39), (-39, -1), (1, 39), (-39, -1)][k]? = some (lo, hi) from h) with ⟨rfl, e⟩ | ⟨rfl, e⟩ | ⟨rfl, e⟩ | ⟨rfl, e⟩ | ⟨rfl, e⟩ | ⟨rfl, e⟩ <;> cases e <;> simp only [r0, r1, r2, r3, r4, r5] <;> omega
  · unfold R12 mkReg at h
    dsimp only at h
    split at h
    · rename_i l' hl'
      rcases ix0 hl' with ⟨rfl, rfl⟩ | ⟨rfl, rfl⟩ | ⟨rfl, rfl⟩ | ⟨rfl, rfl⟩ | ⟨rfl, rfl⟩ | ⟨rfl, rfl⟩ <;> rcases ix0 h with ⟨rfl, e⟩ | ⟨rfl, e⟩ | ⟨rfl, e⟩ | ⟨rfl, e⟩ | ⟨rfl, e⟩ | ⟨rfl, e⟩ <;> cases e <;> simp only [r0, r1, r2, r3, r4, r5] <;> omega
    · cases h
theorem R13_ok {a b c l m w : Int} (hl : l = a % 40 + 1) (hm : m = b % 40 + 1) (hw : w = c % 50) (c1 : l > m) (c2 : w > m) (c3 : w < l) (c4 : w ≠ 0) : RegOK R13 (rho a b c) := by
  have b1 : 1 ≤ l ∧ l ≤ 40 := by omega
  have b2 : 1 ≤ m ∧ m ≤ 40 := by omega
  have b3 : 0 ≤ w ∧ w ≤ 49 := by omega
  have r0 : rho a b c 0 = l := hl.symm
  have r1 : rho a b c 1 = -l := by rw [hl]; rfl
  have r2 : rho a b c 2 = m := hm.symm
  have r3 : rho a b c 3 = -m := by rw [hm]; rfl
  have r4 : rho a b c 4 = w := hw.symm
  have r5 : rho a b c 5 = -w := by rw [hw]; rfl
  clear hl hm hw
  refine ⟨fun k lo hi h => ?_, fun k j lo hi h => ?_, fun k j h => neg_ok k j h⟩
  · rcases ix0 (show [(3, 40), (-40, -3), (1, 38), (-38, -1), (2, 39), (-39, -2)][k]? = some (lo, hi) from h) with ⟨rfl, e⟩ | ⟨rfl, e⟩ | ⟨rfl, e⟩ | ⟨rfl, e⟩ | ⟨rfl, e⟩ | ⟨rfl, e⟩ <;> cases e <;> simp only [r0, r1, r2, r3, r4, r5] <;> omega
  · unfold R13 mkReg at h
    dsimp only at h
    split at h
    · rename_i l' hl'
      rcases ix0 hl' with ⟨rfl, rfl⟩ | ⟨rfl, rfl⟩ | ⟨rfl, rfl⟩ | ⟨rfl, rfl⟩ | ⟨rfl, rfl⟩ | ⟨rfl, rfl⟩ <;> rcases ix0 h with ⟨rfl, e⟩ | ⟨rfl, e⟩ | ⟨rfl, e⟩ | ⟨rfl, e⟩ | ⟨rfl, e⟩ | ⟨rfl, e⟩ <;> cases e <;> simp only [r0, r1, r2, r3, r4, r5] <;> omega
    · cases h
theorem R14_ok {a b c l m w : Int} (hl : l = a % 40 + 1) (hm : m = b % 40 + 1) (hw : w = c % 50) (c1 : l > m) (c2 : w > m) (c3 : w = l) (c4 : w ≠ 0) : RegOK R14 (rho a b c) := by
  have b1 : 1 ≤ l ∧ l ≤ 40 := by omega
  have b2 : 1 ≤ m ∧ m ≤ 40 := by omega
  have b3 : 0 ≤ w ∧ w ≤ 49 := by omega
  have r0 : rho a b c 0 = l := hl.symm
  have r1 : rho a b c 1 = -l := by rw [hl]; rfl
  have r2 : rho a b c 2 = m := hm.symm
  have r3 : rho a b c 3 = -m := by rw [hm]; rfl
  have r4 : rho a b c 4 = w := hw.symm
  have r5 : rho a b c 5 = -w := by rw [hw]; rfl
  clear hl hm hw
  refine ⟨fun k lo hi h => ?_, fun k j lo hi h => ?_, fun k j h => neg_ok k j h⟩
  · rcases ix0 (show [(2, 40), (-40, -2), (1, 39), (-39, -1), (2, 40), (-40, -2)][k]? = some (lo, hi) from h) with ⟨rfl, e⟩ | ⟨rfl, e⟩ | ⟨rfl, e⟩ | ⟨rfl, e⟩ | ⟨rfl, e⟩ | ⟨rfl, e⟩ <;> cases e <;> simp only [r0, r1, r2, r3, r4, r5] <;> omega
  · unfold R14 mkReg at h
    dsimp only at h
    split at h
    · rename_i l' hl'
      rcases ix0 hl' with ⟨rfl, rfl⟩ | ⟨rfl, rfl⟩ | ⟨rfl, rfl⟩ | ⟨rfl, rfl⟩ | ⟨rfl, rfl⟩ | ⟨rfl, rfl⟩ <;> rcases ix0 h with ⟨rfl, e⟩ | ⟨rfl, e⟩ | ⟨rfl, e⟩ | ⟨rfl, e⟩ | ⟨rfl, e⟩ | ⟨rfl, e⟩ <;> cases e <;> simp only [r0, r1, r2, r3, r4, r5] <;> omega
    · cases h
theorem R15_ok {a b c l m w : Int} (hl : l = a % 40 + 1) (hm : m = b % 40 + 1) (hw : w = c % 50) (c1 : l > m) (c2 : w > m) (c3 : w > l) (c4 : w ≠ 0) : RegOK R15 (rho a b c) := by
  have b1 : 1 ≤ l ∧ l ≤ 40 := by omega
  have b2 : 1 ≤ m ∧ m ≤ 40 := by omega
  have b3 : 0 ≤ w ∧ w ≤ 49 := by omega
  have r0 : rho a b c 0 = l := hl.symm
  have r1 : rho a b c 1 = -l := by rw [hl]; rfl
  have r2 : rho a b c 2 = m := hm.symm
  have r3 : rho a b c 3 = -m := by rw [hm]; rfl
  have r4 : rho a b c 4 = w := hw.symm
  have r5 : rho a b c 5 = -w := by rw [hw]; rfl
  clear hl hm hw
  refine ⟨fun k lo hi h => ?_, fun k j lo hi h => ?_, fun k j h => neg_ok k j h⟩
  · rcases ix0 (show [(2, 40), (-40, -2), (1, 39), (-39, -1), (3, 49), (-49, -3)][k]? = some (lo, hi) from h) with ⟨rfl, e⟩ | ⟨rfl, e⟩ | ⟨rfl, e⟩ | ⟨rfl, e⟩ | ⟨rfl, e⟩ | ⟨rfl, e⟩ <;> cases e <;> simp only [r0, r1, r2, r3, r4, r5] <;> omega
  · unfold R15 mkReg at h
    dsimp only at h
    split at h
    · rename_i l' hl'
      rcases ix0 hl' with ⟨rfl, rfl⟩ | ⟨rfl, rfl⟩ | ⟨rfl, rfl⟩ | ⟨rfl, rfl⟩ | ⟨rfl, rfl⟩ | ⟨rfl, rfl⟩ <;> rcases ix0 h with ⟨rfl, e⟩ | ⟨rfl, e⟩ | ⟨rfl, e⟩ | ⟨rfl, e⟩ | ⟨rfl, e⟩ | ⟨rfl, e⟩ <;> cases e <;> simp only [r0, r1, r2, r3, r4, r5] <;> omega
    · cases h
end Go.Proofs.YteikmdigmjlmdaaGreatDoor
