/-
  Laws of the evaluator's trees and rows: what is read behind a write. Plain Lean.
-/
import Derived.Test.YteikmdigmjlmdaaGreatDoorEvDef
set_option linter.unusedVariables false
set_option linter.unusedSimpArgs false
namespace Go.Ev

theorem beq_no {n m : Nat} (h : n ≠ m) : Nat.beq n m = false := by
  cases e : Nat.beq n m with
  | false => rfl
  | true => exact absurd (Nat.eq_of_beq_eq_true e) h
theorem beq_yes {n m : Nat} (h : n = m) : Nat.beq n m = true := by subst h; exact Nat.beq_refl n
theorem ble_no {n m : Nat} (h : ¬ n ≤ m) : Nat.ble n m = false := by
  cases e : Nat.ble n m with
  | false => rfl
  | true => exact absurd (Nat.le_of_ble_eq_true e) h
theorem ble_yes {n m : Nat} (h : n ≤ m) : Nat.ble n m = true := Nat.ble_eq_true_of_le h

namespace T
variable {α : Type}
@[simp] theorem get_nil (i : Nat) : (T.nil : T α).get i = none := rfl
@[simp] theorem get_zero (v : Option α) (l r : T α) : (T.node v l r).get 0 = v := rfl
theorem land1 (j : Nat) : Nat.land j 1 = j % 2 := Nat.and_one_is_mod j
theorem shr1 (j : Nat) : Nat.shiftRight j 1 = j / 2 := rfl
theorem rec_cond {β : Type} (a b : β) (c : Bool) : Bool.rec (motive := fun _ => β) b a c = bif c then a else b := by cases c <;> rfl
theorem get_succ (v : Option α) (l r : T α) (j : Nat) : (T.node v l r).get (j + 1) = if j % 2 = 0 then l.get (j / 2) else r.get (j / 2) := by
  show Bool.rec (motive := fun _ => Option α) (r.get (Nat.shiftRight j 1)) (l.get (Nat.shiftRight j 1)) (Nat.beq (Nat.land j 1) 0) = _
  rw [rec_cond, land1, shr1]
  by_cases h : j % 2 = 0
  · rw [beq_yes h, if_pos h]; rfl
  · rw [beq_no h, if_neg h]; rfl
theorem single_succ (f k : Nat) (v : α) : single (f + 1) (k + 1) v = bif Nat.beq (k % 2) 0 then T.node none (single f (k / 2) v) .nil else T.node none .nil (single f (k / 2) v) := by
  show Bool.rec (motive := fun _ => T α) (T.node none .nil (single f (Nat.shiftRight k 1) v)) (T.node none (single f (Nat.shiftRight k 1) v) .nil) (Nat.beq (Nat.land k 1) 0) = _
  rw [rec_cond, land1, shr1]
theorem set_succ (w : Option α) (l r : T α) (k : Nat) (v : α) : (T.node w l r).set (k + 1) v = bif Nat.beq (k % 2) 0 then T.node w (l.set (k / 2) v) r else T.node w l (r.set (k / 2) v) := by
  show Bool.rec (motive := fun _ => T α) (T.node w l (r.set (Nat.shiftRight k 1) v)) (T.node w (l.set (Nat.shiftRight k 1) v) r) (Nat.beq (Nat.land k 1) 0) = _
  rw [rec_cond, land1, shr1]
theorem set_zero (w : Option α) (l r : T α) (v : α) : (T.node w l r).set 0 v = T.node (some v) l r := rfl
theorem single_zero (f : Nat) (v : α) : single f 0 v = T.node (some v) .nil .nil := by cases f <;> rfl
theorem set_nil (i : Nat) (v : α) : (T.nil : T α).set i v = single i i v := rfl
theorem setMany_nil (t : T α) (i : Nat) : setMany t i [] = t := rfl
theorem setMany_cons (t : T α) (i : Nat) (v : α) (l : List α) : setMany t i (v :: l) = setMany (t.set i v) (i + 1) l := rfl

theorem get_single (f : Nat) : ∀ (i : Nat) (v : α) (j : Nat), i ≤ f → (single f i v).get j = if i = j then some v else none := by
  induction f with
  | zero =>
    intro i v j h
    obtain rfl : i = 0 := by omega
    cases j with
    | zero => rfl
    | succ j => show (T.node (some v) .nil .nil).get (j + 1) = _; simp [get_succ]
  | succ f ih =>
    intro i v j h
    cases i with
    | zero => cases j with
      | zero => rfl
      | succ j => show (T.node (some v) .nil .nil).get (j + 1) = _; simp [get_succ]
    | succ k =>
      rw [single_succ]
      have hk : k / 2 ≤ f := by omega
      cases j with
      | zero =>
        by_cases e : k % 2 = 0
        · rw [beq_yes e]; rfl
        · rw [beq_no e]; rfl
      | succ m =>
        by_cases e : k % 2 = 0
        · by_cases e' : m % 2 = 0
          · simp only [e, Nat.beq_eq, cond_eq_ite, if_true, get_succ, e', ih _ v _ hk]
            by_cases q : k / 2 = m / 2
            · rw [if_pos q, if_pos (by omega)]
            · rw [if_neg q, if_neg (by omega)]
          · simp only [e, Nat.beq_eq, cond_eq_ite, if_true, get_succ, e', if_false, get_nil]
            rw [if_neg (by omega)]
        · by_cases e' : m % 2 = 0
          · simp only [e, Nat.beq_eq, cond_eq_ite, if_true, get_succ, e', if_false, get_nil]
            rw [if_neg (by omega)]
          · simp only [e, Nat.beq_eq, cond_eq_ite, get_succ, e', if_false, ih _ v _ hk]
            by_cases q : k / 2 = m / 2
            · rw [if_pos q, if_pos (by omega)]
            · rw [if_neg q, if_neg (by omega)]

theorem get_set (t : T α) : ∀ (i : Nat) (v : α) (j : Nat), (t.set i v).get j = if i = j then some v else t.get j := by
  induction t with
  | nil => intro i v j; simp [set_nil, get_single i i v j (Nat.le_refl _)]
  | node w l r ihl ihr =>
    intro i v j
    cases i with
    | zero => cases j with
      | zero => rfl
      | succ j => rw [set_zero]; simp [get_succ]
    | succ k =>
      rw [set_succ]
      cases j with
      | zero =>
        by_cases e : k % 2 = 0
        · rw [beq_yes e]; rfl
        · rw [beq_no e]; rfl
      | succ m =>
        by_cases e : k % 2 = 0
        · by_cases e' : m % 2 = 0
          · simp only [e, Nat.beq_eq, cond_eq_ite, if_true, get_succ, e', ihl]
            by_cases q : k / 2 = m / 2
            · rw [if_pos q, if_pos (by omega)]
            · rw [if_neg q, if_neg (by omega)]
          · simp only [e, Nat.beq_eq, cond_eq_ite, if_true, get_succ, e', if_false]
            rw [if_neg (by omega)]
        · by_cases e' : m % 2 = 0
          · simp only [e, Nat.beq_eq, cond_eq_ite, if_true, get_succ, e', if_false]
            rw [if_neg (by omega)]
          · simp only [e, Nat.beq_eq, cond_eq_ite, get_succ, e', if_false, ihr]
            by_cases q : k / 2 = m / 2
            · rw [if_pos q, if_pos (by omega)]
            · rw [if_neg q, if_neg (by omega)]

@[simp] theorem get_set_same (t : T α) (i : Nat) (v : α) : (t.set i v).get i = some v := by simp [get_set]
theorem get_set_other (t : T α) {i j : Nat} (v : α) (h : i ≠ j) : (t.set i v).get j = t.get j := by simp [get_set, h]

theorem get_setMany (l : List α) : ∀ (t : T α) (i j : Nat), (t.setMany i l).get j = if i ≤ j then (match l[j - i]? with | some v => some v | none => t.get j) else t.get j := by
  induction l with
  | nil => intro t i j; simp [setMany_nil]
  | cons v l ih =>
    intro t i j
    simp only [setMany_cons, ih, get_set]
    by_cases h : i + 1 ≤ j
    · have h1 : ¬ i = j := by omega
      have h2 : i ≤ j := by omega
      obtain ⟨k, hk⟩ : ∃ k, j - i = k + 1 := ⟨j - i - 1, by omega⟩
      rw [if_pos h, if_pos h2, if_neg h1, hk, show j - (i + 1) = k from by omega]; simp
    · rw [if_neg h]
      by_cases e : i = j
      · subst e; simp
      · rw [if_neg e, if_neg (by omega)]
end T

/-- the cell at a place of rows of e -/
noncomputable def cellAt (e : Nat) (rows : T (List V)) (j : Nat) : Option V := match rows.get (j / e) with
  | some r => r[j % e]?
  | none => none

theorem setRow_get (vs : List V) : ∀ (r : List V) (i j : Nat), i + vs.length ≤ r.length →
    (setRow r i vs)[j]? = if i ≤ j ∧ j < i + vs.length then vs[j - i]? else r[j]? := by
  have key : ∀ (n : Nat) (vs r : List V) (i j : Nat), r.length = n → i + vs.length ≤ r.length →
      (setRow r i vs)[j]? = if i ≤ j ∧ j < i + vs.length then vs[j - i]? else r[j]? := by
    intro n
    induction n with
    | zero =>
      intro vs r i j hn h
      have hv : vs = [] := by cases vs with | nil => rfl | cons a b => simp at h; omega
      have hr : r = [] := by cases r with | nil => rfl | cons a b => simp at hn
      subst hv; subst hr
      cases i with
      | zero => simp [setRow]
      | succ i => simp at h
    | succ n ih =>
      intro vs r i j hn h
      cases r with
      | nil => simp at hn
      | cons x r =>
        cases i with
        | zero =>
          cases vs with
          | nil => simp [setRow]
          | cons v vs =>
            simp only [setRow]
            cases j with
            | zero => simp
            | succ j =>
              simp only [List.length_cons] at h hn
              have := ih vs r 0 j (by omega) (by omega)
              simp only [List.getElem?_cons_succ, this]
              simp
        | succ i =>
          simp only [setRow]
          cases j with
          | zero => simp
          | succ j =>
            simp only [List.length_cons] at h hn
            have := ih vs r i j (by omega) (by omega)
            simp only [List.getElem?_cons_succ, this]
            by_cases c : i ≤ j ∧ j < i + vs.length
            · rw [if_pos c, if_pos (by omega), show j + 1 - (i + 1) = j - i from by omega]
            · rw [if_neg c, if_neg (by omega)]
  intro r i j h
  exact key _ vs r i j rfl h

theorem setRow_length (vs : List V) : ∀ (r : List V) (i : Nat), (setRow r i vs).length = r.length := by
  intro r
  induction r generalizing vs with
  | nil => intro i; cases i <;> cases vs <;> simp [setRow]
  | cons x r ih =>
    intro i
    cases i with
    | zero => cases vs with
      | nil => simp [setRow]
      | cons v vs => simp [setRow, ih]
    | succ i => simp [setRow, ih]

theorem divmod_same {e a b : Nat} (hlo : a / e * e ≤ b) (hhi : b < a / e * e + e) : b / e = a / e ∧ b % e = b - a / e * e := by
  have h1 : b / e = a / e := by
    apply Nat.div_eq_of_lt_le
    · exact hlo
    · rw [Nat.succ_mul]; exact hhi
  refine ⟨h1, ?_⟩
  have := Nat.mod_add_div b e
  rw [h1, Nat.mul_comm] at this
  omega

/-- every row that is there is of e cells -/
def RowsOk (e : Nat) (rows : T (List V)) : Prop := ∀ k r, rows.get k = some r → r.length = e

theorem readCells_spec {e : Nat} (he : 0 < e) (f : Nat) : ∀ (rows : T (List V)) (off n : Nat) (l : List V), RowsOk e rows → n < f → readCells rows e f off n = some l →
    l.length = n ∧ ∀ j, j < n → l[j]? = cellAt e rows (off + j) := by
  induction f with
  | zero => intro rows off n l _ hn; omega
  | succ f ih =>
    intro rows off n l hr hn h
    unfold readCells at h
    by_cases h0 : n = 0
    · subst h0
      simp at h
      subst h
      exact ⟨rfl, fun j hj => by omega⟩
    · have hb : Nat.beq n 0 = false := beq_no h0
      rw [hb] at h
      simp only [cond_false] at h
      cases hg : rows.get (off / e) with
      | none => rw [hg] at h; cases h
      | some r =>
        rw [hg] at h
        simp only at h
        have hlen := hr _ _ hg
        have hm : off % e < e := Nat.mod_lt _ he
        have hdm := Nat.div_add_mod off e
        rw [Nat.mul_comm] at hdm
        have cell : ∀ j, off % e + j < e → cellAt e rows (off + j) = r[off % e + j]? := by
          intro j hj
          obtain ⟨q1, q2⟩ := divmod_same (e := e) (a := off) (b := off + j) (by omega) (by omega)
          unfold cellAt
          rw [q1, hg, q2, show off + j - off / e * e = off % e + j from by omega]
        by_cases hfit : off % e + n ≤ e
        · have hb2 : Nat.ble (off % e + n) e = true := ble_yes hfit
          rw [hb2] at h
          simp only [cond_true, Option.some.injEq] at h
          subst h
          refine ⟨by simp; omega, fun j hj => ?_⟩
          rw [cell j (by omega), List.getElem?_take, if_pos hj, List.getElem?_drop]
        · have hb2 : Nat.ble (off % e + n) e = false := ble_no hfit
          rw [hb2] at h
          simp only [cond_false] at h
          cases hrec : readCells rows e f (off + (e - off % e)) (n - (e - off % e)) with
          | none => rw [hrec] at h; cases h
          | some l' =>
            rw [hrec] at h
            simp only [Option.some.injEq] at h
            subst h
            obtain ⟨i1, i2⟩ := ih rows _ _ l' hr (by omega) hrec
            have hd : (r.drop (off % e)).length = e - off % e := by simp [hlen]
            refine ⟨by simp only [List.length_append, hd, i1]; omega, fun j hj => ?_⟩
            by_cases hj2 : j < e - off % e
            · rw [List.getElem?_append_left (by omega), List.getElem?_drop, cell j (by omega)]
            · rw [List.getElem?_append_right (by omega), hd, i2 _ (by omega)]
              congr 1; omega

theorem writeCells_spec {e : Nat} (he : 0 < e) (f : Nat) : ∀ (rows : T (List V)) (off n : Nat) (vs : List V) (rows' : T (List V)), RowsOk e rows → n < f → vs.length = n →
    writeCells e f rows off n vs = some rows' →
    RowsOk e rows' ∧ ∀ j, cellAt e rows' j = if off ≤ j ∧ j < off + n then vs[j - off]? else cellAt e rows j := by
  induction f with
  | zero => intro rows off n vs rows' _ hn; omega
  | succ f ih =>
    intro rows off n vs rows' hr hn hv h
    unfold writeCells at h
    by_cases h0 : n = 0
    · subst h0
      simp at h
      subst h
      exact ⟨hr, fun j => by rw [if_neg (by omega)]⟩
    · have hb : Nat.beq n 0 = false := beq_no h0
      rw [hb] at h
      simp only [cond_false] at h
      cases hg : rows.get (off / e) with
      | none => rw [hg] at h; cases h
      | some r =>
        rw [hg] at h
        simp only at h
        have hlen := hr _ _ hg
        have hm : off % e < e := Nat.mod_lt _ he
        have hdm := Nat.div_add_mod off e
        rw [Nat.mul_comm] at hdm
        -- one row written
        have one : ∀ ws : List V, off % e + ws.length ≤ e →
            RowsOk e (rows.set (off / e) (setRow r (off % e) ws)) ∧
            ∀ j, cellAt e (rows.set (off / e) (setRow r (off % e) ws)) j = if off ≤ j ∧ j < off + ws.length then ws[j - off]? else cellAt e rows j := by
          intro ws hws
          constructor
          · intro k q hq
            rw [T.get_set] at hq
            by_cases ek : off / e = k
            · rw [if_pos ek] at hq; cases hq; rw [setRow_length, hlen]
            · rw [if_neg ek] at hq; exact hr _ _ hq
          · intro j
            unfold cellAt
            rw [T.get_set]
            by_cases ek : off / e = j / e
            · rw [if_pos ek]
              simp only
              rw [setRow_get _ _ _ _ (by omega), ← ek, hg]
              have hdj := Nat.div_add_mod j e
              rw [Nat.mul_comm, ← ek] at hdj
              by_cases c : off % e ≤ j % e ∧ j % e < off % e + ws.length
              · rw [if_pos c, if_pos (by omega)]; congr 1; omega
              · rw [if_neg c, if_neg (by omega)]
            · rw [if_neg ek]
              rw [if_neg]
              intro hc
              apply ek
              exact (divmod_same (e := e) (a := off) (b := j) (by omega) (by omega)).1.symm
        by_cases hfit : off % e + n ≤ e
        · have hb2 : Nat.ble (off % e + n) e = true := ble_yes hfit
          rw [hb2] at h
          simp only [cond_true, Option.some.injEq] at h
          subst h
          have := one vs (by omega)
          rw [hv] at this
          exact this
        · have hb2 : Nat.ble (off % e + n) e = false := ble_no hfit
          rw [hb2] at h
          simp only [cond_false] at h
          have hk : (vs.take (e - off % e)).length = e - off % e := by rw [List.length_take]; omega
          obtain ⟨o1, o2⟩ := one (vs.take (e - off % e)) (by omega)
          obtain ⟨i1, i2⟩ := ih _ _ _ _ rows' o1 (by omega) (by rw [List.length_drop, hv]) h
          refine ⟨i1, fun j => ?_⟩
          rw [i2, o2, hk]
          by_cases c1 : off + (e - off % e) ≤ j ∧ j < off + (e - off % e) + (n - (e - off % e))
          · rw [if_pos c1, if_pos (by omega), List.getElem?_drop]; congr 1; omega
          · rw [if_neg c1]
            by_cases c2 : off ≤ j ∧ j < off + (e - off % e)
            · rw [if_pos c2, if_pos (by omega), List.getElem?_take, if_pos (by omega)]
            · rw [if_neg c2, if_neg (by omega)]

theorem rowsOf_get (e : Nat) : ∀ (n : Nat) (vs : List V) (k : Nat), (rowsOf e n vs)[k]? = if k < n then some ((vs.drop (k * e)).take e) else none := by
  intro n
  induction n with
  | zero => intro vs k; simp [rowsOf]
  | succ n ih =>
    intro vs k
    cases k with
    | zero => simp [rowsOf]
    | succ k =>
      simp only [rowsOf, List.getElem?_cons_succ, ih, List.drop_drop]
      by_cases h : k < n
      · rw [if_pos h, if_pos (by omega)]; congr 3; rw [Nat.succ_mul]; omega
      · rw [if_neg h, if_neg (by omega)]

theorem newRows_spec {e n : Nat} (he : 0 < e) (vs : List V) (hv : vs.length = n * e) :
    RowsOk e (newRows e n vs) ∧ ∀ j, j < n * e → cellAt e (newRows e n vs) j = vs[j]? := by
  have g : ∀ k, (newRows e n vs).get k = if k < n then some ((vs.drop (k * e)).take e) else none := by
    intro k
    unfold newRows
    rw [T.get_setMany, if_pos (Nat.zero_le _), Nat.sub_zero, rowsOf_get]
    by_cases h : k < n
    · simp [h]
    · simp [h]
  constructor
  · intro k r hk
    rw [g] at hk
    by_cases h : k < n
    · rw [if_pos h] at hk
      cases hk
      have : (k + 1) * e ≤ n * e := Nat.mul_le_mul_right e h
      rw [Nat.succ_mul] at this
      simp only [List.length_take, List.length_drop]; omega
    · rw [if_neg h] at hk; cases hk
  · intro j hj
    unfold cellAt
    rw [g]
    have hq : j / e < n := (Nat.div_lt_iff_lt_mul he).2 hj
    rw [if_pos hq]
    simp only
    have hm := Nat.mod_lt j he
    rw [List.getElem?_take, if_pos hm, List.getElem?_drop]
    congr 1
    have := Nat.div_add_mod j e
    rw [Nat.mul_comm] at this
    exact this

theorem setMany_rows {e : Nat} (he : 0 < e) (rows : T (List V)) (l n : Nat) (vs : List V) (hv : vs.length = n * e) (hr : RowsOk e rows) :
    RowsOk e (T.setMany rows l (rowsOf e n vs)) ∧ ∀ j, j < (l + n) * e → cellAt e (T.setMany rows l (rowsOf e n vs)) j = if l * e ≤ j then vs[j - l * e]? else cellAt e rows j := by
  have g : ∀ k, (T.setMany rows l (rowsOf e n vs)).get k = if l ≤ k ∧ k < l + n then some ((vs.drop ((k - l) * e)).take e) else rows.get k := by
    intro k
    rw [T.get_setMany]
    by_cases h : l ≤ k
    · rw [if_pos h, rowsOf_get]
      by_cases h2 : k - l < n
      · rw [if_pos h2, if_pos (by omega)]
      · rw [if_neg h2, if_neg (by omega)]
    · rw [if_neg h, if_neg (by omega)]
  constructor
  · intro k r hk
    rw [g] at hk
    by_cases h : l ≤ k ∧ k < l + n
    · rw [if_pos h] at hk
      cases hk
      have : (k - l + 1) * e ≤ n * e := Nat.mul_le_mul_right e (by omega)
      rw [Nat.succ_mul] at this
      simp only [List.length_take, List.length_drop]; omega
    · rw [if_neg h] at hk; exact hr _ _ hk
  · intro j hj
    unfold cellAt
    rw [g]
    have hm := Nat.mod_lt j he
    have hd := Nat.div_add_mod j e
    rw [Nat.mul_comm] at hd
    have hq : j / e < l + n := (Nat.div_lt_iff_lt_mul he).2 hj
    by_cases c : l * e ≤ j
    · have hl : l ≤ j / e := (Nat.le_div_iff_mul_le he).2 c
      rw [if_pos ⟨hl, hq⟩, if_pos c]
      simp only
      rw [List.getElem?_take, if_pos hm, List.getElem?_drop]
      congr 1
      have : (j / e - l) * e = j / e * e - l * e := Nat.sub_mul _ _ _
      have : l * e ≤ j / e * e := Nat.mul_le_mul_right e hl
      omega
    · have hl : ¬ l ≤ j / e := fun h => c ((Nat.le_div_iff_mul_le he).1 h)
      rw [if_neg (by omega), if_neg c]

end Go.Ev
