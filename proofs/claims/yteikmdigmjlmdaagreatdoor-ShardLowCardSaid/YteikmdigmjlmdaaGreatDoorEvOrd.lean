/-
  Regions that draw their order, without the model: ancestors, the checked order, the evaluator's run of them.
-/
import Derived.Test.YteikmdigmjlmdaaGreatDoorEvCall
set_option linter.unusedVariables false
set_option linter.unusedSimpArgs false
namespace Go.Ev
noncomputable section

mutual
theorem V.same_eq : ∀ {a b : V}, V.same a b = true → a = b
  | .bool a, b, h => by cases b <;> simp [V.same] at h ⊢; exact h
  | .int k a, b, h => by cases b <;> simp [V.same, kindEq_iff] at h ⊢; exact h
  | .str a, b, h => by cases b <;> simp [V.same, eqNats_iff] at h ⊢; exact h
  | .ptr a i, b, h => by cases b <;> simp [V.same] at h ⊢; exact h
  | .nilPtr, b, h => by cases b <;> simp [V.same] at h ⊢
  | .slice a i l c e, b, h => by
    cases b <;> simp [V.same] at h ⊢
    obtain ⟨⟨⟨⟨h1, h2⟩, h3⟩, h4⟩, h5⟩ := h
    exact ⟨h1, h2, h3, h4, h5⟩
  | .nilSlice, b, h => by cases b <;> simp [V.same] at h ⊢
  | .map a, b, h => by cases b <;> simp [V.same] at h ⊢; exact h
  | .nilMap, b, h => by cases b <;> simp [V.same] at h ⊢
  | .func f x y, b, h => by
    cases b <;> simp [V.same] at h ⊢
    exact ⟨h.1.1, V.sames_eq h.1.2, V.sames_eq h.2⟩
  | .yield a, b, h => by cases b <;> simp [V.same] at h ⊢; exact h
  | .nilFunc, b, h => by cases b <;> simp [V.same] at h ⊢
  | .iface t x, b, h => by
    cases b <;> simp [V.same] at h ⊢
    exact ⟨h.1, V.same_eq h.2⟩
  | .nilIface, b, h => by cases b <;> simp [V.same] at h ⊢
  | .agg x, b, h => by
    cases b <;> simp [V.same] at h ⊢
    exact V.sames_eq h
  | .tuple x, b, h => by
    cases b <;> simp [V.same] at h ⊢
    exact V.sames_eq h
theorem V.sames_eq : ∀ {a b : List V}, V.sames a b = true → a = b
  | [], b, h => by cases b <;> simp [V.sames] at h ⊢
  | x :: a, b, h => by
    cases b <;> simp [V.sames] at h ⊢
    exact ⟨V.same_eq h.1, V.sames_eq h.2⟩
end

/-! ### Ancestors -/
theorem mask_spec (g : Nat → Nat) (j : Nat) : ∀ (l : List Edge) (s : Nat),
    (l.foldl (fun s e => bif Region.binds .any e then s ||| 2 ^ e.on ||| g e.on else s) s).testBit j = true ↔
      s.testBit j = true ∨ ∃ e ∈ l, Region.binds .any e = true ∧ (e.on = j ∨ (g e.on).testBit j = true)
  | [], s => by simp
  | e :: l, s => by
    rw [List.foldl_cons, mask_spec g j l]
    cases hb : Region.binds .any e with
    | false => simp [hb]
    | true =>
      simp only [cond_true, Nat.testBit_or, Bool.or_eq_true, List.mem_cons, Nat.testBit_two_pow, decide_eq_true_eq]
      constructor
      · rintro (((h | h) | h) | ⟨d, hd, r⟩)
        · exact .inl h
        · exact .inr ⟨e, .inl rfl, hb, .inl h⟩
        · exact .inr ⟨e, .inl rfl, hb, .inr h⟩
        · exact .inr ⟨d, .inr hd, r⟩
      · rintro (h | ⟨d, (rfl | hd), r1, r2⟩)
        · exact .inl (.inl (.inl h))
        · rcases r2 with h | h
          · exact .inl (.inl (.inr h))
          · exact .inl (.inr h)
        · exact .inr ⟨d, hd, r1, r2⟩

theorem ancGo_old : ∀ (l : List Oper) (acc : List Nat) (i : Nat), i < acc.length → (ancGo acc l).getD i 0 = acc.getD i 0
  | [], _, _, _ => rfl
  | o :: l, acc, i, hi => by
    rw [ancGo, ancGo_old l _ i (by simp; omega)]
    simp only [List.getD_eq_getElem?_getD]
    rw [List.getElem?_append_left hi]

theorem ancGo_spec : ∀ (l : List Oper) (acc : List Nat) (k : Nat) (o : Oper) (j : Nat), l[k]? = some o →
    (((ancGo acc l).getD (acc.length + k) 0).testBit j = true ↔
      ∃ e ∈ o.after.toList, Region.binds .any e = true ∧ (e.on = j ∨ (e.on < acc.length + k ∧ ((ancGo acc l).getD e.on 0).testBit j = true)))
  | [], _, k, o, j, h => by simp at h
  | o' :: l, acc, 0, o, j, h => by
    simp only [List.getElem?_cons_zero, Option.some.injEq] at h
    subst h
    rw [ancGo, ancGo_old l _ _ (by simp)]
    simp only [Nat.add_zero, List.getD_eq_getElem?_getD]
    rw [List.getElem?_append_right (Nat.le_refl _)]
    simp only [Nat.sub_self, List.getElem?_cons_zero, Option.getD_some]
    have hm := mask_spec (fun i => (acc[i]?).getD 0) j o'.after.toList 0
    simp only [Nat.zero_testBit, Bool.false_eq_true, false_or] at hm
    rw [hm]
    have hg : ∀ i, ((acc[i]?).getD 0).testBit j = true ↔ (i < acc.length ∧ ((ancGo (acc ++ [o'.after.toList.foldl (fun s e => bif Region.binds .any e then s ||| 2 ^ e.on ||| (acc[e.on]?).getD 0 else s) 0]) l)[i]?.getD 0).testBit j = true) := by
      intro i
      by_cases hi : i < acc.length
      · have := ancGo_old l (acc ++ [o'.after.toList.foldl (fun s e => bif Region.binds .any e then s ||| 2 ^ e.on ||| (acc[e.on]?).getD 0 else s) 0]) i (by simp; omega)
        simp only [List.getD_eq_getElem?_getD] at this
        rw [this, List.getElem?_append_left hi]
        simp [hi]
      · rw [List.getElem?_eq_none (by omega)]
        simp [hi]
    constructor
    · rintro ⟨e, he, hb, h | h⟩
      · exact ⟨e, he, hb, .inl h⟩
      · exact ⟨e, he, hb, .inr ((hg _).1 h)⟩
    · rintro ⟨e, he, hb, h | h⟩
      · exact ⟨e, he, hb, .inl h⟩
      · exact ⟨e, he, hb, .inr ((hg _).2 h)⟩
  | o' :: l, acc, k + 1, o, j, h => by
    have := ancGo_spec l (acc ++ [o'.after.toList.foldl (fun s e => bif Region.binds .any e then s ||| 2 ^ e.on ||| acc.getD e.on 0 else s) 0]) k o j (by simpa using h)
    rw [ancGo]
    simpa [Nat.add_assoc, Nat.add_comm 1 k] using this

theorem ancs_spec {ops : Array Oper} {i j : Nat} {o : Oper} (h : ops[i]? = some o) :
    isAnc (ancs ops) j i = true ↔ ∃ e ∈ o.after.toList, Region.binds .any e = true ∧ (e.on = j ∨ (e.on < i ∧ isAnc (ancs ops) j e.on = true)) := by
  have := ancGo_spec ops.toList [] i o j (by simpa using h)
  simpa [isAnc, ancs] using this

theorem okEdges_spec : ∀ (l : List Oper) (k i : Nat) (o : Oper), okEdges k l = true → l[i]? = some o → ∀ e ∈ o.after.toList, Region.binds .any e = true → e.on < k + i
  | [], _, _, _, _, h => by simp at h
  | o' :: l, k, 0, o, hk, h => by
    simp only [List.getElem?_cons_zero, Option.some.injEq] at h
    subst h
    simp only [okEdges, Bool.and_eq_true, List.all_eq_true, Bool.or_eq_true, Bool.not_eq_true'] at hk
    intro e he hb
    rcases hk.1 e he with q | q
    · rw [hb] at q; cases q
    · simpa using q
  | o' :: l, k, i + 1, o, hk, h => by
    simp only [okEdges, Bool.and_eq_true] at hk
    intro e he hb
    have := okEdges_spec l (k + 1) i o hk.2 (by simpa using h) e he hb
    omega

/-! ### The order -/
/-- at place p stands the operation i, which is x -/
def At (ord : List Nat) (es : List EOper) (p i : Nat) (x : EOper) : Prop := ord[p]? = some i ∧ es[i]? = some x

structure OrdOK (ops : Array Oper) (an ord : List Nat) (es : List EOper) : Prop where
  edges : ∀ i o, ops[i]? = some o → ∀ e ∈ o.after.toList, Region.binds .any e = true → e.on < i
  len : ord.length = es.length
  mem : ∀ i, i < es.length → i ∈ ord
  all : ∀ p, p < es.length → ∃ i x, At ord es p i x
  topo : ∀ p q i j x y, At ord es p i x → At ord es q j y → p ≤ q → isAnc an j i = false
  acts : ∀ p q i j x y, At ord es p i x → At ord es q j y → p < q → isAct x = true → (isAct y = true ∨ isMake y = true) → isAnc an i j = true
  ne : ∀ p q i j x y, At ord es p i x → At ord es q j y → p ≠ q → i ≠ j
  dst : ∀ p q i j x y, At ord es p i x → At ord es q j y → p ≠ q → ∀ t, x.dst = some t → y.dst ≠ some t
  look : ∀ p q i j x y, At ord es p i x → At ord es q j y → p ≠ q → ∀ t, x.dst = some t → t ∈ y.looks → isAnc an i j = true ∨ isAnc an j i = true

theorem okDraw_spec {ops : Array Oper} {an ord : List Nat} {es : List EOper} (h : okDraw ops an ord es = true) : OrdOK ops an ord es := by
  simp only [okDraw, Bool.and_eq_true, List.all_eq_true, List.mem_range] at h
  obtain ⟨⟨h1, h2⟩, h3⟩ := h
  have hlen : ord.length = es.length := Nat.eq_of_beq_eq_true h2
  have hp : ∀ p q i j x y, At ord es p i x → At ord es q j y →
      ((p ≤ q → isAnc an j i = false) ∧ (p < q → isAct x = true → (isAct y = true ∨ isMake y = true) → isAnc an i j = true)) ∧
      (p ≠ q → i ≠ j ∧ ∀ t, x.dst = some t → y.dst ≠ some t ∧ (t ∈ y.looks → isAnc an i j = true ∨ isAnc an j i = true)) := by
    intro p q i j x y ⟨hi, hx⟩ ⟨hj, hy⟩
    have hpl : p < es.length := hlen ▸ (List.getElem?_eq_some_iff.1 hi).1
    have hql : q < es.length := hlen ▸ (List.getElem?_eq_some_iff.1 hj).1
    have := (h3 p hpl).2 q hql
    simp only [okPair, List.getD_eq_getElem?_getD, hi, hj, Option.getD_some, hx, hy, Bool.and_eq_true, Bool.or_eq_true, Bool.not_eq_true'] at this
    obtain ⟨⟨c1, c2⟩, c3⟩ := this
    refine ⟨⟨fun hle => ?_, fun hlt hxa hy => ?_⟩, fun hne => ?_⟩
    · rcases c1 with c | c
      · rw [Nat.ble_eq_true_of_le hle] at c; cases c
      · exact c
    · rcases c2 with c | c
      · have : Nat.blt p q = true := by simp [hlt]
        rw [this] at c; cases c
      · rcases c with c | c
        · rcases c with c | c
          · rw [hxa] at c; cases c
          · simp only [Bool.or_eq_false_iff] at c
            rcases hy with q | q
            · rw [c.1] at q; cases q
            · rw [c.2] at q; cases q
        · exact c
    · rcases c3 with c | c
      · exact absurd (Nat.eq_of_beq_eq_true c) hne
      · refine ⟨fun e => ?_, fun t ht => ?_⟩
        · subst e; have := c.1; rw [Nat.beq_refl] at this; cases this
        · have c := c.2
          rw [ht] at c
          simp only [Bool.and_eq_true, Bool.or_eq_true, Bool.not_eq_true'] at c
          refine ⟨fun e => ?_, fun hm => ?_⟩
          · have c := c.1; rw [e] at c; simp at c
          · rcases c.2 with (q | q) | q
            · simp [hm] at q
            · exact .inl q
            · exact .inr q
  have hall : ∀ p, p < es.length → ∃ i x, At ord es p i x := by
    intro p hpl
    have := (h3 p hpl).2 p hpl
    have hi : ord[p]? = some ord[p] := List.getElem?_eq_getElem (by omega)
    simp only [okPair, List.getD_eq_getElem?_getD, hi, Option.getD_some] at this
    cases hx : es[ord[p]]? with
    | none => rw [hx] at this; cases this
    | some x => exact ⟨_, x, hi, hx⟩
  refine ⟨fun i o ho e he hb => ?_, hlen, fun i hi => by simpa using (h3 i hi).1, hall, fun p q i j x y a b => (hp p q i j x y a b).1.1, fun p q i j x y a b => (hp p q i j x y a b).1.2, fun p q i j x y a b hn => ((hp p q i j x y a b).2 hn).1,
    fun p q i j x y a b hn t ht => (((hp p q i j x y a b).2 hn).2 t ht).1, fun p q i j x y a b hn t ht => (((hp p q i j x y a b).2 hn).2 t ht).2⟩
  have := okEdges_spec ops.toList 0 i o h1 (by simpa using ho) e he hb
  omega

theorem filterMap_get {α β : Type} {f : α → Option β} : ∀ {l : List α} (_ : ∀ a ∈ l, (f a).isSome = true) (p : Nat), (l.filterMap f)[p]? = (l[p]?).bind f
  | [], _, p => by simp
  | a :: l, h, p => by
    obtain ⟨b, hb⟩ := Option.isSome_iff_exists.1 (h a (List.mem_cons_self ..))
    rw [List.filterMap_cons, hb]
    cases p with
    | zero => simp [hb]
    | succ p => simpa using filterMap_get (fun x hx => h x (List.mem_cons_of_mem _ hx)) p

theorem at_iff {ops : Array Oper} {an ord : List Nat} {es : List EOper} (ok : OrdOK ops an ord es) {p : Nat} {x : EOper} :
    (ord.filterMap (es[·]?))[p]? = some x ↔ ∃ i, At ord es p i x := by
  rw [filterMap_get]
  · constructor
    · intro h
      obtain ⟨i, hi, hx⟩ := Option.bind_eq_some_iff.1 h
      exact ⟨i, hi, hx⟩
    · rintro ⟨i, hi, hx⟩
      exact Option.bind_eq_some_iff.2 ⟨i, hi, hx⟩
  · intro i hi
    obtain ⟨p, hp⟩ := List.getElem?_of_mem hi
    have hpl : p < es.length := ok.len ▸ (List.getElem?_eq_some_iff.1 hp).1
    obtain ⟨j, y, hj, hy⟩ := ok.all p hpl
    rw [hp] at hj; cases hj
    simp [hy]

/-! ### The evaluator's run -/
structure Run (call : Caller) (es : List EOper) (tm : T V) (h : Hp) (TM : Nat → T V) (H : Nat → Hp) (VAL : Nat → V) : Prop where
  tm0 : TM 0 = tm
  h0 : H 0 = h
  next : ∀ p o, es[p]? = some o → TM (p + 1) = putT (TM p) o.dst (VAL p) ∧
    ((wanted (TM p) o.guard = true ∧ stepOp call o.op (TM p) (H p) = some (VAL p, H (p + 1))) ∨ (wanted (TM p) o.guard = false ∧ VAL p = undef ∧ H (p + 1) = H p))

def noteOf (TM : Nat → T V) (H : Nat → Hp) (VAL : Nat → V) (p : Nat) (o : EOper) : Option Note :=
  bif wanted (TM p) o.guard then some ⟨o.op, TM p, VAL p, H p, H (p + 1)⟩ else none

def shift {α : Type} (x : α) (f : Nat → α) : Nat → α
  | 0 => x
  | p + 1 => f p

theorem runDraw_spec {call : Caller} : ∀ {es : List EOper} {tm tm' : T V} {h h' : Hp} {ns : List (Option Note)}, runDraw call es tm h = some (tm', h', ns) →
    ∃ TM H VAL, Run call es tm h TM H VAL ∧ tm' = TM es.length ∧ h' = H es.length ∧ ∀ p o, es[p]? = some o → ns[p]? = some (noteOf TM H VAL p o)
  | [], tm, tm', h, h', ns, hr => by
    simp only [runDraw, Option.some.injEq, Prod.mk.injEq] at hr
    obtain ⟨rfl, rfl, rfl⟩ := hr
    exact ⟨fun _ => tm, fun _ => h, fun _ => undef, ⟨rfl, rfl, fun p o ho => by simp at ho⟩, rfl, rfl, fun p o ho => by simp at ho⟩
  | o :: l, tm, tm', h, h', ns, hr => by
    simp only [runDraw] at hr
    cases hw : wanted tm o.guard with
    | true =>
      rw [hw] at hr
      simp only [cond_true] at hr
      split at hr
      · rename_i v h1 hs
        split at hr
        · rename_i tm2 h2 ns2 hr2
          simp only [Option.some.injEq, Prod.mk.injEq] at hr
          obtain ⟨rfl, rfl, rfl⟩ := hr
          obtain ⟨TM, H, VAL, ⟨r0, r1, r2⟩, e1, e2, e3⟩ := runDraw_spec hr2
          refine ⟨shift tm TM, shift h H, shift v VAL, ⟨rfl, rfl, ?_⟩, e1, e2, ?_⟩
          · intro p q hq
            cases p with
            | zero =>
              simp only [List.getElem?_cons_zero, Option.some.injEq] at hq
              subst hq
              simp only [shift]
              rw [r0, r1]
              exact ⟨rfl, .inl ⟨hw, hs⟩⟩
            | succ p => exact r2 p q (by simpa using hq)
          · intro p q hq
            cases p with
            | zero =>
              simp only [List.getElem?_cons_zero, Option.some.injEq] at hq
              subst hq
              simp only [List.getElem?_cons_zero, noteOf, shift, hw, cond_true, r1]
            | succ p => simpa [noteOf, shift] using e3 p q (by simpa using hq)
        · cases hr
      · cases hr
    | false =>
      rw [hw] at hr
      simp only [cond_false] at hr
      split at hr
      · rename_i tm2 h2 ns2 hr2
        simp only [Option.some.injEq, Prod.mk.injEq] at hr
        obtain ⟨rfl, rfl, rfl⟩ := hr
        obtain ⟨TM, H, VAL, ⟨r0, r1, r2⟩, e1, e2, e3⟩ := runDraw_spec hr2
        refine ⟨shift tm TM, shift h H, shift undef VAL, ⟨rfl, rfl, ?_⟩, e1, e2, ?_⟩
        · intro p q hq
          cases p with
          | zero =>
            simp only [List.getElem?_cons_zero, Option.some.injEq] at hq
            subst hq
            simp only [shift]
            rw [r0, r1]
            exact ⟨rfl, .inr ⟨hw, by first | exact ⟨rfl, rfl⟩ | simp⟩⟩
          | succ p => exact r2 p q (by simpa using hq)
        · intro p q hq
          cases p with
          | zero =>
            simp only [List.getElem?_cons_zero, Option.some.injEq] at hq
            subst hq
            simp only [List.getElem?_cons_zero, noteOf, shift, hw, cond_false]
          | succ p => simpa [noteOf, shift] using e3 p q (by simpa using hq)
      · cases hr

theorem checkAll_mem {ns : List (Option Note)} : ∀ {l : List (Nat × Nat)}, checkAll ns l = true → ∀ p ∈ l, checkPair ns p = true
  | [], _, p, hp => by simp at hp
  | q :: l, h, p, hp => by
    simp only [checkAll, Bool.and_eq_true] at h
    rcases List.mem_cons.1 hp with rfl | hp
    · exact h.1
    · exact checkAll_mem h.2 p hp

/-- the pairs of reads and acts that are free of one another are all noted -/
theorem pairsOf_mem {an ord : List Nat} {es : List EOper} {p q i j : Nat} {x y : EOper} (hp : At ord es p i x) (hq : At ord es q j y) (hpl : p < es.length) (hql : q < es.length)
    (hx : isRead x = true) (hy : isAct y = true) (h1 : isAnc an i j = false) (h2 : isAnc an j i = false) : (p, q) ∈ pairsOf an ord es := by
  unfold pairsOf
  rw [List.mem_flatMap]
  refine ⟨q, List.mem_range.2 hql, ?_⟩
  simp only [List.getD_eq_getElem?_getD, hq.1, Option.getD_some, hq.2, hy, cond_true, List.mem_map, List.mem_filter, List.mem_range]
  refine ⟨p, ⟨hpl, ?_⟩, rfl⟩
  simp [hp.1, hp.2, hx, h1, h2]
end
end Go.Ev
