/-
  A region that draws its order: the invariant, one step, the whole.
-/
import Derived.Test.YteikmdigmjlmdaaGreatDoorEvDraw
set_option linter.unusedVariables false
set_option linter.unusedSimpArgs false
namespace Go.Ev

section
variable {P : Program} {call : Caller} {ops : Array Oper} {N : Nat} {an ord : List Nat} {es : List EOper} {tm : T V} {h0 : Hp} {TM : Nat → T V} {H : Nat → Hp} {VAL : Nat → V} {ns : List (Option Note)}
  {ι0 : Inj} {w0 : World} {a0 : Act}

/-- what stands fixed -/
structure Fix (P : Program) (call : Caller) (ops : Array Oper) (N : Nat) (an ord : List Nat) (es : List EOper) (tm : T V) (h0 : Hp) (TM : Nat → T V) (H : Nat → Hp) (VAL : Nat → V) (ns : List (Option Note)) : Prop where
  hes : es = ops.toList.map (cOper P N ops)
  han : an = ancs ops
  ok : OrdOK ops an ord es
  run : Run call (ord.filterMap (es[·]?)) tm h0 TM H VAL
  notes : ∀ p i x, At ord es p i x → ns[p]? = some (noteOf TM H VAL p x)
  chk : checkAll ns (pairsOf an ord es) = true

/-- an act that is wanted -/
def WAct (ord : List Nat) (es : List EOper) (TM : Nat → T V) (p : Nat) : Prop := ∃ i x, At ord es p i x ∧ isAct x = true ∧ wanted (TM p) x.guard = true

structure Inv (P : Program) (N : Nat) (an ord : List Nat) (es : List EOper) (tm : T V) (TM : Nat → T V) (H : Nat → Hp) (VAL : Nat → V) (ι0 : Inj) (w0 : World) (a0 : Act)
    (L : Nat → Prop) (a : Act) (w : World) (ι : Inj) (tmS : T V) (q : Nat) : Prop where
  closed : ∀ i, L i → ∀ j, isAnc an j i = true → L j
  qle : q ≤ es.length
  before : ∀ p, p < q → WAct ord es TM p → ∀ i x, At ord es p i x → L i
  next : q < es.length → WAct ord es TM q ∧ ∀ i x, At ord es q i x → ¬ L i
  wr : WR P ι (H q) w
  sim : Sim ι0 (H 0) w0 ι (H q) w
  tr : TR ι tmS a.tmps
  sz : a.tmps.size = N
  df : a.defers = a0.defers
  mak : ∀ p i x, At ord es p i x → p < q → isMake x = true → wanted (TM p) x.guard = true → ¬ L i → ι (H p).nx = none ∧ (H q).get (H p).nx = (H (p + 1)).get (H p).nx
  tms1 : ∀ p i x t, At ord es p i x → L i → x.dst = some t → tmS.get t = some (VAL p)
  tms2 : ∀ t, (∀ p i x, At ord es p i x → L i → x.dst ≠ some t) → tmS.get t = tm.get t
  nxm : ∀ p p', p ≤ p' → p' ≤ q → (H p).nx ≤ (H p').nx
  wf : ∀ p, p ≤ q → ∀ b k, (H p).get b = some k → b < (H p).nx

variable {L : Nat → Prop} {a : Act} {w : World} {ι : Inj} {tmS : T V} {q : Nat}

theorem At.eq {p i j : Nat} {x y : EOper} (h : At ord es p i x) (k : At ord es p j y) : i = j ∧ x = y := by
  obtain ⟨h1, h2⟩ := h
  obtain ⟨k1, k2⟩ := k
  rw [h1] at k1; cases k1
  rw [h2] at k2; cases k2
  exact ⟨rfl, rfl⟩

theorem At.lt (ok : OrdOK ops an ord es) {p i : Nat} {x : EOper} (h : At ord es p i x) : p < es.length := ok.len ▸ (List.getElem?_eq_some_iff.1 h.1).1

theorem At.place (ok : OrdOK ops an ord es) {p p' i : Nat} {x y : EOper} (h : At ord es p i x) (k : At ord es p' i y) : p = p' := by
  by_cases e : p = p'
  · exact e
  · exact absurd rfl (ok.ne p p' i i x y h k e)

theorem Fix.step (fx : Fix P call ops N an ord es tm h0 TM H VAL ns) {p i : Nat} {x : EOper} (h : At ord es p i x) : TM (p + 1) = putT (TM p) x.dst (VAL p) ∧
    ((wanted (TM p) x.guard = true ∧ stepOp call x.op (TM p) (H p) = some (VAL p, H (p + 1))) ∨ (wanted (TM p) x.guard = false ∧ VAL p = undef ∧ H (p + 1) = H p)) :=
  fx.run.next p x ((at_iff fx.ok).2 ⟨i, h⟩)

/-- the temporaries of the evaluator's run -/
theorem Fix.tmP (fx : Fix P call ops N an ord es tm h0 TM H VAL ns) : ∀ (p : Nat), p ≤ es.length →
    (∀ p' i x t, p' < p → At ord es p' i x → x.dst = some t → (TM p).get t = some (VAL p')) ∧ (∀ t, (∀ p' i x, p' < p → At ord es p' i x → x.dst ≠ some t) → (TM p).get t = tm.get t)
  | 0, _ => ⟨fun p' i x t h => by omega, fun t _ => by rw [fx.run.tm0]⟩
  | p + 1, hp => by
    obtain ⟨i0, x0, hat⟩ := fx.ok.all p (by omega)
    obtain ⟨f1, f2⟩ := fx.tmP p (by omega)
    have hst := (fx.step hat).1
    refine ⟨fun p' i x t hlt h hd => ?_, fun t hno => ?_⟩
    · rw [hst]
      by_cases e : p' = p
      · subst e
        obtain ⟨rfl, rfl⟩ := hat.eq h
        rw [hd]; simp [putT]
      · have hne : x0.dst ≠ some t := fx.ok.dst p' p i i0 x x0 h hat e t hd
        have := f1 p' i x t (by omega) h hd
        cases hx : x0.dst with
        | none => exact this
        | some u => simp only [putT]; rw [T.get_set_other _ _ (fun e => hne (by rw [hx, e]))]; exact this
    · rw [hst]
      have hne := hno p i0 x0 (by omega) hat
      have := f2 t fun p' i x hlt h => hno p' i x (by omega) h
      cases hx : x0.dst with
      | none => exact this
      | some u => simp only [putT]; rw [T.get_set_other _ _ (fun e => hne (by rw [hx, e]))]; exact this

theorem Fix.sees (fx : Fix P call ops N an ord es tm h0 TM H VAL ns) (I : Inv P N an ord es tm TM H VAL ι0 w0 a0 L a w ι tmS q) {p i : Nat} {x : EOper} (h : At ord es p i x) (hL : ¬ L i) (hr : ∀ j, isAnc an j i = true → L j) :
    ∀ t ∈ x.looks, tmS.get t = (TM p).get t := by
  intro t ht
  obtain ⟨f1, f2⟩ := fx.tmP p (Nat.le_of_lt (h.lt fx.ok))
  by_cases hex : ∃ p' i' x', At ord es p' i' x' ∧ x'.dst = some t ∧ p' ≠ p
  · obtain ⟨p', i', x', h', hd, hne⟩ := hex
    rcases fx.ok.look p' p i' i x' x h' h hne t hd ht with c | c
    · have hlt : p' < p := by
        rcases Nat.lt_or_ge p' p with q | q
        · exact q
        · have := fx.ok.topo p p' i i' x x' h h' q
          rw [c] at this; cases this
      rw [I.tms1 p' i' x' t h' (hr i' c) hd, f1 p' i' x' t hlt h' hd]
    · have hgt : p < p' := by
        rcases Nat.lt_or_ge p p' with q | q
        · exact q
        · have := fx.ok.topo p' p i' i x' x h' h q
          rw [c] at this; cases this
      have hL' : ¬ L i' := fun hl => hL (I.closed i' hl i c)
      have only : ∀ p2 i2 x2, At ord es p2 i2 x2 → x2.dst = some t → p2 = p' := by
        intro p2 i2 x2 h2 hd2
        by_cases e : p2 = p'
        · exact e
        · exact absurd hd (fx.ok.dst p2 p' i2 i' x2 x' h2 h' e t hd2)
      rw [I.tms2 t, f2 t]
      · intro p2 i2 x2 hlt h2 hd2
        have := only p2 i2 x2 h2 hd2
        omega
      · intro p2 i2 x2 h2 hl2 hd2
        have := only p2 i2 x2 h2 hd2
        subst this
        exact hL' ((h'.eq h2).1 ▸ hl2)
  · have only : ∀ p2 i2 x2, At ord es p2 i2 x2 → x2.dst = some t → p2 = p := by
      intro p2 i2 x2 h2 hd2
      by_cases e : p2 = p
      · exact e
      · exact absurd ⟨p2, i2, x2, h2, hd2, e⟩ hex
    rw [I.tms2 t, f2 t]
    · intro p2 i2 x2 hlt h2 hd2
      have := only p2 i2 x2 h2 hd2
      omega
    · intro p2 i2 x2 h2 hl2 hd2
      have := only p2 i2 x2 h2 hd2
      subst this
      exact hL ((h.eq h2).1 ▸ hl2)

theorem isAct_false {x : EOper} (h : isAct x = false) : cls x.op ≠ .act := by
  unfold isAct at h; intro e; rw [e] at h; cases h
theorem isAct_true {x : EOper} (h : isAct x = true) : cls x.op = .act := by
  unfold isAct at h; split at h <;> first | assumption | cases h

/-- between acts the heap only grows -/
theorem Fix.grow (fx : Fix P call ops N an ord es tm h0 TM H VAL ns) {p : Nat} (hp : p < es.length) (hn : ¬ WAct ord es TM p) : H (p + 1) = H p ∨ ∃ k, H (p + 1) = (H p).add k := by
  obtain ⟨i, x, hat⟩ := fx.ok.all p hp
  rcases (fx.step hat).2 with ⟨hw, hs⟩ | ⟨_, _, he⟩
  · have ha : isAct x = false := by
      cases e : isAct x with
      | false => rfl
      | true => exact absurd ⟨i, x, hat, e, hw⟩ hn
    have hc := isAct_false ha
    rw [stepOp_evOp hc] at hs
    cases e : cls x.op with
    | pure => exact .inl (evOp_pure (h2 := H p) e hs).1
    | read => exact .inl (evOp_read (Old.refl _) e hs).1
    | make => exact .inr (evOp_adds e hs)
    | act => exact absurd e hc
  · exact .inl he

theorem Fix.olds (fx : Fix P call ops N an ord es tm h0 TM H VAL ns) : ∀ (m p : Nat), p + m ≤ es.length → (∀ c, p ≤ c → c < p + m → ¬ WAct ord es TM c) → (∀ c, c ≤ p + m → ∀ b k, (H c).get b = some k → b < (H c).nx) →
    Old (H p) (H (p + m))
  | 0, p, _, _, _ => Old.refl _
  | m + 1, p, hl, hn, hwf => by
    refine Old.trans ?_ (by rw [show p + (m + 1) = p + 1 + m from by omega]; exact fx.olds m (p + 1) (by omega) (fun c c1 c2 => hn c (by omega) (by omega)) (fun c hc => hwf c (by omega)))
    rcases fx.grow (p := p) (by omega) (hn p (Nat.le_refl _) (by omega)) with e | ⟨k, e⟩
    · rw [e]; exact Old.refl _
    · rw [e]
      intro b k' hk
      rw [get_add, if_neg]
      · exact hk
      · have := hwf p (by omega) b k' hk; omega

/-- a state with one operation more, which is no wanted act -/
theorem Inv.put (fx : Fix P call ops N an ord es tm h0 TM H VAL ns) (I : Inv P N an ord es tm TM H VAL ι0 w0 a0 L a w ι tmS q) {p i : Nat} {x : EOper} (h : At ord es p i x) (hL : ¬ L i) (hr : ∀ j, isAnc an j i = true → L j)
    (hna : ¬ WAct ord es TM p) {ι' : Inj} {w' : World} {y : Value} (hm : ∀ b i, ι b = some i → ι' b = some i) (hw : WR P ι' (H q) w') (hs : Sim ι0 (H 0) w0 ι' (H q) w') (hd : dstOk N x.dst = true) (hv : VR ι' (VAL p) y)
    (hmk : ∀ p' i' x', At ord es p' i' x' → p' < q → isMake x' = true → wanted (TM p') x'.guard = true → ¬ L i' → i' ≠ i → ι' (H p').nx = none) {L' : Nat → Prop} (hL' : ∀ j, L' j ↔ L j ∨ j = i) :
    Inv P N an ord es tm TM H VAL ι0 w0 a0 L' (a.put x.dst y) w' ι' (putT tmS x.dst (VAL p)) q where
  closed j hj k hk := by
    rcases (hL' j).1 hj with hj | rfl
    · exact (hL' k).2 (.inl (I.closed j hj k hk))
    · exact (hL' k).2 (.inl (hr k hk))
  qle := I.qle
  before p' hlt hwa i' x' h' := (hL' i').2 (.inl (I.before p' hlt hwa i' x' h'))
  next hlt := by
    obtain ⟨n1, n2⟩ := I.next hlt
    refine ⟨n1, fun i' x' h' hl => ?_⟩
    rcases (hL' i').1 hl with hl | rfl
    · exact n2 i' x' h' hl
    · obtain rfl := h.place fx.ok h'
      exact hna n1
  wr := hw
  sim := hs
  tr := (I.tr.mono hm).put (I.sz ▸ dst_lt hd) hv
  sz := by rw [put_size]; exact I.sz
  df := by rw [put_defers]; exact I.df
  mak p' i' x' h' hlt hmk' hwd hnl := by
    have hnl1 : ¬ L i' := fun q => hnl ((hL' i').2 (.inl q))
    have hne : i' ≠ i := fun q => hnl ((hL' i').2 (.inr q))
    exact ⟨hmk p' i' x' h' hlt hmk' hwd hnl1 hne, (I.mak p' i' x' h' hlt hmk' hwd hnl1).2⟩
  tms1 p' i' x' t h' hl hd' := by
    by_cases e : p' = p
    · subst e
      obtain ⟨rfl, rfl⟩ := h.eq h'
      rw [hd']; simp [putT]
    · have hl1 : L i' := by
        rcases (hL' i').1 hl with q | rfl
        · exact q
        · exact absurd (h'.place fx.ok h) e
      have := I.tms1 p' i' x' t h' hl1 hd'
      have hne : x.dst ≠ some t := fx.ok.dst p' p i' i x' x h' h e t hd'
      cases hx : x.dst with
      | none => exact this
      | some u => simp only [putT]; rw [T.get_set_other _ _ (fun e => hne (by rw [hx, e]))]; exact this
  tms2 t hno := by
    have hne : x.dst ≠ some t := hno p i x h ((hL' i).2 (.inr rfl))
    have := I.tms2 t fun p' i' x' h' hl => hno p' i' x' h' ((hL' i').2 (.inl hl))
    cases hx : x.dst with
    | none => exact this
    | some u => simp only [putT]; rw [T.get_set_other _ _ (fun e => hne (by rw [hx, e]))]; exact this
  nxm := I.nxm
  wf := I.wf

theorem okOp_make {op : Op} {e : EOp} (hc : cls e = .make) (h : okOp op e = true) : mayMake op = true := by
  cases e <;> simp_all [okOp, cls]

theorem isMake_cls {x : EOper} (h : isMake x = true) : cls x.op = .make := by
  unfold isMake at h; split at h <;> first | assumption | cases h
theorem isRead_of {x : EOper} (h : cls x.op = .read) : isRead x = true := by simp [isRead, h]
theorem isAct_of {x : EOper} (h : cls x.op = .act) : isAct x = true := by simp [isAct, h]

theorem Fix.made (fx : Fix P call ops N an ord es tm h0 TM H VAL ns) {p i : Nat} {x : EOper} (h : At ord es p i x) (hm : isMake x = true) (hw : wanted (TM p) x.guard = true) : ∃ k, H (p + 1) = (H p).add k := by
  have hc := isMake_cls hm
  rcases (fx.step h).2 with ⟨_, hs⟩ | ⟨hw', _⟩
  · rw [stepOp_evOp (by rw [hc]; simp)] at hs
    exact evOp_adds hc hs
  · rw [hw] at hw'; cases hw'

theorem Inv.free (fx : Fix P call ops N an ord es tm h0 TM H VAL ns) (I : Inv P N an ord es tm TM H VAL ι0 w0 a0 L a w ι tmS q) {p i : Nat} {x : EOper} (h : At ord es p i x) (hlt : p < q) (hm : isMake x = true) (hw : wanted (TM p) x.guard = true) :
    (H p).nx < (H q).nx := by
  obtain ⟨k, e⟩ := fx.made h hm hw
  have := I.nxm (p + 1) q (by omega) (Nat.le_refl _)
  rw [e] at this
  simp at this
  omega

theorem Inv.spare (fx : Fix P call ops N an ord es tm h0 TM H VAL ns) (I : Inv P N an ord es tm TM H VAL ι0 w0 a0 L a w ι tmS q) {ι' : Inj} {h' : Hp} {w' : World} (hs : Sim ι (H q) w ι' h' w') {p i : Nat} {x : EOper} (h : At ord es p i x)
    (hlt : p < q) (hm : isMake x = true) (hw : wanted (TM p) x.guard = true) (hL : ¬ L i) : ι' (H p).nx = none := by
  cases e : ι' (H p).nx with
  | none => rfl
  | some j =>
    have h1 := (I.mak p i x h hlt hm hw hL).1
    rcases hs.fresh _ _ e with q1 | q1
    · rw [h1] at q1; cases q1
    · have := I.free fx h hlt hm hw; omega

/-- no act between: the model's state stands for the later heap too -/
theorem Fix.ahead (fx : Fix P call ops N an ord es tm h0 TM H VAL ns) {ι' : Inj} {w' : World} : ∀ (m c : Nat), c + m ≤ es.length → (∀ d, c ≤ d → d < c + m → ¬ WAct ord es TM d) → WR P ι' (H c) w' →
    WR P ι' (H (c + m)) w' ∧ Sim ι' (H c) w' ι' (H (c + m)) w'
  | 0, c, _, _, hw => ⟨hw, .refl _ _ _⟩
  | m + 1, c, hl, hn, hw => by
    have hstep : WR P ι' (H (c + 1)) w' ∧ Sim ι' (H c) w' ι' (H (c + 1)) w' := by
      rcases fx.grow (p := c) (by omega) (hn c (Nat.le_refl _) (by omega)) with e | ⟨k, e⟩
      · rw [e]; exact ⟨hw, .refl _ _ _⟩
      · rw [e]; exact hw.skip k
    obtain ⟨r1, r2⟩ := fx.ahead m (c + 1) (by omega) (fun d d1 d2 => hn d (by omega) (by omega)) hstep.1
    rw [show c + (m + 1) = c + 1 + m from by omega]
    exact ⟨r1, hstep.2.trans r2⟩

theorem Fix.readAt (fx : Fix P call ops N an ord es tm h0 TM H VAL ns) (I : Inv P N an ord es tm TM H VAL ι0 w0 a0 L a w ι tmS q) {p i : Nat} {x : EOper} (h : At ord es p i x) (hL : ¬ L i) (hr : ∀ j, isAnc an j i = true → L j)
    (hc : cls x.op = .read) (hw : wanted (TM p) x.guard = true) (hs : evOp (TM p) (H p) x.op = some (VAL p, H (p + 1))) : evOp (TM p) (H q) x.op = some (VAL p, H q) := by
  have hpl := h.lt fx.ok
  have hself := (evOp_read (h2 := H p) (Old.refl _) hc hs)
  have hnote : ns[p]? = some (some ⟨x.op, TM p, VAL p, H p, H (p + 1)⟩) := by
    rw [fx.notes p i x h, noteOf, hw]; rfl
  -- what a check says
  have same : ∀ h2 : Hp, sameAt ⟨x.op, TM p, VAL p, H p, H (p + 1)⟩ h2 = true → evOp (TM p) h2 x.op = some (VAL p, h2) := by
    intro h2 hsm
    unfold sameAt at hsm
    split at hsm
    · rename_i v h3 he
      have := V.same_eq hsm
      subst this
      exact (evOp_read (Old.refl _) hc he).2
    · cases hsm
  have pair : ∀ c j y, At ord es c j y → isAct y = true → wanted (TM c) y.guard = true → isAnc an i j = false → isAnc an j i = false → evOp (TM p) (H c) x.op = some (VAL p, H c) ∧ evOp (TM p) (H (c + 1)) x.op = some (VAL p, H (c + 1)) := by
    intro c j y hy hya hyw h1 h2
    have hmem := pairsOf_mem h hy hpl (hy.lt fx.ok) (isRead_of hc) hya h1 h2
    have hck := checkAll_mem fx.chk _ hmem
    simp only [checkPair, hnote, fx.notes c j y hy, noteOf, hyw, cond_true, Bool.and_eq_true] at hck
    exact ⟨same _ hck.1, same _ hck.2⟩
  rcases Nat.lt_or_ge q p with hqp | hpq
  · -- the next act stands before
    obtain ⟨⟨j, y, hy, hya, hyw⟩, hnl⟩ := I.next (by omega)
    have h1 : isAnc an i j = false := fx.ok.topo q p j i y x hy h (Nat.le_of_lt hqp)
    have h2 : isAnc an j i = false := by
      cases e : isAnc an j i with
      | false => rfl
      | true => exact absurd (hr j e) (hnl j y hy)
    exact (pair q j y hy hya hyw h1 h2).1
  · have dec : DecidablePred (WAct ord es TM) := fun _ => Classical.propDecidable _
    rcases prev_q (p := WAct ord es TM) q p with hno | ⟨c, c1, c2, ⟨j, y, hy, hya, hyw⟩, c4⟩
    · have hnp : ¬ WAct ord es TM p := by
        rintro ⟨i', x', h', ha', _⟩
        obtain ⟨rfl, rfl⟩ := h.eq h'
        have := isAct_true ha'
        rw [hc] at this; cases this
      have ho := fx.olds (q - p) p (by have := I.qle; omega) (fun c c1 c2 => if e : c = p then e ▸ hnp else hno c (by omega) (by omega)) (fun c hc' => I.wf c (by omega))
      rw [show p + (q - p) = q from by omega] at ho
      exact (evOp_read ho hc hs).2
    · have h1 : isAnc an i j = false := by
        cases e : isAnc an i j with
        | false => rfl
        | true => exact absurd (I.closed j (I.before c c2 ⟨j, y, hy, hya, hyw⟩ j y hy) i e) hL
      have h2 : isAnc an j i = false := fx.ok.topo p c i j x y h hy (Nat.le_of_lt c1)
      have hat := (pair c j y hy hya hyw h1 h2).2
      have ho := fx.olds (q - (c + 1)) (c + 1) (by have := I.qle; omega) (fun d d1 d2 => c4 d (by omega) (by omega)) (fun d hd => I.wf d (by omega))
      rw [show c + 1 + (q - (c + 1)) = q from by omega] at ho
      exact (evOp_read ho hc hat).2

/-- one operation, whichever comes up -/
theorem Inv.step {lo : Option Nat} {K : Act → World → Prop} {Q : Exit → Act → World → Prop} (fx : Fix P call ops N an ord es tm h0 TM H VAL ns) (I : Inv P N an ord es tm TM H VAL ι0 w0 a0 L a w ι tmS q) (hcall : CallOK P call) (hg : GI P ι0)
    {i : Nat} {o : Oper} (ho : ops[i]? = some o) (hL : ¬ L i) (hr : ∀ j, isAnc an j i = true → L j) {L' : Nat → Prop} (hL' : ∀ j, L' j ↔ L j ∨ j = i)
    (hK : ∀ a' w' ι' tmS' q', Inv P N an ord es tm TM H VAL ι0 w0 a0 L' a' w' ι' tmS' q' → K a' w') : wpOpIn (Fw lo) 0 P ops Q i K a w := by
  have hil : i < es.length := by rw [fx.hes]; simpa using (Array.getElem?_eq_some_iff.1 ho).1
  obtain ⟨p, hp⟩ := List.getElem?_of_mem (fx.ok.mem i hil)
  have hx : es[i]? = some (cOper P N ops o) := by rw [fx.hes]; simp [ho]
  obtain ⟨x, hxd⟩ : ∃ x, x = cOper P N ops o := ⟨_, rfl⟩
  rw [← hxd] at hx
  have hat : At ord es p i x := ⟨hp, hx⟩
  have hsee := fx.sees I hat hL hr
  have hwd : wanted tmS x.guard = wanted (TM p) x.guard := wanted_congr fun t b hgd => hsee t (by simp [EOper.looks, hgd])
  have hlk : ∀ s ∈ x.op.looks, ev tmS s = ev (TM p) s := ev_looks fun t ht => hsee t (by simp [EOper.looks, ht])
  have hst := (fx.step hat).2
  have hbad : x.op = .bad → wanted tmS x.guard = false := by
    intro e
    rcases hst with ⟨_, hs⟩ | ⟨hw, _⟩
    · rw [e] at hs; simp [stepOp, evOp] at hs
    · rw [hwd]; exact hw
  obtain ⟨w1, w2, w3, w4⟩ := wanted_ok hxd.symm hbad I.tr
  have w4' : dstOk N x.dst = true := by rw [w2]; exact w4
  have hgi := hg.mono I.sim.mono
  unfold wpOpIn
  rw [ho]
  simp only
  rw [w1, hwd]
  rcases hst with ⟨hw, hs⟩ | ⟨hw, hv, hh⟩
  · rw [if_pos hw]
    have keeps : cls x.op ≠ .act → ¬ WAct ord es TM p := by
      rintro hna ⟨i', x', h', ha', _⟩
      obtain ⟨rfl, rfl⟩ := hat.eq h'
      exact hna (isAct_true ha')
    -- an operation that leaves the heap alone
    have plain : cls x.op ≠ .act → stepOp call x.op tmS (H q) = some (VAL p, H q) → o.wpIn (Fw lo) 0 P a w K Q := by
      intro hna hs2
      refine opStep hcall w3 hs2 I.wr I.tr hgi ?_
      intro ι' y w' q1 q2 q3
      rw [← w2]
      exact hK _ _ _ _ _ (I.put fx hat hL hr (keeps hna) q2.mono q1 (I.sim.trans q2) w4' q3 (fun p' i' x' h' hlt hm hwt hnl _ => I.spare fx q2 h' hlt hm hwt hnl) hL')
    cases hc : cls x.op with
    | pure =>
      have hna : cls x.op ≠ .act := by rw [hc]; simp
      rw [stepOp_evOp hna] at hs
      refine plain hna ?_
      rw [stepOp_evOp hna, evOp_congr hlk]
      exact (evOp_pure hc hs).2
    | read =>
      have hna : cls x.op ≠ .act := by rw [hc]; simp
      rw [stepOp_evOp hna] at hs
      refine plain hna ?_
      rw [stepOp_evOp hna, evOp_congr hlk]
      exact fx.readAt I hat hL hr hc hw hs
    | make =>
      have hna : cls x.op ≠ .act := by rw [hc]; simp
      rw [stepOp_evOp hna] at hs
      have hmk : isMake x = true := by simp [isMake, hc]
      have hpq : p < q := by
        rcases Nat.lt_or_ge p q with e | e
        · exact e
        · exfalso
          obtain ⟨⟨j, y, hy, hya, hyw⟩, hnl⟩ := I.next (Nat.lt_of_le_of_lt e (hat.lt fx.ok))
          have hne : q ≠ p := by
            intro e2
            subst e2
            obtain ⟨rfl, rfl⟩ := hat.eq hy
            exact hna (isAct_true hya)
          exact hnl j y hy (hr j (fx.ok.acts q p j i y x hy hat (by omega) hya (.inr hmk)))
      obtain ⟨m1, m2⟩ := I.mak p i x hat hpq hmk hw hL
      have hb : x.op ≠ .bad := by rintro e; rw [e] at hc; cases hc
      obtain ⟨hc1, hk⟩ := cOp_spec w3 hb
      rw [← evOp_congr hlk] at hs
      obtain ⟨k, he, ⟨ib, y, w', hrun, ⟨g1, g2, g3, g4⟩, g5⟩⟩ := evOp_make (a := a) (w := w) (okOp_make hc hk) hc1 hc hs m1 I.tr hgi
      have hget : (H q).get (H p).nx = some k := by rw [m2, he, get_add, if_pos rfl]
      have h0b : (H 0).nx ≤ (H p).nx := I.nxm 0 p (Nat.zero_le _) (Nat.le_of_lt hpq)
      obtain ⟨f1, f2⟩ := I.wr.fill I.sim m1 hget h0b g1 g2 g3 g4
      refine ⟨fun f _ => Fw_fn lo f, ?_⟩
      rw [Oper.semAt_eq _ _ _ (not_defer hc1), hrun]
      simp only [Oper.uponIn_value]
      rw [← w2]
      refine hK _ _ _ _ _ (I.put fx hat hL hr (keeps hna) (ext_mono' m1 _) f1 f2 w4' g5 ?_ hL')
      intro p' i' x' h' hlt hm hwt hnl hne
      have h1 := (I.mak p' i' x' h' hlt hm hwt hnl).1
      unfold ext
      rw [if_neg]
      · exact h1
      · intro e
        have hpp : p' ≠ p := by
          intro e2; subst e2
          exact hne (hat.eq h').1.symm
        rcases Nat.lt_or_gt_of_ne hpp with c | c
        · obtain ⟨k', e'⟩ := fx.made h' hm hwt
          have := I.nxm (p' + 1) p (by omega) (by omega)
          rw [e'] at this; simp at this; omega
        · have := I.nxm (p + 1) p' (by omega) (by omega)
          rw [he] at this; simp at this; omega
    | act =>
      have hxa := isAct_of hc
      have hwa : WAct ord es TM p := ⟨i, x, hat, hxa, hw⟩
      have hpq : p = q := by
        rcases Nat.lt_trichotomy p q with e | e | e
        · exact absurd (I.before p e hwa i x hat) hL
        · exact e
        · obtain ⟨⟨j, y, hy, hya, _⟩, hnl⟩ := I.next (Nat.lt_trans e (hat.lt fx.ok))
          exact absurd (hr j (fx.ok.acts q p j i y x hy hat e hya (.inl hxa))) (hnl j y hy)
      subst hpq
      rw [← stepOp_congr hlk] at hs
      refine opStep hcall w3 hs I.wr I.tr hgi ?_
      intro ι' y w' q1 q2 q3
      rw [← w2]
      have hpl := hat.lt fx.ok
      have dec : DecidablePred (WAct ord es TM) := fun _ => Classical.propDecidable _
      obtain ⟨r, r1, r2, r3, r4⟩ := next_q (p := WAct ord es TM) es.length (es.length - (p + 1)) (p + 1) (by omega)
      have go : ∀ c d, p + 1 ≤ c → c ≤ d → d ≤ r → WR P ι' (H c) w' → WR P ι' (H d) w' ∧ Sim ι' (H c) w' ι' (H d) w' := by
        intro c d c1 c2 c3 hwc
        have := fx.ahead (d - c) c (by omega) (fun e e1 e2 => r3 e (by omega) (by omega)) hwc
        rwa [show c + (d - c) = d from by omega] at this
      have goW : ∀ c, p + 1 ≤ c → c ≤ r → WR P ι' (H c) w' := fun c c1 c2 => (go (p + 1) c (Nat.le_refl _) c1 c2 q1).1
      have sr := (go (p + 1) r (Nat.le_refl _) r1 (Nat.le_refl _) q1).2
      refine hK (a.put x.dst y) w' ι' (putT tmS x.dst (VAL p)) r ?_
      have base : ∀ t, (∀ p' i' x', At ord es p' i' x' → L' i' → x'.dst = some t → (putT tmS x.dst (VAL p)).get t = some (VAL p')) ∧ ((∀ p' i' x', At ord es p' i' x' → L' i' → x'.dst ≠ some t) → (putT tmS x.dst (VAL p)).get t = tm.get t) := by
        intro t
        refine ⟨fun p' i' x' h' hl hd' => ?_, fun hno => ?_⟩
        · by_cases e : p' = p
          · subst e
            obtain ⟨rfl, rfl⟩ := hat.eq h'
            rw [hd']; simp [putT]
          · have hl1 : L i' := by
              rcases (hL' i').1 hl with q | rfl
              · exact q
              · exact absurd (h'.place fx.ok hat) e
            have := I.tms1 p' i' x' t h' hl1 hd'
            have hne : x.dst ≠ some t := fx.ok.dst p' p i' i x' x h' hat e t hd'
            cases hx : x.dst with
            | none => exact this
            | some u => simp only [putT]; rw [T.get_set_other _ _ (fun e => hne (by rw [hx, e]))]; exact this
        · have hne : x.dst ≠ some t := hno p i x hat ((hL' i).2 (.inr rfl))
          have := I.tms2 t fun p' i' x' h' hl => hno p' i' x' h' ((hL' i').2 (.inl hl))
          cases hx : x.dst with
          | none => exact this
          | some u => simp only [putT]; rw [T.get_set_other _ _ (fun e => hne (by rw [hx, e]))]; exact this
      exact {
        closed := fun j hj k hk => by
          rcases (hL' j).1 hj with hj | rfl
          · exact (hL' k).2 (.inl (I.closed j hj k hk))
          · exact (hL' k).2 (.inl (hr k hk))
        qle := r2
        before := fun p' hlt hwa' i' x' h' => by
          rcases Nat.lt_trichotomy p' p with e | e | e
          · exact (hL' i').2 (.inl (I.before p' e hwa' i' x' h'))
          · subst e
            exact (hL' i').2 (.inr (hat.eq h').1.symm)
          · exact absurd hwa' (r3 p' (by omega) hlt)
        next := fun hlt => by
          have hwr := r4 hlt
          refine ⟨hwr, fun i' x' h' hl => ?_⟩
          obtain ⟨i2, x2, h2, ha2, _⟩ := hwr
          obtain ⟨rfl, rfl⟩ := h'.eq h2
          rcases (hL' i').1 hl with hl | rfl
          · exact hL (I.closed i' hl i (fx.ok.acts p r i i' x x' hat h' (by omega) hxa (.inl ha2)))
          · have := h'.place fx.ok hat
            omega
        wr := goW r r1 (Nat.le_refl _)
        sim := (I.sim.trans q2).trans sr
        tr := (I.tr.mono q2.mono).put (I.sz ▸ dst_lt w4') q3
        sz := by rw [put_size]; exact I.sz
        df := by rw [put_defers]; exact I.df
        mak := fun p' i' x' h' hlt hm hwt hnl => by
          have hnl1 : ¬ L i' := fun q => hnl ((hL' i').2 (.inl q))
          rcases Nat.lt_trichotomy p' p with e | e | e
          · have h1 := I.mak p' i' x' h' e hm hwt hnl1
            refine ⟨I.spare fx q2 h' e hm hwt hnl1, ?_⟩
            rw [(q2.trans sr).keep _ (I.free fx h' e hm hwt) h1.1]
            exact h1.2
          · subst e
            obtain ⟨rfl, rfl⟩ := hat.eq h'
            have := isMake_cls hm
            rw [hc] at this; cases this
          · have hwp := goW p' (by omega) (by omega)
            refine ⟨hwp.free, ?_⟩
            obtain ⟨k', e'⟩ := fx.made h' hm hwt
            have hs2 := (go (p' + 1) r (by omega) (by omega) (Nat.le_refl _) (goW (p' + 1) (by omega) (by omega))).2
            exact hs2.keep _ (by rw [e']; simp) hwp.free
        tms1 := fun p' i' x' t h' hl hd' => (base t).1 p' i' x' h' hl hd'
        tms2 := fun t hno => (base t).2 hno
        nxm := fun c d cd dr => by
          rcases Nat.lt_or_ge p d with e | e
          · rcases Nat.lt_or_ge p c with e' | e'
            · exact (go c d (by omega) cd dr (goW c (by omega) (by omega))).2.nx
            · exact Nat.le_trans (I.nxm c p e' (Nat.le_refl _)) (Nat.le_trans q2.nx (go (p + 1) d (Nat.le_refl _) (by omega) dr q1).2.nx)
          · exact I.nxm c d cd e
        wf := fun c cr => by
          rcases Nat.lt_or_ge p c with e | e
          · exact (goW c (by omega) cr).hnx
          · exact I.wf c e }
  · rw [if_neg (by rw [hw]; simp)]
    refine ⟨fun f _ => Fw_fn lo f, ?_⟩
    rw [← w2]
    have hna : ¬ WAct ord es TM p := by
      rintro ⟨i', x', h', _, hw'⟩
      obtain ⟨rfl, rfl⟩ := hat.eq h'
      rw [hw] at hw'; cases hw'
    exact hK _ _ _ _ _ (I.put fx hat hL hr hna (fun _ _ q => q) I.wr I.sim w4' (by rw [hv]; exact VR_undef) (fun p' i' x' h' hlt hm hwt hnl _ => (I.mak p' i' x' h' hlt hm hwt hnl).1) hL')
end
end Go.Ev
