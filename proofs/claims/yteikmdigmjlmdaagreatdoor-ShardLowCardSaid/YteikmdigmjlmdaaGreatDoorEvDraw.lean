/-
  A region that draws its order of evaluation: whatever the order, the model comes to what the evaluator came to.
-/
import Derived.Test.YteikmdigmjlmdaaGreatDoorEvOrd
set_option linter.unusedVariables false
set_option linter.unusedSimpArgs false
namespace Go.Ev

theorem WR.skip {P : Program} {ι : Inj} {h : Hp} {w : World} (hw : WR P ι h w) (k : Blk) : WR P ι (h.add k) w ∧ Sim ι h w ι (h.add k) w := by
  have hne : ∀ b i, ι b = some i → h.nx ≠ b := fun b i hb e => by have := hw.nx b i hb; omega
  refine ⟨⟨?_, ?_, hw.lt, ?_, ?_⟩, ⟨fun _ _ q => q, fun _ _ q => .inl q, by simp, Nat.le_refl _, ?_, fun _ _ _ => rfl, fun c hc _ => by rw [get_add, if_neg (by omega)], rfl, rfl, rfl⟩⟩
  · intro b i q hb hq
    rw [get_add, if_neg (hne b i hb)] at hq
    exact hw.rel b i q hb hq
  · intro b b' i i' q q' hn hb hb' hq hq'
    rw [get_add, if_neg (hne b i hb)] at hq
    rw [get_add, if_neg (hne b' i' hb')] at hq'
    exact hw.inj b b' i i' q q' hn hb hb' hq hq'
  · intro b i hb; have := hw.nx b i hb; simp; omega
  · intro b q hq
    rw [get_add] at hq
    by_cases e : h.nx = b
    · subst e; simp
    · rw [if_neg e] at hq; have := hw.hnx b q hq; simp; omega
  · intro cb _ ⟨b, i, q, hb, e, hq, hr⟩
    rw [get_add, if_neg (hne b i hb)] at hq
    exact ⟨b, i, q, hb, e, hq, hr⟩

/-- a block that the evaluator has made before, made in the model now -/
theorem WR.fill {P : Program} {ι ι0 : Inj} {h h0 : Hp} {w w' w0 : World} {b : Nat} {i : BI} {k : Blk} (hw : WR P ι h w) (hs : Sim ι0 h0 w0 ι h w) (hb : ι b = none) (hk : h.get b = some k) (h0b : h0.nx ≤ b)
    (m : More w w') (hi1 : w.heap.size ≤ i.cb) (hi2 : i.cb < w'.heap.size) (hbr : BR P (ext ι b i) i w' k) :
    WR P (ext ι b i) h w' ∧ Sim ι0 h0 w0 (ext ι b i) h w' := by
  have hm := ext_mono' hb i
  have hold : ∀ c j, ext ι b i c = some j → c ≠ b → ι c = some j := by
    intro c j hc hne
    unfold ext at hc
    rwa [if_neg hne] at hc
  refine ⟨⟨?_, ?_, ?_, ?_, hw.hnx⟩, ⟨fun c j q => hm _ _ (hs.mono c j q), ?_, hs.nx, Nat.le_trans hs.size m.size, ?_, ?_, hs.keep, m.os.trans hs.os, m.tape.trans hs.tape, m.output.trans hs.output⟩⟩
  · intro c j q hc hq
    by_cases e : c = b
    · subst e
      rw [hk] at hq; cases hq
      rw [ext_same] at hc; cases hc
      exact hbr
    · have hc' := hold c j hc e
      exact (hw.rel c j q hc' hq).mono hm (m.old _ (hw.lt _ _ hc'))
  · intro c c' j j' q q' hne hc hc' hq hq' hqd hqd' hr
    by_cases e : c = b
    · subst e
      rw [ext_same] at hc; cases hc
      have := hw.lt _ _ (hold c' j' hc' (Ne.symm hne))
      omega
    · have hc1 := hold c j hc e
      by_cases e' : c' = b
      · subst e'
        rw [ext_same] at hc'; cases hc'
        have := hw.lt _ _ hc1
        omega
      · exact hw.inj c c' j j' q q' hne hc1 (hold c' j' hc' e') hq hq' hqd hqd' hr
  · intro c j hc
    by_cases e : c = b
    · subst e; rw [ext_same] at hc; cases hc; exact hi2
    · exact Nat.lt_of_lt_of_le (hw.lt _ _ (hold c j hc e)) m.size
  · intro c j hc
    by_cases e : c = b
    · subst e; exact hw.hnx _ _ hk
    · exact hw.nx _ _ (hold c j hc e)
  · intro c j hc
    by_cases e : c = b
    · exact .inr (by omega)
    · exact hs.fresh c j (hold c j hc e)
  · intro cb hcb ⟨c, j, q, hc, e, hq, hr⟩
    by_cases e' : c = b
    · subst e'
      rw [ext_same] at hc; cases hc
      have := hs.size
      omega
    · exact hs.wr cb hcb ⟨c, j, q, hold c j hc e', e, hq, hr⟩
  · intro cb hcb hn
    exact (m.old cb (Nat.lt_of_lt_of_le hcb hs.size)).trans (hs.frame cb hcb hn)

theorem evOp_adds {tm : T V} {h h' : Hp} {e : EOp} {v : V} (hc : cls e = .make) (q : evOp tm h e = some (v, h')) : ∃ k, h' = h.add k := by
  cases e with
  | conv c x =>
    cases c <;> simp only [cls, reduceCtorEq] at hc
    simp only [evOp] at q
    split at q <;> first | (cases q; done) | skip
    all_goals first
      | (rename_i hq _; cases hq; done)
      | (simp only [Option.some.injEq, Prod.mk.injEq] at q; exact ⟨_, q.2.symm⟩)
      | simp_all
  | alloc size zero => simp only [evOp, Option.some.injEq, Prod.mk.injEq] at q; exact ⟨_, q.2.symm⟩
  | box size x =>
    simp only [evOp] at q
    obtain ⟨_, q⟩ := bif_some q
    simp only [Option.some.injEq, Prod.mk.injEq] at q; exact ⟨_, q.2.symm⟩
  | buildSlice len size zero ps =>
    simp only [evOp] at q
    split at q
    · obtain ⟨_, q⟩ := bif_some q
      simp only [Option.some.injEq, Prod.mk.injEq] at q; exact ⟨_, q.2.symm⟩
    · cases q
  | mkMap => simp only [evOp, Option.some.injEq, Prod.mk.injEq] at q; exact ⟨_, q.2.symm⟩
  | mkSlice size bytes zero l c =>
    simp only [evOp] at q
    split at q
    · obtain ⟨_, q⟩ := bif_some q
      simp only [Option.some.injEq, Prod.mk.injEq] at q; exact ⟨_, q.2.symm⟩
    · cases q
  | _ => simp only [cls, reduceCtorEq] at hc

theorem stepOp_evOp {call : Caller} {tm : T V} {h : Hp} {e : EOp} (hc : cls e ≠ .act) : stepOp call e tm h = evOp tm h e := by
  cases e <;> first | rfl | simp [cls] at hc

theorem ev_looks {tm tm' : T V} : ∀ {l : List S}, (∀ t ∈ tmpsOf l, tm.get t = tm'.get t) → ∀ s ∈ l, ev tm s = ev tm' s
  | [], _, s, hs => by simp at hs
  | x :: l, H, s, hs => by
    rcases List.mem_cons.1 hs with rfl | hs
    · cases s with
      | t i => simp only [ev]; rw [H i (by simp [tmpsOf])]
      | c v => rfl
    · refine ev_looks (fun t ht => H t ?_) s hs
      cases x <;> simp [tmpsOf, ht]

theorem wanted_congr {tm tm' : T V} {g : Option (Nat × Bool)} (H : ∀ t b, g = some (t, b) → tm.get t = tm'.get t) : wanted tm g = wanted tm' g := by
  cases g with
  | none => rfl
  | some p => obtain ⟨t, b⟩ := p; simp only [wanted, H t b rfl]

theorem stepOp_congr {call : Caller} {tm tm' : T V} {h : Hp} {e : EOp} (H : ∀ s ∈ e.looks, ev tm s = ev tm' s) : stepOp call e tm h = stepOp call e tm' h := by
  by_cases hc : ∃ f args, e = .call f args
  · obtain ⟨f, args, rfl⟩ := hc
    simp only [EOp.looks, List.mem_cons] at H
    simp only [stepOp]
    rw [H f (.inl rfl), evs_congr fun s hs => H s (.inr hs)]
  · have : ∀ tm h, stepOp call e tm h = evOp tm h e := by
      intro tm h
      cases e <;> first | rfl | exact absurd ⟨_, _, rfl⟩ hc
    rw [this, this, evOp_congr H]

theorem next_q {p : Nat → Prop} [DecidablePred p] (n : Nat) : ∀ (m q : Nat), q + m = n → ∃ r, q ≤ r ∧ r ≤ n ∧ (∀ c, q ≤ c → c < r → ¬ p c) ∧ (r < n → p r)
  | 0, q, h => ⟨q, Nat.le_refl _, by omega, fun c h1 h2 => by omega, fun h => by omega⟩
  | m + 1, q, h => by
    by_cases hp : p q
    · exact ⟨q, Nat.le_refl _, by omega, fun c h1 h2 => by omega, fun _ => hp⟩
    · obtain ⟨r, h1, h2, h3, h4⟩ := next_q (p := p) n m (q + 1) (by omega)
      refine ⟨r, by omega, h2, fun c c1 c2 => ?_, h4⟩
      by_cases e : c = q
      · subst e; exact hp
      · exact h3 c (by omega) c2

theorem prev_q {p : Nat → Prop} [DecidablePred p] : ∀ (q lo : Nat), (∀ c, lo < c → c < q → ¬ p c) ∨ ∃ c, lo < c ∧ c < q ∧ p c ∧ ∀ d, c < d → d < q → ¬ p d
  | 0, lo => .inl fun c _ h => by omega
  | q + 1, lo => by
    by_cases hp : lo < q ∧ p q
    · exact .inr ⟨q, hp.1, by omega, hp.2, fun d h1 h2 => by omega⟩
    · rcases prev_q (p := p) q lo with h | ⟨c, h1, h2, h3, h4⟩
      · refine .inl fun c c1 c2 => ?_
        by_cases e : c = q
        · subst e; exact fun hc => hp ⟨c1, hc⟩
        · exact h c c1 (by omega)
      · refine .inr ⟨c, h1, by omega, h3, fun d d1 d2 => ?_⟩
        by_cases e : d = q
        · subst e; exact fun hd => hp ⟨by omega, hd⟩
        · exact h4 d d1 (by omega)
end Go.Ev
