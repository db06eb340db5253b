/-
  Regions, whole.
-/
import Derived.Test.YteikmdigmjlmdaaGreatDoorEvAny
set_option linter.unusedVariables false
set_option linter.unusedSimpArgs false
namespace Go.Ev

def unlisted (listed : Array Bool) (n : Nat) : List Nat := (List.range n).filter fun i => !listed.getD i false

theorem filter_lt {α : Type} {p p' : α → Bool} : ∀ {l : List α} {i : α}, (∀ j, p' j = true → p j = true) → i ∈ l → p i = true → p' i = false → (l.filter p').length < (l.filter p).length
  | [], _, _, hi, _, _ => by simp at hi
  | x :: l, i, h, hi, h1, h2 => by
    have hle : (l.filter p').length ≤ (l.filter p).length := by
      clear hi h1 h2
      induction l with
      | nil => simp
      | cons y l ih =>
        simp only [List.filter_cons]
        cases hp' : p' y with
        | true => rw [h y hp']; simp; exact ih
        | false =>
          cases hp : p y with
          | true => simp; omega
          | false => simp; exact ih
    rcases List.mem_cons.1 hi with rfl | hi
    · simp only [List.filter_cons, h1, h2]
      simp; omega
    · have := filter_lt h hi h1 h2
      simp only [List.filter_cons]
      cases hp' : p' x with
      | true => rw [h x hp']; simpa using this
      | false =>
        cases hp : p x with
        | true => simp; omega
        | false => simpa using this

section
variable {P : Program} {call : Caller} {ops : Array Oper} {N : Nat} {an ord : List Nat} {es : List EOper} {tm : T V} {h0 : Hp} {TM : Nat → T V} {H : Nat → Hp} {VAL : Nat → V} {ns : List (Option Note)}
  {ι0 : Inj} {w0 : World} {a0 : Act}

theorem getD_false {listed : Array Bool} {i : Nat} (h : i < listed.size) : listed.getD i true = false ↔ ¬ listed.getD i false = true := by
  simp [Array.getD_eq_getD_getElem?, Array.getElem?_eq_getElem h]

theorem any_ok {lo : Option Nat} {Q : Exit → Act → World → Prop} (fx : Fix P call ops N an ord es tm h0 TM H VAL ns) (hcall : CallOK P call) (hg : GI P ι0)
    (hQ : ∀ ι' a' w', WR P ι' (H es.length) w' → Sim ι0 (H 0) w0 ι' (H es.length) w' → TR ι' (TM es.length) a'.tmps → a'.tmps.size = N → a'.defers = a0.defers → Q .normal a' w') :
    ∀ (fuel : Nat) (listed : Array Bool) (a : Act) (w : World) (ι : Inj) (tmS : T V) (q : Nat), listed.size = ops.size →
      Inv P N an ord es tm TM H VAL ι0 w0 a0 (fun i => listed.getD i false = true) a w ι tmS q → (unlisted listed ops.size).length ≤ fuel → wpAnyIn (Fw lo) 0 P .any ops Q fuel listed a w := by
  intro fuel
  have hlen : es.length = ops.size := by rw [fx.hes]; simp
  -- nothing is ready: all is done
  have fin : ∀ (listed : Array Bool) (a : Act) (w : World) (ι : Inj) (tmS : T V) (q : Nat), listed.size = ops.size → Inv P N an ord es tm TM H VAL ι0 w0 a0 (fun i => listed.getD i false = true) a w ι tmS q →
      Region.ready .any ops listed = [] → Q .normal a w := by
    intro listed a w ι tmS q hsz I hn
    have hall : ∀ i, i < ops.size → listed.getD i false = true := by
      intro i
      induction i using Nat.strongRecOn with
      | _ i ih =>
        intro hi
        cases e : listed.getD i false with
        | true => rfl
        | false =>
          have : i ∈ Region.ready .any ops listed := by
            rw [mem_ready]
            refine ⟨(getD_false (by omega)).2 (by simp [e]), ops[i], Array.getElem?_eq_getElem hi, fun d hd hb => ?_⟩
            have hlt := fx.ok.edges i ops[i] (Array.getElem?_eq_getElem hi) d (Array.mem_toList_iff.2 hd) hb
            exact ih d.on hlt (by omega)
          rw [hn] at this; simp at this
    have hq : q = es.length := by
      rcases Nat.lt_or_ge q es.length with hlt | hge
      · obtain ⟨⟨i, x, hx, _⟩, hnl⟩ := I.next hlt
        have := (List.getElem?_eq_some_iff.1 hx.2).1
        exact absurd (hall i (by omega)) (hnl i x hx)
      · have := I.qle; omega
    subst hq
    obtain ⟨f1, f2⟩ := fx.tmP es.length (Nat.le_refl _)
    have hget : ∀ t, tmS.get t = (TM es.length).get t := by
      intro t
      by_cases hex : ∃ p i x, At ord es p i x ∧ x.dst = some t
      · obtain ⟨p, i, x, hx, hd⟩ := hex
        have hil := (List.getElem?_eq_some_iff.1 hx.2).1
        rw [I.tms1 p i x t hx (hall i (by omega)) hd, f1 p i x t (hx.lt fx.ok) hx hd]
      · rw [I.tms2 t fun p i x hx _ hd => hex ⟨p, i, x, hx, hd⟩, f2 t fun p i x _ hx hd => hex ⟨p, i, x, hx, hd⟩]
    refine hQ ι a w I.wr I.sim (fun i => ?_) I.sz I.df
    have := I.tr i
    simp only [ev, hget] at this ⊢
    exact this
  induction fuel with
  | zero =>
    intro listed a w ι tmS q hsz I hc
    have hr : Region.ready .any ops listed = [] := by
      cases e : Region.ready .any ops listed with
      | nil => rfl
      | cons i l =>
        have hi : i ∈ Region.ready .any ops listed := by rw [e]; exact List.mem_cons_self ..
        obtain ⟨h1, o, ho, _⟩ := mem_ready.1 hi
        have hil := (Array.getElem?_eq_some_iff.1 ho).1
        have : i ∈ unlisted listed ops.size := by
          unfold unlisted
          rw [List.mem_filter]
          have := (getD_false (i := i) (listed := listed) (by omega)).1 h1
          exact ⟨List.mem_range.2 hil, by simpa using this⟩
        have := List.length_pos_of_mem this
        omega
    exact ⟨hr, fin listed a w ι tmS q hsz I hr⟩
  | succ fuel ih =>
    intro listed a w ι tmS q hsz I hc
    refine ⟨fin listed a w ι tmS q hsz I, fun i hi => ?_⟩
    obtain ⟨h1, o, ho, hall⟩ := mem_ready.1 hi
    have hil := (Array.getElem?_eq_some_iff.1 ho).1
    have hL := (getD_false (i := i) (listed := listed) (by omega)).1 h1
    refine I.step fx hcall hg ho hL ?_ (L' := fun j => (listed.setIfInBounds i true).getD j false = true) ?_ ?_
    · intro j hj
      rw [fx.han] at hj
      obtain ⟨e, he, hb, r⟩ := (ancs_spec ho).1 hj
      have hl := hall e (Array.mem_toList_iff.1 he) hb
      rcases r with rfl | ⟨_, r⟩
      · exact hl
      · exact I.closed e.on hl j (by rw [fx.han]; exact r)
    · intro j
      by_cases e : j = i
      · subst e
        simp [Array.getD_eq_getD_getElem?, Array.getElem?_setIfInBounds, hsz, hil]
      · simp [Array.getD_eq_getD_getElem?, Array.getElem?_setIfInBounds_ne (Ne.symm e), e]
    · intro a' w' ι' tmS' q' I'
      refine ih _ a' w' ι' tmS' q' (by simp [hsz]) I' ?_
      have : (unlisted (listed.setIfInBounds i true) ops.size).length < (unlisted listed ops.size).length := by
        refine filter_lt (i := i) ?_ (List.mem_range.2 hil) (by simpa using hL) ?_
        · intro j hj
          by_cases e : j = i
          · subst e; simpa using hL
          · simpa [Array.getD_eq_getD_getElem?, Array.getElem?_setIfInBounds_ne (Ne.symm e)] using hj
        · simp [Array.getD_eq_getD_getElem?, Array.getElem?_setIfInBounds, hsz, hil]
      omega
end

theorem draw_ok {P : Program} {call : Caller} {lo : Option Nat} {N : Nat} {id : Nat} {ops : Array Oper} {es' : List EOper} {pairs : List (Nat × Nat)} {Q : Exit → Act → World → Prop} {ι : Inj} {h h' : Hp} {tm tm' : T V} {ns : List (Option Note)}
    {a : Act} {w : World} (hmix : P.follows .mixedOrders = true) (hcall : CallOK P call) (hc : comp P N (.region id ops true) = .draw es' pairs) (hr : runDraw call es' tm h = some (tm', h', ns)) (hk : checkAll ns pairs = true)
    (hw : WR P ι h w) (ht : TR ι tm a.tmps) (hg : GI P ι) (hN : a.tmps.size = N)
    (hQ : ∀ ι' a' w', WR P ι' h' w' → Sim ι h w ι' h' w' → TR ι' tm' a'.tmps → a'.tmps.size = N → a'.defers = a.defers → Q .normal a' w') :
    (Code.region id ops true).wpIn (Fw lo) 0 P Q a w := by
  simp only [comp] at hc
  cases hok : okDraw ops (ancs ops) (ordOf (ancs ops) (ops.toList.map (cOper P N ops))) (ops.toList.map (cOper P N ops)) with
  | false => rw [hok] at hc; cases hc
  | true =>
    rw [hok] at hc
    simp only [cond_true, E.draw.injEq] at hc
    obtain ⟨rfl, rfl⟩ := hc
    have ok := okDraw_spec hok
    obtain ⟨TM, H, VAL, run, e1, e2, notes⟩ := runDraw_spec hr
    have hel : ((ordOf (ancs ops) (ops.toList.map (cOper P N ops))).filterMap ((ops.toList.map (cOper P N ops))[·]?)).length = (ops.toList.map (cOper P N ops)).length := by
      have h1 := List.length_filterMap_le ((ops.toList.map (cOper P N ops))[·]?) (ordOf (ancs ops) (ops.toList.map (cOper P N ops)))
      rcases Nat.lt_or_ge ((ordOf (ancs ops) (ops.toList.map (cOper P N ops))).filterMap ((ops.toList.map (cOper P N ops))[·]?)).length (ops.toList.map (cOper P N ops)).length with hlt | hge
      · obtain ⟨i, x, hx⟩ := ok.all _ hlt
        have := (at_iff ok).2 ⟨i, hx⟩
        have := (List.getElem?_eq_some_iff.1 this).1
        omega
      · rw [ok.len] at h1; omega
    rw [hel] at e1 e2
    subst e1 e2
    refine wpIn_region_draw fun t => ?_
    simp only [Region.schedule, hmix, Bool.true_or, if_true]
    have wm := hw.more (More.drew w)
    have fx : Fix P call ops N (ancs ops) (ordOf (ancs ops) (ops.toList.map (cOper P N ops))) (ops.toList.map (cOper P N ops)) tm h TM H VAL ns :=
      ⟨rfl, rfl, ok, run, fun p i x hx => notes p x ((at_iff ok).2 ⟨i, hx⟩), hk⟩
    have dec : DecidablePred (WAct (ordOf (ancs ops) (ops.toList.map (cOper P N ops))) (ops.toList.map (cOper P N ops)) TM) := fun _ => Classical.propDecidable _
    obtain ⟨r, _, r2, r3, r4⟩ := next_q (p := WAct (ordOf (ancs ops) (ops.toList.map (cOper P N ops))) (ops.toList.map (cOper P N ops)) TM) (ops.toList.map (cOper P N ops)).length (ops.toList.map (cOper P N ops)).length 0 (by omega)
    have go : ∀ c d, c ≤ d → d ≤ r → WR P ι (H c) { w with drawn := w.drawn + 1 } → WR P ι (H d) { w with drawn := w.drawn + 1 } ∧ Sim ι (H c) { w with drawn := w.drawn + 1 } ι (H d) { w with drawn := w.drawn + 1 } := by
      intro c d c2 c3 hwc
      have := fx.ahead (d - c) c (by omega) (fun e e1 e2 => r3 e (by omega) (by omega)) hwc
      rwa [show c + (d - c) = d from by omega] at this
    have hw0 : WR P ι (H 0) { w with drawn := w.drawn + 1 } := by rw [run.h0]; exact wm.1
    have goW : ∀ c, c ≤ r → WR P ι (H c) { w with drawn := w.drawn + 1 } := fun c c2 => (go 0 c (Nat.zero_le _) c2 hw0).1
    refine wpAnyIn_sound ops.size t _ a _ (any_ok (lo := lo) (ι0 := ι) (w0 := { w with drawn := w.drawn + 1 }) (a0 := a) fx hcall hg ?_ ops.size _ a _ ι tm r (by simp) ?_ ?_)
    · intro ι' a' w' q1 q2 q3 q4 q5
      have hs0 := wm.2
      rw [run.h0] at q2
      exact hQ ι' a' w' q1 (hs0.trans q2) q3 q4 q5
    · have hno : ∀ i, ¬ (Array.replicate ops.size false).getD i false = true := by
        intro i
        by_cases hi : i < ops.size <;> simp [Array.getD_eq_getD_getElem?, Array.getElem?_replicate, hi]
      exact {
        closed := fun i hi => absurd hi (hno i)
        qle := r2
        before := fun p hlt hwa => absurd hwa (r3 p (Nat.zero_le _) hlt)
        next := fun hlt => ⟨r4 hlt, fun i x _ => hno i⟩
        wr := goW r (Nat.le_refl _)
        sim := (go 0 r (Nat.zero_le _) (Nat.le_refl _) hw0).2
        tr := ht
        sz := hN
        df := rfl
        mak := fun p i x hx hlt hm hwt _ => by
          refine ⟨(goW p (Nat.le_of_lt hlt)).free, ?_⟩
          obtain ⟨k', e'⟩ := fx.made hx hm hwt
          exact (go (p + 1) r hlt (Nat.le_refl _) (goW (p + 1) hlt)).2.keep _ (by rw [e']; simp) (goW p (Nat.le_of_lt hlt)).free
        tms1 := fun p i x t _ hl => absurd hl (hno i)
        tms2 := fun t _ => rfl
        nxm := fun c d cd dr => (go c d cd dr (goW c (by omega))).2.nx
        wf := fun c cr => (goW c cr).hnx }
    · unfold unlisted
      have := List.length_filter_le (fun i => !(Array.replicate ops.size false).getD i false) (List.range ops.size)
      simpa using this
end Go.Ev
