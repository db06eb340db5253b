/-
  Which operands an operation looks at; new blocks behind a given abstract one.
-/
import Derived.Test.YteikmdigmjlmdaaGreatDoorEvPure
set_option linter.unusedVariables false
set_option linter.unusedSimpArgs false
namespace Go.Ev

section
variable {tm tm' : T V} {h : Hp}
theorem evs_congr : ∀ {l : List S}, (∀ s ∈ l, ev tm s = ev tm' s) → evs tm l = evs tm' l
  | [], _ => rfl
  | s :: l, H => by
    simp only [evs]
    rw [H s (List.mem_cons_self ..), evs_congr fun x hx => H x (List.mem_cons_of_mem _ hx)]

theorem fill_congr : ∀ {ps : List (Nat × Nat × S)} {cs : List V}, (∀ s ∈ partS ps, ev tm s = ev tm' s) → fill tm cs ps = fill tm' cs ps
  | [], cs, _ => rfl
  | (off, size, s) :: l, cs, H => by
    simp only [fill]
    rw [H s (List.mem_cons_self ..)]
    simp only [fill_congr (ps := l) fun x hx => H x (List.mem_cons_of_mem _ hx)]

theorem bound_congr {o : Option S} {d m : Nat} (H : ∀ s ∈ optS o, ev tm s = ev tm' s) : bound tm o d m = bound tm' o d m := by
  cases o with
  | none => rfl
  | some s => simp only [bound]; rw [H s (by simp [optS])]

theorem bounds_congr {lo hi mx : Option S} {l c : Nat} (H1 : ∀ s ∈ optS lo, ev tm s = ev tm' s) (H2 : ∀ s ∈ optS hi, ev tm s = ev tm' s) (H3 : ∀ s ∈ optS mx, ev tm s = ev tm' s) :
    bounds tm l c lo hi mx = bounds tm' l c lo hi mx := by
  unfold bounds
  simp only [bound_congr H1, bound_congr H2, bound_congr H3]

theorem evOp_congr {e : EOp} (H : ∀ s ∈ e.looks, ev tm s = ev tm' s) : evOp tm h e = evOp tm' h e := by
  cases e with
  | build zero ps => simp only [evOp, fill_congr (tm := tm) (tm' := tm') H]
  | buildSlice n size zero ps => simp only [evOp, fill_congr (tm := tm) (tm' := tm') H]
  | mkFunc f a c =>
    simp only [EOp.looks, List.mem_append] at H
    simp only [evOp, evs_congr (l := a) fun s hs => H s (.inl hs), evs_congr (l := c) fun s hs => H s (.inr hs)]
  | minmax mx l => simp only [evOp, evs_congr (l := l) H]
  | sliceStr x lo hi =>
    simp only [EOp.looks, List.mem_append, List.mem_cons] at H
    simp only [evOp, H x (.inl rfl), bounds_congr (fun s hs => H s (.inr (.inl hs))) (fun s hs => H s (.inr (.inr hs))) (mx := none) (fun s hs => by simp [optS] at hs)]
  | slice size x lo hi mx =>
    simp only [EOp.looks, List.mem_append, List.mem_cons] at H
    simp only [evOp, H x (.inl rfl), bounds_congr (fun s hs => H s (.inr (.inl hs))) (fun s hs => H s (.inr (.inr (.inl hs)))) (fun s hs => H s (.inr (.inr (.inr hs))))]
  | sliceArr n size x lo hi mx =>
    simp only [EOp.looks, List.mem_append, List.mem_cons] at H
    simp only [evOp, H x (.inl rfl), bounds_congr (fun s hs => H s (.inr (.inl hs))) (fun s hs => H s (.inr (.inr (.inl hs)))) (fun s hs => H s (.inr (.inr (.inr hs))))]
  | call f args => rfl
  | _ =>
    simp only [EOp.looks, List.mem_cons, List.not_mem_nil, or_false, forall_eq_or_imp, forall_eq] at H
    simp only [evOp, H]
end

/-! ### New blocks -/
section
variable {P : Program} {ι : Inj} {h h' : Hp} {w : World} {tm : T V} {a : Act} {v : V} {o : Oper} {e : EOp}
theorem evOp_make (hm : mayMake o.op = true) (hc : cOpO P o = some e) (hcl : cls e = .make) (hev : evOp tm h e = some (v, h')) (hb : ι h.nx = none) (ht : TR ι tm a.tmps) (hg : GI P ι) :
    ∃ k, h' = h.add k ∧ Made P ι w h.nx v k ((execOp a.eval o).run P w) := by
  unfold cOpO at hc
  split at hc
  case h_4 =>
    rename_i t ho
    simp only [Option.bind_eq_bind, Option.bind_eq_some_iff, Option.some.injEq] at hc
    obtain ⟨n, hn, z, hz, rfl⟩ := hc
    simp only [evOp] at hev
    obtain ⟨rfl, rfl⟩ := pair_eq hev
    exact ⟨_, rfl, op_alloc ho hn hz hb⟩
  case h_5 =>
    rename_i t x ho
    simp only [Option.bind_eq_bind, Option.bind_eq_some_iff, Option.some.injEq] at hc
    obtain ⟨n, hn, s, hs, rfl⟩ := hc
    simp only [evOp] at hev
    obtain ⟨hb1, hev⟩ := bif_some hev
    simp only [Bool.and_eq_true] at hb1
    obtain ⟨rfl, rfl⟩ := pair_eq hev
    exact ⟨_, rfl, op_box ho hs (Nat.eq_of_beq_eq_true hb1.1) hb1.2 hb ht hg⟩
  case h_7 =>
    rename_i t len ps ho
    split at hc
    · rename_i e0 hu
      simp only [Option.bind_eq_bind, Option.bind_eq_some_iff] at hc
      obtain ⟨size, hs, hc⟩ := hc
      split at hc
      · cases hc
      · rename_i hpos
        simp only [Option.bind_eq_some_iff, Option.some.injEq] at hc
        obtain ⟨zero, hz, qs, hqs, rfl⟩ := hc
        simp only [evOp] at hev
        split at hev
        · rename_i cs hf
          obtain ⟨hfl, hev⟩ := bif_some hev
          obtain ⟨rfl, rfl⟩ := pair_eq hev
          exact ⟨_, rfl, op_buildSlice ho hu hs hpos hz hqs hf hfl hb ht hg⟩
        · cases hev
    · cases hc
  case h_13 =>
    rename_i t x ho
    simp only [Option.bind_eq_bind, Option.bind_eq_some_iff] at hc
    obtain ⟨s, hs, hc⟩ := hc
    unfold cConv at hc
    split at hc
    · cases hc; simp [cls] at hcl
    · cases hc; simp [cls] at hcl
    · rename_i e0 h1 h2
      split at hc
      · rename_i h3
        cases hc
        simp only [evOp] at hev
        split at hev
        · rename_i heq he; cases heq
        · rename_i heq he; cases heq
        · rename_i he
          obtain ⟨rfl, rfl⟩ := pair_eq hev
          exact ⟨_, rfl, op_conv_strBytes ho hs h1 h2 h3 he hb ht hg⟩
        all_goals first | (rename_i heq _; cases heq; done) | (rename_i heq _ _; cases heq; done) | cases hev
      · cases hc
    · split at hc
      · cases hc; simp [cls] at hcl
      · cases hc
    · cases hc
  case h_16 =>
    rename_i t ho
    cases hc
    simp only [evOp] at hev
    obtain ⟨rfl, rfl⟩ := pair_eq hev
    exact ⟨_, rfl, op_mkMap ho hb⟩
  case h_17 =>
    rename_i t x y ho
    split at hc
    · rename_i e0 hu
      simp only [Option.bind_eq_bind, Option.bind_eq_some_iff] at hc
      obtain ⟨size, hs, hc⟩ := hc
      split at hc
      · cases hc
      · rename_i hpos
        simp only [Option.bind_eq_some_iff, Option.some.injEq] at hc
        obtain ⟨bytes, hby, zero, hz, s, hs1, q, hq, rfl⟩ := hc
        simp only [evOp] at hev
        split at hev
        · rename_i l c hl hcc
          obtain ⟨hb1, hev⟩ := bif_some hev
          simp only [Bool.and_eq_true] at hb1
          obtain ⟨rfl, rfl⟩ := pair_eq hev
          exact ⟨_, rfl, op_mkSlice ho hu hs hpos hby hz hs1 hq hl hcc (Nat.le_of_ble_eq_true hb1.1.1) (Nat.le_of_ble_eq_true hb1.1.2) (Nat.le_of_ble_eq_true hb1.2) hb ht hg⟩
        · cases hev
    · cases hc
  case h_28 => cases hc
  all_goals (rename_i ho; rw [ho] at hm; simp [mayMake] at hm)
end
end Go.Ev
