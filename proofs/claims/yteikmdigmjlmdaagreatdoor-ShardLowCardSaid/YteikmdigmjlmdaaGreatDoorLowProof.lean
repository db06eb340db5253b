/-
  ShardLow: for every input the call returns true. No conditions.
-/
import Derived.Test.YteikmdigmjlmdaaGreatDoorLowRun0
import Derived.Test.YteikmdigmjlmdaaGreatDoorLowRun1
import Derived.Test.YteikmdigmjlmdaaGreatDoorLowRun2
import Derived.Test.YteikmdigmjlmdaaGreatDoorLowRun3
import Derived.Test.YteikmdigmjlmdaaGreatDoorLowAwake
import Derived.Test.YteikmdigmjlmdaaGreatDoorTie
import Derived.Test.YteikmdigmjlmdaaGreatDoorCards
import Derived.ProofKit
import Derived.Lay
import Derived.LaidOnce
import Derived.SevenTiedAt
import Derived.Handed
namespace Go.Proofs.YteikmdigmjlmdaaGreatDoor
open Go.ChangeShapes Go.WideShapes Go.ChangeAt Go.RowKit Go.Ev
set_option maxRecDepth 100000
theorem low_ext : ExtOK Tryz.prog lowT lowY := by
  intro f args h v h' ι w ys hn q hy hw hg
  unfold lowY at q
  cases h12 : Nat.beq f 12 with
  | true =>
    rw [h12] at q
    obtain rfl : f = 12 := Nat.eq_of_beq_eq_true h12
    simp only [cond_true] at q
    split at q
    · obtain ⟨rfl, rfl⟩ := pair_eq q
      obtain ⟨h1, hr⟩ := isT_ok awake_run
      exact closed_ok mix awkT_ok (cnt_ok awkT) (n := 100) (h1 := h1) (by rw [gsize]; exact hr) (by rfl) (by rfl) hy hw hg
    · cases q
  | false =>
    rw [h12] at q
    simp only [cond_false] at q
    cases h25 : Nat.beq f 25 with
    | true =>
      rw [h25] at q
      obtain rfl : f = 25 := Nat.eq_of_beq_eq_true h25
      simp only [cond_true] at q
      split at q
      · rename_i a b
        obtain ⟨hc, q⟩ := bif_some q
        obtain ⟨rfl, rfl⟩ := pair_eq q
        have hb : 0 < b ∧ b ≤ 1000 := by
          simp only [Bool.or_eq_true, decide_eq_true_eq] at hc
          omega
        obtain ⟨h1, hr⟩ := bring_run a b hb.1 hb.2
        exact closed_ok mix briT_ok (noX_ok briT) (n := 3) (h1 := h1) (by rw [gsize]; exact hr) (by rfl) (by rfl) hy hw hg
      · cases q
    | false =>
      rw [h25] at q
      simp only [cond_false] at q
      exact cnt_ok lowT f args h v h' ι w ys hn q hy hw hg

theorem low_of {R : Reg} {a b c : Int} (ok : RegOK R (rho a b c))
    (hr : isT (sN R lowT lowX 100 false (.func 6 [] []) [.int .i64 (syI 6 symH), .int .i64 (syI 7 symH), .int .i64 (syI 8 symH)] ⟨3, .nil⟩) = true) :
    ∃ h1, callN lowT lowY 100 false (.func 6 [] []) [.int .i64 a, .int .i64 b, .int .i64 c] ⟨3, .nil⟩ = some (.bool true, h1) := by
  obtain ⟨h1, q⟩ := isT_ok hr
  have := sN_ok ok (low_sim a b c) (lowT_fix (rho a b c)) 100 _ _ _ _ _ _ q
  simp only [fv, fvs, fi_syI s6, fi_syI s7, fi_syI s8, hh0, rho, Int.add_zero] at this
  exact ⟨_, this⟩

theorem low_run (a b c : Int) : ∃ h1, callN lowT lowY 100 false (.func 6 [] []) [.int .i64 a, .int .i64 b, .int .i64 c] ⟨3, .nil⟩ = some (.bool true, h1) := by
  obtain ⟨l, hl⟩ : ∃ l, l = a % 40 + 1 := ⟨_, rfl⟩
  obtain ⟨m, hm⟩ : ∃ m, m = b % 40 + 1 := ⟨_, rfl⟩
  obtain ⟨w, hw⟩ : ∃ w, w = c % 50 := ⟨_, rfl⟩
  have b1 : 1 ≤ l := by omega
  have b2 : 1 ≤ m := by omega
  rcases Int.lt_trichotomy l m with c1 | c1 | c1
  · rcases Int.lt_trichotomy w m with c2 | c2 | c2
    · rcases Int.lt_trichotomy w l with c3 | c3 | c3
      · rcases Decidable.em (w = 0) with c4 | c4
        · exact low_of (R0_ok hl hm hw c1 c2 c3 c4) run0
        · exact low_of (R1_ok hl hm hw c1 c2 c3 c4) run1
      · rcases Decidable.em (w = 0) with c4 | c4
        · exfalso; omega
        · exact low_of (R2_ok hl hm hw c1 c2 c3 c4) run2
      · rcases Decidable.em (w = 0) with c4 | c4
        · exfalso; omega
        · exact low_of (R3_ok hl hm hw c1 c2 c3 c4) run3
    · rcases Int.lt_trichotomy w l with c3 | c3 | c3
      · rcases Decidable.em (w = 0) with c4 | c4
        · exfalso; omega
        · exfalso; omega
      · rcases Decidable.em (w = 0) with c4 | c4
        · exfalso; omega
        · exfalso; omega
      · rcases Decidable.em (w = 0) with c4 | c4
        · exfalso; omega
        · exact low_of (R4_ok hl hm hw c1 c2 c3 c4) run4
    · rcases Int.lt_trichotomy w l with c3 | c3 | c3
      · rcases Decidable.em (w = 0) with c4 | c4
        · exfalso; omega
        · exfalso; omega
      · rcases Decidable.em (w = 0) with c4 | c4
        · exfalso; omega
        · exfalso; omega
      · rcases Decidable.em (w = 0) with c4 | c4
        · exfalso; omega
        · exact low_of (R5_ok hl hm hw c1 c2 c3 c4) run5
  · rcases Int.lt_trichotomy w m with c2 | c2 | c2
    · rcases Int.lt_trichotomy w l with c3 | c3 | c3
      · rcases Decidable.em (w = 0) with c4 | c4
        · exact low_of (R6_ok hl hm hw c1 c2 c3 c4) run6
        · exact low_of (R7_ok hl hm hw c1 c2 c3 c4) run7
      · rcases Decidable.em (w = 0) with c4 | c4
        · exfalso; omega
        · exfalso; omega
      · rcases Decidable.em (w = 0) with c4 | c4
        · exfalso; omega
        · exfalso; omega
    · rcases Int.lt_trichotomy w l with c3 | c3 | c3
      · rcases Decidable.em (w = 0) with c4 | c4
        · exfalso; omega
        · exfalso; omega
      · rcases Decidable.em (w = 0) with c4 | c4
        · exfalso; omega
        · exact low_of (R8_ok hl hm hw c1 c2 c3 c4) run8
      · rcases Decidable.em (w = 0) with c4 | c4
        · exfalso; omega
        · exfalso; omega
    · rcases Int.lt_trichotomy w l with c3 | c3 | c3
      · rcases Decidable.em (w = 0) with c4 | c4
        · exfalso; omega
        · exfalso; omega
      · rcases Decidable.em (w = 0) with c4 | c4
        · exfalso; omega
        · exfalso; omega
      · rcases Decidable.em (w = 0) with c4 | c4
        · exfalso; omega
        · exact low_of (R9_ok hl hm hw c1 c2 c3 c4) run9
  · rcases Int.lt_trichotomy w m with c2 | c2 | c2
    · rcases Int.lt_trichotomy w l with c3 | c3 | c3
      · rcases Decidable.em (w = 0) with c4 | c4
        · exact low_of (R10_ok hl hm hw c1 c2 c3 c4) run10
        · exact low_of (R11_ok hl hm hw c1 c2 c3 c4) run11
      · rcases Decidable.em (w = 0) with c4 | c4
        · exfalso; omega
        · exfalso; omega
      · rcases Decidable.em (w = 0) with c4 | c4
        · exfalso; omega
        · exfalso; omega
    · rcases Int.lt_trichotomy w l with c3 | c3 | c3
      · rcases Decidable.em (w = 0) with c4 | c4
        · exfalso; omega
        · exact low_of (R12_ok hl hm hw c1 c2 c3 c4) run12
      · rcases Decidable.em (w = 0) with c4 | c4
        · exfalso; omega
        · exfalso; omega
      · rcases Decidable.em (w = 0) with c4 | c4
        · exfalso; omega
        · exfalso; omega
    · rcases Int.lt_trichotomy w l with c3 | c3 | c3
      · rcases Decidable.em (w = 0) with c4 | c4
        · exfalso; omega
        · exact low_of (R13_ok hl hm hw c1 c2 c3 c4) run13
      · rcases Decidable.em (w = 0) with c4 | c4
        · exfalso; omega
        · exact low_of (R14_ok hl hm hw c1 c2 c3 c4) run14
      · rcases Decidable.em (w = 0) with c4 | c4
        · exfalso; omega
        · exact low_of (R15_ok hl hm hw c1 c2 c3 c4) run15

theorem low_calls (a b c : Int) (w : World) (hsz : 3 ≤ w.heap.size) : Calls Tryz.prog 6 #[.int .i64 a, .int .i64 b, .int .i64 c] w fun e w' => e = .returned (.bool true) ∧ Below w.heap.size w w' := by
  obtain ⟨h1, hr⟩ := low_run a b c
  have hne : lowT.get 6 ≠ none := fun e => by
    have q : (lowT.get 6).isSome = true := by rfl
    rw [e] at q
    cases q
  have h := calls_plain (fn := Tryz.f6) mix lowT_ok low_ext (n := 100) (h1 := h1) (by rw [gsize]; exact hr) hne (by rw [gsize]; exact hsz) (ys := [.int .i64 a, .int .i64 b, .int .i64 c])
    (fun ι => VRs.cons (by simp [VR]) (VRs.cons (by simp [VR]) (VRs.cons (by simp [VR]) VRs.nil)))
  refine callsIn_wide.1 (CallsIn.mono h fun e w' hx => ?_)
  obtain ⟨x, ι', rfl, hv, hm⟩ := hx
  simp only [VR] at hv
  exact ⟨by rw [hv], hm.os, hm.tape, hm.output, hm.size, hm.old⟩

theorem own : ownKnob Tryz.prog.godebug = none := by kernel_rfl
theorem low_lifted (os : Os) (started : os.Started) (H : Type) (enc : TypeId × Value → H) :
    ReturnsInHanded {} Tryz.checked os 6 .any (fun w args => (Rows.shardLowSpec.pre enc Tryz.prog Tryz.f6 [] false w args ∧ laidMetH Tryz.prog Rows.shardLowRow.laid w) ∧ sizedMet enc Tryz.prog Tryz.f6 (OpenSpec.ofChange Rows.shardLowSpec) false w args)
      (Rows.shardLowSpec.post enc Tryz.prog Tryz.f6 false true false false) := by
  refine returnsInHanded_of_calls own started (by kernel_rfl)
    (ChangeSpec.witness_shaped (enc := enc) (C := Tryz.checked) (os := os) (X := fun w _ => laidMetH Tryz.prog Rows.shardLowRow.laid w) false (World.laidAll Tryz.prog os Rows.shardLowRow.laid) #[.int .i64 0, .int .i64 0, .int .i64 0] 8 (World.laidAll_os _ _ _)
      (World.shaped_of_ZipB (by kernel_rfl) (by kernel_rfl)) (by kernel_rfl) (by kernel_rfl) (by kernel_rfl)
      (by rw [MakeChecks.laidMetH_plain _ _ _ (by kernel_rfl)]; exact laidMet_laidAll _ (by kernel_rfl) (by kernel_rfl))) ?_
  intro w tape i _ hshape _ hok hpre _
  obtain ⟨_, _, _, fn', hfn', _, _, _, _, hval⟩ := hok
  obtain rfl : fn' = Tryz.f6 := Option.some.inj (hfn'.symm.trans Tryz.func6)
  obtain ⟨⟨⟨ds, gs, before, hW0, hc⟩, hx⟩, hz⟩ := hpre
  have hW := DataW.Whole.of_heap (w' := w.forCall tape i) (by rfl) hW0
  have hW' := hW
  have hval' : ∀ (j : Nat) t v, Tryz.f6.params[j]? = some t → i.args[j]? = some v → Value.okWide Tryz.prog (w.forCall tape i) .any w.heap.size t v := hval
  obtain ⟨p, q, hA0, hV, rfl, _, _⟩ := hW
  have hA : DataW.TrodAll enc Tryz.prog (w.forCall tape i) 0 (fun _ => true) true Tryz.f6.params.toList i.args.toList ds p := hA0
  have hsz : 3 ≤ (w.forCall tape i).heap.size := by
    have h0 : 3 < (begin Tryz.prog (fun _ _ => 0) default).world.heap.size := of_decide_eq_true (by kernel_rfl)
    obtain ⟨o, o0, ho, _⟩ := hshape.2 3 (by rw [show Tryz.checked.prog.globals.size = 3 from gsize]; exact Nat.le_refl _) h0
    exact Nat.le_of_lt (Array.getElem?_eq_some_iff.1 ho).1
  obtain ⟨args, hargs⟩ : ∃ args, i.args = args := ⟨_, rfl⟩
  rw [hargs] at hA hval' hW' ⊢
  generalize w.forCall tape i = W at *
  rw [Tryz.params6] at hA hval'
  obtain ⟨v0, v1, v2, d0, d1, d2, p0, p1, p2, rfl, rfl, rfl, h0, h1, h2⟩ := trodAll_three hA
  obtain ⟨rfl, rfl⟩ := trodVars_none hV
  obtain ⟨a, rfl, rfl, rfl, wa⟩ := open_int Tryz.underlying3 (hval' 0 3 v0 rfl rfl) h0
  obtain ⟨b, rfl, rfl, rfl, wb⟩ := open_int Tryz.underlying3 (hval' 1 3 v1 rfl rfl) h1
  obtain ⟨c, rfl, rfl, rfl, wc⟩ := open_int Tryz.underlying3 (hval' 2 3 v2 rfl rfl) h2
  simp only [List.append_nil] at hW'
  refine (low_calls a b c W hsz).mono fun e W' ⟨he, hb⟩ => ?_
  subst he
  exact ChangeSpec.post_blind ⟨_, _, _, [], [], [], hW', trodAll_mk1 (shut_bool Tryz.underlying4 _), trodAll_mk3 (shut_int Tryz.underlying3 wa) (shut_int Tryz.underlying3 wb) (shut_int Tryz.underlying3 wc), rfl, hb.frame _, fun h => by cases h⟩

theorem low_holds : Rows.ShardLowSaid :=
  OpenClaim.holds_of_wide 6 Tryz.f6 rfl rfl rfl rfl rfl rfl rfl ⟨rfl, rfl, rfl, rfl, rfl⟩ rfl rfl rfl rfl rfl (by kernel_rfl) Tryz.func6 (by kernel_rfl)
    (of_decide_eq_true (by kernel_rfl)) (by unfold Func.isWrapper; first | (rw [if_pos (by decide +kernel)]; kernel_rfl) | (rw [if_neg (by decide +kernel)]; exact ⟨rfl, rfl⟩))
    (fun os started H enc _ => low_lifted os started H enc)

theorem low_card : Rows.ShardLowCardSaid :=
  Claim7.holds_tied_plain_at .later [] [.data, .pinned] true (true, "b36610e9399662b0587cf970b90625215523252da02069401766833ef54977e7") false low_holds (fun _ h => by cases h) (by kernel_rfl) (fun _ h => by cases h) shardLow_row_tie rfl ⟨rfl, rfl⟩ (by kernel_rfl) rfl
    (fun f fn hf hfn => by
      obtain rfl : f = 6 := Option.some.inj ((show Tryz.prog.funcNamed "scriptorium/scriptoriumlaw23.ShardLow" = some 6 by kernel_rfl).symm.trans hf) |>.symm
      obtain rfl : fn = Tryz.f6 := (Option.some.inj (Tryz.func6.symm.trans hfn)).symm
      exact ⟨by kernel_rfl, fun j t ht => by
        rw [Tryz.params6] at ht
        have hm : t ∈ [3, 3, 3] := by simpa using Array.mem_of_getElem? ht
        have hall : ([3, 3, 3].all fun u => !Tryz.prog.wantsStandIn u) = true := by kernel_rfl
        exact (show Tryz.prog.wantsStandIn t = false by simpa using List.all_eq_true.1 hall t hm)⟩)
    (by kernel_rfl)
#print axioms low_card
end Go.Proofs.YteikmdigmjlmdaaGreatDoor
