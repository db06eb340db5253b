/-
  The symbolic evaluator's operations, joined.
-/
import Derived.Test.YteikmdigmjlmdaaGreatDoorSySim
set_option linter.unusedVariables false
set_option linter.unusedSimpArgs false
namespace Go.Ev

section
variable {R : Reg} {ρ : Nat → Int} {tm : T V} {h h' : Hp} {v : V}

theorem plainR_ok {r : Option (V × Hp)} (q : plainR r = some (v, h')) : ∃ k n, v = .int k n ∧ r = some (.int k n, h') ∧ fv ρ v = v := by
  unfold plainR at q
  split at q
  · rename_i k n h2
    cases hs : isSym n with
    | true => rw [hs] at q; cases q
    | false =>
      rw [hs] at q
      simp only [cond_false] at q
      obtain ⟨rfl, rfl⟩ := pair_eq q
      exact ⟨k, n, rfl, rfl, by simp only [fv, fi_none (split_of_plain hs)]⟩
  · cases q

theorem f_len {e : EOp} (hs : match e with | .lenStr _ | .lenSl _ | .lenMap _ | .lenConst _ | .cap _ => True | _ => False) (q : evOp tm h e = some (v, h')) : evOp (ft ρ tm) (fh ρ h) (fOp ρ e) = some (v, fh ρ h') := by
  cases e <;> simp only at hs
  case lenStr x =>
    simp only [evOp, fOp, f_ev] at q ⊢
    split at q
    · rename_i s he; obtain ⟨rfl, rfl⟩ := pair_eq q; rw [he]; simp only [fv, List.length_map]
    · cases q
  case lenSl x =>
    simp only [evOp, fOp, f_ev] at q ⊢
    split at q
    · rename_i he; obtain ⟨rfl, rfl⟩ := pair_eq q; rw [he]; rfl
    · rename_i he; obtain ⟨rfl, rfl⟩ := pair_eq q; rw [he]; rfl
    · cases q
  case lenMap x =>
    simp only [evOp, fOp, f_ev] at q ⊢
    split at q
    · rename_i he; obtain ⟨rfl, rfl⟩ := pair_eq q; rw [he]; rfl
    · rename_i b he
      rw [he]
      simp only [fv, fh_get]
      split at q
      · rename_i es hk
        obtain ⟨rfl, rfl⟩ := pair_eq q
        rw [hk]
        simp only [Option.map_some, fBlk, List.length_map]
      · cases q
    · cases q
  case lenConst n =>
    simp only [evOp, fOp] at q ⊢
    obtain ⟨rfl, rfl⟩ := pair_eq q
    rfl
  case cap x =>
    simp only [evOp, fOp, f_ev] at q ⊢
    split at q
    · rename_i he; obtain ⟨rfl, rfl⟩ := pair_eq q; rw [he]; rfl
    · rename_i b off l c e he
      rw [he]
      simp only [fv, fh_get]
      split at q
      · rename_i e' m kd rows hk
        rw [hk]
        simp only [Option.map_some, fBlk]
        obtain ⟨hb, q⟩ := bif_some q
        obtain ⟨rfl, rfl⟩ := pair_eq q
        rw [hb]
        rfl
      · cases q
    · cases q

theorem f_copy (ok : RegOK R ρ) {n : Nat} {d s : S} (hs : strOk R (ev tm s) = true) (q : evOp tm h (.copy n d s) = some (v, h')) : evOp (ft ρ tm) (fh ρ h) (fOp ρ (.copy n d s)) = some (v, fh ρ h') := by
  simp only [evOp, fOp, f_ev, f_lenOf] at q ⊢
  split at q
  · rename_i m hl hd
    rw [hd]
    obtain ⟨rfl, rfl⟩ := pair_eq q
    simp only [fv, hl]
  · rename_i m b off l c e hl hd
    rw [hd]
    simp only [fv, hl]
    obtain ⟨hb, q⟩ := bif_some q
    rw [hb]
    simp only [cond_true]
    split at q
    · rename_i new hn
      rw [f_source ok hs hn]
      simp only
      split at q
      · rename_i h2 hst
        obtain ⟨rfl, rfl⟩ := pair_eq q
        rw [f_store hst]
      · cases q
    · cases q
  · cases q

theorem sOp_ok (ok : RegOK R ρ) {e : EOp} (q : sOp R tm h e = some (v, h')) : evOp (ft ρ tm) (fh ρ h) (fOp ρ e) = some (fv ρ v, fh ρ h') := by
  have lens : ∀ e : EOp, (match e with | .lenStr _ | .lenSl _ | .lenMap _ | .lenConst _ | .cap _ => True | _ => False) → plainR (evOp tm h e) = some (v, h') → evOp (ft ρ tm) (fh ρ h) (fOp ρ e) = some (fv ρ v, fh ρ h') := by
    intro e he q
    obtain ⟨k, n, rfl, e1, e2⟩ := plainR_ok (ρ := ρ) q
    rw [e2]
    exact f_len he e1
  cases e with
  | arith op x y =>
    simp only [sOp] at q
    simp only [evOp, fOp, f_ev]
    exact f_ret1 q fun u hu => sArith_ok ok hu
  | eqv neg d x y =>
    simp only [sOp] at q
    simp only [evOp, fOp, f_ev]
    split at q
    · rename_i b hb
      obtain ⟨rfl, rfl⟩ := pair_eq q
      rw [sEqV_ok ok hb]
      rfl
    · cases q
  | unop op x =>
    simp only [sOp] at q
    simp only [evOp, fOp, f_ev]
    exact f_ret1 q fun u hu => sUnop_ok ok hu
  | conv c x =>
    simp only [sOp] at q
    cases c with
    | int k =>
      split at q <;> first | (cases q; done) | skip
      all_goals first
        | (rename_i hq _; cases hq; done)
        | skip
      · rename_i kk n k2 n2 hq he
        cases hq
        simp only [evOp, fOp, f_ev, he, fv]
        obtain ⟨e1, rfl⟩ := ret1_some q
        rw [sConv_ok ok e1]
      all_goals (rename_i n1 n2 n3 n4; exact (n1 k rfl).elim)
    | strStr =>
      refine f_evOp ok (e := .conv .strStr x) trivial ?_
      split at q <;> first | exact q | (rename_i hq _; cases hq; done) | (rename_i hq _ _; cases hq; done) | skip
      all_goals first | (rename_i hq; cases hq; done) | exact q
    | strBytes =>
      split at q
      · rename_i hq _; cases hq
      · rename_i s hq he
        obtain ⟨hb, q⟩ := bif_some q
        refine f_evOp ok (e := .conv .strBytes x) ?_ q
        simp only [noNum, he, strOk]
        exact hb
      · rename_i hq _; cases hq
      · cases q
      · exfalso
        simp only [evOp] at q
        cases q
    | bytesStr =>
      split at q
      · rename_i hq _; cases hq
      · rename_i hq _; cases hq
      · rename_i b off l c0 e hq he
        simp only [evOp, fOp, f_ev, he, fv]
        obtain ⟨hb, q⟩ := bif_some q
        rw [hb]
        simp only [cond_true]
        split at q
        · rename_i cs hl
          split at q
          · rename_i s hs
            obtain ⟨rfl, rfl⟩ := pair_eq q
            rw [f_load hl]
            simp only [f_bytesOf ok hs, fv]
          · cases q
        · cases q
      · cases q
      · rename_i n1 n2 n3 n4
        refine f_evOp ok (e := .conv .bytesStr x) ?_ q
        simp only [noNum]
        simp only [evOp] at q
        split at q <;> first | (cases q; done) | skip
        all_goals first
          | (rename_i he; exact he)
          | (rename_i he; exact (n4 _ _ _ _ _ rfl he).elim)
          | (rename_i hq _; cases hq; done)
          | (rename_i hq _ _; cases hq; done)
          | (trace_state; done)
  | mkSlice n b z l c =>
    simp only [sOp] at q
    simp only [evOp, fOp, f_ev]
    split at q
    · rename_i l1 c1 hl hc
      rw [f_asNat hl, f_asNat hc]
      simp only
      obtain ⟨hb, q⟩ := bif_some q
      obtain ⟨rfl, rfl⟩ := pair_eq q
      rw [hb]
      simp only [cond_true, fv, fh_nx, f_newBlk, f_zerosOf]
    · cases q
  | sliceStr x lo hi =>
    simp only [sOp] at q
    simp only [evOp, fOp, f_ev]
    split at q
    · rename_i s he
      rw [he]
      simp only [fv, List.length_map]
      split at q
      · rename_i l m k hb
        obtain ⟨rfl, rfl⟩ := pair_eq q
        have := f_bounds (ρ := ρ) hb
        simp only [Option.map_none] at this
        rw [this]
        simp only [fv, List.map_take, List.map_drop]
      · cases q
    · cases q
  | slice n x lo hi mx =>
    simp only [sOp] at q
    simp only [evOp, fOp, f_ev]
    split at q
    · rename_i he
      rw [he]
      simp only [fv]
      split at q
      · rename_i r hb
        obtain ⟨rfl, rfl⟩ := pair_eq q
        rw [f_bounds hb]
        rfl
      · cases q
    · rename_i b off len cap e he
      rw [he]
      simp only [fv]
      obtain ⟨hbb, q⟩ := bif_some q
      rw [hbb]
      simp only [cond_true]
      split at q
      · rename_i l m k hb
        obtain ⟨rfl, rfl⟩ := pair_eq q
        rw [f_bounds hb]
        rfl
      · cases q
    · cases q
  | sliceArr m n x lo hi mx =>
    simp only [sOp] at q
    simp only [evOp, fOp, f_ev]
    split at q
    · rename_i b off he
      rw [he]
      simp only [fv, fh_get]
      split at q
      · rename_i e c kd rows hk
        rw [hk]
        simp only [Option.map_some, fBlk]
        obtain ⟨hbb, q⟩ := bif_some q
        rw [hbb]
        simp only [cond_true]
        split at q
        · rename_i l m1 k hb
          obtain ⟨rfl, rfl⟩ := pair_eq q
          rw [f_bounds hb]
          rfl
        · cases q
      · cases q
    · cases q
  | idxAddrArr m n x i =>
    simp only [sOp] at q
    simp only [evOp, fOp, f_ev]
    split at q
    · rename_i b off i1 he hi
      rw [he, f_asNat hi]
      simp only [fv]
      obtain ⟨hb, q⟩ := bif_some q
      obtain ⟨rfl, rfl⟩ := pair_eq q
      rw [hb]; rfl
    · cases q
  | idxAddr n x i =>
    simp only [sOp] at q
    simp only [evOp, fOp, f_ev]
    split at q
    · rename_i b off len c e i1 he hi
      rw [he, f_asNat hi]
      simp only [fv]
      obtain ⟨hb, q⟩ := bif_some q
      obtain ⟨rfl, rfl⟩ := pair_eq q
      rw [hb]; rfl
    · cases q
  | idxArr m n g x i =>
    simp only [sOp] at q
    simp only [evOp, fOp, f_ev]
    split at q
    · rename_i cs i1 he hi
      rw [he, f_asNat hi]
      simp only [fv]
      obtain ⟨hb, q⟩ := bif_some q
      rw [hb]
      simp only [cond_true]
      exact f_ret1 q fun u hu => f_part hu
    · cases q
  | idxStr x i =>
    simp only [sOp] at q
    simp only [evOp, fOp, f_ev]
    split at q
    · rename_i s i1 he hi
      rw [he, f_asNat hi]
      simp only [fv, List.getElem?_map]
      split at q
      · rename_i b hb
        obtain ⟨hk, q⟩ := bif_some q
        obtain ⟨rfl, rfl⟩ := pair_eq q
        rw [hb]
        simp only [Option.map_some, fv]
        rw [okByte_ok ok hk]; rfl
      · cases q
    · cases q
  | lookup d z okk x k =>
    simp only [sOp] at q
    simp only [evOp, fOp, f_ev]
    split at q
    · rename_i u hr
      obtain ⟨rfl, rfl⟩ := pair_eq q
      split at hr
      · cases hr
      · rename_i b he
        rw [he]
        simp only [fv, fh_get]
        split at hr
        · rename_i es hk
          rw [hk]
          simp only [Option.map_some, fBlk, f_findKey ok hr]
          cases okk <;> rfl
        · cases hr
      · cases hr
    · rename_i hr
      obtain ⟨rfl, rfl⟩ := pair_eq q
      split at hr
      · rename_i he
        rw [he]
        cases okk <;> rfl
      · rename_i b he
        rw [he]
        simp only [fv, fh_get]
        split at hr
        · rename_i es hk
          rw [hk]
          simp only [Option.map_some, fBlk, f_findKey ok hr]
          cases okk <;> rfl
        · cases hr
      · cases hr
    · cases q
  | mapSet d m k u =>
    simp only [sOp] at q
    simp only [evOp, fOp, f_ev]
    split at q
    · rename_i b he
      rw [he]
      simp only [fv, fh_get]
      split at q
      · rename_i es hk
        rw [hk]
        simp only [Option.map_some, fBlk]
        split at q
        · rename_i es' hs
          obtain ⟨rfl, rfl⟩ := pair_eq q
          rw [f_setKey ok hs]
          simp only [fv_undef, fh_put, fBlk]
        · cases q
      · cases q
    · cases q
  | mapDel d m k =>
    simp only [sOp] at q
    simp only [evOp, fOp, f_ev]
    split at q
    · rename_i he
      obtain ⟨rfl, rfl⟩ := pair_eq q
      rw [he]
      simp only [fv, fv_undef]
    · rename_i b he
      rw [he]
      simp only [fv, fh_get]
      split at q
      · rename_i es hk
        rw [hk]
        simp only [Option.map_some, fBlk]
        split at q
        · rename_i es' hs
          obtain ⟨rfl, rfl⟩ := pair_eq q
          rw [f_delKey ok hs]
          simp only [fv_undef, fh_put, fBlk]
        · cases q
      · cases q
    · cases q
  | append n b s x =>
    simp only [sOp] at q
    obtain ⟨hb, q⟩ := bif_some q
    exact f_evOp ok (e := .append n b s x) hb q
  | appendZeros n b z s m => simp only [sOp] at q; cases q
  | copy n d s =>
    simp only [sOp] at q
    obtain ⟨hb, q⟩ := bif_some q
    obtain ⟨k, m, rfl, e1, e2⟩ := plainR_ok (ρ := ρ) q
    rw [e2]
    exact f_copy ok hb e1
  | minmax mx l =>
    simp only [sOp] at q
    simp only [evOp, fOp, f_evs]
    split at q
    · rename_i k a r he
      rw [he]
      simp only [fvs, fv]
      exact f_minInt ok q
    · cases q
  | lenStr x => simp only [sOp] at q; exact lens _ trivial q
  | lenSl x => simp only [sOp] at q; exact lens _ trivial q
  | lenMap x => simp only [sOp] at q; exact lens _ trivial q
  | lenConst x => simp only [sOp] at q; exact lens _ trivial q
  | cap x => simp only [sOp] at q; exact lens _ trivial q
  | _ => simp only [sOp] at q; exact f_evOp ok trivial q
end
end Go.Ev
