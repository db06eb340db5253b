/-
  Every operation over codes stands for the operation over what they stand for: joined.
-/
import Derived.Test.YteikmdigmjlmdaaGreatDoorSyOp
set_option linter.unusedVariables false
set_option linter.unusedSimpArgs false
namespace Go.Ev

section
variable {R : Reg} {ρ : Nat → Int} {tm : T V} {h h' : Hp} {v : V}

mutual
theorem f_eqV : ∀ {d : ED} {x y : V} {r : Bool}, (∀ k a, x ≠ .int k a) → (∀ s, x ≠ .str s) → (∀ c, x ≠ .agg c) → eqV h d x y = some r → eqV (fh ρ h) d (fv ρ x) (fv ρ y) = some r
  | .bool, x, y, r, n1, n2, n3, q => by cases x <;> cases y <;> simp only [eqV, fv, reduceCtorEq] at q ⊢ <;> exact q
  | .int, x, y, r, n1, n2, n3, q => by
    cases x <;> cases y <;> simp only [eqV, fv, reduceCtorEq] at q ⊢
    exact absurd rfl (n1 _ _)
  | .str, x, y, r, n1, n2, n3, q => by
    cases x <;> cases y <;> simp only [eqV, fv, reduceCtorEq] at q ⊢
    exact absurd rfl (n2 _)
  | .ptr, x, y, r, n1, n2, n3, q => by
    cases x <;> cases y <;> simp only [eqV, fv, reduceCtorEq] at q ⊢ <;> first | exact q | (rw [f_live, f_live]; exact q)
  | .sl, x, y, r, n1, n2, n3, q => by cases x <;> cases y <;> simp only [eqV, fv, reduceCtorEq] at q ⊢ <;> exact q
  | .mp, x, y, r, n1, n2, n3, q => by cases x <;> cases y <;> simp only [eqV, fv, reduceCtorEq] at q ⊢ <;> exact q
  | .fn, x, y, r, n1, n2, n3, q => by cases x <;> cases y <;> simp only [eqV, fv, reduceCtorEq] at q ⊢ <;> exact q
  | .ifc, x, y, r, n1, n2, n3, q => by cases x <;> cases y <;> simp only [eqV, fv, reduceCtorEq] at q ⊢ <;> exact q
  | .struct fs, x, y, r, n1, n2, n3, q => by
    cases x <;> cases y <;> simp only [eqV, fv, reduceCtorEq] at q ⊢
    exact absurd rfl (n3 _)
end

mutual
theorem sEqV_ok (ok : RegOK R ρ) : ∀ {d : ED} {x y : V} {r : Bool}, sEqV R h d x y = some r → eqV (fh ρ h) d (fv ρ x) (fv ρ y) = some r
  | .int, x, y, r, q => by
    cases x <;> cases y <;> simp only [sEqV, reduceCtorEq] at q
    rename_i k a l b
    simp only [fv, eqV]
    cases hk : kindEq k l with
    | false => rw [hk] at q; cases q
    | true => rw [hk] at q; simp only [cond_true] at q ⊢; rw [sEq_ok ok q]
  | .str, x, y, r, q => by
    cases x <;> cases y <;> simp only [sEqV, reduceCtorEq] at q
    simp only [fv, eqV, sEqS_ok ok q]
  | .struct fs, x, y, r, q => by
    cases x <;> cases y <;> simp only [sEqV, reduceCtorEq] at q
    simp only [fv, eqV]
    exact sEqFs_ok ok q
  | .bool, x, y, r, q => by
    simp only [sEqV] at q
    refine f_eqV ?_ ?_ ?_ q <;> intros <;> rintro rfl <;> simp [eqV] at q
  | .ptr, x, y, r, q => by
    simp only [sEqV] at q
    refine f_eqV ?_ ?_ ?_ q <;> intros <;> rintro rfl <;> simp [eqV] at q
  | .sl, x, y, r, q => by
    simp only [sEqV] at q
    refine f_eqV ?_ ?_ ?_ q <;> intros <;> rintro rfl <;> simp [eqV] at q
  | .mp, x, y, r, q => by
    simp only [sEqV] at q
    refine f_eqV ?_ ?_ ?_ q <;> intros <;> rintro rfl <;> simp [eqV] at q
  | .fn, x, y, r, q => by
    simp only [sEqV] at q
    refine f_eqV ?_ ?_ ?_ q <;> intros <;> rintro rfl <;> simp [eqV] at q
  | .ifc, x, y, r, q => by
    simp only [sEqV] at q
    refine f_eqV ?_ ?_ ?_ q <;> intros <;> rintro rfl <;> simp [eqV] at q
theorem sEqFs_ok (ok : RegOK R ρ) : ∀ {fs : List (Nat × Nat × Bool × ED)} {xs ys : List V} {r : Bool}, sEqFs R h fs xs ys = some r → eqFs (fh ρ h) fs (fvs ρ xs) (fvs ρ ys) = some r
  | [], xs, ys, r, q => by simpa only [sEqFs, eqFs] using q
  | (off, size, agg, d) :: fs, xs, ys, r, q => by
    simp only [sEqFs] at q
    simp only [eqFs]
    split at q
    · rename_i x y hx hy
      rw [f_part hx, f_part hy]
      simp only
      split at q
      · rename_i hd; rw [sEqV_ok ok hd]; exact sEqFs_ok ok q
      · rename_i hd; rw [sEqV_ok ok hd]; exact q
      · cases q
    · cases q
end

theorem f_asNat {x : V} {n : Nat} (q : sAsNat x = some n) : asNat (fv ρ x) = some n := by
  unfold sAsNat at q
  split at q
  · rename_i k m
    cases hb : Nat.ble symB m with
    | true => rw [hb] at q; cases q
    | false =>
      rw [hb] at q
      simp only [cond_false, Option.some.injEq] at q
      subst q
      simp only [fv]
      rw [fi_none (split_of_plain (by simp [isSym, hb]))]
      rfl
  · cases q

theorem f_bound {o : Option S} {d m r : Nat} (q : sBound tm o d m = some r) : bound (ft ρ tm) (o.map (fS ρ)) d m = some r := by
  cases o with
  | none => exact q
  | some s =>
    simp only [sBound, Option.map_some, bound] at q ⊢
    split at q
    · rename_i n hn
      rw [f_ev, f_asNat hn]
      exact q
    · cases q

theorem f_bounds {lo hi mx : Option S} {l c : Nat} {r : Nat × Nat × Nat} (q : sBounds tm l c lo hi mx = some r) : bounds (ft ρ tm) l c (lo.map (fS ρ)) (hi.map (fS ρ)) (mx.map (fS ρ)) = some r := by
  unfold sBounds at q
  unfold bounds
  split at q
  · cases q
  · rename_i m hm
    rw [f_bound hm]
    simp only
    split at q
    · cases q
    · rename_i h1 hh
      rw [f_bound hh]
      simp only
      split at q
      · cases q
      · rename_i l1 hl
        rw [f_bound hl]
        exact q

theorem f_findKey (ok : RegOK R ρ) {d : ED} {k : V} : ∀ {es : List (V × V)} {r : Option V}, sFindKey R h d k es = some r →
    findKey (fh ρ h) d (fv ρ k) (es.map fun p => (fv ρ p.1, fv ρ p.2)) = some (r.map (fv ρ))
  | [], r, q => by simp only [sFindKey, Option.some.injEq] at q; subst q; rfl
  | (x, w) :: es, r, q => by
    simp only [sFindKey] at q
    simp only [List.map_cons, findKey]
    split at q
    · rename_i hd; rw [sEqV_ok ok hd]; simp only [Option.some.injEq] at q; subst q; rfl
    · rename_i hd; rw [sEqV_ok ok hd]; exact f_findKey ok q
    · cases q

theorem f_setKey (ok : RegOK R ρ) {d : ED} {k u : V} : ∀ {es es' : List (V × V)}, sSetKey R h d k u es = some es' →
    setKey (fh ρ h) d (fv ρ k) (fv ρ u) (es.map fun p => (fv ρ p.1, fv ρ p.2)) = some (es'.map fun p => (fv ρ p.1, fv ρ p.2))
  | [], es', q => by simp only [sSetKey, Option.some.injEq] at q; subst q; rfl
  | (x, w) :: es, es', q => by
    simp only [sSetKey] at q
    simp only [List.map_cons, setKey]
    split at q
    · rename_i hd; rw [sEqV_ok ok hd]; simp only [Option.some.injEq] at q; subst q; rfl
    · rename_i hd
      rw [sEqV_ok ok hd]
      simp only
      split at q
      · rename_i r hr
        simp only [Option.some.injEq] at q
        subst q
        rw [f_setKey ok hr]; rfl
      · cases q
    · cases q

theorem f_delKey (ok : RegOK R ρ) {d : ED} {k : V} : ∀ {es es' : List (V × V)}, sDelKey R h d k es = some es' →
    delKey (fh ρ h) d (fv ρ k) (es.map fun p => (fv ρ p.1, fv ρ p.2)) = some (es'.map fun p => (fv ρ p.1, fv ρ p.2))
  | [], es', q => by simp only [sDelKey, Option.some.injEq] at q; subst q; rfl
  | (x, w) :: es, es', q => by
    simp only [sDelKey] at q
    simp only [List.map_cons, delKey]
    split at q
    · rename_i hd; rw [sEqV_ok ok hd]; simp only [Option.some.injEq] at q; subst q; rfl
    · rename_i hd
      rw [sEqV_ok ok hd]
      simp only
      split at q
      · rename_i r hr
        simp only [Option.some.injEq] at q
        subst q
        rw [f_delKey ok hr]; rfl
      · cases q
    · cases q

theorem f_bytesOf (ok : RegOK R ρ) : ∀ {l : List V} {s : List Nat}, sBytesOf R l = some s → bytesOfCells (fvs ρ l) = some (s.map (fb ρ))
  | [], s, q => by simp only [sBytesOf, Option.some.injEq] at q; subst q; rfl
  | x :: l, s, q => by
    cases x with
    | int k n =>
      cases k <;> (try (simp only [sBytesOf, reduceCtorEq] at q; done))
      cases n with
      | negSucc m => simp only [sBytesOf, reduceCtorEq] at q
      | ofNat m =>
        simp only [sBytesOf] at q
        have fin : ∀ s' : List Nat, sBytesOf R l = some s' → (fb ρ m : Int) = fi ρ (Int.ofNat m) → fb ρ m < 256 → bytesOfCells (fvs ρ (V.int .u8 (.ofNat m) :: l)) = some ((m :: s').map (fb ρ)) := by
          intro s' hs' e hlt
          simp only [fvs, fv, ← e, bytesOfCells]
          have : Nat.blt (fb ρ m) 256 = true := by simpa using hlt
          simp only [this, cond_true, f_bytesOf ok hs', List.map_cons]
        cases hb : Nat.blt m 256 with
        | true =>
          rw [hb] at q
          simp only [cond_true] at q
          split at q
          · rename_i r hr
            simp only [Option.some.injEq] at q
            subst q
            have hlt : m < 256 := by simpa using hb
            have hsy : Nat.ble symB m = false := ble_no (by have : (256 : Nat) < symB := by decide
                                                            omega)
            have e : fb ρ m = m := by simp [fb, hsy]
            refine fin r hr ?_ (by rw [e]; exact hlt)
            rw [e, fi_none (split_of_plain (by simp [isSym, hsy]))]; rfl
          · cases q
        | false =>
          rw [hb] at q
          simp only [cond_false] at q
          split at q
          · rename_i lo hi hr
            cases hd : (decide (0 ≤ lo) && decide (hi < 256)) with
            | false => rw [hd] at q; cases q
            | true =>
              rw [hd] at q
              simp only [cond_true] at q
              simp only [Bool.and_eq_true, decide_eq_true_eq] at hd
              split at q
              · rename_i r hr2
                simp only [Option.some.injEq] at q
                subst q
                have hbb := rngOf_ok ok hr
                have hok : okByte R m = true := by
                  unfold okByte
                  cases Nat.ble symB m with
                  | false => rfl
                  | true => simp only [cond_true, hr]; simpa using hd.1
                have e := okByte_ok (ρ := ρ) ok hok
                refine fin r hr2 e ?_
                have hbb' : lo ≤ fi ρ (Int.ofNat m) ∧ fi ρ (Int.ofNat m) ≤ hi := hbb
                omega
              · cases q
          · cases q
    | _ => simp only [sBytesOf, reduceCtorEq] at q

theorem f_cellsOf (ok : RegOK R ρ) : ∀ {s : List Nat}, okBytes R s = true → cellsOfBytes (s.map (fb ρ)) = fvs ρ (cellsOfBytes s)
  | [], _ => rfl
  | b :: s, q => by
    simp only [okBytes, Bool.and_eq_true] at q
    simp only [List.map_cons, cellsOfBytes, fvs, fv, f_cellsOf ok q.2]
    rw [okByte_ok ok q.1]; rfl

theorem okBytes_take : ∀ {s : List Nat} (n : Nat), okBytes R s = true → okBytes R (s.take n) = true
  | [], n, _ => by simp [okBytes]
  | b :: s, 0, _ => rfl
  | b :: s, n + 1, q => by
    simp only [okBytes, Bool.and_eq_true, List.take_succ_cons] at q ⊢
    exact ⟨q.1, okBytes_take n q.2⟩

theorem f_lenOf (x : V) : lenOf (fv ρ x) = lenOf x := by
  cases x <;> simp [fv, lenOf]

theorem f_source (ok : RegOK R ρ) {size n : Nat} {x : V} {l : List V} (hs : strOk R x = true) (q : source h size n x = some l) : source (fh ρ h) size n (fv ρ x) = some (fvs ρ l) := by
  unfold source at q
  split at q
  · simp only [Option.some.injEq] at q; subst q; rfl
  · rename_i s
    simp only [fv, source]
    cases hb : Nat.beq size 1 with
    | false => rw [hb] at q; cases q
    | true =>
      rw [hb] at q
      simp only [cond_true, Option.some.injEq] at q ⊢
      subst q
      rw [← List.map_take]
      exact f_cellsOf ok (okBytes_take n hs)
  · rename_i b off l0 c e
    simp only [fv, source]
    cases hb : Nat.beq e size with
    | false => rw [hb] at q; cases q
    | true => rw [hb] at q; simp only [cond_true] at q ⊢; exact f_load q
  · cases q

theorem f_grow {size bytes n : Nat} {s : V} {new : List V} (q : grow h size bytes s n new = some (v, h')) : grow (fh ρ h) size bytes (fv ρ s) n (fvs ρ new) = some (fv ρ v, fh ρ h') := by
  unfold grow at q
  split at q
  · simp only [fv, grow]
    cases hn : Nat.beq n 0 with
    | true =>
      rw [hn] at q
      simp only [cond_true, Option.some.injEq, Prod.mk.injEq] at q ⊢
      obtain ⟨rfl, rfl⟩ := q
      exact ⟨rfl, rfl⟩
    | false =>
      rw [hn] at q
      simp only [cond_false] at q ⊢
      obtain ⟨hb, q⟩ := bif_some q
      obtain ⟨rfl, rfl⟩ := pair_eq q
      rw [hb]
      simp only [cond_true, fv, fh_nx, f_newBlk]
  · rename_i b off l c e
    simp only [fv, grow]
    obtain ⟨hb, q⟩ := bif_some q
    rw [hb]
    simp only [cond_true]
    cases hl : Nat.ble (l + n) c with
    | true =>
      rw [hl] at q
      simp only [cond_true] at q ⊢
      split at q
      · rename_i h2 hs
        obtain ⟨rfl, rfl⟩ := pair_eq q
        rw [f_store hs]
        rfl
      · cases q
    | false =>
      rw [hl] at q
      simp only [cond_false] at q ⊢
      obtain ⟨hbb, q⟩ := bif_some q
      rw [hbb]
      simp only [cond_true]
      split at q
      · rename_i e' m kd rows hk
        rw [fh_get, hk]
        simp only [Option.map_some, fBlk]
        cases hro : kd.isRo with
        | true => rw [hro] at q; cases q
        | false =>
          rw [hro] at q
          simp only [cond_false] at q ⊢
          split at q
          · rename_i old hold
            obtain ⟨rfl, rfl⟩ := pair_eq q
            rw [f_load hold]
            simp only
            have hh : fh ρ (bif kd.isLoose && Nat.beq (off + c * e) m then h.put b .dead else h) = (bif kd.isLoose && Nat.beq (off + c * e) m then (fh ρ h).put b .dead else fh ρ h) := by
              cases (kd.isLoose && Nat.beq (off + c * e) m) with
              | true => simp only [cond_true, fh_put]; rfl
              | false => rfl
            have hr : (bif Nat.beq off 0 && Nat.beq e' size && Nat.beq (c * e) m then T.setMany rows l (rowsOf size n new) else newRows size (l + n) (old ++ new)).map (fvs ρ) =
                (bif Nat.beq off 0 && Nat.beq e' size && Nat.beq (c * e) m then T.setMany (rows.map (fvs ρ)) l (rowsOf size n (fvs ρ new)) else newRows size (l + n) (fvs ρ old ++ fvs ρ new)) := by
              cases (Nat.beq off 0 && Nat.beq e' size && Nat.beq (c * e) m) with
              | true => simp only [cond_true, T.setMany_map, f_rowsOf]
              | false => simp only [cond_false, f_newRows, fvs_append]
            rw [fh_add, hh]
            simp only [fBlk, hr, fv]
            have hnx : (bif kd.isLoose && Nat.beq (off + c * e) m then h.put b .dead else h).nx = (bif kd.isLoose && Nat.beq (off + c * e) m then (fh ρ h).put b .dead else fh ρ h).nx := by
              rw [← hh]; rfl
            rw [hnx]
          · cases q
      · cases q
  · cases q

theorem f_minInt (ok : RegOK R ρ) {mx : Bool} {k : IntKind} : ∀ {l : List V} {a : Int}, sMinInt R mx k a l h = some (v, h') → evOp.minmaxInt mx k (fi ρ a) (fvs ρ l) (fh ρ h) = some (fv ρ v, fh ρ h')
  | [], a, q => by
    simp only [sMinInt] at q
    obtain ⟨rfl, rfl⟩ := pair_eq q
    rfl
  | x :: l, a, q => by
    cases x <;> simp only [sMinInt, reduceCtorEq] at q
    rename_i kk b
    simp only [fvs, fv, evOp.minmaxInt]
    obtain ⟨hk, q⟩ := bif_some q
    rw [hk]
    simp only [cond_true]
    split at q
    · rename_i lt gt h1 h2
      have e1 := sLt_ok ok h1
      have e2 := sLt_ok ok h2
      rw [← e1, ← e2]
      have := f_minInt ok q
      have e3 : fi ρ (bif mx then (bif lt then b else a) else (bif gt then b else a)) = (bif mx then (bif lt then fi ρ b else fi ρ a) else (bif gt then fi ρ b else fi ρ a)) := by
        cases mx <;> cases lt <;> cases gt <;> rfl
      rw [e3] at this
      exact this
    · cases q

theorem f_ret1 {o o' : Option V} (q : ret1 h o = some (v, h')) (he : ∀ u, o = some u → o' = some (fv ρ u)) : ret1 (fh ρ h) o' = some (fv ρ v, fh ρ h') := by
  obtain ⟨e, rfl⟩ := ret1_some q
  rw [he v e]
  rfl

/-- operations that look at no number -/
def noNum (R : Reg) (tm : T V) : EOp → Prop
  | .append _ _ _ x => strOk R (ev tm x) = true
  | .conv .strBytes x => strOk R (ev tm x) = true
  | .conv .strStr _ => True
  | .conv _ x => ev tm x = .nilSlice
  | .arith .. | .eqv .. | .unop .. | .mkSlice .. | .sliceStr .. | .slice .. | .sliceArr .. | .idxAddrArr .. | .idxAddr .. | .idxArr .. | .idxStr .. | .lookup .. | .mapSet .. | .mapDel .. | .appendZeros .. | .minmax ..
  | .copy .. | .lenStr _ | .lenSl _ | .lenMap _ | .lenConst _ | .cap _ => False
  | _ => True

theorem f_evOp (ok : RegOK R ρ) {e : EOp} (hs : noNum R tm e) (q : evOp tm h e = some (v, h')) : evOp (ft ρ tm) (fh ρ h) (fOp ρ e) = some (fv ρ v, fh ρ h') := by
  cases e with
  | mov x =>
    simp only [evOp, fOp, f_ev] at q ⊢
    obtain ⟨rfl, rfl⟩ := pair_eq q
    rfl
  | pick c a b =>
    simp only [evOp, fOp, f_ev] at q ⊢
    split at q
    · rename_i t ht
      obtain ⟨rfl, rfl⟩ := pair_eq q
      rw [ht]
      cases t <;> rfl
    · cases q
  | alloc n z =>
    simp only [evOp, fOp] at q ⊢
    obtain ⟨rfl, rfl⟩ := pair_eq q
    simp only [f_newBlk, fv, fh_nx]
  | box n x =>
    simp only [evOp, fOp, f_ev, f_cells, fvs_length, f_allFlat] at q ⊢
    obtain ⟨hb, q⟩ := bif_some q
    obtain ⟨rfl, rfl⟩ := pair_eq q
    rw [hb]
    simp only [cond_true, f_newBlk, fv, fh_nx]
  | build z ps =>
    simp only [evOp, fOp] at q ⊢
    split at q
    · rename_i cs hf
      obtain ⟨rfl, rfl⟩ := pair_eq q
      rw [f_fill hf]
      rfl
    · cases q
  | buildSlice l n z ps =>
    simp only [evOp, fOp] at q ⊢
    split at q
    · rename_i cs hf
      obtain ⟨hb, q⟩ := bif_some q
      obtain ⟨rfl, rfl⟩ := pair_eq q
      rw [← f_zerosOf, f_fill hf]
      simp only [f_allFlat, hb, cond_true, f_newBlk, fv, fh_nx]
    · cases q
  | load n g a =>
    simp only [evOp, fOp, f_ev] at q ⊢
    split at q
    · rename_i b off he
      rw [he]
      simp only [fv]
      split at q
      · rename_i cs hl
        rw [f_load hl]
        cases g with
        | true =>
          simp only [cond_true] at q ⊢
          obtain ⟨rfl, rfl⟩ := pair_eq q
          rfl
        | false =>
          simp only [cond_false] at q ⊢
          split at q
          · obtain ⟨rfl, rfl⟩ := pair_eq q
            rfl
          · cases q
      · cases q
    · cases q
  | store n a x =>
    simp only [evOp, fOp, f_ev, f_cells, fvs_length, f_allFlat] at q ⊢
    split at q
    · rename_i b off he
      rw [he]
      simp only [fv]
      obtain ⟨hb, q⟩ := bif_some q
      rw [hb]
      simp only [cond_true]
      split at q
      · rename_i h2 hst
        obtain ⟨rfl, rfl⟩ := pair_eq q
        rw [f_store hst]
        simp only [fv_undef]
      · cases q
    · cases q
  | nilCheck x =>
    simp only [evOp, fOp, f_ev] at q ⊢
    split at q
    · rename_i he; obtain ⟨rfl, rfl⟩ := pair_eq q; rw [he]; rfl
    · rename_i he; obtain ⟨rfl, rfl⟩ := pair_eq q; rw [he]; rfl
    · cases q
  | conv c x =>
    cases c with
    | int k =>
      simp only [evOp] at q
      simp only [noNum] at hs
      rw [hs] at q
      cases q
    | strStr =>
      simp only [evOp, fOp, f_ev] at q ⊢
      split at q <;> first | (cases q; done) | skip
      all_goals first
        | (rename_i hq _; cases hq; done)
        | (rename_i he; obtain ⟨rfl, rfl⟩ := pair_eq q; rw [he]; rfl)
        | (rename_i hq _ _; cases hq; done)
    | strBytes =>
      simp only [noNum] at hs
      simp only [evOp, fOp, f_ev] at q ⊢
      split at q <;> first | (cases q; done) | skip
      all_goals first
        | (rename_i hq _; cases hq; done)
        | (rename_i he
           obtain ⟨rfl, rfl⟩ := pair_eq q
           rw [he] at hs ⊢
           simp only [fv, List.length_map, fh_nx, f_newBlk, f_cellsOf ok (show okBytes R _ = true from hs)]
           done)
        | (rename_i hq _ _; cases hq; done)
    | bytesStr =>
      simp only [noNum] at hs
      simp only [evOp, fOp, f_ev] at q ⊢
      rw [hs] at q ⊢
      simp only at q
      obtain ⟨rfl, rfl⟩ := pair_eq q
      rfl
  | mkIface t x =>
    simp only [evOp, fOp, f_ev] at q ⊢
    obtain ⟨rfl, rfl⟩ := pair_eq q
    rfl
  | mkFunc f a c =>
    simp only [evOp, fOp, f_evs] at q ⊢
    obtain ⟨rfl, rfl⟩ := pair_eq q
    rfl
  | mkMap =>
    simp only [evOp, fOp] at q ⊢
    obtain ⟨rfl, rfl⟩ := pair_eq q
    simp only [fh_add, fv, fh_nx, fBlk, List.map_nil]
  | fieldAddr o x =>
    simp only [evOp, fOp, f_ev] at q ⊢
    split at q
    · rename_i he; obtain ⟨rfl, rfl⟩ := pair_eq q; rw [he]; rfl
    · cases q
  | field o n g x =>
    simp only [evOp, fOp, f_ev] at q ⊢
    split at q
    · rename_i cs he
      rw [he]
      simp only [fv]
      exact f_ret1 q fun u hu => f_part hu
    · cases q
  | extract x i =>
    simp only [evOp, fOp, f_ev] at q ⊢
    split at q
    · rename_i cs he
      rw [he]
      simp only [fv]
      exact f_ret1 q fun u hu => by rw [fvs_get, hu]; rfl
    · cases q
  | call f args => simp only [evOp] at q; cases q
  | append n b s x =>
    simp only [evOp, fOp, f_ev, f_lenOf] at q ⊢
    simp only [noNum] at hs
    split at q
    · rename_i m hm
      split at q
      · rename_i new hn
        rw [f_source ok hs hn]
        exact f_grow q
      · cases q
    · cases q
  | clearSlice n z x =>
    simp only [evOp, fOp, f_ev] at q ⊢
    split at q
    · rename_i he; obtain ⟨rfl, rfl⟩ := pair_eq q; rw [he]; simp only [fv, fv_undef]
    · rename_i b off l c e he
      rw [he]
      simp only [fv]
      obtain ⟨hb, q⟩ := bif_some q
      rw [hb]
      simp only [cond_true]
      split at q
      · rename_i h2 hst
        obtain ⟨rfl, rfl⟩ := pair_eq q
        rw [← f_zerosOf, f_store hst]
        simp only [fv_undef]
      · cases q
    · cases q
  | bad => simp only [evOp] at q; cases q
  | _ => simp only [noNum] at hs
end
end Go.Ev
