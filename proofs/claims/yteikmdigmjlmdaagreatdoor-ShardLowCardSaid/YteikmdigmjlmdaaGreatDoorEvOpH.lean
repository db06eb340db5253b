/-
  Every operation of the evaluator's but calls stands for the model's: joined.
-/
import Derived.Test.YteikmdigmjlmdaaGreatDoorEvOpG
set_option linter.unusedVariables false
set_option linter.unusedSimpArgs false
namespace Go.Ev
section
variable {P : Program} {ι : Inj} {h h' : Hp} {w : World} {tm : T V} {a : Act} {v : V} {o : Oper} {e : EOp}

theorem edOf_succ {t : TypeId} : edOf P 20 t = match P.underlying t with
    | some .bool => some .bool
    | some (.int _) => some .int
    | some .string => some .str
    | some (.pointer e) => match sizeB P e with
      | some (_ + 1) => some .ptr
      | _ => none
    | some (.slice _) => some .sl
    | some (.map _ _) => some .mp
    | some (.func ..) => some .fn
    | some (.interface _) => some .ifc
    | some (.struct fs) => if P.stoodInHeld t then none else (edFs P (edOf P 19) fs.toList).map .struct
    | _ => none := rfl

theorem binOp_ok {op : BinOp} {t t' : TypeId} {x y : Operand} {s q : S} (ho : o.op = .binOp op t x y t') (hs : cS P x = some s) (hq : cS P y = some q)
    (hc : cBin P op t x y s q = some e) (hev : evOp tm h e = some (v, h'))
    (hw : WR P ι h w) (ht : TR ι tm a.tmps) (hg : GI P ι) : Goes P ι h w v h' ((execOp a.eval o).run P w) := by
  have arithCase : e = .arith op s q → Goes P ι h w v h' ((execOp a.eval o).run P w) := by
    intro he
    subst he
    simp only [evOp] at hev
    obtain ⟨h1, rfl⟩ := ret1_some hev
    exact op_arith ho hs hq h1 hw ht hg
  have eqvCase : ∀ (neg : Bool) (ed : ED), e = .eqv neg ed s q → (op = if neg then .neq else .eql) → edOf P 20 t = some ed → ed ≠ .int → ed ≠ .str → ((∃ ms, P.underlying t = some (.interface ms)) → (isConstO x || isConstO y) = true) →
      (∀ fs, ed = .struct fs → P.eqGuardType P.depth t = false) → Goes P ι h w v h' ((execOp a.eval o).run P w) := by
    intro neg ed he hop hed n1 n2 hgd hgt
    subst he
    simp only [evOp] at hev
    split at hev
    · rename_i r hr
      obtain ⟨rfl, rfl⟩ := pair_eq hev
      exact op_eqv ho hop hs hq hed n1 n2 hgd hgt hr hw ht hg
    · cases hev
  have both : ∀ neg : Bool, op = (if neg then .neq else .eql) → cEq P neg op t x y s q = some e → Goes P ι h w v h' ((execOp a.eval o).run P w) := by
    intro neg hop hc
    unfold cEq at hc
    split at hc
    · exact arithCase (Option.some.inj hc).symm
    · exact arithCase (Option.some.inj hc).symm
    · rename_i ms hu
      split at hc
      · rename_i hcst
        refine eqvCase neg .ifc (Option.some.inj hc).symm hop ?_ (by simp) (by simp) (fun _ => hcst) (fun fs q => by cases q)
        rw [edOf_succ]; simp only [hu]
      · cases hc
    · rename_i fs hu
      split at hc
      · cases hc
      · rename_i hgt
        simp only [Option.bind_eq_bind, Option.bind_eq_some_iff] at hc
        obtain ⟨ed, hed, hc⟩ := hc
        have hst : ∃ fs', ed = .struct fs' := by
          rw [edOf_succ] at hed; simp only [hu] at hed
          split at hed
          · cases hed
          · simp only [Option.map_eq_some_iff] at hed
            obtain ⟨f', _, rfl⟩ := hed
            exact ⟨_, rfl⟩
        obtain ⟨fs', rfl⟩ := hst
        exact eqvCase neg _ (Option.some.inj hc).symm hop hed (by simp) (by simp) (fun ⟨ms, q⟩ => by rw [hu] at q; cases q) (fun _ _ => by simpa using hgt)
    · cases hc
    · rename_i d n1 n2 n3 n4 n5 hu
      simp only [Option.bind_eq_bind, Option.bind_eq_some_iff] at hc
      obtain ⟨ed, hed, hc⟩ := hc
      have hsh : ed ≠ .int ∧ ed ≠ .str ∧ ∀ fs, ed ≠ .struct fs := by
        rw [edOf_succ] at hed; simp only [hu] at hed
        cases d with
        | int k => exact absurd rfl (n1 k)
        | string => exact absurd rfl n2
        | interface ms => exact absurd rfl (n3 ms)
        | struct fs => exact absurd rfl (n4 fs)
        | array n e0 => exact absurd rfl (n5 n e0)
        | bool => simp only [Option.some.injEq] at hed; subst hed; simp
        | pointer e0 =>
          simp only at hed
          split at hed
          · simp only [Option.some.injEq] at hed; subst hed; simp
          · cases hed
        | slice e0 => simp only [Option.some.injEq] at hed; subst hed; simp
        | map k e0 => simp only [Option.some.injEq] at hed; subst hed; simp
        | func p q r => simp only [Option.some.injEq] at hed; subst hed; simp
        | _ => simp at hed
      exact eqvCase neg ed (Option.some.inj hc).symm hop hed hsh.1 hsh.2.1 (fun ⟨ms, q⟩ => by rw [hu] at q; exact absurd (Option.some.inj q) (n3 ms)) (fun fs q => absurd q (hsh.2.2 fs))
    · cases hc
  cases op with
  | eql => exact both false rfl hc
  | neq => exact both true rfl hc
  | _ => exact arithCase (Option.some.inj hc).symm

theorem sliceArr_ok {t e0 : TypeId} {x : Operand} {s : S} {lo hi mx : Option Operand} {sl sh sm : Option S} {n size : Nat} (ho : o.op = .slice t x lo hi mx) (hs : cS P x = some s)
    (hu : P.underlying t = some (.array n e0) ∨ ∃ arr, P.underlying t = some (.pointer arr) ∧ P.underlying arr = some (.array n e0))
    (hsz : sizeB P e0 = some size) (hpos : size ≠ 0) (hmx : (mx.isSome && hi.isNone) = false) (hsl : cSo P lo = some sl) (hsh : cSo P hi = some sh) (hsm : cSo P mx = some sm)
    (hev : evOp tm h (.sliceArr n size s sl sh sm) = some (v, h')) (hw : WR P ι h w) (ht : TR ι tm a.tmps) (hg : GI P ι) : Goes P ι h w v h' ((execOp a.eval o).run P w) := by
  simp only [evOp] at hev
  split at hev
  · rename_i b off he
    split at hev
    · rename_i e1 c kd rows hb
      obtain ⟨hle, hev⟩ := bif_some hev
      split at hev
      · rename_i l m k hbd
        obtain ⟨rfl, rfl⟩ := pair_eq hev
        refine op_sliceArr ho hs hu hsz hpos hmx hsl hsh hsm he hbd (fun i hi => ?_) hw ht hg
        obtain ⟨g1, g2, g3, cc, tt, fr, g4, g5, g6, _⟩ := hw.rel b i _ hi hb
        have := Nat.le_of_ble_eq_true hle
        omega
      · cases hev
    · cases hev
  · cases hev

theorem mapSet_ok {t : TypeId} {m k x : Operand} (ho : o.op = .mapUpdate t m k x ∨ o.op = .insert t m k x)
    (hc : (match P.underlying t with
      | some (.map key _) => do some (EOp.mapSet (← keyEd P key) (← cS P m) (← cS P k) (← cS P x))
      | _ => none) = some e) (hev : evOp tm h e = some (v, h')) (hw : WR P ι h w) (ht : TR ι tm a.tmps) (hg : GI P ι) : Goes P ι h w v h' ((execOp a.eval o).run P w) := by
  split at hc
  · rename_i key e0 hu
    simp only [Option.bind_eq_bind, Option.bind_eq_some_iff, Option.some.injEq] at hc
    obtain ⟨kd, hk, s, hs, q, hq, p, hp, rfl⟩ := hc
    obtain ⟨td, hkd⟩ := keyEd_ok hk
    simp only [evOp] at hev
    split at hev
    · rename_i b he
      split at hev
      · rename_i es hb
        split at hev
        · rename_i es' hset
          obtain ⟨rfl, rfl⟩ := pair_eq hev
          obtain ⟨res, hres⟩ := find_of_set hset
          exact op_mapSet ho hs hq hp hu hkd he hb hres hset hw ht hg
        · cases hev
      · cases hev
    · cases hev
  · cases hc

theorem evOp_ok (hc : cOpO P o = some e) (hev : evOp tm h e = some (v, h')) (hw : WR P ι h w) (ht : TR ι tm a.tmps) (hg : GI P ι) : Goes P ι h w v h' ((execOp a.eval o).run P w) := by
  unfold cOpO at hc
  split at hc
  · rename_i x ho
    simp only [Option.bind_eq_bind, Option.bind_eq_some_iff, Option.some.injEq] at hc
    obtain ⟨s, hs, rfl⟩ := hc
    simp only [evOp] at hev
    obtain ⟨rfl, rfl⟩ := pair_eq hev
    exact op_mov (.inl ho) hs hw ht hg
  · rename_i x ho
    simp only [Option.bind_eq_bind, Option.bind_eq_some_iff, Option.some.injEq] at hc
    obtain ⟨s, hs, rfl⟩ := hc
    simp only [evOp] at hev
    obtain ⟨rfl, rfl⟩ := pair_eq hev
    exact op_mov (.inr ho) hs hw ht hg
  · rename_i c x y ho
    simp only [Option.bind_eq_bind, Option.bind_eq_some_iff, Option.some.injEq] at hc
    obtain ⟨s, hs, s1, hs1, s2, hs2, rfl⟩ := hc
    simp only [evOp] at hev
    split at hev
    · rename_i t he
      obtain ⟨rfl, rfl⟩ := pair_eq hev
      exact op_pick ho hs hs1 hs2 he hw ht hg
    · cases hev
  · rename_i t ho
    simp only [Option.bind_eq_bind, Option.bind_eq_some_iff, Option.some.injEq] at hc
    obtain ⟨n, hn, z, hz, rfl⟩ := hc
    simp only [evOp] at hev
    obtain ⟨rfl, rfl⟩ := pair_eq hev
    exact (op_alloc ho hn hz hw.free).goes hw
  · rename_i t x ho
    simp only [Option.bind_eq_bind, Option.bind_eq_some_iff, Option.some.injEq] at hc
    obtain ⟨n, hn, s, hs, rfl⟩ := hc
    simp only [evOp] at hev
    obtain ⟨hb, hev⟩ := bif_some hev
    simp only [Bool.and_eq_true] at hb
    obtain ⟨rfl, rfl⟩ := pair_eq hev
    exact (op_box ho hs (Nat.eq_of_beq_eq_true hb.1) hb.2 hw.free ht hg).goes hw
  · rename_i t ps ho
    simp only [Option.bind_eq_bind, Option.bind_eq_some_iff] at hc
    obtain ⟨zero, hz, hc⟩ := hc
    split at hc
    · rename_i fs hu
      split at hc
      · cases hc
      · rename_i hall
        simp only [Option.bind_eq_some_iff, Option.some.injEq] at hc
        obtain ⟨qs, hqs, rfl⟩ := hc
        simp only [evOp] at hev
        split at hev
        · rename_i cs hf
          obtain ⟨rfl, rfl⟩ := pair_eq hev
          exact op_build_struct ho hz hu (by first | exact hall | (cases hq' : fs.toList.all _ with | true => rfl | false => exact absurd (by rw [hq']; rfl) hall)) hqs hf hw ht hg
        · cases hev
    · rename_i m e0 hu
      simp only [Option.bind_eq_some_iff, Option.some.injEq] at hc
      obtain ⟨size, hs, qs, hqs, rfl⟩ := hc
      simp only [evOp] at hev
      split at hev
      · rename_i cs hf
        obtain ⟨rfl, rfl⟩ := pair_eq hev
        exact op_build_array ho hz hu hs hqs hf hw ht hg
      · cases hev
    · cases hc
  · rename_i t len ps ho
    split at hc
    · rename_i e0 hu
      simp only [Option.bind_eq_bind, Option.bind_eq_some_iff] at hc
      obtain ⟨size, hs, hc⟩ := hc
      split at hc
      · cases hc
      · rename_i hpos
        simp only [Option.bind_eq_some_iff, Option.some.injEq] at hc
        obtain ⟨zero, hz, qs, hqs, rfl⟩ := hc
        simp only [evOp] at hev
        split at hev
        · rename_i cs hf
          obtain ⟨hfl, hev⟩ := bif_some hev
          obtain ⟨rfl, rfl⟩ := pair_eq hev
          exact (op_buildSlice ho hu hs hpos hz hqs hf hfl hw.free ht hg).goes hw
        · cases hev
    · cases hc
  · rename_i t x ho
    simp only [Option.bind_eq_bind, Option.bind_eq_some_iff, Option.some.injEq] at hc
    obtain ⟨n, hn, ag, hag, s, hs, rfl⟩ := hc
    simp only [evOp] at hev
    split at hev
    · rename_i b off he
      split at hev
      · rename_i cs hl
        cases ag with
        | true =>
          simp only [cond_true] at hev
          obtain ⟨rfl, rfl⟩ := pair_eq hev
          exact op_load ho hn hag hs he hl rfl hw ht hg
        | false =>
          simp only [cond_false] at hev
          split at hev
          · obtain ⟨rfl, rfl⟩ := pair_eq hev
            exact op_load ho hn hag hs he hl rfl hw ht hg
          · cases hev
      · cases hev
    · cases hev
  · rename_i t x y ho
    simp only [Option.bind_eq_bind, Option.bind_eq_some_iff, Option.some.injEq] at hc
    obtain ⟨n, hn, s, hs, q, hq, rfl⟩ := hc
    simp only [evOp] at hev
    split at hev
    · rename_i b off he
      obtain ⟨hb, hev⟩ := bif_some hev
      simp only [Bool.and_eq_true] at hb
      split at hev
      · rename_i h1 hst
        obtain ⟨rfl, rfl⟩ := pair_eq hev
        exact op_store ho hn hs hq he (Nat.eq_of_beq_eq_true hb.1) hb.2 hst hw ht hg
      · cases hev
    · cases hev
  · rename_i x ho
    simp only [Option.bind_eq_bind, Option.bind_eq_some_iff, Option.some.injEq] at hc
    obtain ⟨s, hs, rfl⟩ := hc
    simp only [evOp] at hev
    split at hev
    · rename_i he
      obtain ⟨rfl, rfl⟩ := pair_eq hev
      exact op_nilCheck_ptr ho hs he hw ht hg
    · rename_i he
      obtain ⟨rfl, rfl⟩ := pair_eq hev
      exact op_nilCheck_func ho hs he hw ht hg
    · cases hev
  · rename_i op t x y t' ho
    simp only [Option.bind_eq_bind, Option.bind_eq_some_iff] at hc
    obtain ⟨s, hs, q, hq, hc⟩ := hc
    exact binOp_ok ho hs hq hc hev hw ht hg
  · rename_i op t x ho
    simp only [Option.bind_eq_bind, Option.bind_eq_some_iff, Option.some.injEq] at hc
    obtain ⟨s, hs, rfl⟩ := hc
    simp only [evOp] at hev
    obtain ⟨h1, rfl⟩ := ret1_some hev
    exact op_unop ho hs h1 hw ht hg
  · rename_i src dst x ho
    simp only [Option.bind_eq_bind, Option.bind_eq_some_iff] at hc
    obtain ⟨s, hs, hc⟩ := hc
    exact cConv_ok ho hs hc hev hw ht hg
  · rename_i t x ho
    split at hc
    · cases hc
    · rename_i d hd hu
      simp only [Option.bind_eq_bind, Option.bind_eq_some_iff, Option.some.injEq] at hc
      obtain ⟨s, hs, rfl⟩ := hc
      simp only [evOp] at hev
      obtain ⟨rfl, rfl⟩ := pair_eq hev
      exact op_mkIface ho hs hu (fun ms q => hd ms q) hw ht hg
    · cases hc
  · rename_i f fi ca ho
    simp only [Option.bind_eq_bind, Option.bind_eq_some_iff, Option.some.injEq] at hc
    obtain ⟨s, hs, q, hq, rfl⟩ := hc
    simp only [evOp] at hev
    obtain ⟨rfl, rfl⟩ := pair_eq hev
    exact op_mkFunc ho hs hq hw ht hg
  · rename_i t ho
    cases hc
    simp only [evOp] at hev
    obtain ⟨rfl, rfl⟩ := pair_eq hev
    exact (op_mkMap ho hw.free).goes hw
  · rename_i t x y ho
    split at hc
    · rename_i e0 hu
      simp only [Option.bind_eq_bind, Option.bind_eq_some_iff] at hc
      obtain ⟨size, hs, hc⟩ := hc
      split at hc
      · cases hc
      · rename_i hpos
        simp only [Option.bind_eq_some_iff, Option.some.injEq] at hc
        obtain ⟨bytes, hby, zero, hz, s, hs1, q, hq, rfl⟩ := hc
        simp only [evOp] at hev
        split at hev
        · rename_i l c hl hcc
          obtain ⟨hb, hev⟩ := bif_some hev
          simp only [Bool.and_eq_true] at hb
          obtain ⟨rfl, rfl⟩ := pair_eq hev
          exact (op_mkSlice ho hu hs hpos hby hz hs1 hq hl hcc (Nat.le_of_ble_eq_true hb.1.1) (Nat.le_of_ble_eq_true hb.1.2) (Nat.le_of_ble_eq_true hb.2) hw.free ht hg).goes hw
        · cases hev
    · cases hc
  · rename_i t x lo hi mx ho
    simp only [Option.bind_eq_bind, Option.bind_eq_some_iff] at hc
    obtain ⟨s, hs, sl, hsl, sh, hsh, sm, hsm, hc⟩ := hc
    split at hc
    · cases hc
    · rename_i hmx
      have hmx' : (mx.isSome && hi.isNone) = false := by
        cases hq' : (mx.isSome && hi.isNone) with
        | true => exact absurd hq' hmx
        | false => rfl
      split at hc
      · rename_i hu
        split at hc
        · cases hc
        · rename_i hm0
          cases mx with
          | some z => simp at hm0
          | none =>
            cases hc
            simp only [evOp] at hev
            split at hev
            · rename_i q he
              split at hev
              · rename_i l m k hb
                obtain ⟨rfl, rfl⟩ := pair_eq hev
                exact op_sliceStr ho hs hu hsl hsh he hb hw ht hg
              · cases hev
            · cases hev
      · rename_i e0 hu
        simp only [Option.bind_eq_some_iff] at hc
        obtain ⟨size, hsz, hc⟩ := hc
        split at hc
        · cases hc
        · cases hc
          simp only [evOp] at hev
          split at hev
          · rename_i he
            split at hev
            · rename_i r hb
              obtain ⟨rfl, rfl⟩ := pair_eq hev
              exact op_slice_nil ho hs hu hsz hmx' hsl hsh hsm he hb hw ht hg
            · cases hev
          · rename_i b off len cap e1 he
            obtain ⟨hq, hev⟩ := bif_some hev
            obtain rfl := Nat.eq_of_beq_eq_true hq
            split at hev
            · rename_i l m k hb
              obtain ⟨rfl, rfl⟩ := pair_eq hev
              exact op_slice ho hs hu hsz hmx' hsl hsh hsm he hb hw ht hg
            · cases hev
          · cases hev
      · rename_i n e0 hu
        simp only [Option.bind_eq_some_iff] at hc
        obtain ⟨size, hsz, hc⟩ := hc
        split at hc
        · cases hc
        · rename_i hpos
          cases hc
          exact sliceArr_ok ho hs (.inl hu) hsz hpos hmx' hsl hsh hsm hev hw ht hg
      · rename_i arr hu
        split at hc
        · rename_i n e0 hu2
          simp only [Option.bind_eq_some_iff] at hc
          obtain ⟨size, hsz, hc⟩ := hc
          split at hc
          · cases hc
          · rename_i hpos
            cases hc
            exact sliceArr_ok ho hs (.inr ⟨arr, hu, hu2⟩) hsz hpos hmx' hsl hsh hsm hev hw ht hg
        · cases hc
      · cases hc
  · rename_i t x i ho
    split at hc
    · rename_i fs hu
      simp only [Option.bind_eq_bind, Option.bind_eq_some_iff] at hc
      obtain ⟨f, hf, size, hsz, hc⟩ := hc
      split at hc
      · cases hc
      · rename_i hpos
        simp only [Option.bind_eq_some_iff, Option.some.injEq] at hc
        obtain ⟨s, hs, rfl⟩ := hc
        simp only [evOp] at hev
        split at hev
        · rename_i b off he
          obtain ⟨rfl, rfl⟩ := pair_eq hev
          exact op_fieldAddr ho hs hu hf hsz hpos he hw ht hg
        · cases hev
    · cases hc
  · rename_i t x i ho
    split at hc
    · rename_i fs hu
      simp only [Option.bind_eq_bind, Option.bind_eq_some_iff, Option.some.injEq] at hc
      obtain ⟨f, hf, size, hsz, ag, hag, s, hs, rfl⟩ := hc
      simp only [evOp] at hev
      split at hev
      · rename_i cs he
        obtain ⟨h1, rfl⟩ := ret1_some hev
        exact op_field ho hs hu hf hsz hag he h1 hw ht hg
      · cases hev
    · cases hc
  · rename_i t x i ho
    split at hc
    · rename_i n e0 hu
      simp only [Option.bind_eq_bind, Option.bind_eq_some_iff, Option.some.injEq] at hc
      obtain ⟨size, hsz, s, hs, q, hq, rfl⟩ := hc
      simp only [evOp] at hev
      split at hev
      · rename_i b off j he hj
        obtain ⟨hlt, hev⟩ := bif_some hev
        obtain ⟨rfl, rfl⟩ := pair_eq hev
        exact op_idxAddrArr ho hs hq hu hsz he hj (Nat.le_of_ble_eq_true hlt) hw ht hg
      · cases hev
    · rename_i e0 hu
      simp only [Option.bind_eq_bind, Option.bind_eq_some_iff, Option.some.injEq] at hc
      obtain ⟨size, hsz, s, hs, q, hq, rfl⟩ := hc
      simp only [evOp] at hev
      split at hev
      · rename_i b off len cap e1 j he hj
        obtain ⟨hlt, hev⟩ := bif_some hev
        simp only [Bool.and_eq_true] at hlt
        obtain rfl := Nat.eq_of_beq_eq_true hlt.2
        obtain ⟨rfl, rfl⟩ := pair_eq hev
        exact op_idxAddr ho hs hq hu hsz he hj (Nat.le_of_ble_eq_true hlt.1) hw ht hg
      · cases hev
    · cases hc
  · rename_i t x i ho
    split at hc
    · rename_i n e0 hu
      simp only [Option.bind_eq_bind, Option.bind_eq_some_iff, Option.some.injEq] at hc
      obtain ⟨size, hsz, ag, hag, s, hs, q, hq, rfl⟩ := hc
      simp only [evOp] at hev
      split at hev
      · rename_i cs j he hj
        obtain ⟨hlt, hev⟩ := bif_some hev
        obtain ⟨h1, rfl⟩ := ret1_some hev
        exact op_idxArr ho hs hq hu hsz hag he hj (Nat.le_of_ble_eq_true hlt) h1 hw ht hg
      · cases hev
    · rename_i hu
      simp only [Option.bind_eq_bind, Option.bind_eq_some_iff, Option.some.injEq] at hc
      obtain ⟨s, hs, q, hq, rfl⟩ := hc
      simp only [evOp] at hev
      split at hev
      · rename_i l j he hj
        split at hev
        · rename_i c hlt
          obtain ⟨rfl, rfl⟩ := pair_eq hev
          exact op_idxStr ho hs hq hu he hj hlt hw ht hg
        · cases hev
      · cases hev
    · cases hc
  · rename_i t x k ok ho
    split at hc
    · rename_i key e0 hu
      simp only [Option.bind_eq_bind, Option.bind_eq_some_iff, Option.some.injEq] at hc
      obtain ⟨kd, hk, zero, hz, s, hs, q, hq, rfl⟩ := hc
      obtain ⟨td, hkd⟩ := keyEd_ok hk
      simp only [evOp] at hev
      have main : ∀ res, ((ev tm s = .nilMap ∧ res = none) ∨ ∃ b es, ev tm s = .map b ∧ h.get b = some (.map es) ∧ findKey h kd (ev tm q) es = some res) →
          (match (some res : Option (Option V)) with
            | some (some v) => some (bif ok then V.tuple [v, V.bool true] else v, h)
            | some none => some (bif ok then V.tuple [zero, V.bool false] else zero, h)
            | none => none) = some (v, h') → Goes P ι h w v h' ((execOp a.eval o).run P w) := by
        intro res hr hev
        have := op_lookup ho hs hq hu hkd hz hr hw ht hg
        cases res with
        | none => obtain ⟨rfl, rfl⟩ := pair_eq hev; exact this
        | some u => obtain ⟨rfl, rfl⟩ := pair_eq hev; exact this
      split at hev
      · rename_i u hr
        split at hr
        · rename_i he; cases hr
        · rename_i b he
          split at hr
          · rename_i es hb
            exact main _ (.inr ⟨_, _, he, hb, hr⟩) hev
          · cases hr
        · cases hr
      · rename_i hr
        split at hr
        · rename_i he; exact main none (.inl ⟨he, rfl⟩) hev
        · rename_i b he
          split at hr
          · rename_i es hb
            exact main _ (.inr ⟨_, _, he, hb, hr⟩) hev
          · cases hr
        · cases hr
      · cases hev
    · cases hc
  · rename_i t m k x ho
    exact mapSet_ok (.inl ho) hc hev hw ht hg
  · rename_i t m k x ho
    exact mapSet_ok (.inr ho) hc hev hw ht hg
  · rename_i x i ho
    simp only [Option.bind_eq_bind, Option.bind_eq_some_iff, Option.some.injEq] at hc
    obtain ⟨s, hs, rfl⟩ := hc
    simp only [evOp] at hev
    split at hev
    · rename_i vs he
      obtain ⟨h1, rfl⟩ := ret1_some hev
      exact op_extract ho hs he h1 hw ht hg
    · cases hev
  · rename_i c ho
    split at hc
    · simp only [Option.bind_eq_bind, Option.bind_eq_some_iff, Option.some.injEq] at hc
      obtain ⟨s, hs, q, hq, rfl⟩ := hc
      simp only [evOp] at hev
      cases hev
    · rename_i b hcal
      exact cBuiltin_ok ho hcal hc hev hw ht hg
    · cases hc
  · cases hc
end
end Go.Ev
