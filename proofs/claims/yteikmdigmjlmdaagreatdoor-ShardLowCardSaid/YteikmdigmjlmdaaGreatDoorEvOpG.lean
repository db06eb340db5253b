/-
  Every operation of the evaluator's but calls stands for the model's.
-/
import Derived.Test.YteikmdigmjlmdaaGreatDoorEvOpF
set_option linter.unusedVariables false
set_option linter.unusedSimpArgs false
namespace Go.Ev
section
variable {P : Program} {ι : Inj} {h h' : Hp} {w : World} {tm : T V} {a : Act} {v : V} {o : Oper} {e : EOp}

theorem pair_eq {v v' : V} {h h' : Hp} (e : some (v', h') = some (v, h)) : v' = v ∧ h' = h := by
  simpa using e

theorem ret1_some {r : Option V} (hr : ret1 h r = some (v, h')) : r = some v ∧ h' = h := by
  unfold ret1 at hr
  split at hr
  · obtain ⟨e1, e2⟩ := pair_eq hr; exact ⟨by rw [e1], e2.symm⟩
  · cases hr

theorem bif_some {α : Type} {c : Bool} {x : Option α} {y : α} (h : (bif c then x else none) = some y) : c = true ∧ x = some y := by
  cases c with
  | true => exact ⟨rfl, h⟩
  | false => cases h

theorem keyEd_ok {key : TypeId} {d : ED} (hk : keyEd P key = some d) : ∃ td, KeyOk P key d td := by
  unfold keyEd at hk
  split at hk
  · rename_i k hu; cases hk; exact ⟨_, .int k hu⟩
  · rename_i hu; cases hk; exact ⟨_, .str hu⟩
  · rename_i hu; cases hk; exact ⟨_, .bool hu⟩
  · cases hk

theorem find_of_del {d : ED} {k : V} : ∀ {es es' : List (V × V)}, delKey h d k es = some es' → ∃ res, findKey h d k es = some res
  | [], es', _ => ⟨none, rfl⟩
  | (x, v) :: es, es', hd => by
    unfold delKey at hd
    unfold findKey
    split at hd
    · exact ⟨_, rfl⟩
    · split at hd
      · rename_i r hr; exact find_of_del hr
      · cases hd
    · cases hd

theorem find_of_set {d : ED} {k u : V} : ∀ {es es' : List (V × V)}, setKey h d k u es = some es' → ∃ res, findKey h d k es = some res
  | [], es', _ => ⟨none, rfl⟩
  | (x, v) :: es, es', hd => by
    unfold setKey at hd
    unfold findKey
    split at hd
    · exact ⟨_, rfl⟩
    · split at hd
      · rename_i r hr; exact find_of_set hr
      · cases hd
    · cases hd

theorem cBuiltin_ok {c : Call} {b : Builtin} (ho : o.op = .call c) (hcal : c.callee = .builtin b) (hc : cBuiltin P b c.argTypes c.args.toList = some e) (hev : evOp tm h e = some (v, h'))
    (hw : WR P ι h w) (ht : TR ι tm a.tmps) (hg : GI P ι) : Goes P ι h w v h' ((execOp a.eval o).run P w) := by
  unfold cBuiltin at hc
  simp only [Option.bind_eq_bind, Option.bind_eq_some_iff] at hc
  obtain ⟨l, hl, hc⟩ := hc
  split at hc
  · -- len
    rename_i x
    simp only [Option.bind_eq_some_iff] at hc
    obtain ⟨t, ht0, hc⟩ := hc
    split at hc
    · rename_i n e0 hu
      cases hc
      simp only [evOp] at hev
      obtain ⟨rfl, rfl⟩ := pair_eq hev
      exact op_lenConst (arr := 0) ho hcal hl ht0 (.inl hu) hw ht hg
    · rename_i arr hu
      split at hc
      · rename_i n e0 hu2
        cases hc
        simp only [evOp] at hev
        obtain ⟨rfl, rfl⟩ := pair_eq hev
        exact op_lenConst ho hcal hl ht0 (.inr ⟨hu, hu2⟩) hw ht hg
      · cases hc
    · rename_i hu
      cases hc
      simp only [evOp] at hev
      split at hev
      · rename_i s1 he
        obtain ⟨rfl, rfl⟩ := pair_eq hev
        exact op_len_str ho hcal hl ht0 hu he hw ht hg
      · cases hev
    · rename_i e0 hu
      cases hc
      simp only [evOp] at hev
      split at hev
      · rename_i he
        obtain ⟨rfl, rfl⟩ := pair_eq hev
        exact op_len_slice ho hcal hl ht0 hu (.inl ⟨he, rfl⟩) hw ht hg
      · rename_i b off n cap e1 he
        obtain ⟨rfl, rfl⟩ := pair_eq hev
        exact op_len_slice ho hcal hl ht0 hu (.inr ⟨_, _, _, _, he⟩) hw ht hg
      · cases hev
    · rename_i k0 e0 hu
      cases hc
      simp only [evOp] at hev
      split at hev
      · rename_i he
        obtain ⟨rfl, rfl⟩ := pair_eq hev
        exact op_len_map ho hcal hl ht0 hu (.inl ⟨he, rfl⟩) hw ht hg
      · rename_i b he
        split at hev
        · rename_i es hb
          obtain ⟨rfl, rfl⟩ := pair_eq hev
          exact op_len_map ho hcal hl ht0 hu (.inr ⟨_, _, he, hb, rfl⟩) hw ht hg
        · cases hev
      · cases hev
    · cases hc
  · -- cap
    rename_i x
    simp only [Option.bind_eq_some_iff] at hc
    obtain ⟨t, ht0, hc⟩ := hc
    split at hc
    · rename_i e0 hu
      cases hc
      simp only [evOp] at hev
      split at hev
      · rename_i he
        obtain ⟨rfl, rfl⟩ := pair_eq hev
        exact op_cap ho hcal hl ht0 hu (.inl ⟨he, rfl⟩) hw ht hg
      · rename_i b off n cap e1 he
        split at hev
        · rename_i e2 m kd rows hb
          obtain ⟨hk, hev⟩ := bif_some hev
          obtain ⟨rfl, rfl⟩ := pair_eq hev
          exact op_cap ho hcal hl ht0 hu (.inr ⟨_, _, _, _, _, _, _, _, he, hb, hk⟩) hw ht hg
        · cases hev
      · cases hev
    · cases hc
  · -- append
    rename_i s x
    simp only [Option.bind_eq_some_iff] at hc
    obtain ⟨t, ht0, hc⟩ := hc
    split at hc
    · rename_i e0 hu
      simp only [Option.bind_eq_some_iff] at hc
      obtain ⟨size, hsz, bytes, hby, hc⟩ := hc
      split at hc
      · cases hc
      · rename_i hpos
        simp only [Option.bind_eq_some_iff] at hc
        obtain ⟨t1, ht1, hc⟩ := hc
        split at hc
        · rename_i k hd
          simp only [Option.bind_eq_some_iff] at hc
          obtain ⟨zero, hz, hc⟩ := hc
          cases hc
          simp only [evOp] at hev
          split at hev
          · rename_i n hn
            obtain ⟨hb, hev⟩ := bif_some hev
            simp only [Bool.and_eq_true] at hb
            exact op_appendZeros ho hcal hl ht0 ht1 hu hsz hby hpos hz hd hn (Nat.le_of_ble_eq_true hb.1) (Nat.le_of_ble_eq_true hb.2) hev hw ht hg
          · cases hev
        · rename_i d hni hd
          simp only [Option.bind_eq_some_iff] at hc
          obtain ⟨zero, hz, hc⟩ := hc
          cases hc
          simp only [evOp] at hev
          split at hev
          · rename_i n hn
            split at hev
            · rename_i new hnew
              exact op_append ho hcal hl ht0 ht1 hu hsz hby hpos hz hd (fun k q => hni k q) hn hnew hev hw ht hg
            · cases hev
          · cases hev
        · cases hc
    · cases hc
  · -- copy
    rename_i d s
    simp only [Option.bind_eq_some_iff] at hc
    obtain ⟨t, ht0, hc⟩ := hc
    split at hc
    · rename_i e0 hu
      simp only [Option.bind_eq_some_iff] at hc
      obtain ⟨size, hsz, hc⟩ := hc
      split at hc
      · cases hc
      · cases hc
        simp only [evOp] at hev
        split at hev
        · rename_i n hn he
          obtain ⟨rfl, rfl⟩ := pair_eq hev
          exact op_copy (new := []) ho hcal hl ht0 hu hsz hn (.inl ⟨he, rfl, rfl⟩) hw ht hg
        · rename_i n b off l cap e1 hn he
          obtain ⟨hq, hev⟩ := bif_some hev
          obtain rfl := Nat.eq_of_beq_eq_true hq
          split at hev
          · rename_i new hnew
            split at hev
            · rename_i h1 hst
              obtain ⟨rfl, rfl⟩ := pair_eq hev
              exact op_copy ho hcal hl ht0 hu hsz hn (.inr ⟨_, _, _, _, he, rfl, hnew, hst⟩) hw ht hg
            · cases hev
          · cases hev
        · cases hev
    · cases hc
  · -- delete
    rename_i m k
    simp only [Option.bind_eq_some_iff] at hc
    obtain ⟨t, ht0, hc⟩ := hc
    split at hc
    · rename_i key e0 hu
      simp only [Option.bind_eq_some_iff] at hc
      obtain ⟨kd, hk, hc⟩ := hc
      cases hc
      obtain ⟨td, hkd⟩ := keyEd_ok hk
      simp only [evOp] at hev
      split at hev
      · rename_i he
        obtain ⟨rfl, rfl⟩ := pair_eq hev
        exact op_mapDel ho hcal hl ht0 hu hkd (.inl ⟨he, rfl⟩) hw ht hg
      · rename_i b he
        split at hev
        · rename_i es hb
          split at hev
          · rename_i es' hdel
            obtain ⟨rfl, rfl⟩ := pair_eq hev
            obtain ⟨res, hres⟩ := find_of_del hdel
            exact op_mapDel ho hcal hl ht0 hu hkd (.inr ⟨_, _, _, _, he, hb, hres, hdel, rfl⟩) hw ht hg
          · cases hev
        · cases hev
      · cases hev
    · cases hc
  · -- min
    cases hc
    exact op_minmax (mx := false) ho hcal hl hev hw ht hg
  · -- max
    cases hc
    exact op_minmax (mx := true) ho hcal hl hev hw ht hg
  · -- clear
    rename_i x
    simp only [Option.bind_eq_some_iff] at hc
    obtain ⟨t, ht0, hc⟩ := hc
    split at hc
    · rename_i e0 hu
      simp only [Option.bind_eq_some_iff] at hc
      obtain ⟨size, hsz, hc⟩ := hc
      split at hc
      · cases hc
      · rename_i hpos
        simp only [Option.bind_eq_some_iff] at hc
        obtain ⟨zero, hz, hc⟩ := hc
        cases hc
        simp only [evOp] at hev
        split at hev
        · rename_i he
          obtain ⟨rfl, rfl⟩ := pair_eq hev
          exact op_clearSlice ho hcal hl ht0 hu hsz hpos hz (.inl ⟨he, rfl⟩) hw ht hg
        · rename_i b off l cap e1 he
          obtain ⟨hq, hev⟩ := bif_some hev
          obtain rfl := Nat.eq_of_beq_eq_true hq
          split at hev
          · rename_i h1 hst
            obtain ⟨rfl, rfl⟩ := pair_eq hev
            exact op_clearSlice ho hcal hl ht0 hu hsz hpos hz (.inr ⟨_, _, _, _, he, hst⟩) hw ht hg
          · cases hev
        · cases hev
    · cases hc
  · cases hc

theorem cConv_ok {src dst : TypeId} {x : Operand} {s : S} (ho : o.op = .convert src dst x) (hs : cS P x = some s) (hc : cConv P src dst s = some e) (hev : evOp tm h e = some (v, h'))
    (hw : WR P ι h w) (ht : TR ι tm a.tmps) (hg : GI P ι) : Goes P ι h w v h' ((execOp a.eval o).run P w) := by
  unfold cConv at hc
  split at hc
  · rename_i k' k h1 h2
    cases hc
    simp only [evOp] at hev
    split at hev
    · rename_i heq he; cases heq
      obtain ⟨rfl, rfl⟩ := pair_eq hev
      exact op_conv_int ho hs h1 h2 he hw ht hg
    all_goals first | (rename_i heq _; cases heq; done) | (rename_i heq _ _; cases heq; done) | cases hev
  · rename_i h1 h2
    cases hc
    simp only [evOp] at hev
    split at hev
    · rename_i heq he; cases heq
    · rename_i he
      obtain ⟨rfl, rfl⟩ := pair_eq hev
      exact op_conv_strStr ho hs h1 h2 he hw ht hg
    all_goals first | (rename_i heq _; cases heq; done) | (rename_i heq _ _; cases heq; done) | cases hev
  · rename_i e0 h1 h2
    split at hc
    · rename_i h3
      cases hc
      simp only [evOp] at hev
      split at hev
      · rename_i heq he; cases heq
      · rename_i heq he; cases heq
      · rename_i he
        obtain ⟨rfl, rfl⟩ := pair_eq hev
        exact (op_conv_strBytes ho hs h1 h2 h3 he hw.free ht hg).goes hw
      all_goals first | (rename_i heq _; cases heq; done) | (rename_i heq _ _; cases heq; done) | cases hev
    · cases hc
  · rename_i e0 h1 h2
    split at hc
    · rename_i h3
      cases hc
      simp only [evOp] at hev
      split at hev
      · rename_i heq he; cases heq
      · rename_i heq he; cases heq
      · rename_i heq he; cases heq
      · rename_i he
        obtain ⟨rfl, rfl⟩ := pair_eq hev
        exact op_conv_bytesStr_nil ho hs h1 h2 h3 he hw ht hg
      · rename_i b off l cap e1 he
        obtain ⟨hq, hev⟩ := bif_some hev
        obtain rfl := Nat.eq_of_beq_eq_true hq
        split at hev
        · rename_i cs hcs
          split at hev
          · rename_i s1 hb
            obtain ⟨rfl, rfl⟩ := pair_eq hev
            exact op_conv_bytesStr ho hs h1 h2 h3 he hcs hb hw ht hg
          · cases hev
        · cases hev
      · cases hev
    · cases hc
  · cases hc
end
end Go.Ev
