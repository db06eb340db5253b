/-
  The evaluator's operations stand for the model's: equality, maps.
-/
import Derived.Test.YteikmdigmjlmdaaGreatDoorEvOpD
import Derived.Laws.StructEq
set_option linter.unusedVariables false
set_option linter.unusedSimpArgs false
namespace Go.Ev
section
variable {P : Program} {ι : Inj} {h h' : Hp} {w : World} {tm : T V} {a : Act} {v : V} {o : Oper}

/-! ### Equality -/
theorem live_at {b off : Nat} {i : BI} (hw : WR P ι h w) (hi : ι b = some i) (hl : h.live b off = true) :
    ∃ e n rows c t, h.get b = some (.cells e n .exact rows) ∧ w.heap[i.cb]? = some (.cells c t (0, 0)) ∧ off < n ∧ i.d + n = c.size := by
  unfold Hp.live at hl
  split at hl
  · rename_i e n kd rows heq
    simp only [Bool.and_eq_true] at hl
    have hex : kd = .exact := by cases kd <;> simp_all [BK.isExact]
    subst hex
    obtain ⟨h1, h2, h3, c, t, fr, h4, h5, h6, h7, h8, h9⟩ := hw.rel b i _ hi heq
    obtain ⟨g1, g2⟩ := h7 rfl
    subst g2
    exact ⟨e, n, rows, c, t, heq, h4, Nat.le_of_ble_eq_true hl.2, by omega⟩
  · cases hl

theorem frozen_exact {cb off : Nat} {c : Array Value} {t : TypeId} (h : w.heap[cb]? = some (.cells c t (0, 0))) : w.frozen? ⟨cb, off, none⟩ = false := by
  unfold World.frozen?
  rw [h]
  simp

theorem run_sameAddr {b b' off off' : Nat} {i i' : BI} (hw : WR P ι h w) (hi : ι b = some i) (hi' : ι b' = some i') (hne : b ≠ b') (hl : h.live b off = true) (hl' : h.live b' off' = true) :
    (sameAddr ⟨i.cb, i.d + off, none⟩ ⟨i'.cb, i'.d + off', none⟩).run P w = .ok false w := by
  obtain ⟨e, n, rows, c, t, g1, g2, g3, g4⟩ := live_at hw hi hl
  obtain ⟨e', n', rows', c', t', g1', g2', g3', g4'⟩ := live_at hw hi' hl'
  have hcb : i.cb ≠ i'.cb := hw.inj b b' i i' _ _ hne hi hi' g1 g1' rfl rfl (by simp [Blk.isRo, BK.isRo])
  have hsh : w.shape? i.cb = some (t, c.size) := by unfold World.shape?; rw [g2]
  have hsh' : w.shape? i'.cb = some (t', c'.size) := by unfold World.shape?; rw [g2']
  have f1 : ∀ q, w.frozen? ⟨i.cb, q, none⟩ = false := fun q => frozen_exact g2
  have f2 : ∀ q, w.frozen? ⟨i'.cb, q, none⟩ = false := fun q => frozen_exact g2'
  simp [sameAddr, hcb, f1, f2, noView, viewAt, hsh, hsh', mayBeOne, stringish]

theorem eqV_bool {u v : V} {r : Bool} (hr : eqV h .bool u v = some r) : ∃ a b, u = .bool a ∧ v = .bool b ∧ r = (a == b) := by
  cases u <;> cases v <;> simp [eqV] at hr
  exact ⟨_, _, rfl, rfl, hr.symm⟩
theorem eqV_int {u v : V} {r : Bool} (hr : eqV h .int u v = some r) : ∃ k a b, u = .int k a ∧ v = .int k b ∧ r = (a == b) := by
  cases u <;> cases v <;> simp [eqV] at hr
  rename_i k a l b
  cases hk : kindEq k l with
  | false => rw [hk] at hr; simp at hr
  | true =>
    rw [hk] at hr
    obtain rfl := kindEq_iff.1 hk
    simp only [cond_true, Option.some.injEq] at hr
    exact ⟨_, _, _, rfl, rfl, by rw [int_beq]; exact hr.symm⟩
theorem eqV_str {u v : V} {r : Bool} (hr : eqV h .str u v = some r) : ∃ a b, u = .str a ∧ v = .str b ∧ r = eqNats a b := by
  cases u <;> cases v <;> simp [eqV] at hr
  exact ⟨_, _, rfl, rfl, hr.symm⟩
theorem eqV_struct {fs : List (Nat × Nat × Bool × ED)} {u v : V} {r : Bool} (hr : eqV h (.struct fs) u v = some r) : ∃ a b, u = .agg a ∧ v = .agg b ∧ eqFs h fs a b = some r := by
  cases u <;> cases v <;> simp [eqV] at hr
  exact ⟨_, _, rfl, rfl, hr⟩

theorem eq_ptr {t e : TypeId} {size m : Nat} {u v : V} {x y : Value} {r : Bool} (hu : P.underlying t = some (.pointer e)) (hs : sizeB P e = some (size + 1)) (hw : WR P ι h w) (hr : eqV h .ptr u v = some r) (hx : VR ι u x) (hy : VR ι v y) :
    (Op.equalIn (m + 1) t x y).run P w = .ok r w := by
  cases u <;> cases v <;> simp [eqV] at hr
  · rename_i b off b' off'
    obtain ⟨i, hi, rfl⟩ := VR_ptr hx
    obtain ⟨i', hi', rfl⟩ := VR_ptr hy
    by_cases hb : b = b'
    · subst hb
      rw [hi] at hi'; cases hi'
      rw [beq_yes rfl] at hr
      simp only [cond_true, Option.some.injEq] at hr
      subst hr
      simp only [Op.equalIn, Sem.run_bind, run_underlying hu, Result.andThen_ok, run_sizeOf hs, ne_eq, Nat.add_one_ne_zero, not_false_eq_true, if_true, sameAddr, beq_self_eq_true, Sem.run_pure]
      congr 1
      rw [Bool.eq_iff_iff]
      simp
    · rw [beq_no hb] at hr
      simp only [cond_false] at hr
      cases hl : h.live b off && h.live b' off' with
      | false => rw [hl] at hr; simp at hr
      | true =>
        rw [hl] at hr
        simp only [Bool.and_eq_true] at hl
        simp only [cond_true, Option.some.injEq] at hr
        subst hr
        simp only [Op.equalIn, Sem.run_bind, run_underlying hu, Result.andThen_ok, run_sizeOf hs, ne_eq, Nat.add_one_ne_zero, not_false_eq_true, if_true]
        exact run_sameAddr hw hi hi' hb hl.1 hl.2
  · obtain ⟨i, hi, rfl⟩ := VR_ptr hx
    simp only [VR] at hy
    subst hy; subst hr
    simp [Op.equalIn, run_underlying hu]
  · obtain ⟨i, hi, rfl⟩ := VR_ptr hy
    simp only [VR] at hx
    subst hx; subst hr
    simp [Op.equalIn, run_underlying hu]
  · simp only [VR] at hx hy
    subst hx; subst hy; subst hr
    simp [Op.equalIn, run_underlying hu]

theorem eq_sl {t : TypeId} {m : Nat} {u v : V} {x y : Value} {r : Bool} {e : TypeId} (hu : P.underlying t = some (.slice e)) (hr : eqV h .sl u v = some r) (hx : VR ι u x) (hy : VR ι v y) :
    (Op.equalIn (m + 1) t x y).run P w = .ok r w := by
  cases u <;> cases v <;> simp [eqV] at hr <;> subst hr <;> simp only [VR] at hx hy
  · obtain ⟨i, c1, c2, _, rfl, _⟩ := hx
    subst hy
    simp [Op.equalIn, run_underlying hu]
  · obtain ⟨i, c1, c2, _, rfl, _⟩ := hy
    subst hx
    simp [Op.equalIn, run_underlying hu]
  · subst hx; subst hy
    simp [Op.equalIn, run_underlying hu]

theorem eq_mp {t : TypeId} {m : Nat} {u v : V} {x y : Value} {r : Bool} {k e : TypeId} (hu : P.underlying t = some (.map k e)) (hr : eqV h .mp u v = some r) (hx : VR ι u x) (hy : VR ι v y) :
    (Op.equalIn (m + 1) t x y).run P w = .ok r w := by
  cases u <;> cases v <;> simp [eqV] at hr <;> subst hr <;> simp only [VR] at hx hy
  · obtain ⟨i, _, rfl⟩ := hx
    subst hy
    simp [Op.equalIn, run_underlying hu]
  · obtain ⟨i, _, rfl⟩ := hy
    subst hx
    simp [Op.equalIn, run_underlying hu]
  · subst hx; subst hy
    simp [Op.equalIn, run_underlying hu]

theorem eq_fn {t : TypeId} {m : Nat} {u v : V} {x y : Value} {r : Bool} {p q : Array TypeId} {b : Bool} (hu : P.underlying t = some (.func p q b)) (hr : eqV h .fn u v = some r) (hx : VR ι u x) (hy : VR ι v y) :
    (Op.equalIn (m + 1) t x y).run P w = .ok r w := by
  cases u <;> cases v <;> simp [eqV] at hr <;> subst hr <;> simp only [VR] at hx hy
  · obtain ⟨f, c, rfl, _⟩ := hx
    subst hy
    simp [Op.equalIn, run_underlying hu]
  · obtain ⟨f, c, rfl, _⟩ := hy
    subst hx
    simp [Op.equalIn, run_underlying hu]
  · subst hx; subst hy
    simp [Op.equalIn, run_underlying hu]

theorem eq_ifc {t : TypeId} {m : Nat} {u v : V} {x y : Value} {r : Bool} {ms : Array (String × TypeId)} (hu : P.underlying t = some (.interface ms)) (hr : eqV h .ifc u v = some r) (hx : VR ι u x) (hy : VR ι v y) :
    (Op.equalIn (m + 1) t x y).run P w = .ok r w := by
  cases u <;> cases v <;> simp [eqV] at hr <;> subst hr <;> simp only [VR] at hx hy
  · obtain ⟨f, rfl, _⟩ := hx
    subst hy
    simp [Op.equalIn, run_underlying hu]
  · obtain ⟨f, rfl, _⟩ := hy
    subst hx
    simp [Op.equalIn, run_underlying hu]
  · subst hx; subst hy
    simp [Op.equalIn, run_underlying hu]


mutual
theorem eqV_ok (hw : WR P ι h w) : ∀ (d : Nat) (t : TypeId) (ed : ED) (u v : V) (x y : Value) (r : Bool) (m : Nat), edOf P d t = some ed → d ≤ m → eqV h ed u v = some r → VR ι u x → VR ι v y →
    (Op.equalIn m t x y).run P w = .ok r w
  | 0, t, ed, u, v, x, y, r, m, he, _, _, _, _ => by simp [edOf] at he
  | d + 1, t, ed, u, v, x, y, r, m, he, hm, hr, hx, hy => by
    obtain ⟨m, rfl⟩ : ∃ q, m = q + 1 := ⟨m - 1, by omega⟩
    unfold edOf at he
    split at he
    · rename_i hu
      cases he
      obtain ⟨p, q, rfl, rfl, rfl⟩ := eqV_bool hr
      obtain rfl := VR_bool hx
      obtain rfl := VR_bool hy
      simp [Op.equalIn, run_underlying hu]
    · rename_i hu
      cases he
      obtain ⟨k, p, q, rfl, rfl, rfl⟩ := eqV_int hr
      obtain rfl := VR_int hx
      obtain rfl := VR_int hy
      simp [Op.equalIn, run_underlying hu]
    · rename_i hu
      cases he
      obtain ⟨p, q, rfl, rfl, rfl⟩ := eqV_str hr
      obtain ⟨b, rfl, rfl⟩ := VR_str hx
      obtain ⟨c, rfl, rfl⟩ := VR_str hy
      rw [run_equalIn_string w m t b c hu, str_eq]
    · rename_i e hu
      split at he
      · rename_i n hs
        cases he
        exact eq_ptr hu hs hw hr hx hy
      · cases he
    · rename_i e hu
      cases he
      exact eq_sl hu hr hx hy
    · rename_i k e hu
      cases he
      exact eq_mp hu hr hx hy
    · rename_i p q b hu
      cases he
      exact eq_fn hu hr hx hy
    · rename_i ms hu
      cases he
      exact eq_ifc hu hr hx hy
    · rename_i fs hu
      split at he
      · cases he
      · rename_i hst
        simp only [Option.map_eq_some_iff] at he
        obtain ⟨efs, hefs, rfl⟩ := he
        obtain ⟨p, q, rfl, rfl, hr⟩ := eqV_struct hr
        obtain ⟨xs, rfl, hxs⟩ := VR_agg hx
        obtain ⟨ys, rfl, hys⟩ := VR_agg hy
        have hf : P.fieldsOf t = fs := by unfold Program.fieldsOf; rw [hu]
        rw [run_equalIn_struct w m t xs ys (by rw [hf]; exact hu) (by simpa using hst), hf]
        exact eqFs_ok hw d fs.toList efs p q xs ys r m hefs (by omega) hr hxs hys
    · cases he
theorem eqFs_ok (hw : WR P ι h w) : ∀ (d : Nat) (fs : List Field) (efs : List (Nat × Nat × Bool × ED)) (p q : List V) (xs ys : Array Value) (r : Bool) (m : Nat), edFs P (edOf P d) fs = some efs → d ≤ m → eqFs h efs p q = some r →
    VRs ι p xs.toList → VRs ι q ys.toList → (Op.eqFields m xs ys fs).run P w = .ok r w
  | d, [], efs, p, q, xs, ys, r, m, he, _, hr, _, _ => by
    simp only [edFs, Option.some.injEq] at he
    subst he
    simp only [eqFs, Option.some.injEq] at hr
    subst hr
    simp [Op.eqFields]
  | d, f :: fs, efs, p, q, xs, ys, r, m, he, hm, hr, hx, hy => by
    unfold edFs at he
    split at he
    · rename_i hname
      have := eqFs_ok hw d fs efs p q xs ys r m he hm hr hx hy
      simpa [Op.eqFields, hname] using this
    · rename_i hname
      split at he
      · rename_i s a ed rest hs ha hed hrest
        cases he
        simp only [eqFs] at hr
        split at hr
        · rename_i u v hu hv
          obtain ⟨y1, hr1, r1⟩ := run_part (w := w) hs ha hx hu
          obtain ⟨y2, hr2, r2⟩ := run_part (w := w) hs ha hy hv
          split at hr
          · rename_i h1
            have e1 := eqV_ok hw d f.type ed u v y1 y2 true m hed hm h1 r1 r2
            have e2 := eqFs_ok hw d fs rest p q xs ys r m hrest hm hr hx hy
            simp [Op.eqFields, hname, hr1, hr2, e1, e2]
          · rename_i h1
            have e1 := eqV_ok hw d f.type ed u v y1 y2 false m hed hm h1 r1 r2
            cases hr
            simp [Op.eqFields, hname, hr1, hr2, e1]
          · cases hr
        · cases hr
      · cases he
end

/-- values that '==' hands to the model's equality -/
def eqKind : Value → Bool
  | .int .. | .float .. | .complex .. | .string _ => false
  | _ => true

theorem binOp_eql {t : TypeId} {x y : Value} (hx : eqKind x = true) : Go.binOp .eql t x y = (do pure (.bool (← Op.equal t x y))) := by
  cases x <;> simp [eqKind] at hx <;> cases y <;> rfl
theorem binOp_neq {t : TypeId} {x y : Value} (hx : eqKind x = true) : Go.binOp .neq t x y = (do pure (.bool (!(← Op.equal t x y)))) := by
  cases x <;> simp [eqKind] at hx <;> cases y <;> rfl

theorem eqKind_of {ed : ED} {u v : V} {x : Value} {r : Bool} (hr : eqV h ed u v = some r) (h1 : ed ≠ .int) (h2 : ed ≠ .str) (hx : VR ι u x) : eqKind x = true := by
  cases u with
  | int k n => cases ed <;> simp [eqV] at hr; exact absurd rfl h1
  | str s => cases ed <;> simp [eqV] at hr; exact absurd rfl h2
  | bool b => simp only [VR] at hx; subst hx; rfl
  | ptr b off => obtain ⟨i, _, rfl⟩ := VR_ptr hx; rfl
  | nilPtr => simp only [VR] at hx; subst hx; rfl
  | slice b off l c e => obtain ⟨i, _, _, _, rfl, _⟩ := VR_slice hx; rfl
  | nilSlice => simp only [VR] at hx; subst hx; rfl
  | map b => obtain ⟨i, _, rfl⟩ := VR_map hx; rfl
  | nilMap => simp only [VR] at hx; subst hx; rfl
  | func f a c => simp only [VR] at hx; obtain ⟨_, _, rfl, _⟩ := hx; rfl
  | yield b => simp only [VR] at hx; obtain ⟨_, _, rfl⟩ := hx; rfl
  | nilFunc => simp only [VR] at hx; subst hx; rfl
  | iface t v => simp only [VR] at hx; obtain ⟨_, rfl, _⟩ := hx; rfl
  | nilIface => simp only [VR] at hx; subst hx; rfl
  | agg cs => obtain ⟨_, rfl, _⟩ := VR_agg hx; rfl
  | tuple vs => obtain ⟨_, rfl, _⟩ := VR_tuple hx; rfl

theorem guard_nil {neg : Bool} {op : BinOp} {t : TypeId} {x y : Operand} (hop : op = if neg then .neq else .eql) (hcst : (isConstO x || isConstO y) = true) : (eqGuard op t x y .nilIface .nilIface).run P w = .ok () w := by
  subst hop
  cases neg <;> cases x <;> cases y <;> first | (simp [isConstO] at hcst; done) | simp [eqGuard]

theorem op_eqv {neg : Bool} {op : BinOp} {t t' : TypeId} {x y : Operand} {s q : S} {ed : ED} {r : Bool} (ho : o.op = .binOp op t x y t') (hop : op = if neg then .neq else .eql) (hc : cS P x = some s) (hd : cS P y = some q)
    (hed : edOf P 20 t = some ed) (h1 : ed ≠ .int) (h2 : ed ≠ .str) (hgd : (∃ ms, P.underlying t = some (.interface ms)) → (isConstO x || isConstO y) = true) (hgt : ∀ fs, ed = .struct fs → P.eqGuardType P.depth t = false)
    (hr : eqV h ed (ev tm s) (ev tm q) = some r) (hw : WR P ι h w) (ht : TR ι tm a.tmps) (hg : GI P ι) :
    Goes P ι h w (.bool (bif neg then !r else r)) h ((execOp a.eval o).run P w) := by
  have hx := cS_ok hc ht hg
  have hy := cS_ok hd ht hg
  have heq : (Op.equal t (a.eval x) (a.eval y)).run P w = .ok r w := eqV_ok hw 20 t ed _ _ _ _ r _ hed (by simp [Op.maxDepth]) hr hx hy
  have hk := eqKind_of hr h1 h2 hx
  have hguard : (eqGuard op t x y (a.eval x) (a.eval y)).run P w = .ok () w := by
    have hif : ∀ ms, P.underlying t = some (.interface ms) → (isConstO x || isConstO y) = true := fun ms e => hgd ⟨ms, e⟩
    by_cases hnil : a.eval x = .nilIface ∧ a.eval y = .nilIface
    · have hti : ∃ ms, P.underlying t = some (.interface ms) := by
        unfold edOf at hed
        obtain ⟨n1, n2⟩ := hnil
        have hvx : ev tm s = .nilIface := by
          rw [n1] at hx
          cases hu : ev tm s <;> rw [hu] at hx <;> first | rfl | (simp [VR] at hx; done)
        rw [hvx] at hr
        split at hed <;> (try (cases hed)) <;> (try (split at hed <;> cases hed)) <;> (try (simp [eqV] at hr; done))
        · exact ⟨_, by assumption⟩
        · split at hed
          · cases hed
          · simp only [Option.map_eq_some_iff] at hed
            obtain ⟨_, _, rfl⟩ := hed
            simp [eqV] at hr
      obtain ⟨ms, hms⟩ := hti
      have hcst := hif ms hms
      rw [hnil.1, hnil.2]
      exact guard_nil hop hcst
    · by_cases hagg : (∃ xs, a.eval x = .agg xs) ∧ (∃ ys, a.eval y = .agg ys)
      · obtain ⟨⟨xs, e1⟩, ⟨ys, e2⟩⟩ := hagg
        have : ∃ fs, ed = .struct fs := by
          rw [e1] at hx
          cases hu : ev tm s <;> rw [hu] at hx <;> simp [VR] at hx
          rw [hu] at hr
          cases ed <;> simp [eqV] at hr
          exact ⟨_, rfl⟩
        obtain ⟨fs, hfs⟩ := this
        rw [e1, e2]
        exact run_eqGuard_agg w op t x y xs ys (hgt fs hfs)
      · unfold eqGuard
        subst hop
        cases neg <;> simp <;> split <;> first | rfl | (exfalso; rename_i e1 e2; first | exact hnil ⟨e1, e2⟩ | exact hagg ⟨⟨_, e1⟩, ⟨_, e2⟩⟩)
  refine .pure (x := .bool (bif neg then !r else r)) hw ?_ (by simp [VR])
  subst hop
  cases neg with
  | false =>
    simp only [Bool.false_eq_true, if_false] at ho hguard
    simp [execOp, ho, hguard, binOp_eql hk, heq]
  | true =>
    simp only [if_true] at ho hguard
    simp [execOp, ho, hguard, binOp_neq hk, heq]

/-! ### Maps -/
theorem list_modify_mid {α : Type} (x : α) (f : α → α) (b : List α) : ∀ a : List α, (a ++ x :: b).modify a.length f = a ++ f x :: b
  | [] => rfl
  | y :: a => by
    have := list_modify_mid x f b a
    simp only [List.cons_append, List.length_cons, List.modify_succ_cons, this]

/-- the keys that the evaluator's maps take -/
inductive KeyOk (P : Program) (key : TypeId) : ED → TypeDesc → Prop where
  | int (k : IntKind) : P.underlying key = some (.int k) → KeyOk P key .int (.int k)
  | str : P.underlying key = some .string → KeyOk P key .str .string
  | bool : P.underlying key = some .bool → KeyOk P key .bool .bool

theorem key_same {key : TypeId} {d : ED} {td : TypeDesc} {u v : V} {x y : Value} {r : Bool} (hk : KeyOk P key d td) (hr : eqV h d u v = some r) (hx : VR ι u x) (hy : VR ι v y) : Instr.sameNow td x y = some r := by
  cases hk with
  | int k hu =>
    obtain ⟨l, a, b, rfl, rfl, rfl⟩ := eqV_int hr
    obtain rfl := VR_int hx
    obtain rfl := VR_int hy
    simp [Instr.sameNow]
  | str hu =>
    obtain ⟨a, b, rfl, rfl, rfl⟩ := eqV_str hr
    obtain ⟨a', rfl, rfl⟩ := VR_str hx
    obtain ⟨b', rfl, rfl⟩ := VR_str hy
    simp only [Instr.sameNow, beq_toListBytes, str_eq]
  | bool hu =>
    obtain ⟨a, b, rfl, rfl, rfl⟩ := eqV_bool hr
    obtain rfl := VR_bool hx
    obtain rfl := VR_bool hy
    simp [Instr.sameNow]

theorem key_bits {key : TypeId} {d : ED} {td : TypeDesc} {u v : V} {x y : Value} (n : Nat) (hk : KeyOk P key d td) (hr : eqV h d u v = some true) (hx : VR ι u x) (hy : VR ι v y) : Instr.sameBits (n + 1) y x = true := by
  cases hk with
  | int k hu =>
    obtain ⟨l, a, b, rfl, rfl, e⟩ := eqV_int hr
    obtain rfl := VR_int hx
    obtain rfl := VR_int hy
    have : a = b := by simpa using e.symm
    subst this
    simp [Instr.sameBits]
  | str hu =>
    obtain ⟨a, b, rfl, rfl, e⟩ := eqV_str hr
    obtain ⟨a', rfl, rfl⟩ := VR_str hx
    obtain ⟨b', rfl, rfl⟩ := VR_str hy
    have : (a' == b') = true := by rw [beq_toListBytes, str_eq]; exact e.symm
    have e2 : a' = b' := by
      rw [beq_toListBytes, ByteArray.toList_eq, ByteArray.toList_eq] at this
      have := eq_of_beq this
      obtain ⟨⟨p⟩⟩ := a'
      obtain ⟨⟨q⟩⟩ := b'
      simp at this
      rw [this]
    subst e2
    simp only [Instr.sameBits]
    rw [beq_toListBytes]; simp
  | bool hu =>
    obtain ⟨a, b, rfl, rfl, e⟩ := eqV_bool hr
    obtain rfl := VR_bool hx
    obtain rfl := VR_bool hy
    have : a = b := by simpa using e.symm
    subst this
    simp [Instr.sameBits]

theorem key_check {key : TypeId} {d : ED} {td : TypeDesc} (n : Nat) {x : Value} {e : Bool} (hk : KeyOk P key d td) : (Instr.checkKey e (n + 1) key x).run P w = .ok () w := by
  cases hk with
  | int k hu => simp [Instr.checkKey, run_underlying hu]
  | str hu => simp [Instr.checkKey, run_underlying hu]
  | bool hu => simp [Instr.checkKey, run_underlying hu]

theorem key_under {key : TypeId} {d : ED} {td : TypeDesc} (hk : KeyOk P key d td) : P.underlying key = some td := by cases hk <;> assumption

theorem find_ok {key : TypeId} {d : ED} {td : TypeDesc} {k : V} {x : Value} (hk : KeyOk P key d td) (hx : VR ι k x) : ∀ (es : List (V × V)) (l : List MapEntry) (n : Nat) (res : Option V), ER ι es l → findKey h d k es = some res →
    (res = none ∧ Instr.findNow td x l n = some none ∧ (∀ v, setKey h d k v es = some (es ++ [(k, v)])) ∧ delKey h d k es = some es) ∨
    (∃ pre kk vv post lpre e lpost, es = pre ++ (kk, vv) :: post ∧ l = lpre ++ e :: lpost ∧ ER ι pre lpre ∧ VR ι kk e.key ∧ VR ι vv e.val ∧ ER ι post lpost ∧ res = some vv ∧
      Instr.findNow td x l n = some (some (n + lpre.length, e.val)) ∧ eqV h d k kk = some true ∧ (∀ v, setKey h d k v es = some (pre ++ (k, v) :: post)) ∧ delKey h d k es = some (pre ++ post))
  | [], l, n, res, hl, hf => by
    simp only [ER] at hl
    subst hl
    simp only [findKey, Option.some.injEq] at hf
    exact .inl ⟨hf.symm, rfl, fun v => rfl, rfl⟩
  | (kk, vv) :: es, l, n, res, hl, hf => by
    obtain ⟨e, r, rfl, h1, h2, h3⟩ := hl
    simp only [findKey] at hf
    split at hf
    · rename_i heq
      cases hf
      refine .inr ⟨[], kk, vv, es, [], e, r, rfl, rfl, by simp [ER], h1, h2, h3, rfl, ?_, heq, fun v => by simp [setKey, heq], by simp [delKey, heq]⟩
      simp [Instr.findNow, key_same hk heq hx h1]
    · rename_i heq
      have hs := key_same hk heq hx h1
      rcases find_ok hk hx es r (n + 1) res h3 hf with ⟨a1, a2, a3, a4⟩ | ⟨pre, k2, v2, post, lpre, e2, lpost, b1, b2, b3, b4, b5, b6, b7, b8, b9, b10, b11⟩
      · exact .inl ⟨a1, by simp [Instr.findNow, hs, a2], fun v => by simp [setKey, heq, a3], by simp [delKey, heq, a4]⟩
      · refine .inr ⟨(kk, vv) :: pre, k2, v2, post, e :: lpre, e2, lpost, by rw [b1]; rfl, by rw [b2]; rfl, ⟨e, lpre, rfl, h1, h2, b3⟩, b4, b5, b6, b7, ?_, b9, fun v => by simp [setKey, heq, b10], by simp [delKey, heq, b11]⟩
        simp only [Instr.findNow, hs, b8, List.length_cons]
        congr 3; omega
    · cases hf

theorem ER_append : ∀ {es fs : List (V × V)} {l m : List MapEntry}, ER ι es l → ER ι fs m → ER ι (es ++ fs) (l ++ m)
  | [], fs, l, m, h1, h2 => by simp only [ER] at h1; subst h1; exact h2
  | (k, v) :: es, fs, l, m, ⟨e, r, q, h1, h2, h3⟩, k2 => by subst q; exact ⟨e, r ++ m, rfl, h1, h2, ER_append h3 k2⟩

theorem run_getObj {r : Nat} {ob : Obj} (hr : w.heap[r]? = some ob) (hc : ∀ c t f, ob ≠ .cells c t f) : (getObj r).run P w = .ok ob w := by
  simp only [getObj, Sem.run, hr]

theorem run_setObj {r : Nat} {ob ob' : Obj} (hr : w.heap[r]? = some ob) (hc : ∀ c t f, ob ≠ .cells c t f) :
    ∃ w', (setObj r ob').run P w = .ok () w' ∧ Upd w r ob' w' := by
  have hlt := lt_of_heap hr
  refine ⟨{ w with heap := w.heap.setIfInBounds r ob' }, ?_, ⟨by simp, by simp [hlt], fun k hk => by rw [Array.getElem?_setIfInBounds_ne (Ne.symm hk)], rfl, rfl, rfl⟩⟩
  simp only [setObj, Sem.run, hr]

theorem op_lookup {t key e : TypeId} {x y : Operand} {s q : S} {d : ED} {td : TypeDesc} {zero : V} {ok : Bool} {res : Option V} (ho : o.op = .lookup t x y ok) (hc : cS P x = some s) (hd : cS P y = some q)
    (hu : P.underlying t = some (.map key e)) (hk : KeyOk P key d td) (hz : zeroB P e = some zero)
    (hr : (ev tm s = .nilMap ∧ res = none) ∨ ∃ b es, ev tm s = .map b ∧ h.get b = some (.map es) ∧ findKey h d (ev tm q) es = some res) (hw : WR P ι h w) (ht : TR ι tm a.tmps) (hg : GI P ι) :
    Goes P ι h w (match res with
      | some v => bif ok then .tuple [v, .bool true] else v
      | none => bif ok then .tuple [zero, .bool false] else zero) h ((execOp a.eval o).run P w) := by
  have hx := cS_ok hc ht hg
  have hy := cS_ok hd ht hg
  obtain ⟨z, hzr, hzv⟩ := run_zero (ι := ι) (w := w) hz
  have ends : ∀ (v : V) (y : Value) (b : Bool), VR ι v y → VR ι (bif ok then .tuple [v, .bool b] else v) (if ok then .tuple #[y, .bool b] else y) := by
    intro v y b hv
    cases ok with
    | false => simpa using hv
    | true => simp only [cond_true, if_true, VR]; exact ⟨_, rfl, VRs.cons hv (VRs.cons (by simp [VR]) VRs.nil)⟩
  rcases hr with ⟨e1, rfl⟩ | ⟨b, es, e1, hb, hf⟩
  · rw [e1] at hx
    simp only [VR] at hx
    refine .pure (x := _) hw ?_ (ends zero z false hzv)
    simp [execOp, ho, Instr.lookup, run_underlying hu, hx, key_check (P := P) (w := w) 9999 hk, Instr.findKey, run_underlying (key_under hk), Instr.findNow, hzr]
  · rw [e1] at hx
    obtain ⟨i, hi, e2⟩ := VR_map hx
    obtain ⟨l, clock, hat, her⟩ := hw.rel b i _ hi hb
    have hget : (getObj i.cb).run P w = .ok (.map l clock) w := run_getObj hat (by intros; simp)
    rcases find_ok hk hy es l.toList 0 res her hf with ⟨rfl, a2, _⟩ | ⟨pre, kk, vv, post, lpre, en, lpost, b1, b2, b3, b4, b5, b6, rfl, b8, _⟩
    · refine .pure (x := _) hw ?_ (ends zero z false hzv)
      simp [execOp, ho, Instr.lookup, run_underlying hu, e2, hget, key_check (P := P) (w := w) 9999 hk, Instr.findKey, run_underlying (key_under hk), a2, hzr]
    · refine .pure (x := _) hw ?_ (ends vv en.val true b5)
      simp [execOp, ho, Instr.lookup, run_underlying hu, e2, hget, key_check (P := P) (w := w) 9999 hk, Instr.findKey, run_underlying (key_under hk), b8]

theorem op_mapSet {t key e : TypeId} {x y z : Operand} {s q p : S} {d : ED} {td : TypeDesc} {b : Nat} {es es' : List (V × V)} {res : Option V} (ho : o.op = .mapUpdate t x y z ∨ o.op = .insert t x y z) (hc : cS P x = some s) (hd : cS P y = some q) (he : cS P z = some p)
    (hu : P.underlying t = some (.map key e)) (hk : KeyOk P key d td) (hm : ev tm s = .map b) (hb : h.get b = some (.map es)) (hf : findKey h d (ev tm q) es = some res) (hs : setKey h d (ev tm q) (ev tm p) es = some es')
    (hw : WR P ι h w) (ht : TR ι tm a.tmps) (hg : GI P ι) : Goes P ι h w undef (h.put b (.map es')) ((execOp a.eval o).run P w) := by
  have hx := hm ▸ cS_ok hc ht hg
  have hy := cS_ok hd ht hg
  have hv := cS_ok he ht hg
  obtain ⟨i, hi, e2⟩ := VR_map hx
  obtain ⟨l, clock, hat, her⟩ := hw.rel b i _ hi hb
  have hget : (getObj i.cb).run P w = .ok (.map l clock) w := run_getObj hat (by intros; simp)
  have hexec : ∀ w', (Instr.mapUpdate t (.map (some i.cb)) (a.eval y) (a.eval z)).run P w = .ok () w' → (execOp a.eval o).run P w = .ok .skip w' := by
    intro w' hr
    rcases ho with ho | ho <;> simp [execOp, ho, e2, hr]
  rcases find_ok hk hy es l.toList 0 res her hf with ⟨_, a2, a3, _⟩ | ⟨pre, kk, vv, post, lpre, en, lpost, b1, b2, b3, b4, b5, b6, _, b8, b9, b10, _⟩
  · rw [a3] at hs
    cases hs
    obtain ⟨w', hr, u⟩ := run_setObj (P := P) (ob' := .map (l.push { key := a.eval y, val := a.eval z, born := clock }) (clock + 1)) hat (by intros; simp)
    refine .skip (hexec w' ?_) (hw.upd hi hb rfl rfl u ⟨_, _, u.at_, ?_⟩)
    · simp [Instr.mapUpdate, run_underlying hu, hget, key_check (P := P) (w := w) 9999 hk, Instr.findKey, run_underlying (key_under hk), a2, hr]
    · rw [Array.toList_push]
      exact ER_append her ⟨_, [], rfl, hy, hv, by simp [ER]⟩
  · rw [b10] at hs
    cases hs
    have hli : l[lpre.length]? = some en := by
      rw [← Array.getElem?_toList, b2]; simp
    obtain ⟨w', hr, u⟩ := run_setObj (P := P) (ob' := .map (l.modify lpre.length fun e => { e with key := a.eval y, val := a.eval z }) clock) hat (by intros; simp)
    refine .skip (hexec w' ?_) (hw.upd hi hb rfl rfl u ⟨_, _, u.at_, ?_⟩)
    · simp [Instr.mapUpdate, run_underlying hu, hget, key_check (P := P) (w := w) 9999 hk, Instr.findKey, run_underlying (key_under hk), b8, hr, hli, Instr.keyThatStays, key_bits 9999 hk b9 hy b4]
    · rw [Array.toList_modify, b2, list_modify_mid]
      exact ER_append b3 ⟨_, lpost, rfl, hy, hv, b6⟩

theorem op_mapDel {c : Call} {t key e : TypeId} {s q : S} {d : ED} {td : TypeDesc} (ho : o.op = .call c) (hcal : c.callee = .builtin .delete) (hl : cSs P c.args.toList = some [s, q]) (ht0 : c.argTypes[0]? = some t)
    (hu : P.underlying t = some (.map key e)) (hk : KeyOk P key d td)
    (hr : (ev tm s = .nilMap ∧ h' = h) ∨ ∃ b es es' res, ev tm s = .map b ∧ h.get b = some (.map es) ∧ findKey h d (ev tm q) es = some res ∧ delKey h d (ev tm q) es = some es' ∧ h' = h.put b (.map es')) (hw : WR P ι h w) (ht : TR ι tm a.tmps) (hg : GI P ι) :
    Goes P ι h w undef h' ((execOp a.eval o).run P w) := by
  obtain ⟨x, hx0, hx⟩ := getD_map (j := 0) hl rfl ht hg
  obtain ⟨y, hy0, hy⟩ := getD_map (j := 1) hl rfl ht hg
  rcases hr with ⟨e1, rfl⟩ | ⟨b, es, es', res, e1, hb, hf, hdel, rfl⟩
  · rw [e1] at hx
    simp only [VR] at hx
    subst hx
    refine .of (ι' := ι) (x := .tuple #[]) (builtin_shape ho hcal (fun _ => rfl) ?_) ⟨hw, .refl _ _ _⟩ VR_undef
    simp [Builtin.delete_, ht0, hx0, hy0, run_underlying hu, key_check (P := P) (w := w) 9999 hk]
  · rw [e1] at hx
    obtain ⟨i, hi, rfl⟩ := VR_map hx
    obtain ⟨l, clock, hat, her⟩ := hw.rel b i _ hi hb
    have hget : (getObj i.cb).run P w = .ok (.map l clock) w := run_getObj hat (by intros; simp)
    rcases find_ok hk hy es l.toList 0 res her hf with ⟨_, a2, _, a4⟩ | ⟨pre, kk, vv, post, lpre, en, lpost, b1, b2, b3, b4, b5, b6, _, b8, b9, _, b11⟩
    · rw [a4] at hdel
      cases hdel
      obtain ⟨w', hr, u⟩ := run_setObj (P := P) (ob' := .map l clock) hat (by intros; simp)
      refine .of (ι' := ι) (x := .tuple #[]) (builtin_shape ho hcal (fun _ => rfl) ?_) (hw.upd hi hb rfl rfl u ⟨_, _, u.at_, her⟩) VR_undef
      simp [Builtin.delete_, ht0, hx0, hy0, run_underlying hu, key_check (P := P) (w := w) 9999 hk, hget, Instr.findKey, run_underlying (key_under hk), a2, hr]
    · rw [b11] at hdel
      cases hdel
      obtain ⟨w', hr, u⟩ := run_setObj (P := P) (ob' := .map (l.eraseIdxIfInBounds lpre.length) clock) hat (by intros; simp)
      refine .of (ι' := ι) (x := .tuple #[]) (builtin_shape ho hcal (fun _ => rfl) ?_) (hw.upd hi hb rfl rfl u ⟨_, _, u.at_, ?_⟩) VR_undef
      · simp [Builtin.delete_, ht0, hx0, hy0, run_underlying hu, key_check (P := P) (w := w) 9999 hk, hget, Instr.findKey, run_underlying (key_under hk), b8, hr]
      · rw [Array.toList_eraseIdxIfInBounds, b2, List.eraseIdx_append_of_length_le (Nat.le_refl _)]
        simpa using ER_append b3 b6
end
end Go.Ev
