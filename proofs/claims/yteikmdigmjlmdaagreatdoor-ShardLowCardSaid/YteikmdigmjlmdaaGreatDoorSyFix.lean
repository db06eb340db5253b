/-
  Code without codes among its constants stands for itself.
-/
import Derived.Test.YteikmdigmjlmdaaGreatDoorSyCode
set_option linter.unusedVariables false
set_option linter.unusedSimpArgs false
namespace Go.Ev
noncomputable section

def okNats : List Nat → Bool
  | [] => true
  | b :: l => !Nat.ble symB b && okNats l

mutual
def okV : V → Bool
  | .int _ n => !isSym n
  | .str s => okNats s
  | .func _ a c => okVs a && okVs c
  | .iface _ v => okV v
  | .agg cs => okVs cs
  | .tuple cs => okVs cs
  | _ => true
def okVs : List V → Bool
  | [] => true
  | v :: l => okV v && okVs l
end

def okS : S → Bool
  | .t _ => true
  | .c v => okV v
def okSs : List S → Bool
  | [] => true
  | s :: l => okS s && okSs l
def okSo : Option S → Bool
  | none => true
  | some s => okS s
def okParts : List (Nat × Nat × S) → Bool
  | [] => true
  | p :: l => okS p.2.2 && okParts l

def okEOp : EOp → Bool
  | .mov x => okS x
  | .pick c a b => okS c && (okS a && okS b)
  | .alloc _ z => okVs z
  | .box _ x => okS x
  | .build z ps => okVs z && okParts ps
  | .buildSlice _ _ z ps => okVs z && okParts ps
  | .load _ _ a => okS a
  | .store _ a x => okS a && okS x
  | .nilCheck x => okS x
  | .arith _ x y => okS x && okS y
  | .eqv _ _ x y => okS x && okS y
  | .unop _ x => okS x
  | .conv _ x => okS x
  | .mkIface _ x => okS x
  | .mkFunc _ a c => okSs a && okSs c
  | .mkMap => true
  | .mkSlice _ _ z l c => okVs z && (okS l && okS c)
  | .sliceStr x lo hi => okS x && (okSo lo && okSo hi)
  | .slice _ x lo hi mx => okS x && (okSo lo && (okSo hi && okSo mx))
  | .sliceArr _ _ x lo hi mx => okS x && (okSo lo && (okSo hi && okSo mx))
  | .fieldAddr _ x => okS x
  | .field _ _ _ x => okS x
  | .idxAddrArr _ _ x i => okS x && okS i
  | .idxAddr _ x i => okS x && okS i
  | .idxArr _ _ _ x i => okS x && okS i
  | .idxStr x i => okS x && okS i
  | .lookup _ z _ x k => okV z && (okS x && okS k)
  | .mapSet _ m k v => okS m && (okS k && okS v)
  | .mapDel _ m k => okS m && okS k
  | .extract x _ => okS x
  | .call f args => okS f && okSs args
  | .lenStr x => okS x
  | .lenSl x => okS x
  | .lenMap x => okS x
  | .lenConst _ => true
  | .cap x => okS x
  | .append _ _ s x => okS s && okS x
  | .appendZeros _ _ z s m => okVs z && (okS s && okS m)
  | .copy _ d s => okS d && okS s
  | .minmax _ l => okSs l
  | .clearSlice _ z x => okVs z && okS x
  | .bad => true

def okOpers : List EOper → Bool
  | [] => true
  | o :: l => okEOp o.op && okOpers l

def okE : E → Bool
  | .region ops => okOpers ops
  | .draw ops _ => okOpers ops
  | .seq a b => okE a && okE b
  | .cond c a b => okS c && (okE a && okE b)
  | .block _ b => okE b
  | .loop b => okE b
  | .rangeFunc f _ a b => okS f && (okE a && okE b)
  | .scope b => okE b
  | _ => true

section
variable {ρ : Nat → Int}
theorem okNats_ok : ∀ {s : List Nat}, okNats s = true → s.map (fb ρ) = s
  | [], _ => rfl
  | b :: l, h => by
    simp only [okNats, Bool.and_eq_true, Bool.not_eq_true'] at h
    simp only [List.map_cons, okNats_ok h.2, fb, h.1, cond_false]

mutual
theorem okV_ok : ∀ {v : V}, okV v = true → fv ρ v = v
  | .int k n, h => by
    simp only [okV, Bool.not_eq_true'] at h
    simp only [fv, fi_none (split_of_plain h)]
  | .str s, h => by simp only [okV] at h; simp only [fv, okNats_ok h]
  | .func f a c, h => by
    simp only [okV, Bool.and_eq_true] at h
    simp only [fv, okVs_ok h.1, okVs_ok h.2]
  | .iface t v, h => by simp only [okV] at h; simp only [fv, okV_ok h]
  | .agg cs, h => by simp only [okV] at h; simp only [fv, okVs_ok h]
  | .tuple cs, h => by simp only [okV] at h; simp only [fv, okVs_ok h]
  | .bool _, _ => rfl
  | .ptr _ _, _ => rfl
  | .nilPtr, _ => rfl
  | .slice .., _ => rfl
  | .nilSlice, _ => rfl
  | .map _, _ => rfl
  | .nilMap, _ => rfl
  | .yield _, _ => rfl
  | .nilFunc, _ => rfl
  | .nilIface, _ => rfl
theorem okVs_ok : ∀ {l : List V}, okVs l = true → fvs ρ l = l
  | [], _ => rfl
  | v :: l, h => by
    simp only [okVs, Bool.and_eq_true] at h
    simp only [fvs, okV_ok h.1, okVs_ok h.2]
end

theorem okS_ok {s : S} (h : okS s = true) : fS ρ s = s := by
  cases s with
  | t i => rfl
  | c v => simp only [okS] at h; simp only [fS, okV_ok h]
theorem okSs_ok : ∀ {l : List S}, okSs l = true → l.map (fS ρ) = l
  | [], _ => rfl
  | s :: l, h => by
    simp only [okSs, Bool.and_eq_true] at h
    simp only [List.map_cons, okS_ok h.1, okSs_ok h.2]
theorem okSo_ok {o : Option S} (h : okSo o = true) : o.map (fS ρ) = o := by
  cases o with
  | none => rfl
  | some s => simp only [okSo] at h; simp only [Option.map_some, okS_ok h]
theorem okParts_ok : ∀ {l : List (Nat × Nat × S)}, okParts l = true → fParts ρ l = l
  | [], _ => rfl
  | (a, b, s) :: l, h => by
    simp only [okParts, Bool.and_eq_true] at h
    simp only [fParts, okS_ok h.1, okParts_ok h.2]

theorem okEOp_ok {e : EOp} (h : okEOp e = true) : fOp ρ e = e := by
  cases e <;> simp only [okEOp, Bool.and_eq_true] at h <;> simp only [fOp] <;>
    (try rfl) <;> simp only [okS_ok, okSs_ok, okSo_ok, okParts_ok, okVs_ok, okV_ok, h]

theorem okOpers_ok : ∀ {l : List EOper}, okOpers l = true → l.map (fOper ρ) = l
  | [], _ => rfl
  | o :: l, h => by
    simp only [okOpers, Bool.and_eq_true] at h
    simp only [List.map_cons, okOpers_ok h.2, fOper, okEOp_ok h.1]

theorem okE_ok : ∀ {e : E}, okE e = true → fE ρ e = e
  | .region ops, h => by simp only [okE] at h; simp only [fE, okOpers_ok h]
  | .draw ops _, h => by simp only [okE] at h; simp only [fE, okOpers_ok h]
  | .seq a b, h => by simp only [okE, Bool.and_eq_true] at h; simp only [fE, okE_ok h.1, okE_ok h.2]
  | .cond c a b, h => by simp only [okE, Bool.and_eq_true] at h; simp only [fE, okS_ok h.1, okE_ok h.2.1, okE_ok h.2.2]
  | .block _ b, h => by simp only [okE] at h; simp only [fE, okE_ok h]
  | .loop b, h => by simp only [okE] at h; simp only [fE, okE_ok h]
  | .rangeFunc f _ a b, h => by simp only [okE, Bool.and_eq_true] at h; simp only [fE, okS_ok h.1, okE_ok h.2.1, okE_ok h.2.2]
  | .scope b, h => by simp only [okE] at h; simp only [fE, okE_ok h]
  | .skip, _ => rfl
  | .exit _, _ => rfl
  | .label _, _ => rfl
  | .goto _, _ => rfl
  | .ret, _ => rfl
  | .bad, _ => rfl

/-! ### Tables -/
/-- a table out of a list -/
def tabOf : List (Nat × EFunc) → T EFunc
  | [] => .nil
  | (i, f) :: l => (tabOf l).set i f

theorem tabOf_mem : ∀ {l : List (Nat × EFunc)} {i : Nat} {f : EFunc}, (tabOf l).get i = some f → (i, f) ∈ l
  | [], i, f, h => by simp [tabOf, T.get] at h
  | (j, g) :: l, i, f, h => by
    simp only [tabOf, T.get_set] at h
    by_cases e : j = i
    · subst e; simp at h; subst h; exact List.mem_cons_self ..
    · rw [if_neg e] at h; exact List.mem_cons_of_mem _ (tabOf_mem h)

theorem tab_fix {l : List (Nat × EFunc)} (h : (l.all fun p => okE p.2.body) = true) (i : Nat) : (tabOf l).get i = ((tabOf l).get i).map (fF ρ) := by
  cases hq : (tabOf l).get i with
  | none => rfl
  | some f =>
    have := List.all_eq_true.1 h _ (tabOf_mem hq)
    simp only [Option.map_some, fF, okE_ok this]
end
end
end Go.Ev
