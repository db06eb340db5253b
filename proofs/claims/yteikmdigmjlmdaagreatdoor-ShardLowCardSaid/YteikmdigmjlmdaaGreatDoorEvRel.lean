/-
  How the evaluator's values and heap stand to the model's: an injection of abstract blocks into the model's blocks.
-/
import Derived.Test.YteikmdigmjlmdaaGreatDoorEvTree
import Derived.Test.YteikmdigmjlmdaaGreatDoorEvComp
set_option linter.unusedVariables false
set_option linter.unusedSimpArgs false
namespace Go.Ev

/-- where an abstract block lies: the model's block, from which cell on, how many cells, how many cells the model's block has -/
structure BI where
  cb : Nat
  d : Nat
  n : Nat
  cn : Nat

abbrev Inj := Nat → Option BI

mutual
def VR (ι : Inj) : V → Value → Prop
  | .bool b, x => x = .bool b
  | .int k n, x => x = .int k n
  | .str s, x => ∃ a : ByteArray, x = .string a ∧ a.data.toList.map UInt8.toNat = s
  | .ptr b off, x => ∃ i, ι b = some i ∧ x = .pointer (some ⟨i.cb, i.d + off, none⟩)
  | .nilPtr, x => x = .pointer none
  | .slice b off len cap e, x => ∃ i coff ccap, ι b = some i ∧ x = .slice (some ⟨i.cb, coff, none⟩) len ccap ∧ 0 < e ∧ len ≤ cap ∧ off + cap * e ≤ i.n ∧
      ((cap = 0 ∧ ccap = 0) ∨ (coff = i.d + off ∧ cap ≤ ccap ∧ i.d + off + ccap * e ≤ i.cn ∧ (off + cap * e = i.n ∨ ccap = cap)))
  | .nilSlice, x => x = .slice none 0 0
  | .map b, x => ∃ i, ι b = some i ∧ x = .map (some i.cb)
  | .nilMap, x => x = .map none
  | .func f first captured, x => ∃ fi ca : Array Value, x = .func (.func f) fi ca ∧ VRs ι first fi.toList ∧ VRs ι captured ca.toList
  | .yield b, x => ∃ i, ι b = some i ∧ x = .func (.yield i.cb) #[] #[]
  | .nilFunc, x => x = .nilFunc
  | .iface t v, x => ∃ y, x = .iface t y ∧ VR ι v y
  | .nilIface, x => x = .nilIface
  | .agg cs, x => ∃ a : Array Value, x = .agg a ∧ VRs ι cs a.toList
  | .tuple vs, x => ∃ a : Array Value, x = .tuple a ∧ VRs ι vs a.toList
def VRs (ι : Inj) : List V → List Value → Prop
  | [], l => l = []
  | v :: vs, l => ∃ x xs, l = x :: xs ∧ VR ι v x ∧ VRs ι vs xs
end

theorem allFlat_get : ∀ {vs : List V} {j : Nat} {v : V}, allFlat vs = true → vs[j]? = some v → v.flat = true
  | [], j, v, _, hj => by simp at hj
  | w :: vs, 0, v, h, hj => by simp at hj; subst hj; simp only [allFlat, Bool.and_eq_true] at h; exact h.1
  | w :: vs, j + 1, v, h, hj => by simp only [allFlat, Bool.and_eq_true] at h; exact allFlat_get h.2 (by simpa using hj)

theorem allFlat_of : ∀ {vs : List V}, (∀ (j : Nat) (v : V), vs[j]? = some v → v.flat = true) → allFlat vs = true
  | [], _ => rfl
  | v :: vs, h => by simp only [allFlat, Bool.and_eq_true]; exact ⟨h 0 v rfl, allFlat_of fun j u hu => h (j + 1) u (by simpa using hu)⟩

theorem allFlat_append {vs ws : List V} (h : allFlat vs = true) (k : allFlat ws = true) : allFlat (vs ++ ws) = true := by
  induction vs with
  | nil => exact k
  | cons v vs ih => simp only [List.cons_append, allFlat, Bool.and_eq_true] at h ⊢; exact ⟨h.1, ih h.2⟩

section
variable {ι ι' : Inj}
theorem VRs_nil {l : List Value} : VRs ι [] l ↔ l = [] := by simp [VRs]
theorem VRs_cons {v : V} {vs : List V} {l : List Value} : VRs ι (v :: vs) l ↔ ∃ x xs, l = x :: xs ∧ VR ι v x ∧ VRs ι vs xs := by simp [VRs]
theorem VRs.nil : VRs ι [] [] := by simp [VRs]
theorem VRs.cons {v : V} {vs : List V} {x : Value} {xs : List Value} (h : VR ι v x) (t : VRs ι vs xs) : VRs ι (v :: vs) (x :: xs) := by
  rw [VRs_cons]; exact ⟨_, _, rfl, h, t⟩

theorem VRs.length : ∀ {vs : List V} {xs : List Value}, VRs ι vs xs → xs.length = vs.length
  | [], xs, h => by rw [VRs_nil] at h; subst h; rfl
  | v :: vs, xs, h => by
    rw [VRs_cons] at h
    obtain ⟨x, l, rfl, _, t⟩ := h
    simp [VRs.length t]

theorem VRs.get : ∀ {vs : List V} {xs : List Value} {j : Nat} {v : V}, VRs ι vs xs → vs[j]? = some v → ∃ x, xs[j]? = some x ∧ VR ι v x
  | [], xs, j, v, _, hj => by simp at hj
  | w :: vs, xs, j, v, h, hj => by
    rw [VRs_cons] at h
    obtain ⟨x, l, rfl, hx, t⟩ := h
    cases j with
    | zero => simp at hj; subst hj; exact ⟨x, rfl, hx⟩
    | succ j => simp at hj; simpa using VRs.get t hj

theorem VRs.of_get : ∀ {vs : List V} {xs : List Value}, xs.length = vs.length → (∀ (j : Nat) (v : V) (x : Value), vs[j]? = some v → xs[j]? = some x → VR ι v x) → VRs ι vs xs
  | [], xs, hl, _ => by simp at hl; subst hl; exact VRs.nil
  | v :: vs, [], hl, _ => by simp at hl
  | v :: vs, x :: xs, hl, h => VRs.cons (h 0 v x rfl rfl) (VRs.of_get (by simpa using hl) fun j w y hw hy => h (j + 1) w y (by simpa using hw) (by simpa using hy))

theorem VRs.append : ∀ {vs ws : List V} {xs ys : List Value}, VRs ι vs xs → VRs ι ws ys → VRs ι (vs ++ ws) (xs ++ ys)
  | [], ws, xs, ys, h, k => by rw [VRs_nil] at h; subst h; exact k
  | v :: vs, ws, xs, ys, h, k => by
    rw [VRs_cons] at h
    obtain ⟨x, l, rfl, hx, t⟩ := h
    exact VRs.cons hx (VRs.append t k)

theorem VRs.drop {vs : List V} {xs : List Value} (n : Nat) (h : VRs ι vs xs) : VRs ι (vs.drop n) (xs.drop n) := by
  induction n generalizing vs xs with
  | zero => simpa using h
  | succ n ih =>
    cases vs with
    | nil => rw [VRs_nil] at h; subst h; simp; exact VRs.nil
    | cons v vs =>
      rw [VRs_cons] at h
      obtain ⟨x, l, rfl, _, t⟩ := h
      simpa using ih t

theorem VRs.take {vs : List V} {xs : List Value} (n : Nat) (h : VRs ι vs xs) : VRs ι (vs.take n) (xs.take n) := by
  induction n generalizing vs xs with
  | zero => simp; exact VRs.nil
  | succ n ih =>
    cases vs with
    | nil => rw [VRs_nil] at h; subst h; simp; exact VRs.nil
    | cons v vs =>
      rw [VRs_cons] at h
      obtain ⟨x, l, rfl, hx, t⟩ := h
      simpa using VRs.cons hx (ih t)

mutual
theorem VR.mono (hm : ∀ b i, ι b = some i → ι' b = some i) : ∀ {v : V} {x : Value}, VR ι v x → VR ι' v x
  | .bool _, _, h => by simpa [VR] using h
  | .int _ _, _, h => by simpa [VR] using h
  | .str _, _, h => by simpa [VR] using h
  | .ptr _ _, _, h => by
    simp only [VR] at h ⊢
    obtain ⟨i, hi, e⟩ := h
    exact ⟨i, hm _ _ hi, e⟩
  | .nilPtr, _, h => by simpa [VR] using h
  | .slice .., _, h => by
    simp only [VR] at h ⊢
    obtain ⟨i, coff, ccap, hi, r⟩ := h
    exact ⟨i, coff, ccap, hm _ _ hi, r⟩
  | .nilSlice, _, h => by simpa [VR] using h
  | .map _, _, h => by
    simp only [VR] at h ⊢
    obtain ⟨i, hi, e⟩ := h
    exact ⟨i, hm _ _ hi, e⟩
  | .nilMap, _, h => by simpa [VR] using h
  | .func .., _, h => by
    simp only [VR] at h ⊢
    obtain ⟨fi, ca, e, h1, h2⟩ := h
    exact ⟨fi, ca, e, VRs.mono hm h1, VRs.mono hm h2⟩
  | .yield _, _, h => by
    simp only [VR] at h ⊢
    obtain ⟨i, hi, e⟩ := h
    exact ⟨i, hm _ _ hi, e⟩
  | .nilFunc, _, h => by simpa [VR] using h
  | .iface .., _, h => by
    simp only [VR] at h ⊢
    obtain ⟨y, e, h1⟩ := h
    exact ⟨y, e, VR.mono hm h1⟩
  | .nilIface, _, h => by simpa [VR] using h
  | .agg _, _, h => by
    simp only [VR] at h ⊢
    obtain ⟨a, e, h1⟩ := h
    exact ⟨a, e, VRs.mono hm h1⟩
  | .tuple _, _, h => by
    simp only [VR] at h ⊢
    obtain ⟨a, e, h1⟩ := h
    exact ⟨a, e, VRs.mono hm h1⟩
theorem VRs.mono (hm : ∀ b i, ι b = some i → ι' b = some i) : ∀ {vs : List V} {xs : List Value}, VRs ι vs xs → VRs ι' vs xs
  | [], _, h => by simpa [VRs] using h
  | v :: vs, _, h => by
    simp only [VRs] at h ⊢
    obtain ⟨x, xs, e, h1, h2⟩ := h
    exact ⟨x, xs, e, VR.mono hm h1, VRs.mono hm h2⟩
end

theorem VR.cells {v : V} {x : Value} (h : VR ι v x) : VRs ι v.cells x.cells.toList := by
  cases v with
  | agg cs =>
    simp only [VR] at h
    obtain ⟨a, rfl, h1⟩ := h
    exact h1
  | str s =>
    have h0 := h
    simp only [VR] at h; obtain ⟨a, rfl, _⟩ := h; exact VRs.cons h0 VRs.nil
  | ptr b off =>
    have h0 := h
    simp only [VR] at h; obtain ⟨a, _, rfl⟩ := h; exact VRs.cons h0 VRs.nil
  | slice b off len cap e =>
    have h0 := h
    simp only [VR] at h; obtain ⟨a, _, _, _, rfl, _⟩ := h; exact VRs.cons h0 VRs.nil
  | map b =>
    have h0 := h
    simp only [VR] at h; obtain ⟨a, _, rfl⟩ := h; exact VRs.cons h0 VRs.nil
  | func f a c =>
    have h0 := h
    simp only [VR] at h; obtain ⟨a, _, rfl, _⟩ := h; exact VRs.cons h0 VRs.nil
  | yield b =>
    have h0 := h
    simp only [VR] at h; obtain ⟨a, _, rfl⟩ := h; exact VRs.cons h0 VRs.nil
  | iface t v =>
    have h0 := h
    simp only [VR] at h; obtain ⟨a, rfl, _⟩ := h; exact VRs.cons h0 VRs.nil
  | tuple vs =>
    have h0 := h
    simp only [VR] at h; obtain ⟨a, rfl, _⟩ := h; exact VRs.cons h0 VRs.nil
  | bool b => have h0 := h; simp only [VR] at h; subst h; exact VRs.cons h0 VRs.nil
  | int k n => have h0 := h; simp only [VR] at h; subst h; exact VRs.cons h0 VRs.nil
  | nilPtr => have h0 := h; simp only [VR] at h; subst h; exact VRs.cons h0 VRs.nil
  | nilSlice => have h0 := h; simp only [VR] at h; subst h; exact VRs.cons h0 VRs.nil
  | nilMap => have h0 := h; simp only [VR] at h; subst h; exact VRs.cons h0 VRs.nil
  | nilFunc => have h0 := h; simp only [VR] at h; subst h; exact VRs.cons h0 VRs.nil
  | nilIface => have h0 := h; simp only [VR] at h; subst h; exact VRs.cons h0 VRs.nil
end

theorem VR_undef {ι : Inj} : VR ι undef Go.undef := by simp [undef, Go.undef, VR, VRs]

/-- temporaries -/
def TR (ι : Inj) (tm : T V) (tmps : Array Value) : Prop := ∀ i, VR ι (ev tm (.t i)) (tmps.getD i Go.undef)

theorem TR.mono {ι ι' : Inj} {tm : T V} {tmps : Array Value} (hm : ∀ b i, ι b = some i → ι' b = some i) (h : TR ι tm tmps) : TR ι' tm tmps :=
  fun i => (h i).mono hm

theorem TR.set {ι : Inj} {tm : T V} {tmps : Array Value} {d : Nat} {v : V} {x : Value} (h : TR ι tm tmps) (hd : d < tmps.size) (hv : VR ι v x) :
    TR ι (tm.set d v) (tmps.setIfInBounds d x) := by
  intro i
  have hi := h i
  simp only [ev, T.get_set, Array.getD_eq_getD_getElem?, Array.getElem?_setIfInBounds] at hi ⊢
  by_cases e : d = i
  · subst e; simpa [hd] using hv
  · simpa [e] using hi

/-- a way out, and the code that takes it -/
def XR : Ex → Option Code → Prop
  | .normal, c => c = none
  | .exit id, c => c = some (.exit id)
  | .goto l, c => c = some (.goto l)
  | .ret, c => c = some .ret

def LR : LState → LoopState → Prop
  | .ready, s => s = .ready
  | .busy, s => s = .busy
  | .done, s => s = .done
  | .exhausted, s => s = .exhausted

def ER (ι : Inj) : List (V × V) → List MapEntry → Prop
  | [], l => l = []
  | (k, v) :: es, l => ∃ e r, l = e :: r ∧ VR ι k e.key ∧ VR ι v e.val ∧ ER ι es r

theorem ER.mono {ι ι' : Inj} (hm : ∀ b i, ι b = some i → ι' b = some i) : ∀ {es : List (V × V)} {l : List MapEntry}, ER ι es l → ER ι' es l
  | [], _, h => h
  | (k, v) :: es, _, ⟨e, r, q, h1, h2, h3⟩ => ⟨e, r, q, h1.mono hm, h2.mono hm, ER.mono hm h3⟩

/-- what an abstract block says of the model's -/
def BR (P : Program) (ι : Inj) (i : BI) (w : World) : Blk → Prop
  | .dead => True
  | .cells e n kd rows => i.n = n ∧ 0 < e ∧ RowsOk e rows ∧ ∃ c t fr, w.heap[i.cb]? = some (.cells c t fr) ∧ c.size = i.cn ∧ i.d + n ≤ i.cn ∧
      (kd = .exact → i.d + n = i.cn ∧ fr = (0, 0)) ∧
      (∀ j v, j < n → cellAt e rows j = some v → v.flat = true ∧ ∃ x, c[i.d + j]? = some x ∧ VR ι v x) ∧
      (kd ≠ .ro → ∀ k, k < i.cn → ¬ (fr.1 ≤ k ∧ k < fr.2))
  | .map es => ∃ l clock, w.heap[i.cb]? = some (.map l clock) ∧ ER ι es l.toList
  | .loop st pend tm params assign body => ∃ r : Loop, w.heap[i.cb]? = some (.loop r) ∧ LR st r.state ∧ XR pend r.pending ∧ TR ι tm r.tmps ∧ r.params.toList = params ∧
      (∀ p ∈ params, p < r.tmps.size) ∧ comp P r.tmps.size r.assign = assign ∧ comp P r.tmps.size r.body = body

def Blk.isDead : Blk → Bool
  | .dead => true
  | _ => false
def Blk.isRo : Blk → Bool
  | .cells _ _ kd _ => kd.isRo
  | _ => false

theorem BR.mono {P : Program} {ι ι' : Inj} {i : BI} {w w' : World} {k : Blk} (hm : ∀ b i, ι b = some i → ι' b = some i) (hw : w'.heap[i.cb]? = w.heap[i.cb]?) (h : BR P ι i w k) :
    BR P ι' i w' k := by
  cases k with
  | dead => trivial
  | cells e n kd rows =>
    obtain ⟨h1, h2, h3, c, t, fr, h4, h5, h6, h7, h8, h9⟩ := h
    exact ⟨h1, h2, h3, c, t, fr, hw.trans h4, h5, h6, h7, fun j v hj hv => let ⟨fl, x, hx, r⟩ := h8 j v hj hv; ⟨fl, x, hx, r.mono hm⟩, h9⟩
  | map es =>
    obtain ⟨l, clock, h1, h2⟩ := h
    exact ⟨l, clock, hw.trans h1, h2.mono hm⟩
  | loop st pend tm params assign body =>
    obtain ⟨r, h1, h2, h3, h4, h5⟩ := h
    exact ⟨r, hw.trans h1, h2, h3, h4.mono hm, h5⟩

/-- the heap and the world -/
structure WR (P : Program) (ι : Inj) (h : Hp) (w : World) : Prop where
  rel : ∀ b i k, ι b = some i → h.get b = some k → BR P ι i w k
  inj : ∀ b b' i i' k k', b ≠ b' → ι b = some i → ι b' = some i' → h.get b = some k → h.get b' = some k' → k.isDead = false → k'.isDead = false →
    ¬ (k.isRo = true ∧ k'.isRo = true) → i.cb ≠ i'.cb
  lt : ∀ b i, ι b = some i → i.cb < w.heap.size
  nx : ∀ b i, ι b = some i → b < h.nx
  hnx : ∀ b k, h.get b = some k → b < h.nx

/-- a block of the model that may be written -/
def Wr (ι : Inj) (h : Hp) (cb : Nat) : Prop := ∃ b i k, ι b = some i ∧ i.cb = cb ∧ h.get b = some k ∧ k.isRo = false

/-- from one state to a later one -/
structure Sim (ι : Inj) (h : Hp) (w : World) (ι' : Inj) (h' : Hp) (w' : World) : Prop where
  mono : ∀ b i, ι b = some i → ι' b = some i
  fresh : ∀ b i, ι' b = some i → ι b = some i ∨ h.nx ≤ b
  nx : h.nx ≤ h'.nx
  size : w.heap.size ≤ w'.heap.size
  wr : ∀ cb, cb < w.heap.size → Wr ι' h' cb → Wr ι h cb
  frame : ∀ cb, cb < w.heap.size → ¬ Wr ι h cb → w'.heap[cb]? = w.heap[cb]?
  keep : ∀ b, b < h.nx → ι b = none → h'.get b = h.get b
  os : w'.os = w.os
  tape : w'.tape = w.tape
  output : w'.output = w.output

theorem Sim.refl (ι : Inj) (h : Hp) (w : World) : Sim ι h w ι h w :=
  ⟨fun _ _ h => h, fun _ _ h => .inl h, Nat.le_refl _, Nat.le_refl _, fun _ _ h => h, fun _ _ _ => rfl, fun _ _ _ => rfl, rfl, rfl, rfl⟩

theorem Sim.trans {ι ι1 ι2 : Inj} {h h1 h2 : Hp} {w w1 w2 : World} (a : Sim ι h w ι1 h1 w1) (b : Sim ι1 h1 w1 ι2 h2 w2) : Sim ι h w ι2 h2 w2 where
  mono x i hx := b.mono _ _ (a.mono _ _ hx)
  fresh x i hx := by
    rcases b.fresh x i hx with e | e
    · exact a.fresh x i e
    · exact .inr (Nat.le_trans a.nx e)
  nx := Nat.le_trans a.nx b.nx
  size := Nat.le_trans a.size b.size
  wr cb hc hw := a.wr cb hc (b.wr cb (Nat.lt_of_lt_of_le hc a.size) hw)
  frame cb hc hn := (b.frame cb (Nat.lt_of_lt_of_le hc a.size) fun hw => hn (a.wr cb hc hw)).trans (a.frame cb hc hn)
  keep x hx hn := (b.keep x (Nat.lt_of_lt_of_le hx a.nx) (by
    cases q : ι1 x with
    | none => rfl
    | some i =>
      rcases a.fresh x i q with e | e
      · rw [hn] at e; cases e
      · omega)).trans (a.keep x hx hn)
  os := b.os.trans a.os
  tape := b.tape.trans a.tape
  output := b.output.trans a.output

end Go.Ev
