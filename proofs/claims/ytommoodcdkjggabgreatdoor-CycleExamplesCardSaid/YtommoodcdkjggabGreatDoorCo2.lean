/- The reckoner with memory: how its values and blocks stand for the model's. -/
import Derived.Test.YtommoodcdkjggabGreatDoorCo1
import Derived.Laws.MakeOwn
set_option linter.unusedVariables false
set_option linter.unusedSectionVars false
set_option linter.unusedSimpArgs false
namespace Go.CO

/-! ### Tables -/
def Ix.num : Ix → Nat
  | .e => 0
  | .l p => 2 * p.num + 1
  | .r p => 2 * p.num + 2
theorem ixF_num : ∀ (f k : Nat), k < f → (ixF f k).num = k := by
  intro f
  induction f with
  | zero => intro k h; omega
  | succ f ih =>
    intro k h
    simp only [ixF]
    cases h0 : Nat.beq k 0 with
    | true => simp only [Ix.num]; exact (Nat.eq_of_beq_eq_true h0).symm
    | false =>
      have hk : k ≠ 0 := Nat.ne_of_beq_eq_false h0
      cases h1 : Nat.beq (k % 2) 1 with
      | true =>
        have := Nat.eq_of_beq_eq_true h1
        simp only [Ix.num]; rw [ih _ (by omega)]; omega
      | false =>
        have := Nat.ne_of_beq_eq_false h1
        simp only [Ix.num]; rw [ih _ (by omega)]; omega
theorem ix_inj {j k : Nat} (h : ix j = ix k) : j = k := by
  have h1 := ixF_num (j + 1) j (by omega)
  have h2 := ixF_num (k + 1) k (by omega)
  unfold ix at h
  rw [← h1, ← h2, h]
theorem T.at_put {α : Type} (x : α) : ∀ (p q : Ix) (t : T α), T.at p (T.put x q t) = if p = q then some x else T.at p t := by
  intro p
  induction p with
  | e => intro q t; cases q <;> cases t <;> simp [T.at, T.put, T.vl]
  | l p ih => intro q t; cases q <;> cases t <;> simp [T.at, T.put, T.lt, ih]
  | r p ih => intro q t; cases q <;> cases t <;> simp [T.at, T.put, T.rt, ih]
theorem T.get_set {α : Type} (t : T α) (k j : Nat) (x : α) : (t.set k x).get j = if j = k then some x else t.get j := by
  simp only [T.get, T.set, T.at_put]
  by_cases h : j = k
  · subst h; simp
  · rw [if_neg h, if_neg fun e => h (ix_inj e)]
theorem Hp.get_set (h : Hp) (k j : Nat) (b : HB) : (h.set k b).get j = if j = k then b else h.get j := by
  simp only [Hp.get, Hp.set, T.get_set]
  by_cases e : j = k
  · simp [e]
  · simp [e]
theorem Hp.get_push (h : Hp) (j : Nat) (b : HB) : (h.push b).get j = if j = h.n then b else h.get j := by
  simp only [Hp.get, Hp.push, T.get_set]
  by_cases e : j = h.n
  · simp [e]
  · simp [e]
@[simp] theorem Hp.n_set (h : Hp) (k : Nat) (b : HB) : (h.set k b).n = h.n := rfl
@[simp] theorem Hp.n_push (h : Hp) (b : HB) : (h.push b).n = h.n + 1 := rfl
theorem Fr.at_set (s : Fr) (k j : Nat) (p : CV) : Fr.at (T.set s k p) j = if j = k then p else Fr.at s j := by
  simp only [Fr.at, T.get_set]
  by_cases e : j = k
  · simp [e]
  · simp [e]

/-! ### Values -/
/-- Where a block lies: the model's block, the offset of its first cell, how many cells there are from there on, the size of an element if more may fit (0: unknown), how many cells are told, and whether more may fit. -/
structure Inf where
  b : Nat
  base : Nat
  mc : Nat
  esz : Nat
  size : Nat
  opn : Bool
abbrev Im := Nat → Option Inf
inductive VR (ι : Im) : CV → Value → Prop where
  | undef (v) : VR ι .undef v
  | skp : VR ι .skp Go.undef
  | bo (x) : VR ι (.bo x) (.bool x)
  | nu (k n) : VR ι (.nu k n) (.int k n)
  | st {s : List Nat} {x : ByteArray} (h : x.data.toList.map (·.toNat) = s) : VR ι (.st s) (.string x)
  | nilp : VR ι .nilp (.pointer none)
  | ptr {k o : Nat} {i : Inf} (h : ι k = some i) : VR ι (.ptr k o) (.pointer (some ⟨i.b, i.base + o, none⟩))
  | nils : VR ι .nils (.slice none 0 0)
  | sle (a c) : VR ι .sle (.slice (some a) 0 c)
  | sl {k o n c c' : Nat} {i : Inf} (h : ι k = some i) (hc : (c = c' ∧ (i.esz ≠ 0 → c ≠ 0 → o + c * i.esz ≠ i.size)) ∨ (i.opn = true ∧ c ≤ c' ∧ (i.esz ≠ 0 → o + c * i.esz = i.size ∧ o + c' * i.esz = i.mc))) : VR ι (.sl k o n c) (.slice (some ⟨i.b, i.base + o, none⟩) n c')
  | agg {cs : List CV} {vs : Array Value} (hl : vs.size = cs.length) (h : ∀ j (hj : j < cs.length), VR ι cs[j] (vs.getD j Go.undef)) : VR ι (.agg cs) (.agg vs)
  | tup {cs : List CV} {vs : Array Value} (hl : vs.size = cs.length) (h : ∀ j (hj : j < cs.length), VR ι cs[j] (vs.getD j Go.undef)) : VR ι (.tup cs) (.tuple vs)
  | fn {f : FuncId} {cs : List CV} {vs : Array Value} (hl : vs.size = cs.length) (h : ∀ j (hj : j < cs.length), VR ι cs[j] (vs.getD j Go.undef)) : VR ι (.fn f cs) (.func (.func f) #[] vs)
  | nilf : VR ι .nilf .nilFunc
  | mp {k : Nat} {i : Inf} (h : ι k = some i) : VR ι (.mp k) (.map (some i.b))
  | nilm : VR ι .nilm (.map none)
  | yl {k : Nat} {i : Inf} (h : ι k = some i) : VR ι (.yl k) (.func (.yield i.b) #[] #[])
def Im.le (ι ι' : Im) : Prop := ∀ k i, ι k = some i → ι' k = some i
theorem Im.le_refl (ι : Im) : ι.le ι := fun _ _ h => h
theorem Im.le.trans {ι ι' ι'' : Im} (h : ι.le ι') (h' : ι'.le ι'') : ι.le ι'' := fun k i e => h' k i (h k i e)
theorem VR.mono {ι ι' : Im} (hle : ι.le ι') {p : CV} {v : Value} (h : VR ι p v) : VR ι' p v := by
  induction h with
  | undef v => exact .undef v
  | skp => exact .skp
  | bo x => exact .bo x
  | nu k n => exact .nu k n
  | st h => exact .st h
  | nilp => exact .nilp
  | ptr h => exact .ptr (hle _ _ h)
  | nils => exact .nils
  | sle a c => exact .sle a c
  | sl h hc => exact .sl (hle _ _ h) hc
  | agg hl _ ih => exact .agg hl ih
  | tup hl _ ih => exact .tup hl ih
  | fn hl _ ih => exact .fn hl ih
  | nilf => exact .nilf
  | mp h => exact .mp (hle _ _ h)
  | nilm => exact .nilm
  | yl h => exact .yl (hle _ _ h)

/-- A list of values. -/
def VRL (ι : Im) (cs : List CV) (vs : List Value) : Prop := vs.length = cs.length ∧ ∀ j (hj : j < cs.length), VR ι cs[j] (vs.getD j Go.undef)
theorem VRL.nil (ι : Im) : VRL ι [] [] := ⟨rfl, fun j hj => absurd hj (Nat.not_lt_zero _)⟩
theorem VRL.cons {ι : Im} {c : CV} {cs : List CV} {v : Value} {vs : List Value} (h : VR ι c v) (hs : VRL ι cs vs) : VRL ι (c :: cs) (v :: vs) :=
  ⟨by simp [hs.1], fun j hj => by
    cases j with
    | zero => exact h
    | succ j => exact hs.2 j (by simpa using hj)⟩
theorem VRL.tail {ι : Im} {c : CV} {cs : List CV} {v : Value} {vs : List Value} (h : VRL ι (c :: cs) (v :: vs)) : VR ι c v ∧ VRL ι cs vs :=
  ⟨h.2 0 (by simp), by simpa using h.1, fun j hj => h.2 (j + 1) (by simpa using hj)⟩
theorem VRL.append {ι : Im} {cs ds : List CV} {vs us : List Value} (h : VRL ι cs vs) (h' : VRL ι ds us) : VRL ι (cs ++ ds) (vs ++ us) := by
  refine ⟨by simp [h.1, h'.1], fun j hj => ?_⟩
  by_cases hlt : j < cs.length
  · have := h.2 j hlt
    rw [List.getElem_append_left hlt, List.getD_eq_getElem?_getD, List.getElem?_append_left (by rw [h.1]; exact hlt), ← List.getD_eq_getElem?_getD]
    exact this
  · have hlt' : j - cs.length < ds.length := by simp at hj; omega
    have := h'.2 _ hlt'
    rw [List.getElem_append_right (by omega), List.getD_eq_getElem?_getD, List.getElem?_append_right (by rw [h.1]; omega), ← List.getD_eq_getElem?_getD, h.1]
    exact this
theorem VRL.mono {ι ι' : Im} (hle : ι.le ι') {cs : List CV} {vs : List Value} (h : VRL ι cs vs) : VRL ι' cs vs := ⟨h.1, fun j hj => (h.2 j hj).mono hle⟩
theorem VRL.get? {ι : Im} {cs : List CV} {vs : List Value} (h : VRL ι cs vs) {j : Nat} {c : CV} (hc : cs[j]? = some c) : ∃ v, vs[j]? = some v ∧ VR ι c v := by
  obtain ⟨hj, rfl⟩ := List.getElem?_eq_some_iff.1 hc
  have h1 := h.2 j hj
  have hj' : j < vs.length := by rw [h.1]; exact hj
  exact ⟨vs[j], List.getElem?_eq_getElem hj', by simpa [List.getD_eq_getElem?_getD, List.getElem?_eq_getElem hj'] using h1⟩
theorem VRL.drop {ι : Im} {cs : List CV} {vs : List Value} (h : VRL ι cs vs) (o : Nat) : VRL ι (cs.drop o) (vs.drop o) := by
  refine ⟨by simp [h.1], fun j hj => ?_⟩
  have hj' : o + j < cs.length := by simp at hj; omega
  have := h.2 _ hj'
  simpa [List.getD_eq_getElem?_getD, List.getElem_drop, List.getElem?_drop] using this
theorem VRL.take {ι : Im} {cs : List CV} {vs : List Value} (h : VRL ι cs vs) (n : Nat) : VRL ι (cs.take n) (vs.take n) := by
  refine ⟨by simp [h.1], fun j hj => ?_⟩
  have hj' : j < n ∧ j < cs.length := by simp at hj; omega
  have := h.2 _ hj'.2
  simpa [List.getD_eq_getElem?_getD, List.getElem_take, List.getElem?_take, hj'.1] using this
theorem VRL.sub {ι : Im} {cs : List CV} {vs : List Value} (h : VRL ι cs vs) (o n : Nat) : VRL ι (sub cs o n) ((vs.drop o).take n) := (h.drop o).take n
theorem VR.agg' {ι : Im} {cs : List CV} {vs : Array Value} (h : VRL ι cs vs.toList) : VR ι (.agg cs) (.agg vs) :=
  .agg (by simpa using h.1) fun j hj => by simpa [Array.getD_eq_getD_getElem?, List.getD_eq_getElem?_getD] using h.2 j hj
theorem VR.tup' {ι : Im} {cs : List CV} {vs : Array Value} (h : VRL ι cs vs.toList) : VR ι (.tup cs) (.tuple vs) :=
  .tup (by simpa using h.1) fun j hj => by simpa [Array.getD_eq_getD_getElem?, List.getD_eq_getElem?_getD] using h.2 j hj
theorem VR.fn' {ι : Im} {f : FuncId} {cs : List CV} {vs : Array Value} (h : VRL ι cs vs.toList) : VR ι (.fn f cs) (.func (.func f) #[] vs) :=
  .fn (by simpa using h.1) fun j hj => by simpa [Array.getD_eq_getD_getElem?, List.getD_eq_getElem?_getD] using h.2 j hj
theorem getD_list (vs : Array Value) (j : Nat) : vs.getD j Go.undef = vs.toList.getD j Go.undef := by simp [Array.getD_eq_getD_getElem?, List.getD_eq_getElem?_getD]
theorem vr_agg {ι : Im} {cs : List CV} {v : Value} (h : VR ι (.agg cs) v) : ∃ vs, v = .agg vs ∧ VRL ι cs vs.toList := by
  cases h with
  | agg hl h => exact ⟨_, rfl, by simpa using hl, fun j hj => by rw [← getD_list]; exact h j hj⟩
theorem vr_tup {ι : Im} {cs : List CV} {v : Value} (h : VR ι (.tup cs) v) : ∃ vs, v = .tuple vs ∧ VRL ι cs vs.toList := by
  cases h with
  | tup hl h => exact ⟨_, rfl, by simpa using hl, fun j hj => by rw [← getD_list]; exact h j hj⟩
theorem vr_fn {ι : Im} {f : FuncId} {cs : List CV} {v : Value} (h : VR ι (.fn f cs) v) : ∃ vs, v = .func (.func f) #[] vs ∧ VRL ι cs vs.toList := by
  cases h with
  | fn hl h => exact ⟨_, rfl, by simpa using hl, fun j hj => by rw [← getD_list]; exact h j hj⟩
theorem vr_yl {ι : Im} {k : Nat} {v : Value} (h : VR ι (.yl k) v) : ∃ i, ι k = some i ∧ v = .func (.yield i.b) #[] #[] := by cases h with | yl h => exact ⟨_, h, rfl⟩
theorem vr_bo {ι : Im} {x : Bool} {v : Value} (h : VR ι (.bo x) v) : v = .bool x := by cases h; rfl
theorem vr_nu {ι : Im} {k : IntKind} {n : Int} {v : Value} (h : VR ι (.nu k n) v) : v = .int k n := by cases h; rfl
theorem vr_st {ι : Im} {s : List Nat} {v : Value} (h : VR ι (.st s) v) : ∃ x : ByteArray, v = .string x ∧ x.data.toList.map (·.toNat) = s := by cases h with | st h => exact ⟨_, rfl, h⟩
theorem vr_ptr {ι : Im} {k o : Nat} {v : Value} (h : VR ι (.ptr k o) v) : ∃ i, ι k = some i ∧ v = .pointer (some ⟨i.b, i.base + o, none⟩) := by cases h with | ptr h => exact ⟨_, h, rfl⟩

/-- A cell's value. -/
theorem VR.one {ι : Im} {p : CV} {v : Value} (h : VR ι p v) (hp : p.one = true) : v.oneCell' = true ∧ v.cells = #[v] := by
  cases h <;> first | exact ⟨rfl, rfl⟩ | simp [CV.one] at hp
theorem cells_nagg {p : CV} (h : p.isAgg = false) : p.cells = [p] := by cases p <;> first | rfl | simp [CV.isAgg] at h
/-- The cells of a value that is known. -/
theorem VR.cells {ι : Im} {p : CV} {v : Value} (h : VR ι p v) (hp : p.sol = true) : VRL ι p.cells v.cells.toList ∧ (∀ u ∈ v.cells.toList, u.oneCell' = true) ∧ (p.isAgg = true → ∃ vs, v = .agg vs) ∧ (p.isAgg = false → v.cells = #[v]) := by
  by_cases ha : p.isAgg = true
  · cases p <;> simp [CV.isAgg] at ha
    rename_i cs
    obtain ⟨vs, rfl, hv⟩ := vr_agg h
    refine ⟨hv, fun u hu => ?_, fun _ => ⟨_, rfl⟩, fun h => by simp [CV.isAgg] at h⟩
    obtain ⟨j, hj, rfl⟩ := List.getElem_of_mem hu
    have hj' : j < cs.length := by rw [← hv.1]; exact hj
    have h1 := hv.2 j hj'
    have h2 : cs[j].one = true := List.all_eq_true.1 hp _ (List.getElem_mem hj')
    have h3 := (h1.one h2).1
    have hj2 : j < vs.toList.length := hj
    rw [List.getD_eq_getElem?_getD, List.getElem?_eq_getElem hj2] at h3
    exact h3
  · have ha : p.isAgg = false := by simpa using ha
    have h1 := cells_nagg ha
    have h2 : p.one = true := List.all_eq_true.1 hp _ (by rw [h1]; simp)
    obtain ⟨h3, h4⟩ := h.one h2
    refine ⟨by rw [h1, h4]; exact VRL.cons h (VRL.nil ι), fun u hu => ?_, fun h => by rw [ha] at h; simp at h, fun _ => h4⟩
    rw [h4] at hu
    simp at hu; subst hu; exact h3

theorem vr_cell (ι : Im) (v : Value) : VR ι (ofCell v) v := by
  unfold ofCell
  split <;> first
    | exact .bo _
    | exact .nu _ _
    | exact .st rfl
    | exact .nils
    | exact .nilp
    | exact .nilm
    | exact .nilf
    | exact .undef _
theorem vrl_cells (ι : Im) (vs : List Value) : VRL ι (vs.map ofCell) vs := by
  induction vs with
  | nil => exact VRL.nil ι
  | cons v vs ih => exact VRL.cons (vr_cell ι v) ih
theorem vr_value (ι : Im) (v : Value) : VR ι (ofValue v) v := by
  by_cases h : ∃ cs, v = .agg cs
  · obtain ⟨cs, rfl⟩ := h
    exact VR.agg' (vrl_cells ι cs.toList)
  · have h1 : ofValue v = ofCell v := by cases v <;> first | rfl | exact absurd ⟨_, rfl⟩ h
    rw [h1]; exact vr_cell ι v
theorem ofValue_cells (v : Value) : (ofValue v).cells = zeroL v := by
  by_cases h : ∃ cs, v = .agg cs
  · obtain ⟨cs, rfl⟩ := h; rfl
  · have h1 : ofValue v = ofCell v := by cases v <;> first | rfl | exact absurd ⟨_, rfl⟩ h
    have h2 : (ofCell v).cells = [ofCell v] := by
      unfold ofCell; split <;> rfl
    have h3 : v.cells = #[v] := by cases v <;> first | rfl | exact absurd ⟨_, rfl⟩ h
    rw [h1, h2, zeroL, h3]; rfl

/-! ### Blocks -/
/-- Which code a range over a function may hold. -/
class LG where
  good : Nat → Nat → Array Tmp → Code → Code → Prop
variable [LG] [HK]
def HB.wr : HB → Bool
  | .cells _ _ _ | .mp _ | .df | .lp _ => true
  | _ => false
def HB.live : HB → Bool
  | .dead => false
  | _ => true
def BR (ι : Im) (i : Inf) (w : World) : HB → Prop
  | .cells cs more el => ∃ arr e, w.heap[i.b]? = some (.cells arr e (0, 0)) ∧ i.base + i.mc ≤ arr.size ∧ cs.length ≤ i.mc ∧ i.size = cs.length ∧ i.opn = (!Nat.beq more 0) ∧ i.esz = more ∧ VRL ι cs ((arr.toList.drop i.base).take cs.length) ∧ e = el ∧ (more = 0 → i.base = 0 ∧ arr.size = cs.length)
  | .ro cs => ∃ arr e fr, w.heap[i.b]? = some (.cells arr e fr) ∧ i.opn = true ∧ i.esz = 0 ∧ VRL ι cs ((arr.toList.drop i.base).take cs.length)
  | .mp es => ∃ ents clock, w.heap[i.b]? = some (.map ents clock) ∧ VRL ι (es.map (·.1)) (ents.toList.map (·.key)) ∧ VRL ι (es.map (·.2)) (ents.toList.map (·.val))
  | .kp cs ys more => ∃ arr e, w.heap[i.b]? = some (.cells arr e (0, 0)) ∧ i.base + i.mc ≤ arr.size ∧ cs.length ≤ i.mc ∧ i.size = cs.length ∧ i.opn = true ∧ i.esz = more ∧ VRL ι cs ((arr.toList.drop i.base).take cs.length) ∧ ys.all uniq = true ∧ (cs.length + ys.length ≤ i.mc → VRL ι ys ((arr.toList.drop (i.base + cs.length)).take ys.length))
  | .fz cs => ∃ arr e fr, w.heap[i.b]? = some (.cells arr e fr) ∧ VRL ι cs ((arr.toList.drop i.base).take cs.length)
  | .df => w.heap[i.b]? = some (.deferred (some []))
  | .lp r => ∃ fn tmps d, w.heap[i.b]? = some (.loop { state := r.st, pending := r.pend, fn := fn, tmps := tmps, params := r.ps, assign := r.as, body := r.bd, defers := d }) ∧ tmps.size = r.n ∧ (∀ t, t < r.n → VR ι (Fr.at r.s t) (tmps.getD t Go.undef)) ∧ LG.good r.f r.n r.ps r.as r.bd
  | .dead => True
structure Sim (N0 : Nat) (ι : Im) (h : Hp) (w : World) : Prop where
  lt : ∀ k i, ι k = some i → k < h.n ∧ i.b < w.heap.size
  own : ∀ k i, ι k = some i → (h.get k).wr = true → N0 ≤ i.b
  fresh : ∀ k, h.n ≤ k → h.get k = .dead
  blk : ∀ k i, ι k = some i → BR ι i w (h.get k)
  inj : ∀ k k' i i', ι k = some i → ι k' = some i' → k ≠ k' → (h.get k).wr = true → (h.get k').live = true → i.b ≠ i'.b
theorem BR.mono {ι ι' : Im} (hle : ι.le ι') {i : Inf} {w w' : World} (hw : w'.heap[i.b]? = w.heap[i.b]?) {b : HB} (h : BR ι i w b) : BR ι' i w' b := by
  cases b with
  | cells cs more el => obtain ⟨arr, e, h1, h2, h3, h4, h5, h6, h7, h8⟩ := h; exact ⟨arr, e, hw.trans h1, h2, h3, h4, h5, h6, h7.mono hle, h8⟩
  | fz cs => obtain ⟨arr, e, fr, h1, h2⟩ := h; exact ⟨arr, e, fr, hw.trans h1, h2.mono hle⟩
  | ro cs => obtain ⟨arr, e, fr, h1, h2, h3, h4⟩ := h; exact ⟨arr, e, fr, hw.trans h1, h2, h3, h4.mono hle⟩
  | mp es => obtain ⟨en, c, h1, h2, h3⟩ := h; exact ⟨en, c, hw.trans h1, h2.mono hle, h3.mono hle⟩
  | kp cs ys more => obtain ⟨arr, e, h1, h2, h3, h4, h5, h6, h7, h8, h9⟩ := h; exact ⟨arr, e, hw.trans h1, h2, h3, h4, h5, h6, h7.mono hle, h8, fun hm => (h9 hm).mono hle⟩
  | df => exact hw.trans h
  | lp r => obtain ⟨fn, tmps, d, h1, h2, h3, h4⟩ := h; exact ⟨fn, tmps, d, hw.trans h1, h2, fun t ht => (h3 t ht).mono hle, h4⟩
  | dead => trivial

/-- The world went on and left what is there. -/
structure Ext (N0 : Nat) (w w' : World) : Prop where
  os : w'.os = w.os
  tape : w'.tape = w.tape
  output : w'.output = w.output
  size : w.heap.size ≤ w'.heap.size
  block : ∀ b, b < N0 → w'.heap[b]? = w.heap[b]?
theorem Ext.refl (N0 : Nat) (w : World) : Ext N0 w w := ⟨rfl, rfl, rfl, Nat.le_refl _, fun _ _ => rfl⟩
theorem Ext.trans {N0 : Nat} {w w' w'' : World} (h : Ext N0 w w') (h' : Ext N0 w' w'') : Ext N0 w w'' :=
  ⟨h'.os.trans h.os, h'.tape.trans h.tape, h'.output.trans h.output, Nat.le_trans h.size h'.size, fun b hb => (h'.block b hb).trans (h.block b hb)⟩
theorem Sim.world {N0 : Nat} {ι : Im} {h : Hp} {w w' : World} (S : Sim N0 ι h w) (E : Ext w.heap.size w w') : Sim N0 ι h w' :=
  ⟨fun k i e => ⟨(S.lt k i e).1, Nat.lt_of_lt_of_le (S.lt k i e).2 E.size⟩, S.own, S.fresh, fun k i e => (S.blk k i e).mono (Im.le_refl ι) (E.block _ (S.lt k i e).2), S.inj⟩
/-- A block of the reckoner's own that the model has not yet. -/
theorem Sim.push {N0 : Nat} {ι : Im} {h : Hp} {w : World} (S : Sim N0 ι h w) (b : HB) : Sim N0 ι (h.push b) w := by
  have hg : ∀ k i, ι k = some i → (h.push b).get k = h.get k := fun k i e => by
    rw [Hp.get_push, if_neg (Nat.ne_of_lt (S.lt k i e).1)]
  refine ⟨fun k i e => ⟨Nat.lt_succ_of_lt (S.lt k i e).1, (S.lt k i e).2⟩, fun k i e hw => S.own k i e (by rw [← hg k i e]; exact hw), fun k hk => ?_, fun k i e => by rw [hg k i e]; exact S.blk k i e, fun k k' i i' e e' hne h1 h2 => ?_⟩
  · have : h.n + 1 ≤ k := hk
    rw [Hp.get_push, if_neg (by omega)]; exact S.fresh k (by omega)
  · rw [hg k i e] at h1; rw [hg k' i' e'] at h2
    exact S.inj k k' i i' e e' hne h1 h2
def Im.set (ι : Im) (k : Nat) (i : Inf) : Im := fun j => if j = k then some i else ι j
theorem Im.le_set {ι : Im} {k : Nat} {i : Inf} (h : ι k = none) : ι.le (ι.set k i) := fun j i' e => by
  unfold Im.set
  split
  · rename_i e'; subst e'; rw [h] at e; cases e
  · exact e
/-- The model lays a block that the reckoner has. -/
theorem Sim.laid {N0 : Nat} {ι : Im} {h : Hp} {w : World} (S : Sim N0 ι h w) (hN : N0 ≤ w.heap.size) {k : Nat} (hk : k < h.n) (hn : ι k = none) {w' : World} (hsz : w'.heap.size = w.heap.size + 1) (hold : ∀ b, b < w.heap.size → w'.heap[b]? = w.heap[b]?) {i : Inf} (hib : i.b = w.heap.size) (hb : BR (ι.set k i) i w' (h.get k)) : Sim N0 (ι.set k i) h w' := by
  refine ⟨fun j i' e => ?_, fun j i' e hw => ?_, S.fresh, fun j i' e => ?_, fun j j' a a' e e' hne h1 h2 => ?_⟩
  · unfold Im.set at e; split at e
    · rename_i e'; subst e'; injection e with e; subst e; exact ⟨hk, by rw [hib, hsz]; omega⟩
    · have := S.lt j i' e; exact ⟨this.1, by rw [hsz]; omega⟩
  · unfold Im.set at e; split at e
    · injection e with e; subst e; rw [hib]; exact hN
    · exact S.own j i' e hw
  · unfold Im.set at e; split at e
    · rename_i e'; subst e'; injection e with e; subst e; exact hb
    · exact (S.blk j i' e).mono (Im.le_set hn) (hold _ (S.lt j i' e).2)
  · unfold Im.set at e e'
    split at e
    · injection e with e; subst e
      split at e'
      · rename_i e1 e2; subst e1; subst e2; exact absurd rfl hne
      · have := (S.lt j' a' e').2; rw [hib]; omega
    · split at e'
      · injection e' with e'; subst e'
        have := (S.lt j a e).2; rw [hib]; omega
      · exact S.inj j j' a a' e e' hne h1 h2
/-- A block that may be written is written. -/
theorem Sim.put {N0 : Nat} {ι : Im} {h : Hp} {w w' : World} (S : Sim N0 ι h w) {k : Nat} {i : Inf} (hi : ι k = some i) (hw : (h.get k).wr = true) {b : HB} (hs : w'.heap.size = w.heap.size) (hold : ∀ j, j ≠ i.b → w'.heap[j]? = w.heap[j]?) (hb : BR ι i w' b) : Sim N0 ι (h.set k b) w' := by
  refine ⟨fun j i' e => ⟨(S.lt j i' e).1, by rw [hs]; exact (S.lt j i' e).2⟩, fun j i' e hw' => ?_, fun j hj => ?_, fun j i' e => ?_, fun j j' a a' e e' hne h1 h2 => ?_⟩
  · rw [Hp.get_set] at hw'
    split at hw'
    · rename_i e1; subst e1; exact S.own j i' e hw
    · exact S.own j i' e hw'
  · rw [Hp.get_set, if_neg]
    · exact S.fresh j hj
    · have := (S.lt k i hi).1; have : h.n ≤ j := hj; omega
  · rw [Hp.get_set]
    split
    · rename_i e1; subst e1; rw [hi] at e; injection e with e; subst e; exact hb
    · rename_i hne
      by_cases hl : (h.get j).live = true
      · exact (S.blk j i' e).mono (Im.le_refl ι) (hold _ (fun e1 => S.inj k j i i' hi e (Ne.symm hne) hw hl e1.symm))
      · cases hd : h.get j with
        | dead => trivial
        | _ => rw [hd] at hl; simp [HB.live] at hl
  · rw [Hp.get_set] at h1 h2
    by_cases e1 : j = k
    · subst e1
      rw [if_neg (Ne.symm hne)] at h2
      exact S.inj j j' a a' e e' hne hw h2
    · rw [if_neg e1] at h1
      by_cases e2 : j' = k
      · subst e2
        have hl : (h.get j').live = true := by cases hd : h.get j' with
          | dead => rw [hd] at hw; simp [HB.wr] at hw
          | _ => rfl
        exact S.inj j j' a a' e e' hne h1 hl
      · rw [if_neg e2] at h2
        exact S.inj j j' a a' e e' hne h1 h2
theorem Sim.wrote {N0 : Nat} {ι : Im} {h : Hp} {w w' : World} (S : Sim N0 ι h w) {k : Nat} {i : Inf} (hi : ι k = some i) (hw : (h.get k).wr = true) {b : HB} (hb1 : b.wr = true ∨ b = .dead) (hs : w'.heap.size = w.heap.size) (hold : ∀ j, j ≠ i.b → w'.heap[j]? = w.heap[j]?) (hb : BR ι i w' b) : Sim N0 ι (h.set k b) w' := S.put hi hw hs hold hb
end Go.CO
