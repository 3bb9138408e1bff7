/- The reckoner with memory: cells, parts put into cells, what is read. -/
import Derived.Test.YtommoodcdkjggabGreatDoorCo3
set_option linter.unusedVariables false
set_option linter.unusedSectionVars false
set_option linter.unusedSimpArgs false
namespace Go.CO
variable [LG] [HK]

/-! ### Lists -/
theorem setAt_nil {α : Type} (cs : List α) (o : Nat) : setAt cs o [] = cs := by cases cs <;> cases o <;> rfl
theorem setAt_cons {α : Type} : ∀ (cs : List α) (o : Nat) (x : α) (xs : List α), setAt cs o (x :: xs) = setAt (cs.set o x) (o + 1) xs
  | [], o, x, xs => by cases xs <;> simp [setAt]
  | c :: cs, 0, x, xs => by cases xs <;> simp [setAt, setAt_nil]
  | c :: cs, o + 1, x, xs => by
    cases xs with
    | nil => simp only [setAt, List.set_cons_succ, setAt_nil, setAt_cons cs o x []]
    | cons y ys => simp only [setAt, List.set_cons_succ]; rw [setAt_cons cs o x (y :: ys)]
theorem setAt_length {α : Type} : ∀ (xs cs : List α) (o : Nat), (setAt cs o xs).length = cs.length
  | [], cs, o => by rw [setAt_nil]
  | x :: xs, cs, o => by rw [setAt_cons, setAt_length xs]; simp
theorem setAt_append {α : Type} : ∀ (A cs B xs : List α) (o : Nat), o + xs.length ≤ cs.length → setAt (A ++ cs ++ B) (A.length + o) xs = A ++ setAt cs o xs ++ B
  | A, cs, B, [], o, _ => by rw [setAt_nil, setAt_nil]
  | A, cs, B, x :: xs, o, h => by
    simp only [List.length_cons] at h
    rw [setAt_cons, setAt_cons]
    have h1 : (A ++ cs ++ B).set (A.length + o) x = A ++ cs.set o x ++ B := by
      rw [List.append_assoc, List.set_append_right _ _ (by omega), Nat.add_sub_cancel_left, List.set_append_left _ _ (by omega), List.append_assoc]
    rw [h1, Nat.add_assoc, setAt_append A (cs.set o x) B xs (o + 1) (by simp; omega)]
theorem VRL.set {ι : Im} {cs : List CV} {vs : List Value} (h : VRL ι cs vs) {c : CV} {v : Value} (hc : VR ι c v) (o : Nat) : VRL ι (cs.set o c) (vs.set o v) := by
  refine ⟨by simp [h.1], fun j hj => ?_⟩
  have hj' : j < cs.length := by simpa using hj
  have := h.2 j hj'
  rw [List.getD_eq_getElem?_getD, List.getElem?_eq_getElem (by rw [h.1]; exact hj')] at this
  rw [List.getD_eq_getElem?_getD, List.getElem?_eq_getElem (by simp [h.1]; exact hj')]
  simp only [List.getElem_set, Option.getD_some] at this ⊢
  split
  · exact hc
  · exact this
theorem VRL.setAt {ι : Im} : ∀ (xs : List CV) (us : List Value) {cs : List CV} {vs : List Value}, VRL ι cs vs → VRL ι xs us → ∀ o, VRL ι (CO.setAt cs o xs) (CO.setAt vs o us)
  | [], us, cs, vs, h, hx, o => by
    have : us = [] := List.eq_nil_of_length_eq_zero (by simpa using hx.1)
    subst this; rw [setAt_nil, setAt_nil]; exact h
  | x :: xs, us, cs, vs, h, hx, o => by
    cases us with
    | nil => have := hx.1; simp at this
    | cons u us =>
      rw [setAt_cons, setAt_cons]
      exact VRL.setAt xs us (h.set hx.tail.1 o) hx.tail.2 (o + 1)
theorem zipIdx_fold (off : Nat) : ∀ (l : List Value) (k : Nat) (arr : Array Value), ((l.zipIdx k).foldl (fun cs x => cs.setIfInBounds (off + x.2) x.1) arr).toList = setAt arr.toList (off + k) l
  | [], k, arr => by rw [setAt_nil]; rfl
  | v :: l, k, arr => by
    simp only [List.zipIdx_cons, List.foldl_cons]
    rw [zipIdx_fold off l (k + 1), setAt_cons]
    simp [Nat.add_assoc]
theorem zipIdx_fold' (off : Nat) (vs : Array Value) (arr : Array Value) : (vs.zipIdx.foldl (fun cs (c, j) => cs.setIfInBounds (off + j) c) arr).toList = setAt arr.toList off vs.toList := by
  rw [← Array.foldl_toList, Array.toList_zipIdx]
  exact zipIdx_fold off vs.toList 0 arr
theorem sub_length {cs : List CV} {o n : Nat} (h : o + n ≤ cs.length) : (sub cs o n).length = n := by simp [sub]; omega

/-! ### Parts put into cells -/
/-- Parts and their values, side by side. -/
def PVs (ι : Im) (ips : List (Nat × CV)) (ivs : List (Nat × Value)) : Prop :=
  ivs.map (·.1) = ips.map (·.1) ∧ VRL ι (ips.map (·.2)) (ivs.map (·.2))
theorem fill_step {ι : Im} {cs : List CV} {arr : Array Value} {p : CV} {v : Value} (h : VRL ι cs arr.toList) (hv : VR ι p v) (hs : p.sol = true) (off : Nat) :
    v.cells.size = p.cells.length ∧ VRL ι (setAt cs off p.cells) (v.cells.zipIdx.foldl (fun cs (c, j) => cs.setIfInBounds (off + j) c) arr).toList := by
  obtain ⟨h1, _⟩ := hv.cells hs
  refine ⟨by simpa using h1.1, ?_⟩
  rw [zipIdx_fold']
  exact VRL.setAt _ _ h h1 off
theorem fillS_spec {ι : Im} {fs : List (Nat × Nat × Bool)} {place : Nat → Option (Nat × Nat)} (hpl : ∀ i, place i = (fs[i]?).map fun f => (f.1, f.2.1)) : ∀ (ips : List (Nat × CV)) (ivs : List (Nat × Value)) (cs : List CV) (arr : Array Value) (cs' : List CV),
    PVs ι ips ivs → (ips.all fun p => p.2.sol) = true → VRL ι cs arr.toList → fillS fs cs ips = some cs' → ∃ arr', Instr.fill place arr ivs = some arr' ∧ VRL ι cs' arr'.toList
  | [], ivs, cs, arr, cs', hp, _, h, hf => by
    cases ivs with
    | cons => have := hp.1; simp at this
    | nil => simp only [fillS, Option.some.injEq] at hf; subst hf; exact ⟨arr, rfl, h⟩
  | (i, p) :: ips, ivs, cs, arr, cs', hp, hs, h, hf => by
    cases ivs with
    | nil => have := hp.1; simp at this
    | cons iv ivs =>
      obtain ⟨i', v⟩ := iv
      obtain ⟨h1, h2⟩ := hp
      simp only [List.map_cons, List.cons.injEq] at h1
      obtain ⟨rfl, h1⟩ := h1
      simp only [List.all_cons, Bool.and_eq_true] at hs
      obtain ⟨hv, hr⟩ := VRL.tail h2
      simp only [fillS] at hf
      split at hf
      · cases hf
      · rename_i off size g hi
        split at hf
        · rename_i hc
          simp only [Bool.and_eq_true] at hc
          have hsz := beq1 hc.1
          have hle := ble1 hc.2
          obtain ⟨e1, e2⟩ := fill_step h hv hs.1 off
          have e1 : v.cells.size = p.cells.length := e1
          obtain ⟨arr', e3, e4⟩ := fillS_spec hpl ips ivs _ _ cs' ⟨h1, hr⟩ hs.2 e2 hf
          refine ⟨arr', ?_, e4⟩
          simp only [Instr.fill, hpl, hi, Option.map_some]
          rw [if_neg]
          · exact e3
          · have := h.1
            simp only [Array.length_toList] at this
            simp only [ne_eq, Bool.or_eq_true, decide_eq_true_eq, not_or, Decidable.not_not]
            exact ⟨by omega, by omega⟩
        · cases hf
theorem fillA_spec {ι : Im} {esz : Nat} : ∀ (ips : List (Nat × CV)) (ivs : List (Nat × Value)) (cs : List CV) (arr : Array Value) (cs' : List CV),
    PVs ι ips ivs → (ips.all fun p => p.2.sol) = true → VRL ι cs arr.toList → fillA esz cs ips = some cs' → ∃ arr', Instr.fill (fun i => some (i * esz, esz)) arr ivs = some arr' ∧ VRL ι cs' arr'.toList
  | [], ivs, cs, arr, cs', hp, _, h, hf => by
    cases ivs with
    | cons => have := hp.1; simp at this
    | nil => simp only [fillA, Option.some.injEq] at hf; subst hf; exact ⟨arr, rfl, h⟩
  | (i, p) :: ips, ivs, cs, arr, cs', hp, hs, h, hf => by
    cases ivs with
    | nil => have := hp.1; simp at this
    | cons iv ivs =>
      obtain ⟨i', v⟩ := iv
      obtain ⟨h1, h2⟩ := hp
      simp only [List.map_cons, List.cons.injEq] at h1
      obtain ⟨rfl, h1⟩ := h1
      simp only [List.all_cons, Bool.and_eq_true] at hs
      obtain ⟨hv, hr⟩ := VRL.tail h2
      simp only [fillA] at hf
      split at hf
      · rename_i hc
        simp only [Bool.and_eq_true] at hc
        have hsz := beq1 hc.1
        have hle := ble1 hc.2
        obtain ⟨e1, e2⟩ := fill_step h hv hs.1 (i' * esz)
        have e1 : v.cells.size = p.cells.length := e1
        obtain ⟨arr', e3, e4⟩ := fillA_spec ips ivs _ _ cs' ⟨h1, hr⟩ hs.2 e2 hf
        refine ⟨arr', ?_, e4⟩
        simp only [Instr.fill]
        rw [if_neg]
        · exact e3
        · have := h.1
          simp only [Array.length_toList] at this
          simp only [ne_eq, Bool.or_eq_true, decide_eq_true_eq, not_or, Decidable.not_not]
          exact ⟨by omega, by omega⟩
      · cases hf
theorem fillA_length {esz : Nat} : ∀ (ips : List (Nat × CV)) (cs cs' : List CV), fillA esz cs ips = some cs' → cs'.length = cs.length
  | [], cs, cs', h => by simp only [fillA, Option.some.injEq] at h; rw [h]
  | (i, p) :: ips, cs, cs', h => by
    simp only [fillA] at h
    split at h
    · rw [fillA_length ips _ _ h, setAt_length]
    · cases h

/-! ### Zeros -/
theorem rep_length (z : List CV) : ∀ n, (rep z n).length = n * z.length
  | 0 => by simp [rep]
  | n + 1 => by simp [rep, rep_length z n, Nat.succ_mul]; omega
theorem rep_get (z : List CV) : ∀ n j, j < n * z.length → (rep z n)[j]? = z[j % z.length]?
  | 0, j, h => by omega
  | n + 1, j, h => by
    simp only [rep]
    by_cases hj : j < z.length
    · rw [List.getElem?_append_left hj, Nat.mod_eq_of_lt hj]
    · have h1 : j - z.length < n * z.length := by rw [Nat.succ_mul] at h; omega
      rw [List.getElem?_append_right (by omega), rep_get z n _ h1]
      congr 1
      conv => rhs; rw [show j = (j - z.length) + z.length by omega]
      rw [Nat.add_mod_right]
theorem vrl_zeros (ι : Im) (zv : Value) (n m : Nat) (hm : m = n * (zeroL zv).length) : VRL ι (rep (zeroL zv) n) ((Array.range m).map (zv.cells[· % zv.cells.size]!)).toList := by
  have hz : (zeroL zv).length = zv.cells.size := by simp [zeroL]
  refine ⟨by simp [rep_length, hm], fun j hj => ?_⟩
  rw [rep_length] at hj
  have h1 := rep_get (zeroL zv) n j hj
  have h0 : 0 < (zeroL zv).length := by
    rcases Nat.eq_zero_or_pos (zeroL zv).length with e | e
    · rw [e] at hj; simp at hj
    · exact e
  have hlt : j % (zeroL zv).length < (zeroL zv).length := Nat.mod_lt _ h0
  rw [List.getElem?_eq_getElem (by rw [rep_length]; exact hj), List.getElem?_eq_getElem hlt] at h1
  injection h1 with h1
  rw [h1]
  have hlt2 : j % zv.cells.size < zv.cells.size := by rw [← hz]; exact hlt
  have h3 : ((Array.range m).map (zv.cells[· % zv.cells.size]!)).toList.getD j Go.undef = zv.cells[j % zv.cells.size] := by
    rw [List.getD_eq_getElem?_getD]
    have : ((Array.range m).map (zv.cells[· % zv.cells.size]!)).toList[j]? = some (zv.cells[j % zv.cells.size]!) := by
      simp [hm, hj]
    rw [this]
    simp [hlt2]
  rw [h3]
  have h4 : (zeroL zv)[j % (zeroL zv).length] = ofCell (zv.cells[j % zv.cells.size]) := by
    simp [zeroL]
  rw [h4]; exact vr_cell ι _

/-! ### What is read -/
theorem cell_cells {w : World} {g o : Nat} {arr : Array Value} {e : TypeId} {f : Nat × Nat} (h : w.heap[g]? = some (.cells arr e f)) : w.cell? ⟨g, o, none⟩ = arr[o]? := by
  unfold World.cell?; simp [h]
theorem add_none (g o k : Nat) : (⟨g, o, none⟩ : Addr).add k = ⟨g, o + k, none⟩ := by
  unfold Addr.add
  split
  · rename_i h; subst h; rfl
  · rfl
theorem sub_cells {ι : Im} {i : Inf} {w : World} {cs : List CV} {arr : Array Value} {e : TypeId} {f : Nat × Nat} (hg : w.heap[i.b]? = some (.cells arr e f)) (h : VRL ι cs ((arr.toList.drop i.base).take cs.length)) {o n : Nat} (hle : o + n ≤ cs.length) :
    ∃ vs, VRL ι (sub cs o n) vs ∧ vs.length = n ∧ (∀ j u, vs[j]? = some u → w.cell? ((⟨i.b, i.base + o, none⟩ : Addr).add j) = some u) := by
  refine ⟨_, h.sub o n, by rw [(h.sub o n).1, sub_length hle], fun j u hu => ?_⟩
  rw [add_none, cell_cells hg]
  obtain ⟨hj, hu'⟩ := List.getElem?_eq_some_iff.1 hu
  have hj' : j < n := by rw [(h.sub o n).1, sub_length hle] at hj; exact hj
  rw [List.getElem?_take, if_pos hj', List.getElem?_drop, List.getElem?_take, if_pos (by omega), List.getElem?_drop] at hu
  rw [← Array.getElem?_toList, ← hu]
  congr 1; omega
theorem BR.sub {ι : Im} {i : Inf} {w : World} {b : HB} (h : BR ι i w b) {o n : Nat} {cs : List CV} (hs : hbSub o n b = some cs) :
    ∃ vs, VRL ι cs vs ∧ vs.length = n ∧ (∀ j u, vs[j]? = some u → w.cell? ((⟨i.b, i.base + o, none⟩ : Addr).add j) = some u) := by
  cases b with
  | cells ds more el =>
    simp only [hbSub] at hs
    split at hs
    · rename_i hle
      injection hs with hs; subst hs
      obtain ⟨arr, e, hg, _, _, _, _, _, hv, _⟩ := h
      exact sub_cells hg hv (ble1 hle)
    · cases hs
  | ro ds =>
    simp only [hbSub] at hs
    split at hs
    · rename_i hle
      injection hs with hs; subst hs
      obtain ⟨arr, e, f, hg, _, _, hv⟩ := h
      exact sub_cells hg hv (ble1 hle)
    · cases hs
  | kp ds ys more =>
    simp only [hbSub] at hs
    split at hs
    · rename_i hle
      injection hs with hs; subst hs
      obtain ⟨arr, e, hg, _, _, _, _, _, hv, _, _⟩ := h
      exact sub_cells hg hv (ble1 hle)
    · cases hs
  | fz ds =>
    simp only [hbSub] at hs
    split at hs
    · rename_i hle
      injection hs with hs; subst hs
      obtain ⟨arr, e, f, hg, hv⟩ := h
      exact sub_cells hg hv (ble1 hle)
    · cases hs
  | _ => cases hs
theorem hbVal_sub {o n : Nat} {a : Bool} {b : HB} {c : CV} (h : hbVal o n a b = some c) : (a = true ∧ ∃ cs, hbSub o n b = some cs ∧ c = .agg cs) ∨ (a = false ∧ n = 1 ∧ hbSub o n b = some [c]) := by
  have key : ∀ cs, val cs o n a = some c → (a = true ∧ o + n ≤ cs.length ∧ c = .agg (CO.sub cs o n)) ∨ (a = false ∧ n = 1 ∧ o + n ≤ cs.length ∧ CO.sub cs o n = [c]) := by
    intro cs hv
    unfold val at hv
    split at hv
    · cases hv
    · rename_i hle
      have hle := ble1 hle
      cases a with
      | true => injection hv with hv; exact .inl ⟨rfl, hle, hv.symm⟩
      | false =>
        dsimp only at hv
        split at hv
        · rename_i h1
          have h1 := beq1 h1
          subst h1
          refine .inr ⟨rfl, rfl, hle, ?_⟩
          obtain ⟨ho, hc⟩ := List.getElem?_eq_some_iff.1 hv
          simp only [CO.sub]
          rw [List.drop_eq_getElem_cons ho, hc]; rfl
        · cases hv
  cases b with
  | cells ds more el =>
    rcases key ds h with ⟨h1, h2, h3⟩ | ⟨h1, h2, h3, h4⟩
    · exact .inl ⟨h1, _, by simp only [hbSub, Nat.ble_eq_true_of_le h2], h3⟩
    · exact .inr ⟨h1, h2, by simp only [hbSub, Nat.ble_eq_true_of_le h3, h4]⟩
  | ro ds =>
    rcases key ds h with ⟨h1, h2, h3⟩ | ⟨h1, h2, h3, h4⟩
    · exact .inl ⟨h1, _, by simp only [hbSub, Nat.ble_eq_true_of_le h2], h3⟩
    · exact .inr ⟨h1, h2, by simp only [hbSub, Nat.ble_eq_true_of_le h3, h4]⟩
  | fz ds =>
    rcases key ds h with ⟨h1, h2, h3⟩ | ⟨h1, h2, h3, h4⟩
    · exact .inl ⟨h1, _, by simp only [hbSub, Nat.ble_eq_true_of_le h2], h3⟩
    · exact .inr ⟨h1, h2, by simp only [hbSub, Nat.ble_eq_true_of_le h3, h4]⟩
  | kp ds ys more =>
    rcases key ds h with ⟨h1, h2, h3⟩ | ⟨h1, h2, h3, h4⟩
    · exact .inl ⟨h1, _, by simp only [hbSub, Nat.ble_eq_true_of_le h2], h3⟩
    · exact .inr ⟨h1, h2, by simp only [hbSub, Nat.ble_eq_true_of_le h3, h4]⟩
  | _ => cases h
theorem range_map_getD (vs : List Value) : (List.range vs.length).map (fun j => vs.getD j Go.undef) = vs := by
  apply List.ext_getElem
  · simp
  · intro j h1 h2; simp at h1; simp [h1]
theorem run_cells {P : Program} {w : World} {ad : Addr} {vs : List Value} (h : ∀ j u, vs[j]? = some u → w.cell? (ad.add j) = some u) : (loadCells ad vs.length).run P w = .ok vs.toArray w := by
  rw [run_loadCells (P := P) w ad vs.length (fun j => vs.getD j Go.undef) fun j hj => by rw [h j vs[j] (List.getElem?_eq_getElem hj)]; simp [hj], range_map_getD]
/-- A variable is read. -/
theorem run_loadVar {P : Program} {ι : Im} {i : Inf} {w : World} {b : HB} (hb : BR ι i w b) {t : TypeId} {n : Nat} {a : Bool} (ht : tsz P t = some (n, a)) {o : Nat} {c : CV} (h : hbVal o n a b = some c) :
    ∃ v, VR ι c v ∧ (loadVar t ⟨i.b, i.base + o, none⟩).run P w = .ok v w := by
  obtain ⟨inf, d, hi, hs, hu, hg⟩ := tsz_some ht
  rcases hbVal_sub h with ⟨rfl, cs, h1, rfl⟩ | ⟨rfl, rfl, h1⟩
  · obtain ⟨vs, h2, h3, h4⟩ := hb.sub h1
    refine ⟨.agg vs.toArray, VR.agg' (by simpa using h2), ?_⟩
    have h5 := run_cells (P := P) h4
    rw [h3] at h5
    simp only [loadVar, Sem.run_bind, run_isAgg hu, Result.andThen_ok, hg, if_true, run_size hi, hs, h5, Sem.run_pure]
  · obtain ⟨vs, h2, h3, h4⟩ := hb.sub h1
    cases vs with
    | nil => simp at h3
    | cons v vs =>
      have h5 := h4 0 v rfl
      rw [add_none, Nat.add_zero] at h5
      refine ⟨v, (VRL.tail h2).1, ?_⟩
      simp [loadVar, run_isAgg hu, hg, h5]
end Go.CO
