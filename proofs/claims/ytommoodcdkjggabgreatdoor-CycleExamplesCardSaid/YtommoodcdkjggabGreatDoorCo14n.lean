/- The reckoner with memory: the orders of drawn regions, looked over with numbers in place of rows of marks. -/
import Derived.Test.YtommoodcdkjggabGreatDoorCo14
set_option linter.unusedVariables false
set_option linter.unusedSectionVars false
set_option linter.unusedSimpArgs false
namespace Go.CO

/-! ### Sets of small numbers -/
def has (m j : Nat) : Bool := Nat.beq (Nat.land (Nat.shiftRight m j) 1) 1
def put1 (m j : Nat) : Nat := Nat.lor m (Nat.shiftLeft 1 j)
def subM (a m : Nat) : Bool := Nat.beq (Nat.land a m) a
theorem has_eq (m j : Nat) : has m j = m.testBit j := by
  have h : has m j = Nat.beq ((m >>> j) &&& 1) 1 := rfl
  rw [h, Nat.and_one_is_mod, Nat.shiftRight_eq_div_pow, Nat.testBit_eq_decide_div_mod_eq, Bool.eq_iff_iff]
  simp
theorem has_put1 (m j k : Nat) : has (put1 m j) k = (has m k || decide (k = j)) := by
  have h : put1 m j = m ||| (1 <<< j) := rfl
  rw [has_eq, has_eq, h, Nat.testBit_or, Nat.one_shiftLeft, Nat.testBit_two_pow]
  congr 1
  rw [Bool.eq_iff_iff]; simp; exact eq_comm
theorem subM_iff {a m : Nat} : subM a m = true ↔ ∀ j, has a j = true → has m j = true := by
  have h : subM a m = Nat.beq (a &&& m) a := rfl
  rw [h]
  constructor
  · intro e j hj
    have e := Nat.eq_of_beq_eq_true e
    rw [has_eq] at hj ⊢
    rw [← e, Nat.testBit_and] at hj
    simp at hj; exact hj.2
  · intro hh
    have e : a &&& m = a := by
      apply Nat.eq_of_testBit_eq
      intro j
      rw [Nat.testBit_and]
      have := hh j
      rw [has_eq, has_eq] at this
      cases ha : a.testBit j
      · rfl
      · rw [this ha]; rfl
    rw [e]; exact Nat.beq_refl a
def maskL : List Nat → Nat → Nat
  | [], m => m
  | t :: l, m => maskL l (put1 m t)
theorem has_maskL : ∀ (l : List Nat) (m k : Nat), has (maskL l m) k = (has m k || l.contains k)
  | [], m, k => by simp [maskL]
  | t :: l, m, k => by
    simp only [maskL]
    rw [has_maskL l, has_put1, List.contains_cons, Bool.or_assoc]
    rfl
theorem has_zero (k : Nat) : has 0 k = false := by rw [has_eq]; simp

/-- What the check asks of an operation: the marks of those that come before it, its slot, the slots that it looks at. -/
structure Nf where
  em : Nat
  d : Option Nat
  lm : Nat
def nf (ops : Array Oper) (o : Oper) : Nf := ⟨maskL ((o.after.toList.filter (Region.binds .any)).map (·.on)) 0, o.dst, maskL (o.looksAt ops) 0⟩
def nfs (ops : Array Oper) : List Nf := ops.toList.map (nf ops)
def oeq : Option Nat → Nat → Bool
  | some a, d => Nat.beq a d
  | none, _ => false
def halfN (x y : Nf) : Bool := match x.d with
  | some d => !(has y.lm d) && !(oeq y.d d)
  | none => true
def selfN (x : Nf) : Bool := match x.d with
  | some d => !(has x.lm d)
  | none => true
def readyN : Nat → List Nf → Nat → List Nat
  | _, [], _ => []
  | j, e :: es, m => match !(has m j) && subM e.em m with
    | true => j :: readyN (j + 1) es m
    | false => readyN (j + 1) es m
def reachN (i : Nat) : Nat → List Nf → Nat → Nat
  | _, [], R => R
  | j, e :: es, R => match Nat.beq j i with
    | true => reachN i (j + 1) es R
    | false => match subM e.em R with
      | true => reachN i (j + 1) es (put1 R j)
      | false => reachN i (j + 1) es R
def closedN (i : Nat) : Nat → List Nf → Nat → Bool
  | _, [], _ => true
  | j, e :: es, R => (Nat.beq j i || (!(subM e.em R) || has R j)) && closedN i (j + 1) es R
def planOkN (E : List Nf) : List Stp → List (Nat × Nat × Nf) → Nat → Bool
  | [], _, m => (readyN 0 E m).isEmpty
  | .take i :: l, pd, m => (readyN 0 E m).contains i && (match E[i]? with
      | some x => selfN x && (subM m (reachN i 0 E m) && closedN i 0 E (reachN i 0 E m)) && pd.all (fun p => halfN x p.2.2 && (!(has p.2.1 i) || halfN p.2.2 x)) && planOkN E l ((i, reachN i 0 E m, x) :: pd) (put1 m i)
      | none => false)
  | .only i keep :: l, pd, m => readyN 0 E m == [i] && (match E[i]? with
      | some x => pd.all (fun p => match keep.any (Nat.beq p.1) with
        | true => halfN p.2.2 x && halfN x p.2.2
        | false => !(has p.2.1 i))
      | none => false) && planOkN E l (pd.filter fun p => keep.any (Nat.beq p.1)) (put1 m i)

/-! ### The same in marks -/
structure Rel (n : Nat) (arr : Array Bool) (m : Nat) : Prop where
  size : arr.size = n
  get : ∀ j, arr.getD j false = has m j
theorem Rel.set {n : Nat} {arr : Array Bool} {m i : Nat} (R : Rel n arr m) (hi : i < n) : Rel n (arr.setIfInBounds i true) (put1 m i) := by
  refine ⟨by simp [R.size], fun j => ?_⟩
  rw [has_put1, ← R.get j]
  simp only [Array.getD_eq_getD_getElem?, Array.getElem?_setIfInBounds]
  by_cases h : i = j
  · subst h
    rw [if_pos rfl, if_pos (by rw [R.size]; exact hi)]
    simp
  · rw [if_neg h]
    have : ¬ (j = i) := fun e => h e.symm
    simp [this]
theorem Rel.getT {n : Nat} {arr : Array Bool} {m i : Nat} (R : Rel n arr m) (hi : i < n) : arr.getD i true = has m i := by
  rw [← R.get i]
  have : i < arr.size := by rw [R.size]; exact hi
  simp [Array.getD, this]
theorem edges_eq {n : Nat} {arr : Array Bool} {m : Nat} (R : Rel n arr m) (ops : Array Oper) (o : Oper) : (o.after.all fun e => !Region.binds .any e || arr.getD e.on false) = subM (nf ops o).em m := by
  rw [Bool.eq_iff_iff, subM_iff, ← Array.all_toList, List.all_eq_true]
  simp only [nf, has_maskL, has_zero, Bool.false_or]
  constructor
  · intro h j hj
    simp only [List.contains_iff_mem, List.mem_map, List.mem_filter] at hj
    obtain ⟨e, ⟨he, hb⟩, rfl⟩ := hj
    have := h e he
    rw [hb] at this
    rw [← R.get]; simpa using this
  · intro h e he
    cases hb : Region.binds .any e
    · rfl
    · rw [R.get]
      have := h e.on (by simp only [List.contains_iff_mem, List.mem_map, List.mem_filter]; exact ⟨e, ⟨he, hb⟩, rfl⟩)
      rw [this]; rfl
theorem ready_eq {ops : Array Oper} {arr : Array Bool} {m : Nat} (R : Rel ops.size arr m) : Region.ready .any ops arr = readyN 0 (nfs ops) m := by
  have key : ∀ (l : List Oper) (j : Nat), (∀ t, ops[j + t]? = l[t]?) → (List.range' j l.length).filter (fun i => !arr.getD i true && ((ops[i]?).map (·.after.all fun e => !Region.binds .any e || arr.getD e.on false)).getD false) = readyN j (l.map (nf ops)) m := by
    intro l
    induction l with
    | nil => intro j _; rfl
    | cons o l ih =>
      intro j hj
      have h0 : ops[j]? = some o := by simpa using hj 0
      have hlt : j < ops.size := (Array.getElem?_eq_some_iff.1 h0).1
      have ih' := ih (j + 1) fun t => by rw [Nat.add_assoc, Nat.add_comm 1 t]; simpa using hj (t + 1)
      simp only [List.length_cons, List.range'_succ, List.filter_cons, List.map_cons, readyN]
      rw [R.getT hlt, h0, Option.map_some, Option.getD_some, edges_eq R ops o]
      cases hb : !(has m j) && subM (nf ops o).em m
      · simp only [Bool.false_eq_true, if_false]; exact ih'
      · simp only [if_true]; rw [ih']
  unfold Region.ready
  rw [List.range_eq_range']
  have := key ops.toList 0 (fun t => by simp)
  rw [Array.length_toList] at this
  exact this
theorem reach_rel {ops : Array Oper} {arr : Array Bool} {m i : Nat} (R : Rel ops.size arr m) : Rel ops.size (reach ops i arr) (reachN i 0 (nfs ops) m) := by
  have key : ∀ (l : List Oper) (j : Nat) (arr : Array Bool) (m : Nat), (∀ t, ops[j + t]? = l[t]?) → Rel ops.size arr m → Rel ops.size ((List.range' j l.length).foldl (fun R j => if j == i then R else match ops[j]? with
      | some o => if o.after.all (fun e => !Region.binds .any e || R.getD e.on false) then R.setIfInBounds j true else R
      | none => R) arr) (reachN i j (l.map (nf ops)) m) := by
    intro l
    induction l with
    | nil => intro j arr m _ R; exact R
    | cons o l ih =>
      intro j arr m hj R
      have h0 : ops[j]? = some o := by simpa using hj 0
      have hlt : j < ops.size := (Array.getElem?_eq_some_iff.1 h0).1
      have hj' : ∀ t, ops[j + 1 + t]? = l[t]? := fun t => by rw [Nat.add_assoc, Nat.add_comm 1 t]; simpa using hj (t + 1)
      simp only [List.length_cons, List.range'_succ, List.foldl_cons, List.map_cons, reachN]
      cases hb : Nat.beq j i
      · have hne : (j == i) = false := by simpa using Nat.ne_of_beq_eq_false hb
        simp only [hne, Bool.false_eq_true, if_false, h0, edges_eq R ops o]
        cases hs : subM (nf ops o).em m
        · simp only [Bool.false_eq_true, if_false]; exact ih _ _ _ hj' R
        · simp only [if_true]; exact ih _ _ _ hj' (R.set hlt)
      · have he : (j == i) = true := by simpa using Nat.eq_of_beq_eq_true hb
        simp only [he, if_true]; exact ih _ _ _ hj' R
  unfold reach
  rw [List.range_eq_range']
  have := key ops.toList 0 arr m (fun t => by simp) R
  rw [Array.length_toList] at this
  exact this
theorem reachOk_of {ops : Array Oper} {arr R : Array Bool} {m r i : Nat} (hm : Rel ops.size arr m) (hr : Rel ops.size R r) (h1 : subM m r = true) (h2 : closedN i 0 (nfs ops) r = true) : reachOk ops i arr R = true := by
  unfold reachOk
  rw [Bool.and_eq_true]
  constructor
  · rw [List.all_eq_true]
    intro j _
    rw [hm.get, hr.get]
    cases hh : has m j
    · rfl
    · rw [subM_iff.1 h1 j hh]; rfl
  · have key : ∀ (l : List Oper) (j : Nat), (∀ t, ops[j + t]? = l[t]?) → closedN i j (l.map (nf ops)) r = true → ((List.range' j l.length).all fun j => j == i || match ops[j]? with
        | some o => !(o.after.all fun e => !Region.binds .any e || R.getD e.on false) || R.getD j false
        | none => true) = true := by
      intro l
      induction l with
      | nil => intro j _ _; rfl
      | cons o l ih =>
        intro j hj hc
        have h0 : ops[j]? = some o := by simpa using hj 0
        have hj' : ∀ t, ops[j + 1 + t]? = l[t]? := fun t => by rw [Nat.add_assoc, Nat.add_comm 1 t]; simpa using hj (t + 1)
        simp only [List.map_cons, closedN, Bool.and_eq_true] at hc
        simp only [List.length_cons, List.range'_succ, List.all_cons, Bool.and_eq_true]
        refine ⟨?_, ih _ hj' hc.2⟩
        rw [h0]
        dsimp only
        rw [edges_eq hr ops o, hr.get]
        have h3 := hc.1
        cases hb : Nat.beq j i
        · rw [hb] at h3
          simp only [Bool.false_or] at h3
          rw [h3]; simp
        · have he : (j == i) = true := by simpa using Nat.eq_of_beq_eq_true hb
          rw [he]; rfl
    rw [List.range_eq_range']
    have := key ops.toList 0 (fun t => by simp) h2
    rw [Array.length_toList] at this
    exact this
theorem half_eq (ops : Array Oper) (x y : Oper) : half ops x y = halfN (nf ops x) (nf ops y) := by
  unfold half halfN
  simp only [nf]
  cases x.dst with
  | none => rfl
  | some d =>
    simp only [has_maskL, has_zero, Bool.false_or]
    congr 1
    cases y.dst with
    | none => rfl
    | some a =>
      simp only [oeq]
      congr 1
      rw [Bool.eq_iff_iff]; simp
theorem self_eq (ops : Array Oper) (x : Oper) : selfOk ops x = selfN (nf ops x) := by
  unfold selfOk selfN
  simp only [nf]
  cases x.dst with
  | none => rfl
  | some d => simp only [has_maskL, has_zero, Bool.false_or]
def PdR (ops : Array Oper) : List (Nat × Array Bool) → List (Nat × Nat × Nf) → Prop
  | [], [] => True
  | p :: ps, q :: qs => (p.1 = q.1 ∧ Rel ops.size p.2 q.2.1 ∧ ∃ o, ops[p.1]? = some o ∧ q.2.2 = nf ops o) ∧ PdR ops ps qs
  | _, _ => False
theorem PdR.all {ops : Array Oper} {F : Nat × Array Bool → Bool} {G : Nat × Nat × Nf → Bool} (hFG : ∀ p q o, p.1 = q.1 → Rel ops.size p.2 q.2.1 → ops[p.1]? = some o → q.2.2 = nf ops o → G q = true → F p = true) :
    ∀ {ps : List (Nat × Array Bool)} {qs : List (Nat × Nat × Nf)}, PdR ops ps qs → qs.all G = true → ps.all F = true
  | [], [], _, _ => rfl
  | p :: ps, q :: qs, ⟨⟨h1, h2, o, h3, h4⟩, h5⟩, hg => by
    simp only [List.all_cons, Bool.and_eq_true] at hg ⊢
    exact ⟨hFG p q o h1 h2 h3 h4 hg.1, PdR.all hFG h5 hg.2⟩
  | [], _ :: _, h, _ => h.elim
  | _ :: _, [], h, _ => h.elim
theorem PdR.filter {ops : Array Oper} (f : Nat → Bool) : ∀ {ps : List (Nat × Array Bool)} {qs : List (Nat × Nat × Nf)}, PdR ops ps qs → PdR ops (ps.filter fun p => f p.1) (qs.filter fun p => f p.1)
  | [], [], _ => trivial
  | p :: ps, q :: qs, ⟨h1, h5⟩ => by
    simp only [List.filter_cons, ← h1.1]
    cases f p.1
    · simp only [Bool.false_eq_true, if_false]; exact PdR.filter f h5
    · simp only [if_true]; exact ⟨h1, PdR.filter f h5⟩
  | [], _ :: _, h => h.elim
  | _ :: _, [], h => h.elim
theorem planOkN_go {ops : Array Oper} : ∀ (l : List Stp) (pd : List (Nat × Array Bool)) (pn : List (Nat × Nat × Nf)) (arr : Array Bool) (m : Nat), Rel ops.size arr m → PdR ops pd pn → planOkN (nfs ops) l pn m = true → planOk ops l pd arr = true
  | [], pd, pn, arr, m, R, hp, h => by
    simp only [planOkN] at h
    simp only [planOk, ready_eq R, h]
  | .take i :: l, pd, pn, arr, m, R, hp, h => by
    simp only [planOkN, Bool.and_eq_true] at h
    obtain ⟨h1, h⟩ := h
    have hE : (nfs ops)[i]? = ops[i]?.map (nf ops) := by simp [nfs]
    rw [hE] at h
    cases ho : ops[i]? with
    | none => rw [ho] at h; cases h
    | some o =>
      rw [ho] at h
      simp only [Option.map_some, Bool.and_eq_true] at h
      obtain ⟨⟨⟨h2, h3, h4⟩, h5⟩, h6⟩ := h
      have hlt : i < ops.size := (Array.getElem?_eq_some_iff.1 ho).1
      have hr := reach_rel (i := i) R
      simp only [planOk, ready_eq R, h1, ho, self_eq, h2, reachOk_of R hr h3 h4, Bool.true_and, Bool.and_eq_true]
      refine ⟨hp.all ?_ h5, planOkN_go l _ ((i, reachN i 0 (nfs ops) m, nf ops o) :: pn) _ _ (R.set hlt) ⟨⟨rfl, hr, o, ho, rfl⟩, hp⟩ h6⟩
      intro p q o' e1 e2 e3 e4 hg
      rw [e3]
      simp only [half_eq, e2.get]
      rw [e4] at hg
      exact hg
  | .only i keep :: l, pd, pn, arr, m, R, hp, h => by
    simp only [planOkN, Bool.and_eq_true] at h
    obtain ⟨⟨h1, h⟩, h6⟩ := h
    have hE : (nfs ops)[i]? = ops[i]?.map (nf ops) := by simp [nfs]
    rw [hE] at h
    cases ho : ops[i]? with
    | none => rw [ho] at h; cases h
    | some o =>
      rw [ho] at h
      simp only [Option.map_some] at h
      have hlt : i < ops.size := (Array.getElem?_eq_some_iff.1 ho).1
      simp only [planOk, ready_eq R, h1, ho, Bool.true_and, Bool.and_eq_true]
      refine ⟨hp.all ?_ h, planOkN_go l _ _ _ _ (R.set hlt) (hp.filter fun j => keep.any (Nat.beq j)) h6⟩
      intro p q o' e1 e2 e3 e4 hg
      rw [e3]
      simp only [half_eq, e2.get]
      rw [e4, ← e1] at hg
      cases hk : keep.any (Nat.beq p.1)
      · rw [hk] at hg; simpa using hg
      · rw [hk] at hg; simpa using hg
theorem planOkN_spec {ops : Array Oper} {l : List Stp} (h : planOkN (nfs ops) l [] 0 = true) : planOk ops l [] (Array.replicate ops.size false) = true := by
  refine planOkN_go l [] [] _ 0 ⟨by simp, fun j => ?_⟩ trivial h
  rw [has_zero]
  simp only [Array.getD_eq_getD_getElem?, Array.getElem?_replicate]
  split <;> rfl
end Go.CO
