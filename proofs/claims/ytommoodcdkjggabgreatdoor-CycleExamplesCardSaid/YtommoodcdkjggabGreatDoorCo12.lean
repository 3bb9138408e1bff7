/- The reckoner with memory: what an operation looks at; sameness of values. -/
import Derived.Test.YtommoodcdkjggabGreatDoorCo11
set_option linter.unusedVariables false
set_option linter.unusedSectionVars false
set_option linter.unusedSimpArgs false
namespace Go.CO
variable [LG] [HK]

/-! ### Sameness -/
theorem allZ_spec {f : CV → CV → Bool} (hf : ∀ x y, f x y = true → x = y) : ∀ (xs ys : List CV), allZ f xs ys = true → xs = ys
  | [], [], _ => rfl
  | [], _ :: _, h => by simp [allZ] at h
  | _ :: _, [], h => by simp [allZ] at h
  | x :: xs, y :: ys, h => by
    simp only [allZ] at h
    split at h
    · rename_i h1
      rw [hf x y h1, allZ_spec hf xs ys h]
    · cases h
theorem neqL_spec : ∀ {x y : List Nat}, neqL x y = true → x = y
  | [], [], _ => rfl
  | [], _ :: _, h => by simp [neqL] at h
  | _ :: _, [], h => by simp [neqL] at h
  | a :: x, b :: y, h => by
    simp only [neqL] at h
    split at h
    · rename_i h1; rw [beq1 h1, neqL_spec h]
    · cases h
theorem ceqF_spec : ∀ (d : Nat) (x y : CV), ceqF d x y = true → x = y := by
  intro d
  induction d with
  | zero => intro x y h; simp [ceqF] at h
  | succ d ih =>
    intro x y h
    have hl := allZ_spec ih
    cases x <;> cases y <;> simp only [ceqF, Bool.and_eq_true, Bool.false_eq_true, beq_iff_eq] at h <;> first
      | rfl
      | (rw [h]; done)
      | (rw [beq1 h]; done)
      | (rw [neqL_spec h]; done)
      | (rw [hl _ _ h]; done)
      | (rw [beq1 h.1, hl _ _ h.2]; done)
      | (rw [beq1 h.1, beq1 h.2]; done)
      | (rw [beq1 h.1.1.1, beq1 h.1.1.2, beq1 h.1.2, beq1 h.2]; done)
      | (obtain ⟨h1, h2⟩ := h
         rw [ieq_eq] at h2
         rw [keq_eq h1, of_decide_eq_true h2])
theorem ceq_spec {x y : CV} (h : ceq x y = true) : x = y := ceqF_spec 10 x y h
theorem heq_spec {x y : HB} (h : heq x y = true) : x = y := by
  unfold heq at h
  split at h
  · simp only [Bool.and_eq_true] at h
    rw [beq1 h.1.1, beq1 h.1.2, allZ_spec (fun _ _ => ceq_spec) _ _ h.2]
  · rw [allZ_spec (fun _ _ => ceq_spec) _ _ h]
  · rfl
  · cases h

/-! ### What an operation looks at -/
section
variable {P : Program} {o : Oper} {e e' : Operand → CV} {h h' : Hp}
theorem layX_congr (hx : ∀ x ∈ o.op.operands.toList, e x = e' x) : layX P o e = layX P o e' := by
  unfold layX
  cases ho : o.op <;> (try simp only []) <;> rw [ho] at hx
  case box t x => rw [hx x (by simp [Op.operands])]
  case buildSlice t n ps =>
    congr 1
    refine List.map_congr_left fun p hp => ?_
    rw [hx p.2 (by simp [Op.operands]; exact ⟨_, Array.mem_toList_iff.1 hp⟩)]
  case makeSlice t l c => rw [hx l (by simp [Op.operands]), hx c (by simp [Op.operands])]
  case makeMap t r => cases r <;> rfl
  case convert s d x => rw [hx x (by simp [Op.operands])]
theorem bnd_congr {x : Option Operand} {d : Nat} (hx : ∀ y, x = some y → e y = e' y) : bnd e x d = bnd e' x d := by
  cases x with
  | none => rfl
  | some y => simp only [bnd, hx y rfl]
theorem qSlice_congr {lo hi : Option Operand} {x : CV} {t : TyK} (hl : ∀ y, lo = some y → e y = e' y) (hh : ∀ y, hi = some y → e y = e' y) : qSlice e lo hi h x t = qSlice e' lo hi h x t := by
  unfold qSlice
  split
  · split
    · rw [bnd_congr hl, bnd_congr hh]
    · rfl
  · split
    · rw [bnd_congr hl, bnd_congr hh]
    · rw [bnd_congr hl, bnd_congr hh]
    · rfl
  · split
    · rw [bnd_congr hl, bnd_congr hh]
    · rfl
  · rfl
theorem qX_congr (hx : ∀ x ∈ o.op.operands.toList, e x = e' x) : qX P o e h = qX P o e' h := by
  unfold qX
  cases ho : o.op <;> (try simp only []) <;> rw [ho] at hx
  case move x => rw [hx x (by simp [Op.operands])]
  case assign x => rw [hx x (by simp [Op.operands])]
  case pick c a b => rw [hx c (by simp [Op.operands]), hx a (by simp [Op.operands]), hx b (by simp [Op.operands])]
  case build t ps =>
    congr 1
    refine List.map_congr_left fun p hp => ?_
    rw [hx p.2 (by simp [Op.operands]; exact ⟨_, Array.mem_toList_iff.1 hp⟩)]
  case load t x => rw [hx x (by simp [Op.operands])]
  case nilCheck x => rw [hx x (by simp [Op.operands])]
  case binOp op t x y yt => rw [hx x (by simp [Op.operands]), hx y (by simp [Op.operands])]
  case unOp op t x => rw [hx x (by simp [Op.operands])]
  case convert s d x => rw [hx x (by simp [Op.operands])]
  case makeFunc f first caps =>
    cases f <;> simp only []
    congr 1
    refine List.map_congr_left fun x hxc => hx x ?_
    simp [Op.operands]; exact .inr (Array.mem_toList_iff.1 hxc)
  case slice t x lo hi mx =>
    cases mx with
    | some m => rfl
    | none =>
      simp only []
      rw [hx x (by simp [Op.operands])]
      exact qSlice_congr (fun y hy => hx y (by simp [Op.operands, hy])) (fun y hy => hx y (by simp [Op.operands, hy]))
  case fieldAddr t x f => rw [hx x (by simp [Op.operands])]
  case field t x f => rw [hx x (by simp [Op.operands])]
  case indexAddr t x i => rw [hx x (by simp [Op.operands]), hx i (by simp [Op.operands])]
  case index t x i => rw [hx x (by simp [Op.operands]), hx i (by simp [Op.operands])]
  case lookup t x i ok => rw [hx x (by simp [Op.operands]), hx i (by simp [Op.operands])]
  case extract x i => rw [hx x (by simp [Op.operands])]
  case call c =>
    have ha : ∀ x ∈ c.args.toList, e x = e' x := fun x hxa => hx x (by simp [Op.operands, Call.operands]; simp at hxa; exact .inr hxa)
    unfold qCall
    split
    · rename_i b hb
      unfold qBuiltin
      split
      · unfold qLen1
        split
        · rename_i h1 h2; rw [ha _ (by rw [h2]; simp)]
        · rfl
      · unfold qMax1
        split
        · rename_i h2; rw [ha _ (by rw [h2]; simp), ha _ (by rw [h2]; simp)]
        · rfl
      · unfold qMin1
        split
        · rename_i h2; rw [ha _ (by rw [h2]; simp), ha _ (by rw [h2]; simp)]
        · rfl
      · unfold qData1
        split
        · rename_i h2; rw [ha _ (by rw [h2]; simp)]
        · rfl
      · unfold qCap1
        split
        · rename_i h1 h2; rw [ha _ (by rw [h2]; simp)]
        · rfl
      · rfl
    · rfl
theorem qX_heap (hl : looks P o = false) : qX P o e h = qX P o e h' := by
  unfold looks at hl
  unfold qX
  cases ho : o.op <;> rw [ho] at hl <;> (try simp only [] at hl ⊢) <;> first | rfl | (cases hl; done) | (rename_i fn _ _; cases fn <;> rfl; done) | skip
  case call c =>
    unfold qCall
    split
    · unfold qBuiltin
      split
      · unfold qLen1
        split
        · rename_i t x h1 h2
          rw [h1] at hl
          simp only [] at hl
          unfold qLen
          split <;> first | rfl | (rename_i hty; rw [hty] at hl; cases hl)
        · rfl
      all_goals rfl
    · rfl
theorem wX_congr (hx : ∀ x ∈ o.op.operands.toList, e x = e' x) : wX P o e h = wX P o e' h := by
  unfold wX
  cases ho : o.op <;> (try simp only []) <;> rw [ho] at hx
  case store t a x => rw [hx a (by simp [Op.operands]), hx x (by simp [Op.operands])]
  case mapUpdate t m k x => rw [hx m (by simp [Op.operands]), hx k (by simp [Op.operands]), hx x (by simp [Op.operands])]
  case call c =>
    have ha : ∀ x ∈ c.args.toList, e x = e' x := fun x hxa => hx x (by simp [Op.operands, Call.operands]; simp at hxa; exact .inr hxa)
    have hw : wApp1 P e h c.argTypes.toList c.args.toList = wApp1 P e' h c.argTypes.toList c.args.toList := by
      unfold wApp1
      split
      · rename_i h1 h2; rw [ha _ (by rw [h2]; simp), ha _ (by rw [h2]; simp)]
      · rfl
    have hk : kApp1 P e h c.argTypes.toList c.args.toList = kApp1 P e' h c.argTypes.toList c.args.toList := by
      unfold kApp1
      split
      · rename_i h1 h2; rw [ha _ (by rw [h2]; simp), ha _ (by rw [h2]; simp)]
      · rfl
    have hq : wUStr1 P e h c.argTypes.toList c.args.toList = wUStr1 P e' h c.argTypes.toList c.args.toList := by
      unfold wUStr1
      split
      · rename_i h1 h2; rw [ha _ (by rw [h2]; simp), ha _ (by rw [h2]; simp)]
      · rfl
    unfold wBuiltin
    rw [hw, hk, hq]
theorem opX_congr (hx : ∀ x ∈ o.op.operands.toList, e x = e' x) : opX P o e h = opX P o e' h := by
  unfold opX
  rw [qX_congr hx, layX_congr hx, wX_congr hx]
theorem opC_congr {prim : PrimX} {call : CallX} (hx : ∀ x ∈ o.op.operands.toList, e x = e' x) : opC P prim call o e h = opC P prim call o e' h := by
  unfold opC
  rw [opX_congr hx]
  cases ho : o.op <;> simp only []
  case call c =>
    rw [ho] at hx
    cases hc : c.callee <;> simp only []
    case value g =>
      rw [hx g (by simp [Op.operands, Call.operands, hc]), List.map_congr_left fun x hxa => hx x (by simp [Op.operands, Call.operands]; simp at hxa; exact .inr hxa)]
end
/-- The slots that an operation looks at are the same. -/
def Agree (ops : Array Oper) (o : Oper) (s s' : Fr) : Prop := ∀ t ∈ o.looksAt ops, s.at t = s'.at t
theorem Agree.ev {ops : Array Oper} {o : Oper} {s s' : Fr} (h : Agree ops o s s') : ∀ x ∈ o.op.operands.toList, ev s x = ev s' x := by
  intro x hx
  cases x with
  | tmp t => exact h t (List.mem_append_left _ (List.mem_filterMap.2 ⟨.tmp t, hx, rfl⟩))
  | _ => rfl
theorem Agree.want {ops : Array Oper} {o : Oper} {s s' : Fr} (h : Agree ops o s s') : wantX ops o s = wantX ops o s' := by
  unfold wantX
  cases hg : o.guard with
  | none => rfl
  | some g =>
    obtain ⟨j, b⟩ := g
    simp only []
    cases hj : ops[j]? with
    | none => rfl
    | some oj =>
      simp only []
      cases hd : oj.dst with
      | none => rfl
      | some t =>
        simp only []
        rw [h t (by simp [Oper.looksAt, hg, hj, hd])]
theorem agree_put {ops : Array Oper} {o : Oper} {s : Fr} {d : Option Tmp} {c : CV} (h : ∀ t, d = some t → t ∉ o.looksAt ops) : Agree ops o (Fr.putO s d c) s := by
  intro t ht
  cases d with
  | none => rfl
  | some d =>
    simp only [Fr.putO, Fr.at_set]
    rw [if_neg fun (e : t = d) => h d rfl (e ▸ ht)]
theorem half_spec {ops : Array Oper} {x y : Oper} (h : half ops x y = true) : ∀ d, x.dst = some d → d ∉ y.looksAt ops ∧ y.dst ≠ some d := by
  intro d hd
  simp only [half, hd, Bool.and_eq_true, Bool.not_eq_true', List.contains_eq_mem, decide_eq_false_iff_not, beq_eq_false_iff_ne] at h
  exact h
theorem selfOk_spec {ops : Array Oper} {x : Oper} (h : selfOk ops x = true) : ∀ d, x.dst = some d → d ∉ x.looksAt ops := by
  intro d hd
  simp only [selfOk, hd, Bool.not_eq_true', List.contains_eq_mem, decide_eq_false_iff_not] at h
  exact h
end Go.CO
