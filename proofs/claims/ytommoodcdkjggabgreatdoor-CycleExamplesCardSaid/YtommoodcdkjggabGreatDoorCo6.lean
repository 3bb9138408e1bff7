/- The reckoner with memory: sameness, stretches, conversions, maps that are read. -/
import Derived.Test.YtommoodcdkjggabGreatDoorCo5
import Derived.Laws.BytesString
import Derived.WideKeyRuns
set_option linter.unusedVariables false
set_option linter.unusedSectionVars false
set_option linter.unusedSimpArgs false
namespace Go.CO
variable [LG] [HK]

section
variable {P : Program} {N0 : Nat} {ι : Im} {h : Hp} {w : World} {e : Operand → CV} {ρ : Operand → Value} {o : Oper} {c : CV}

/-! ### Sameness -/
theorem flatT_spec {t : TypeId} (h : flatT (tyk P t) = true) : (∃ k, P.underlying t = some (.int k)) ∨ P.underlying t = some .string ∨ P.underlying t = some .bool := by
  unfold flatT at h
  split at h
  · rename_i k hk; exact .inl ⟨k, tyk_int hk⟩
  · rename_i hk; exact .inr (.inl (tyk_str hk))
  · rename_i hk; exact .inr (.inr (tyk_bool hk))
  · cases h
theorem run_feq {t : TypeId} (ht : flatT (tyk P t) = true) {p q : CV} {u v : Value} {b : Bool} (hb : feq p q = some b) (hu : VR ι p u) (hv : VR ι q v)
    (hk : ∀ k, P.underlying t = some (.int k) → ∃ k' n, p = .nu k' n) (hs : P.underlying t = some .string → ∃ s, p = .st s) (hbo : P.underlying t = some .bool → ∃ x, p = .bo x) (d : Nat) : (Op.equalIn (d + 1) t u v).run P w = .ok b w := by
  unfold feq at hb
  split at hb
  · rename_i k x k' y
    obtain rfl := vr_nu hu
    obtain rfl := vr_nu hv
    split at hb
    · rename_i hkk
      obtain rfl := keq_eq hkk
      injection hb with hb; subst hb
      rcases flatT_spec ht with ⟨k0, h1⟩ | h1 | h1
      · simp [Op.equalIn, run_under h1, c_eql]
      · obtain ⟨s, hs⟩ := hs h1; cases hs
      · obtain ⟨s, hs⟩ := hbo h1; cases hs
    · cases hb
  · obtain ⟨a, rfl, rfl⟩ := vr_st' hu
    obtain ⟨b', rfl, rfl⟩ := vr_st' hv
    injection hb with hb; subst hb
    rcases flatT_spec ht with ⟨k0, h1⟩ | h1 | h1
    · obtain ⟨_, _, hs⟩ := hk k0 h1; cases hs
    · simp only [Op.equalIn, Sem.run_bind, run_under h1, Result.andThen_ok, Sem.run_pure, bs, neqL_map, beq_toListBytes, ByteArray.toList_eq]
    · obtain ⟨s, hs⟩ := hbo h1; cases hs
  · obtain rfl := vr_bo hu
    obtain rfl := vr_bo hv
    injection hb with hb; subst hb
    rcases flatT_spec ht with ⟨k0, h1⟩ | h1 | h1
    · obtain ⟨_, _, hs⟩ := hk k0 h1; cases hs
    · obtain ⟨s, hs⟩ := hs h1; cases hs
    · simp [Op.equalIn, run_under h1]
  · cases hb
theorem fitT_spec {t : TypeId} {p : CV} (h : fitT P t p = true) : (∀ k, P.underlying t = some (.int k) → ∃ k' n, p = .nu k' n) ∧ (P.underlying t = some .string → ∃ s, p = .st s) ∧ (P.underlying t = some .bool → ∃ x, p = .bo x) := by
  unfold fitT at h
  split at h
  · rename_i k hk
    have hu := tyk_int hk
    split at h
    · exact ⟨fun _ _ => ⟨_, _, rfl⟩, fun h1 => (by rw [hu] at h1; cases h1), fun h1 => (by rw [hu] at h1; cases h1)⟩
    · cases h
  · rename_i hk
    have hu := tyk_str hk
    split at h
    · exact ⟨fun _ h1 => (by rw [hu] at h1; cases h1), fun _ => ⟨_, rfl⟩, fun h1 => (by rw [hu] at h1; cases h1)⟩
    · cases h
  · rename_i hk
    have hu := tyk_bool hk
    split at h
    · exact ⟨fun _ h1 => (by rw [hu] at h1; cases h1), fun h1 => (by rw [hu] at h1; cases h1), fun _ => ⟨_, rfl⟩⟩
    · cases h
  · cases h
theorem run_part_flat {t : TypeId} (ht : flatT (tyk P t) = true) {xs : Array Value} {j : Nat} {v : Value} (hj : xs[j]? = some v) : (part t xs j).run P w = .ok v w := by
  rcases flatT_spec ht with ⟨k0, h1⟩ | h1 | h1 <;> simp [part, isAgg, run_under h1, hj]
theorem run_feqL {t : TypeId} (ht : flatT (tyk P t) = true) {i : TypeInfo} (hi : P.info? t = some i) (hs : i.size = 1) (d : Nat) {us vs : Array Value} : ∀ (m s : Nat) (ps qs : List CV) (b : Bool), ps.length = m → s + m ≤ us.size → feqL ps qs = some b → VRL ι ps (us.toList.drop s) → VRL ι qs (vs.toList.drop s) →
    (ps.all (fitT P t)) = true → (Op.eqItems (d + 1) t 1 us vs (List.range' s m)).run P w = .ok b w := by
  intro m
  induction m with
  | zero =>
    intro s ps qs b hl _ hb h1 h2 _
    have : ps = [] := List.eq_nil_of_length_eq_zero hl
    subst this
    cases qs with
    | nil => simp only [feqL, Option.some.injEq] at hb; subst hb; simp [Op.eqItems]
    | cons => simp [feqL] at hb
  | succ m ih =>
    intro s ps qs b hl hle hb h1 h2 hf
    cases ps with
    | nil => simp at hl
    | cons p ps =>
      cases qs with
      | nil => simp [feqL] at hb
      | cons q qs =>
        have hlt : s < us.toList.length := by simp; omega
        have hd1 : us.toList.drop s = us.toList[s] :: us.toList.drop (s + 1) := List.drop_eq_getElem_cons hlt
        have hlt2 : s < vs.toList.length := by
          have := h2.1
          simp only [List.length_drop, List.length_cons] at this
          omega
        have hd2 : vs.toList.drop s = vs.toList[s] :: vs.toList.drop (s + 1) := List.drop_eq_getElem_cons hlt2
        rw [hd1] at h1; rw [hd2] at h2
        obtain ⟨h3, h4⟩ := VRL.tail h1
        obtain ⟨h5, h6⟩ := VRL.tail h2
        simp only [List.all_cons, Bool.and_eq_true] at hf
        obtain ⟨f1, f2, f3⟩ := fitT_spec hf.1
        have e1 : us[s]? = some us.toList[s] := by rw [← Array.getElem?_toList]; exact List.getElem?_eq_getElem hlt
        have e2 : vs[s]? = some vs.toList[s] := by rw [← Array.getElem?_toList]; exact List.getElem?_eq_getElem hlt2
        simp only [feqL] at hb
        simp only [List.range'_succ, Op.eqItems, Sem.run_bind, Nat.mul_one, run_part_flat ht e1, run_part_flat ht e2, Result.andThen_ok]
        split at hb
        · rename_i hpq
          rw [run_feq ht hpq h3 h5 f1 f2 f3 d]
          simp only [Result.andThen_ok, Bool.not_true, Bool.false_eq_true, if_false]
          exact ih (s + 1) ps qs b (by simpa using hl) (by omega) hb h4 h6 hf.2
        · rename_i hpq
          rw [run_feq ht hpq h3 h5 f1 f2 f3 d]
          injection hb with hb; subst hb
          simp
        · cases hb
theorem run_equal_arr {t el : TypeId} {n esz : Nat} {g : Bool} {z : List CV} (hty : tyk P t = .arr n el esz g z) (hfl : flatT (tyk P el) = true) (hesz : esz = 1) {ps qs : List CV} {us vs : Array Value} (hp : VRL ι ps us.toList) (hq : VRL ι qs vs.toList) (hpl : ps.length = n)
    (hf : ps.all (fitT P el) = true) {b : Bool} (hb : feqL ps qs = some b) (d : Nat) : (Op.equalIn (d + 2) t (.agg us) (.agg vs)).run P w = .ok b w := by
  obtain ⟨hu, ⟨i, d', hi, hsz, hd⟩, _⟩ := tyk_arr hty
  have hc : P.cellsOf el = 1 := by simp [Program.cellsOf, hi, hsz, hesz]
  rw [run_equalIn_array w (d + 1) us vs hu hi, List.range_eq_range', hc]
  have := hp.1
  simp only [Array.length_toList] at this
  exact run_feqL (ι := ι) hfl hi (by rw [hsz, hesz]) d n 0 ps qs b hpl (by omega) hb (by simpa using hp) (by simpa using hq) hf

theorem run_feqS (d : Nat) {us vs : Array Value} {xs ys : List CV} (hp : VRL ι xs us.toList) (hq : VRL ι ys vs.toList) : ∀ (fs : List Field) (b : Bool), fs.all (fun f => flatT (tyk P f.type)) = true → feqS P fs xs ys = some b → (Op.eqFields (d + 1) us vs fs).run P w = .ok b w
  | [], b, _, hb => by
    simp only [feqS, Option.some.injEq] at hb
    subst hb
    simp [Op.eqFields]
  | f :: fs, b, hf, hb => by
    simp only [List.all_cons, Bool.and_eq_true] at hf
    simp only [feqS] at hb
    split at hb
    · cases hb
    · rename_i hn
      have hn' : f.name ≠ "_" := by simpa using hn
      split at hb
      · rename_i p q hpx hqx
        split at hb
        · rename_i hfit
          obtain ⟨f1, f2, f3⟩ := fitT_spec hfit
          obtain ⟨u, hu, hvu⟩ := hp.get? hpx
          obtain ⟨v, hv, hvv⟩ := hq.get? hqx
          rw [Array.getElem?_toList] at hu hv
          have e1 := run_part_flat (w := w) hf.1 hu
          have e2 := run_part_flat (w := w) hf.1 hv
          simp only [Op.eqFields, hn', ne_eq, not_false_eq_true, if_true, Sem.run_bind, e1, e2, Result.andThen_ok]
          split at hb
          · rename_i hpq
            rw [run_feq hf.1 hpq hvu hvv f1 f2 f3 d]
            simp only [Result.andThen_ok, Bool.not_true, Bool.false_eq_true, if_false]
            exact run_feqS d hp hq fs b hf.2 hb
          · rename_i hpq
            rw [run_feq hf.1 hpq hvu hvv f1 f2 f3 d]
            injection hb with hb; subst hb
            simp
          · cases hb
        · cases hb
      · cases hb
theorem q_aeq {op : BinOp} {t yt : TypeId} {x y : Operand} {b r : Bool} (he : o.op = .binOp op t x y yt) (hop : (op = .eql ∧ r = b) ∨ (op = .neq ∧ r = !b)) (hev : ∀ x ∈ o.op.operands.toList, VR ι (e x) (ρ x)) (hv : aeq P t (e x) (e y) = some b) (hna : ∀ k n k' m, ¬ (e x = .nu k n ∧ e y = .nu k' m)) : Qs P ι w ρ o (.bo r) := by
  have hx := hev x (by simp [he, Op.operands])
  have hy := hev y (by simp [he, Op.operands])
  refine ⟨_, .bo _, ?_⟩
  have hgb : ∀ a a', (eqGuard op t x y (.bool a) (.bool a')).run P w = .ok () w := by
    intro a a'; rcases hop with ⟨h1, _⟩ | ⟨h1, _⟩ <;> subst h1 <;> simp [eqGuard]
  have hgs : ∀ a n cp a' n' cp', (eqGuard op t x y (.slice a n cp) (.slice a' n' cp')).run P w = .ok () w := by
    intro a n cp a' n' cp'; rcases hop with ⟨h1, _⟩ | ⟨h1, _⟩ <;> subst h1 <;> simp [eqGuard]
  have fin : ∀ {u v : Value}, ρ x = u → ρ y = v → (eqGuard op t x y u v).run P w = .ok () w → (∀ k n k' m, ¬ (u = .int k n ∧ v = .int k' m)) → (∀ s s', ¬ (u = .string s ∧ v = .string s')) → (∀ k n k' m, ¬ (u = .float k n ∧ v = .float k' m)) → (∀ k n m k' n' m', ¬ (u = .complex k n m ∧ v = .complex k' n' m')) → (Op.equal t u v).run P w = .ok b w →
      (execOp ρ o).run P w = .ok (.value (.bool r)) w := by
    intro u v hu hv' hg h1 h2 h3 h4 heq
    unfold execOp; rw [he]
    rcases hop with ⟨rfl, rfl⟩ | ⟨rfl, rfl⟩
    · have : binOp .eql t u v = (do pure (.bool (← Op.equal t u v))) := by
        unfold binOp
        split <;> first | rfl | (rename_i hh; cases hh; done) | (exfalso; first | exact h1 _ _ _ _ ⟨rfl, rfl⟩ | exact h2 _ _ ⟨rfl, rfl⟩ | exact h3 _ _ _ _ ⟨rfl, rfl⟩ | exact h4 _ _ _ _ _ _ ⟨rfl, rfl⟩) | simp_all
      simp only [hu, hv', Sem.run_bind, hg, Result.andThen_ok, this, heq, Sem.run_pure]
    · have : binOp .neq t u v = (do pure (.bool (!(← Op.equal t u v)))) := by
        unfold binOp
        split <;> first | rfl | (rename_i hh; cases hh; done) | (exfalso; first | exact h1 _ _ _ _ ⟨rfl, rfl⟩ | exact h2 _ _ ⟨rfl, rfl⟩ | exact h3 _ _ _ _ ⟨rfl, rfl⟩ | exact h4 _ _ _ _ _ _ ⟨rfl, rfl⟩) | simp_all
      simp only [hu, hv', Sem.run_bind, hg, Result.andThen_ok, this, heq, Sem.run_pure]
  unfold aeq at hv
  split at hv
  · rename_i hty
    split at hv
    · rename_i a a' hx' hy'
      rw [hx'] at hx; rw [hy'] at hy
      injection hv with hv; subst hv
      refine fin (vr_bo hx) (vr_bo hy) (hgb _ _) (by simp) (by simp) (by simp) (by simp) ?_
      have h9 : ∀ d, (Op.equalIn (d + 1) t (.bool a) (.bool a')).run P w = .ok (a == a') w := fun d => by simp only [Op.equalIn, Sem.run_bind, run_under (tyk_bool hty), Result.andThen_ok, Sem.run_pure]
      exact h9 9999
    · cases hv
  · rename_i el esz bytes z hty
    have hu := (tyk_slice hty).1
    have key : ∀ {a n cp a' n' cp'}, ρ x = .slice a n cp → ρ y = .slice a' n' cp' → (a = none ∨ a' = none) → b = (a.isNone && a'.isNone) → (execOp ρ o).run P w = .ok (.value (.bool r)) w := by
      intro a n cp a' n' cp' h1 h2 h3 h4
      refine fin h1 h2 (hgs _ _ _ _ _ _) (by simp) (by simp) (by simp) (by simp) ?_
      have h9 : ∀ d, (Op.equalIn (d + 1) t (.slice a n cp) (.slice a' n' cp')).run P w = .ok b w := fun d => by
        cases a with
        | none => simp only [Op.equalIn, Sem.run_bind, run_under hu, Result.andThen_ok, Sem.run_pure, h4, Option.isNone_none, Bool.true_and]
        | some a =>
          cases a' with
          | none => simp only [Op.equalIn, Sem.run_bind, run_under hu, Result.andThen_ok, Sem.run_pure, h4, Option.isNone_some, Option.isNone_none, Bool.false_and]
          | some a' => rcases h3 with h3 | h3 <;> cases h3
      exact h9 9999
    split at hv
    · rename_i hx' hy'
      rw [hx'] at hx; rw [hy'] at hy
      injection hv with hv
      generalize hv1 : ρ x = v1 at hx
      generalize hv2 : ρ y = v2 at hy
      cases hx; cases hy
      exact key hv1 hv2 (.inl rfl) hv.symm
    · rename_i hx' hy'
      rw [hx'] at hx; rw [hy'] at hy
      injection hv with hv
      generalize hv1 : ρ x = v1 at hx
      generalize hv2 : ρ y = v2 at hy
      cases hx; cases hy
      exact key hv1 hv2 (.inl rfl) hv.symm
    · rename_i hx' hy'
      rw [hx'] at hx; rw [hy'] at hy
      injection hv with hv
      generalize hv1 : ρ x = v1 at hx
      generalize hv2 : ρ y = v2 at hy
      cases hx; cases hy
      exact key hv1 hv2 (.inl rfl) hv.symm
    · rename_i hx' hy'
      rw [hx'] at hx; rw [hy'] at hy
      injection hv with hv
      generalize hv1 : ρ x = v1 at hx
      generalize hv2 : ρ y = v2 at hy
      cases hx; cases hy
      exact key hv1 hv2 (.inr rfl) hv.symm
    · rename_i hx' hy'
      rw [hx'] at hx; rw [hy'] at hy
      injection hv with hv
      generalize hv1 : ρ x = v1 at hx
      generalize hv2 : ρ y = v2 at hy
      cases hx; cases hy
      exact key hv1 hv2 (.inr rfl) hv.symm
    · cases hv
  · rename_i n el esz g z hty
    split at hv
    · rename_i xs ys hx' hy'
      rw [hx'] at hx; rw [hy'] at hy
      obtain ⟨us, h1, hus⟩ := vr_agg hx
      obtain ⟨vs, h2, hvs⟩ := vr_agg hy
      split at hv
      · rename_i hc
        simp only [Bool.and_eq_true] at hc
        obtain ⟨⟨⟨⟨h3, h3f⟩, h4⟩, h5⟩, h6⟩ := hc
        refine fin h1 h2 ?_ (by simp) (by simp) (by simp) (by simp) ?_
        · refine run_eqGuard_agg w op t x y us vs ?_
          obtain ⟨hu, ⟨i, d', hi, hsz, hd⟩, _⟩ := tyk_arr hty
          have h7 : ∀ d, P.eqGuardType (d + 2) t = false := by
            intro d
            simp only [Program.eqGuardType, hu]
            rcases flatT_spec h3 with ⟨k0, h1⟩ | h1 | h1 <;> simp [h1]
          exact h7 (2 * (P.types.size + Made.depth))
        · exact run_equal_arr hty h3 (beq1 h4) hus hvs (beq1 h5) h3f hv 9998
      · cases hv
    · cases hv
  · rename_i sfs sz hty
    split at hv
    · rename_i xs ys hx' hy'
      rw [hx'] at hx; rw [hy'] at hy
      obtain ⟨us, h1, hus⟩ := vr_agg hx
      obtain ⟨vs, h2, hvs⟩ := vr_agg hy
      unfold aeqS at hv
      split at hv
      · rename_i fs hu
        split at hv
        · cases hv
        · rename_i hst
          split at hv
          · rename_i hfl
            have hfo : P.fieldsOf t = fs := by simp [Program.fieldsOf, hu]
            refine fin h1 h2 ?_ (by simp) (by simp) (by simp) (by simp) ?_
            · refine run_eqGuard_agg w op t x y us vs ?_
              have h7 : ∀ d, P.eqGuardType (d + 2) t = false := by
                intro d
                simp only [Program.eqGuardType, hu]
                rw [← Array.any_toList, List.any_eq_false]
                intro f hfm
                have h3 := List.all_eq_true.1 hfl f hfm
                rcases flatT_spec h3 with ⟨k0, h1⟩ | h1 | h1 <;> simp [h1]
              exact h7 (2 * (P.types.size + Made.depth))
            · have h9 : (Op.equalIn (9999 + 1) t (.agg us) (.agg vs)).run P w = .ok b w := by
                rw [run_equalIn_agg w 9999 t us vs (by rw [hfo]; exact hu) hst, hfo]
                exact run_feqS 9998 hus hvs fs.toList b hfl hv
              exact h9
          · cases hv
      · cases hv
    · cases hv
  · rename_i el hty
    have hu := tyk_ptr hty
    have key : ∀ {a a' : Option Addr}, ρ x = .pointer a → ρ y = .pointer a' → (∀ d, (Op.equalIn (d + 1) t (.pointer a) (.pointer a')).run P w = .ok b w) → (execOp ρ o).run P w = .ok (.value (.bool r)) w := by
      intro a a' h1 h2 h3
      refine fin h1 h2 ?_ (by simp) (by simp) (by simp) (by simp) (h3 9999)
      rcases hop with ⟨h1, _⟩ | ⟨h1, _⟩ <;> subst h1 <;> simp [eqGuard]
    unfold peq at hv
    split at hv
    · rename_i hx' hy'
      rw [hx'] at hx; rw [hy'] at hy
      injection hv with hv; subst hv
      generalize hv1 : ρ x = v1 at hx
      generalize hv2 : ρ y = v2 at hy
      cases hx; cases hy
      exact key hv1 hv2 fun d => by simp only [Op.equalIn, Sem.run_bind, run_under hu, Result.andThen_ok, Sem.run_pure, Option.isNone_none]
    · rename_i hx' hy'
      rw [hx'] at hx; rw [hy'] at hy
      injection hv with hv; subst hv
      obtain ⟨i', hi', hv2⟩ := vr_ptr hy
      generalize hv1 : ρ x = v1 at hx
      cases hx
      exact key hv1 hv2 fun d => by simp only [Op.equalIn, Sem.run_bind, run_under hu, Result.andThen_ok, Sem.run_pure, Option.isNone_some]
    · rename_i hx' hy'
      rw [hx'] at hx; rw [hy'] at hy
      injection hv with hv; subst hv
      obtain ⟨i', hi', hv1⟩ := vr_ptr hx
      generalize hv2 : ρ y = v2 at hy
      cases hy
      exact key hv1 hv2 fun d => by simp only [Op.equalIn, Sem.run_bind, run_under hu, Result.andThen_ok, Sem.run_pure]
    · rename_i k off k' off' hx' hy'
      split at hv
      · rename_i n g hsz
        split at hv
        · rename_i hc
          simp only [Bool.and_eq_true, Bool.not_eq_true'] at hc
          obtain rfl := beq1 hc.2
          injection hv with hv
          rw [hx'] at hx; rw [hy'] at hy
          obtain ⟨i, hi, hv1⟩ := vr_ptr hx
          obtain ⟨i', hi', hv2⟩ := vr_ptr hy
          rw [hi] at hi'
          injection hi' with hi'
          subst hi'
          obtain ⟨inf, d', hinf, hs, _⟩ := tsz_some hsz
          refine key hv1 hv2 fun d => ?_
          have hne : inf.size ≠ 0 := by rw [hs]; exact beq0 hc.1
          have hb : ((⟨i.b, i.base + off, none⟩ : Addr) == ⟨i.b, i.base + off', none⟩) = b := by
            rw [← hv, Bool.eq_iff_iff]
            simp
          simp [Op.equalIn, run_under hu, run_size hinf, hne, sameAddr, hb]
        · cases hv
      · cases hv
    · cases hv
  · cases hv

theorem q_binOp {op : BinOp} {t yt : TypeId} {x y : Operand} (he : o.op = .binOp op t x y yt) (hev : ∀ x ∈ o.op.operands.toList, VR ι (e x) (ρ x)) (hc : bineq P op t (e x) (e y) = some c) : Qs P ι w ρ o c := by
  have hx := hev x (by simp [he, Op.operands])
  have hy := hev y (by simp [he, Op.operands])
  unfold bineq at hc
  split at hc
  · rename_i v hv
    injection hc with hc; subst hc
    obtain ⟨u, h1, h2, h3⟩ := run_abin (P := P) (w := w) (t := t) (x := x) (y := y) hv hx hy
    refine ⟨u, h1, ?_⟩
    unfold execOp; rw [he]
    simp [h3, h2]
  · have hna : ∀ b, aeq P t (e x) (e y) = some b → ∀ k n k' m, ¬ (e x = .nu k n ∧ e y = .nu k' m) := by
      intro b hb k n k' m ⟨h1, h2⟩
      rw [h1, h2] at hb
      unfold aeq at hb
      split at hb <;> first | cases hb | (simp [peq] at hb)
    split at hc
    · split at hc
      · rename_i b hb
        injection hc with hc; subst hc
        exact q_aeq he (.inl ⟨rfl, rfl⟩) hev hb (hna b hb)
      · cases hc
    · split at hc
      · rename_i b hb
        injection hc with hc; subst hc
        exact q_aeq he (.inr ⟨rfl, rfl⟩) hev hb (hna b hb)
      · cases hc
    · cases hc
theorem q_unOp {op : UnOp} {t : TypeId} {x : Operand} (he : o.op = .unOp op t x) (hev : ∀ x ∈ o.op.operands.toList, VR ι (e x) (ρ x)) (hc : aun op (e x) = some c) : Qs P ι w ρ o c := by
  have hx := hev x (by simp [he, Op.operands])
  obtain ⟨v, h1, h2⟩ := run_aun (P := P) (w := w) hc hx
  refine ⟨v, h1, ?_⟩
  unfold execOp; rw [he]
  simp [h2]

/-! ### Stretches -/
theorem bnd_spec {x : Option Operand} {d n : Nat} (hx : ∀ y, x = some y → VR ι (e y) (ρ y)) (hb : bnd e x d = some n) : (x = none ∧ n = d) ∨ ∃ y k, x = some y ∧ ρ y = .int k (.ofNat n) := by
  unfold bnd at hb
  split at hb
  · injection hb with hb; exact .inl ⟨rfl, hb.symm⟩
  · rename_i y
    split at hb
    · rename_i k m hy
      injection hb with hb; subst hb
      have := hx y rfl
      rw [hy] at this
      exact .inr ⟨y, k, rfl, vr_nu this⟩
    · cases hb
theorem run_bounds {isS : Bool} {len cap a b : Nat} {lo hi : Option Operand} (hlo : (lo = none ∧ a = 0) ∨ ∃ y k, lo = some y ∧ ρ y = .int k (.ofNat a)) (hhi : (hi = none ∧ b = len) ∨ ∃ y k, hi = some y ∧ ρ y = .int k (.ofNat b)) (h1 : a ≤ b) (h2 : b ≤ cap) :
    (Instr.sliceBounds isS len cap (lo.map ρ) (hi.map ρ) none).run P w = .ok (a, b, cap) w := by
  have hnn : ∀ j : Nat, (0 : Int) ≤ Int.ofNat j := fun j => Int.natCast_nonneg j
  have htn : ∀ j : Nat, (Int.ofNat j).toNat = j := fun j => rfl
  have hle : ∀ {j k : Nat}, j ≤ k → Int.ofNat j ≤ (k : Int) := fun h => Int.ofNat_le.2 h
  rcases hlo with ⟨rfl, rfl⟩ | ⟨y, k, rfl, hy⟩ <;> rcases hhi with ⟨rfl, rfl⟩ | ⟨y', k', rfl, hy'⟩
  · simp [Instr.sliceBounds]
  · simp only [Instr.sliceBounds, Instr.sliceBound, asIntOf, Option.map_some, Option.map_none, hy', Sem.run_bind, Sem.run_pure, Result.andThen_ok, hnn b, hle h2, and_self, if_true, htn]
  · simp only [Instr.sliceBounds, Instr.sliceBound, asIntOf, Option.map_some, Option.map_none, hy, Sem.run_bind, Sem.run_pure, Result.andThen_ok, hnn a, hle h1, and_self, if_true, htn]
  · simp only [Instr.sliceBounds, Instr.sliceBound, asIntOf, Option.map_some, Option.map_none, hy, hy', Sem.run_bind, Sem.run_pure, Result.andThen_ok, hnn a, hnn b, hle h1, hle h2, and_self, if_true, htn]
theorem shutB_spec {i : Inf} {b : HB} (hb : BR ι i w b) (h : shutB b = true) : i.esz = 0 := by
  cases b with
  | cells cs more el => obtain ⟨_, _, _, _, _, _, _, h6, _⟩ := hb; exact h6.trans (beq1 h)
  | ro cs => obtain ⟨_, _, _, _, _, h6, _⟩ := hb; exact h6
  | _ => cases h
theorem tight_spec {i : Inf} {cs : List CV} {more el : Nat} (hb : BR ι i w (.cells cs more el)) {off cp c' : Nat} (ht : tight cs more off cp = true) (hcc : (cp = c' ∧ (i.esz ≠ 0 → cp ≠ 0 → off + cp * i.esz ≠ i.size)) ∨ (i.opn = true ∧ cp ≤ c' ∧ (i.esz ≠ 0 → off + cp * i.esz = i.size ∧ off + c' * i.esz = i.mc))) : cp = c' := by
  rcases hcc with hcc | ⟨h1, h2, h3⟩
  · exact hcc.1
  · obtain ⟨arr, el2, _, _, _, h4, h5, h6, _⟩ := hb
    unfold tight at ht
    rw [h1] at h5
    have h7 : Nat.beq more 0 = false := by
      cases hm : Nat.beq more 0 with
      | false => rfl
      | true => rw [hm] at h5; cases h5
    rw [h7] at ht
    simp only [Bool.false_or, Bool.not_eq_true'] at ht
    have := (h3 (by rw [h6]; exact beq0 h7)).1
    rw [h6, h4] at this
    exact absurd this (beq0 ht)
theorem q_slice (S : Sim N0 ι h w) {t : TypeId} {x : Operand} {lo hi : Option Operand} (he : o.op = .slice t x lo hi none) (hev : ∀ x ∈ o.op.operands.toList, VR ι (e x) (ρ x)) (hc : qSlice e lo hi h (e x) (tyk P t) = some c) : Qs P ι w ρ o c := by
  have hx := hev x (by simp [he, Op.operands])
  have hlo : ∀ y, lo = some y → VR ι (e y) (ρ y) := fun y hy => hev y (by simp [he, Op.operands, hy])
  have hhi : ∀ y, hi = some y → VR ι (e y) (ρ y) := fun y hy => hev y (by simp [he, Op.operands, hy])
  unfold qSlice at hc
  split at hc
  · rename_i hty
    have hu := tyk_str hty
    split at hc
    · rename_i s hx'
      rw [hx'] at hx
      obtain ⟨by_, hv, rfl⟩ := vr_st' hx
      unfold qSliceStr at hc
      split at hc
      · rename_i a b ha hb
        split at hc
        · rename_i hle
          simp only [Bool.and_eq_true] at hle
          injection hc with hc; subst hc
          have h1 := ble1 hle.1
          have h2 := ble1 hle.2
          rw [bs_length] at h2
          have hr := run_bounds (P := P) (w := w) (isS := false) (len := by_.size) (cap := by_.size) (bnd_spec hlo ha) (by have := bnd_spec hhi hb; rwa [bs_length] at this) h1 h2
          refine ⟨.string (by_.extract a b), .st ?_, ?_⟩
          · simp [bs, List.map_drop, List.map_take]
          · unfold execOp; rw [he]
            simp only [Instr.sliceAt, Instr.slice, hv, run_under hu, Sem.run_bind, Result.andThen_ok, Option.map_none, Option.isSome_none, Bool.false_eq_true, if_false, hr, Sem.run_pure]
        · cases hc
      · cases hc
    · cases hc
  · rename_i el esz bytes z hty
    obtain ⟨hu, inf, zv, d, hinf, hsz, _⟩ := tyk_slice hty
    split at hc
    · rename_i hx'
      rw [hx'] at hx
      generalize hv : ρ x = v at hx
      cases hx
      unfold qSliceNil at hc
      split at hc
      · rename_i a b ha hb
        split at hc
        · rename_i h0
          simp only [Bool.and_eq_true] at h0
          have := beq1 h0.1; have := beq1 h0.2
          subst a; subst b
          injection hc with hc; subst hc
          have hr := run_bounds (P := P) (w := w) (isS := true) (len := 0) (cap := 0) (bnd_spec hlo ha) (bnd_spec hhi hb) (Nat.le_refl _) (Nat.le_refl _)
          refine ⟨_, .nils, ?_⟩
          unfold execOp; rw [he]
          simp [Instr.sliceAt, Instr.slice, hv, run_under hu, hr, run_size hinf]
        · cases hc
      · cases hc
    · rename_i k off n cp hx'
      rw [hx'] at hx
      generalize hv : ρ x = v at hx
      cases hx with
      | @sl _ _ _ _ c' i hi hcc =>
        have hcle : cp ≤ c' := hcc.elim (fun e => Nat.le_of_eq e.1) fun h => h.2.1
        unfold qSliceSl at hc
        split at hc
        · rename_i a b ha hb
          split at hc
          · rename_i hle
            simp only [Bool.and_eq_true] at hle
            have h1 := ble1 hle.1
            have h2 := ble1 hle.2
            have hr := run_bounds (P := P) (w := w) (isS := true) (len := n) (cap := c') (bnd_spec hlo ha) (bnd_spec hhi hb) h1 (Nat.le_trans h2 hcle)
            have hrun : (execOp ρ o).run P w = .ok (.value (.slice (if c' = a then (some ⟨i.b, i.base + off, none⟩) else some ⟨i.b, i.base + off + a * esz, none⟩) (b - a) (c' - a))) w := by
              unfold execOp; rw [he]
              simp only [Instr.sliceAt, Instr.slice, hv, run_under hu, Sem.run_bind, Result.andThen_ok, Option.map_none, hr, run_size hinf, Sem.run_pure, hsz, Option.map_some, add_none]
            split at hc
            · rename_i hlt
              have hlt := blt1 hlt
              split at hc
              · rename_i hfit
                injection hc with hc; subst hc
                rw [if_neg (by omega)] at hrun
                refine ⟨_, ?_, hrun⟩
                rw [Nat.add_assoc]
                refine .sl hi ?_
                have hez : i.esz ≠ 0 → i.esz = esz := by
                  intro hz
                  have hB := S.blk k i hi
                  unfold fits at hfit
                  split at hfit
                  · rename_i hb'
                    rw [hb'] at hB
                    obtain ⟨_, _, _, _, _, _, h5, h6, _⟩ := hB
                    simp only [Bool.or_eq_true] at hfit
                    rcases hfit with h | h
                    · exact absurd (h6.trans (beq1 h)) hz
                    · rw [h6]; exact beq1 h
                  · rename_i hb'
                    rw [hb'] at hB
                    obtain ⟨_, _, _, _, _, h6, _⟩ := hB
                    exact absurd h6 hz
                  · cases hfit
                have hm : ∀ m, a ≤ m → a * esz + (m - a) * esz = m * esz := fun m hm => by rw [← Nat.add_mul]; congr 1; omega
                have e1 := hm cp (by omega)
                have e2 := hm c' (by omega)
                rcases hcc with ⟨rfl, g0⟩ | ⟨g1, g2, g3⟩
                · refine .inl ⟨rfl, fun hz hc0 => ?_⟩
                  have := g0 hz (by omega)
                  rw [hez hz] at this ⊢
                  omega
                · refine .inr ⟨g1, by omega, fun hz => ?_⟩
                  obtain ⟨g4, g5⟩ := g3 hz
                  rw [hez hz] at g4 g5 ⊢
                  exact ⟨by omega, by omega⟩
              · cases hc
            · rename_i hlt
              have hlt := blt0 hlt
              have hac : a = cp := by omega
              have hbc : b = cp := by omega
              subst hac
              subst hbc
              unfold qSliceEnd at hc
              split at hc
              · rename_i cs more el' hb'
                have hB := S.blk k i hi
                rw [hb'] at hB
                split at hc
                · rename_i ht
                  injection hc with hc; subst hc
                  have := tight_spec hB ht hcc
                  subst this
                  rw [if_pos rfl] at hrun
                  refine ⟨_, ?_, hrun⟩
                  simp only [Nat.sub_self]
                  exact .sl hi (.inl ⟨rfl, fun _ h0 => absurd rfl h0⟩)
                · injection hc with hc; subst hc
                  refine ⟨_, ?_, hrun⟩
                  simp only [Nat.sub_self]
                  split <;> exact .sle _ _
              · injection hc with hc; subst hc
                refine ⟨_, ?_, hrun⟩
                simp only [Nat.sub_self]
                split <;> exact .sle _ _
              · cases hc
          · cases hc
        · cases hc
    · cases hc
  · rename_i n el esz g z hty
    obtain ⟨hu, ⟨inf, d, hinf, hsz, hd⟩, _⟩ := tyk_arr hty
    split at hc
    · rename_i k off hx'
      rw [hx'] at hx
      obtain ⟨i, hi, hv⟩ := vr_ptr hx
      unfold qSliceArr at hc
      split at hc
      · rename_i a b ha hb
        split at hc
        · rename_i hle
          simp only [Bool.and_eq_true] at hle
          have h1 := ble1 hle.1.1
          have h2 := ble1 hle.1.2
          have hr := run_bounds (P := P) (w := w) (isS := false) (len := n) (cap := n) (bnd_spec hlo ha) (bnd_spec hhi hb) h1 h2
          have hrun : (execOp ρ o).run P w = .ok (.value (.slice (if n = a then (some ⟨i.b, i.base + off, none⟩) else some ⟨i.b, i.base + off + a * esz, none⟩) (b - a) (n - a))) w := by
            unfold execOp; rw [he]
            simp only [Instr.sliceAt, Instr.sureAddr, hv, run_under hu, Sem.run_bind, Result.andThen_ok, Option.map_none, hr, run_size hinf, Sem.run_pure, hsz, Option.map_some, add_none]
            split <;> rfl
          split at hc
          · rename_i hlt
            have hlt := blt1 hlt
            injection hc with hc; subst hc
            rw [if_neg (by omega)] at hrun
            refine ⟨_, ?_, hrun⟩
            rw [Nat.add_assoc]
            exact .sl hi (.inl ⟨rfl, fun hz => absurd (shutB_spec (S.blk k i hi) hle.2) hz⟩)
          · rename_i hlt
            have hlt := blt0 hlt
            have hac : a = n := by omega
            have hbc : b = n := by omega
            subst hac
            subst hbc
            injection hc with hc; subst hc
            rw [if_pos rfl] at hrun
            refine ⟨_, ?_, hrun⟩
            simp only [Nat.sub_self]
            exact .sl hi (.inl ⟨rfl, fun _ h0 => absurd rfl h0⟩)
        · cases hc
      · cases hc
    · cases hc
  · cases hc
end
end Go.CO
