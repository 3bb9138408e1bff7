/- The reckoner with memory: operations that write are sound. -/
import Derived.Test.YtommoodcdkjggabGreatDoorCo8
import Derived.Laws.CopyRow
set_option linter.unusedVariables false
set_option linter.unusedSectionVars false
set_option linter.unusedSimpArgs false
namespace Go.CO
variable [LG] [HK]

theorem setAt_full {α : Type} : ∀ (cs xs : List α), xs.length = cs.length → setAt cs 0 xs = xs
  | [], [], _ => rfl
  | [], _ :: _, h => by simp at h
  | _ :: _, [], h => by simp at h
  | c :: cs, x :: xs, h => by simp only [setAt]; rw [setAt_full cs xs (by simpa using h)]
theorem setAt_eq {α : Type} (l : List α) (o : Nat) (vs : List α) (h : o + vs.length ≤ l.length) : setAt l o vs = l.take o ++ vs ++ l.drop (o + vs.length) := by
  have h1 : l = l.take o ++ (l.drop o).take vs.length ++ l.drop (o + vs.length) := by
    rw [List.append_assoc, ← List.drop_drop, List.take_append_drop, List.take_append_drop]
  conv => lhs; rw [h1]
  have h2 := setAt_append (l.take o) ((l.drop o).take vs.length) (l.drop (o + vs.length)) vs 0 (by simp; omega)
  rw [show (l.take o).length + 0 = o by simp; omega] at h2
  rw [h2, setAt_full _ _ (by simp; omega)]

section
variable {P : Program} {N0 : Nat} {ι : Im} {h h' : Hp} {w : World} {e : Operand → CV} {ρ : Operand → Value} {o : Oper} {c : CV}

/-- What an operation comes to. -/
def Ws (P : Program) (N0 : Nat) (ι : Im) (h : Hp) (w : World) (ρ : Operand → Value) (o : Oper) (c : CV) (h' : Hp) : Prop :=
  ∃ (ι' : Im) (w' : World), ((∃ v, (execOp ρ o).run P w = .ok (.value v) w' ∧ VR ι' c v) ∨ ((execOp ρ o).run P w = .ok .skip w' ∧ c = .undef)) ∧ ι.le ι' ∧ (∀ k, k < h.n → ι k = none → ι' k = none) ∧ Sim N0 ι' h' w' ∧ Ext N0 w w' ∧ h.n ≤ h'.n

/-- Cells of a block are written. -/
theorem br_write {i : Inf} {w' : World} {cs xs : List CV} {us : List Value} {more off te : Nat} {arr : Array Value} {el : TypeId} (hb : BR ι i w (.cells cs more te)) (hx : VRL ι xs us) (hle : off + xs.length ≤ cs.length) (hg : w.heap[i.b]? = some (.cells arr el (0, 0)))
    (hg' : w'.heap[i.b]? = some (.cells (setAt arr.toList (i.base + off) us).toArray el (0, 0))) : BR ι i w' (.cells (setAt cs off xs) more te) := by
  obtain ⟨arr2, el2, h1, h2, h3, h4, h5, h6, h7, h8e⟩ := hb
  rw [hg] at h1
  injection h1 with h1
  injection h1 with e1 e2
  subst e1
  subst e2
  have hl : (setAt cs off xs).length = cs.length := setAt_length _ _ _
  refine ⟨_, _, hg', by simp [setAt_length]; exact h2, by rw [hl]; exact h3, by rw [hl]; exact h4, h5, h6, ?_, h8e.1, fun hm => ⟨(h8e.2 hm).1, by have := (h8e.2 hm).2; simp [setAt_length]; omega⟩⟩
  rw [hl]
  have hA : arr.toList = arr.toList.take i.base ++ (arr.toList.drop i.base).take cs.length ++ arr.toList.drop (i.base + cs.length) := by
    rw [List.append_assoc, ← List.drop_drop, List.take_append_drop, List.take_append_drop]
  have hlen : i.base + cs.length ≤ arr.toList.length := by simp; omega
  have hul : us.length = xs.length := hx.1
  have h8 := setAt_append (arr.toList.take i.base) ((arr.toList.drop i.base).take cs.length) (arr.toList.drop (i.base + cs.length)) us off (by simp at hlen ⊢; omega)
  rw [← hA, show (arr.toList.take i.base).length = i.base by simp at hlen ⊢; omega] at h8
  rw [h8]
  have h9 : ((arr.toList.take i.base ++ setAt ((arr.toList.drop i.base).take cs.length) off us ++ arr.toList.drop (i.base + cs.length)).toArray.toList.drop i.base).take cs.length = setAt ((arr.toList.drop i.base).take cs.length) off us := by
    rw [List.toList_toArray, List.append_assoc, List.drop_append_of_le_length (by simp at hlen ⊢; omega), List.drop_of_length_le (by simp; omega), List.nil_append,
      List.take_append_of_le_length (by rw [setAt_length]; simp at hlen ⊢; omega), List.take_of_length_le (by rw [setAt_length]; simp; omega)]
  rw [h9]
  exact VRL.setAt xs us h7 hx off

theorem w_store (S : Sim N0 ι h w) {t : TypeId} {a x : Operand} (he : o.op = .store t a x) (hev : ∀ x ∈ o.op.operands.toList, VR ι (e x) (ρ x)) (hc : wStore h (e a) (e x) (tsz P t) = some (c, h')) : Ws P N0 ι h w ρ o c h' := by
  have ha := hev a (by simp [he, Op.operands])
  have hx := hev x (by simp [he, Op.operands])
  unfold wStore at hc
  split at hc
  · rename_i n g ht
    obtain ⟨inf, d, hi, hs, hu, hg⟩ := tsz_some ht
    split at hc
    · rename_i k off hak
      rw [hak] at ha
      obtain ⟨i, hik, hav⟩ := vr_ptr ha
      unfold wStoreB at hc
      split at hc
      · rename_i cs more te hb
        split at hc
        · rename_i hcond
          simp only [Bool.and_eq_true] at hcond
          obtain ⟨⟨h1, h2⟩, h3⟩ := hcond
          have h2 := beq1 h2
          have h3 := ble1 h3
          injection hc with hc
          simp only [Prod.mk.injEq] at hc
          obtain ⟨rfl, rfl⟩ := hc
          obtain ⟨hv, hone, _, _⟩ := hx.cells h1
          have hB := S.blk k i hik
          rw [hb] at hB
          have hB' := hB
          obtain ⟨arr, el, hgw, hsz, hmc, _⟩ := hB'
          have hvl : (ρ x).cells.toList.length = n := by rw [hv.1, h2]
          have hfit : i.base + off + 0 + (ρ x).cells.toList.length ≤ arr.size := by rw [hvl]; omega
          have hst := run_storeCells_at P i.b (i.base + off) el (ρ x).cells.toList 0 arr w hgw hfit hone
          rw [Nat.add_zero, ← setAt_eq _ _ _ (by rw [hvl]; simp; omega)] at hst
          refine ⟨ι, w.setRow i.b (setAt arr.toList (i.base + off) (ρ x).cells.toList).toArray, .inr ⟨?_, rfl⟩, Im.le_refl ι, fun k _ hk => hk, ?_, ?_, Nat.le_refl _⟩
          · have hsz2 : (ρ x).cells.size = inf.size := by rw [hs, ← hvl]; simp
            unfold execOp; rw [he]
            simp [hav, Instr.storeAt, Instr.sureAddr, storeVar, run_size hi, hsz2, hst]
          · refine S.wrote hik (by rw [hb]; rfl) (.inl rfl) (by simp) (fun j hj => setRow_other w i.b j _ hj) ?_
            exact br_write hB hv (by rw [h2]; omega) hgw (setRow_heap w i.b arr _ el (0, 0) hgw)
          · have hN := S.own k i hik (by rw [hb]; rfl)
            exact ⟨rfl, rfl, rfl, by simp, fun b hb => setRow_other w i.b b _ (by omega)⟩
        · cases hc
      · cases hc
    · cases hc
  · cases hc

/-! ### Maps -/
theorem same_self : ∀ {v : Value}, (∃ k n, v = .int k n) ∨ (∃ s, v = .string s) ∨ (∃ b, v = .bool b) → ∀ d, Instr.sameBits d v v = true
  | v, .inl ⟨k, n, e⟩, d => by subst e; cases d <;> simp [Instr.sameBits]
  | v, .inr (.inl ⟨s, e⟩), d => by subst e; cases d <;> simp [Instr.sameBits, beq_toListBytes]
  | v, .inr (.inr ⟨b, e⟩), d => by subst e; cases d <;> simp [Instr.sameBits]
theorem key_self {kt : TypeId} {key : CV} {kv : Value} (hk : keyOk P kt key = true) (hkv : VR ι key kv) : Instr.sameBits 10000 kv kv = true := by
  unfold keyOk at hk
  split at hk
  · split at hk
    · exact same_self (.inl ⟨_, _, vr_nu hkv⟩) _
    · cases hk
  · split at hk
    · obtain ⟨a, e, _⟩ := vr_st' hkv
      exact same_self (.inr (.inl ⟨_, e⟩)) _
    · cases hk
  · split at hk
    · rename_i cs k0 hel
      simp only [Bool.and_eq_true] at hk
      obtain ⟨us, rfl, hus⟩ := vr_agg hkv
      have hall : ∀ u ∈ us.toList, ∃ k n, u = Value.int k n := by
        intro u hu
        obtain ⟨j, hj, rfl⟩ := List.getElem_of_mem hu
        have hj' : j < cs.length := by rw [← hus.1]; exact hj
        have h1 := hus.2 j hj'
        have h2 := List.all_eq_true.1 hk.2 _ (List.getElem_mem hj')
        rw [List.getD_eq_getElem?_getD, List.getElem?_eq_getElem hj] at h1
        split at h2
        · rename_i q m hq
          rw [hq] at h1
          exact ⟨_, _, vr_nu h1⟩
        · cases h2
      have key : ∀ d, Instr.sameBits (d + 1) (.agg us) (.agg us) = true := by
        intro d
        simp only [Instr.sameBits, beq_self_eq_true, Bool.true_and, List.all_eq_true]
        rintro ⟨x, y⟩ hxy
        obtain ⟨j, hj, hxy⟩ := List.getElem_of_mem hxy
        simp only [List.getElem_zip, Prod.mk.injEq] at hxy
        obtain ⟨rfl, rfl⟩ := hxy
        exact same_self (.inl (hall _ (List.getElem_mem _))) d
      exact key 9999
    · cases hk
  · split at hk
    · rename_i cs
      obtain ⟨us, rfl, hus⟩ := vr_agg hkv
      unfold keyS at hk
      split at hk
      · rename_i fs hu
        simp only [Bool.and_eq_true, Bool.not_eq_true'] at hk
        have hfit : ∀ (fs : List Field) (j : Nat) (cs : List CV), keyF P fs j cs = true → ∀ c ∈ cs, ∃ t, fitT P t c = true := by
          intro fs
          induction fs with
          | nil =>
            intro j cs h c hc
            cases cs with
            | nil => cases hc
            | cons d ds => simp [keyF] at h
          | cons f fs ih =>
            intro j cs h c hc
            cases cs with
            | nil => cases hc
            | cons d ds =>
              simp only [keyF, Bool.and_eq_true] at h
              rcases List.mem_cons.1 hc with rfl | hc
              · exact ⟨_, h.1.2⟩
              · exact ih (j + 1) ds h.2 c hc
        have hall : ∀ u ∈ us.toList, (∃ k n, u = Value.int k n) ∨ (∃ s, u = .string s) ∨ (∃ b, u = .bool b) := by
          intro u hu
          obtain ⟨j, hj, rfl⟩ := List.getElem_of_mem hu
          have hj' : j < cs.length := by rw [← hus.1]; exact hj
          have h1 := hus.2 j hj'
          obtain ⟨t, h2⟩ := hfit _ _ _ hk.2 _ (List.getElem_mem hj')
          rw [List.getD_eq_getElem?_getD, List.getElem?_eq_getElem hj] at h1
          unfold fitT at h2
          split at h2 <;> (try (split at h2)) <;> (try (cases h2; done)) <;> (rename_i hq; rw [hq] at h1)
          · exact .inl ⟨_, _, vr_nu h1⟩
          · obtain ⟨a, e, _⟩ := vr_st' h1; exact .inr (.inl ⟨_, e⟩)
          · exact .inr (.inr ⟨_, vr_bo h1⟩)
        have key : ∀ d, Instr.sameBits (d + 1) (.agg us) (.agg us) = true := by
          intro d
          simp only [Instr.sameBits, beq_self_eq_true, Bool.true_and, List.all_eq_true]
          rintro ⟨x, y⟩ hxy
          obtain ⟨j, hj, hxy⟩ := List.getElem_of_mem hxy
          simp only [List.getElem_zip, Prod.mk.injEq] at hxy
          obtain ⟨rfl, rfl⟩ := hxy
          exact same_self (hall _ (List.getElem_mem _)) d
        exact key 9999
      · cases hk
    · cases hk
  · cases hk
theorem upd_spec {key v : CV} {kv vv : Value} {Fd : List MapEntry → Nat → Option (Nat × Value) → Prop} (hkv : VR ι key kv) (hvv : VR ι v vv) (h0 : ∀ i, Fd [] i none) (h1 : ∀ k e es i, VR ι k (MapEntry.key e) → kcmp key k = some true → Fd (e :: es) i (some (i, e.val)))
    (h2 : ∀ k e es i r, VR ι k (MapEntry.key e) → kcmp key k = some false → Fd es (i + 1) r → Fd (e :: es) i r) : ∀ (es : List (CV × CV)) (ents : List MapEntry) (i : Nat) (es' : List (CV × CV)), MR ι es ents → updM key v es = some es' →
    (Fd ents i none ∧ ∀ born, MR ι es' (ents ++ [{ key := kv, val := vv, born }])) ∨ ∃ j e, Fd ents i (some (i + j, e.val)) ∧ ents[j]? = some e ∧ e.key = kv ∧ ∀ born, MR ι es' (ents.set j { key := kv, val := vv, born })
  | [], ents, i, es', hm, hu => by
    rw [hm.nil]
    simp only [updM, Option.some.injEq] at hu
    subst hu
    exact .inl ⟨h0 i, fun born => ⟨VRL.cons hkv (VRL.nil ι), VRL.cons hvv (VRL.nil ι)⟩⟩
  | (k, u) :: es, ents, i, es', hm, hu => by
    obtain ⟨e, l, rfl, hk, hv, hm'⟩ := hm.cons
    simp only [updM] at hu
    split at hu
    · rename_i hkk
      injection hu with hu; subst hu
      have hek : e.key = kv := (kcmp_iff hkv hk hkk).1 rfl
      refine .inr ⟨0, e, h1 k e l i hk hkk, rfl, hek, fun born => ?_⟩
      exact ⟨VRL.cons (by rw [← hek]; exact hk) hm'.1, VRL.cons hvv hm'.2⟩
    · rename_i hkk
      split at hu
      · rename_i es2 hu2
        injection hu with hu; subst hu
        rcases upd_spec hkv hvv h0 h1 h2 es l (i + 1) es2 hm' hu2 with ⟨g1, g2⟩ | ⟨j, e', g1, g2, g3, g4⟩
        · exact .inl ⟨h2 k e l i _ hk hkk g1, fun born => ⟨VRL.cons hk (g2 born).1, VRL.cons hv (g2 born).2⟩⟩
        · refine .inr ⟨j + 1, e', ?_, by simpa using g2, g3, fun born => ⟨VRL.cons hk (g4 born).1, VRL.cons hv (g4 born).2⟩⟩
          have := h2 k e l i _ hk hkk g1
          rwa [show i + 1 + j = i + (j + 1) by omega] at this
      · cases hu
    · cases hu
theorem w_map (S : Sim N0 ι h w) {t : TypeId} {m key x : Operand} (he : o.op = .mapUpdate t m key x) (hev : ∀ x ∈ o.op.operands.toList, VR ι (e x) (ρ x)) (hc : wMap P h (e m) (e key) (e x) (tyk P t) = some (c, h')) : Ws P N0 ι h w ρ o c h' := by
  have hm := hev m (by simp [he, Op.operands])
  have hk := hev key (by simp [he, Op.operands])
  have hx := hev x (by simp [he, Op.operands])
  unfold wMap at hc
  split at hc
  · rename_i kt et hty
    have hu := tyk_map hty
    split at hc
    · rename_i hcond
      have hkok := hcond
      split at hc
      · rename_i k hmk
        rw [hmk] at hm
        generalize hv : ρ m = v at hm
        cases hm with
        | @mp _ inf hinf =>
          unfold wMapB at hc
          split at hc
          · rename_i es hb
            have hB := S.blk k inf hinf
            rw [hb] at hB
            obtain ⟨ents, clock, hg, hmr⟩ := hB
            unfold wMapE at hc
            split at hc
            · rename_i es' hup
              injection hc with hc
              simp only [Prod.mk.injEq] at hc
              obtain ⟨rfl, rfl⟩ := hc
              obtain ⟨Fd, g0, g1, g2, g3, g4⟩ := finds (w := w) hkok hk
              have hobj : (getObj inf.b).run P w = .ok (.map ents clock) w := by simp [getObj, Sem.run, hg]
              have hset : ∀ ob, (setObj inf.b ob).run P w = .ok () { w with heap := w.heap.setIfInBounds inf.b ob } := by intro ob; simp [setObj, Sem.run, hg]
              have hlt := (S.lt k inf hinf).2
              have fin : ∀ (ents' : Array MapEntry) (clock' : Nat), (execOp ρ o).run P w = .ok .skip { w with heap := w.heap.setIfInBounds inf.b (.map ents' clock') } → MR ι es' ents'.toList → Ws P N0 ι h w ρ o .undef (h.set k (.mp es')) := by
                intro ents' clock' hrun hmr'
                refine ⟨ι, _, .inr ⟨hrun, rfl⟩, Im.le_refl ι, fun k _ hk => hk, ?_, ?_, Nat.le_refl _⟩
                · refine S.wrote hinf (by rw [hb]; rfl) (.inl rfl) (by simp) (fun j hj => by simp [Ne.symm hj]) ?_
                  exact ⟨ents', clock', by simp [hlt], hmr'⟩
                · have hN := S.own k inf hinf (by rw [hb]; rfl)
                  exact ⟨rfl, rfl, rfl, by simp, fun b hb => by simp; rw [Array.getElem?_setIfInBounds_ne (by omega)]⟩
              rcases upd_spec hk hx g0 g1 g2 es ents.toList 0 es' hmr hup with ⟨f1, f2⟩ | ⟨j, e', f1, f2, f3, f4⟩
              · refine fin (ents.push { key := ρ key, val := ρ x, born := clock }) (clock + 1) ?_ (by simpa using f2 clock)
                unfold execOp; rw [he]
                simp [Instr.mapUpdate, run_under hu, hv, hobj, g4, g3 _ _ f1, hset]
              · rw [Array.getElem?_toList] at f2
                have hj : j < ents.size := (Array.getElem?_eq_some_iff.1 f2).1
                refine fin (ents.modify j fun en => { en with key := ρ key, val := ρ x }) clock ?_ ?_
                · rw [Nat.zero_add] at f1
                  have hkeep : (Instr.keyThatStays (ρ key) (ρ key)).run P w = .ok (ρ key) w := by simp [Instr.keyThatStays, key_self hkok hk]
                  unfold execOp; rw [he]
                  simp [Instr.mapUpdate, run_under hu, hv, hobj, g4, g3 _ _ f1, f2, f3, hkeep, hset]
                · have := f4 e'.born
                  have h5 : (ents.modify j fun en => { en with key := ρ key, val := ρ x }).toList = ents.toList.set j { key := ρ key, val := ρ x, born := e'.born } := by
                    apply List.ext_getElem?
                    intro n
                    rw [Array.getElem?_toList, Array.getElem?_modify, List.getElem?_set]
                    by_cases hjn : j = n
                    · subst hjn
                      rw [if_pos rfl, if_pos rfl, f2]
                      simp [hj]
                    · rw [if_neg hjn, if_neg hjn, Array.getElem?_toList]
                  rw [h5]; exact this
            · cases hc
          · cases hc
      · cases hc
    · cases hc
  · cases hc

/-! ### Append -/
/-- What is appended: a slice, or a string. -/
def Src (P : Program) (t' : TypeId) (y : Value) (m : Nat) : Prop := (∃ el' a cy, P.underlying t' = some (.slice el') ∧ y = .slice a m cy) ∨ ∃ b : ByteArray, P.underlying t' = some .string ∧ y = .string b ∧ b.size = m
theorem run_app_in {t t' ty el : TypeId} {i : TypeInfo} (ht : P.underlying t = some (.slice el)) (hi : P.info? el = some i) {ad : Addr} {n cp m : Nat} {y : Value} {news : Array Value} {w' : World} (hl : Src P t' y m)
    (hf : (Builtin.firstCells i.size m y).run P w = .ok news w) (hroom : n + m ≤ cp) (hst : (storeCells (ad.add (n * i.size)) news.toList).run P w = .ok () w') :
    (Builtin.append_ #[t, t'] ty #[.slice (some ad) n cp, y]).run P w = .ok (.slice (some ad) (n + m) cp) w' := by
  rcases hl with ⟨el', a, cy, ht', rfl⟩ | ⟨b, ht', rfl, rfl⟩
  · simp [Builtin.append_, run_under ht, run_under ht', run_size hi, Builtin.lenOf, hroom, hf, hst]
  · simp [Builtin.append_, run_under ht, run_under ht', run_size hi, Builtin.lenOf, hroom, hf, hst]
theorem run_app_zero {t t' ty el : TypeId} {i : TypeInfo} (ht : P.underlying t = some (.slice el)) (hi : P.info? el = some i) {b : Option Addr} {n cp : Nat} {y : Value} (hl : Src P t' y 0) (hf : (Builtin.firstCells i.size 0 y).run P w = .ok #[] w) (hc : n ≤ cp) :
    (Builtin.append_ #[t, t'] ty #[.slice b n cp, y]).run P w = .ok (.slice b n cp) w := by
  rcases hl with ⟨el', a, cy, ht', rfl⟩ | ⟨s, ht', rfl, hs⟩
  · cases b with
    | none => simp [Builtin.append_, run_under ht, run_under ht', run_size hi, Builtin.lenOf, hc, hf]
    | some ad => simp [Builtin.append_, run_under ht, run_under ht', run_size hi, Builtin.lenOf, hc, hf, storeCells]
  · cases b with
    | none => simp [Builtin.append_, run_under ht, run_under ht', run_size hi, Builtin.lenOf, hs, hc, hf]
    | some ad => simp [Builtin.append_, run_under ht, run_under ht', run_size hi, Builtin.lenOf, hs, hc, hf, storeCells]
theorem run_app_grow {t t' ty el : TypeId} {i : TypeInfo} {z : Value} (ht : P.underlying t = some (.slice el)) (hi : P.info? el = some i) (hz : i.zero = some z) {x y : Value} {n cp m : Nat} {olds news : Array Value} (hlx : ∃ b, x = .slice b n cp) (hly : Src P t' y m)
    (hfx : ∀ w', w'.heap = w.heap → (Builtin.firstCells i.size n x).run P w' = .ok olds w') (hfy : ∀ w', w'.heap = w.heap → (Builtin.firstCells i.size m y).run P w' = .ok news w') (hroom : cp < n + m) (h63 : n + m ≤ 4611686018427387904) (hb : (n + m) * i.bytes ≤ 70368744177664) :
    ∃ cap, n + m ≤ cap ∧ (Builtin.append_ #[t, t'] ty #[x, y]).run P w = .ok (.slice (some ⟨w.heap.size, 0, none⟩) (n + m) cap) (w.drew.alloc (.cells (olds ++ news ++ Builtin.zeroCells z.cells (cap - (n + m))) el)) := by
  obtain ⟨b, rfl⟩ := hlx
  refine ⟨grownCap w (n + m) cp el, Nat.le_add_right _ _, ?_⟩
  have hn : ¬ (n + m ≤ cp) := by omega
  have h63' : ¬ (9223372036854775807 < ((n : Int) + (m : Int))) := by omega
  have h48 := growslice_fits (need := n + m) (old := cp) (bytes := i.bytes) hroom (by omega)
  have h48' : ¬ (281474976710656 < Builtin.nextslicecap (n + m) cp * i.bytes) := by omega
  have h1 := hfx w.drew rfl
  have h2 := hfy w.drew rfl
  rcases hly with ⟨el', a, cy, ht', rfl⟩ | ⟨s, ht', rfl, rfl⟩
  · simp [Builtin.append_, run_under ht, run_under ht', sizeOf, typeInfo, zeroValue, hi, hz, Builtin.lenOf, hn, h63', h48', Question.forced, h1, h2, newRow, grownCap]
  · simp [Builtin.append_, run_under ht, run_under ht', sizeOf, typeInfo, zeroValue, hi, hz, Builtin.lenOf, hn, h63', h48', Question.forced, h1, h2, newRow, grownCap]
theorem run_app_zeros {t t' ty el : TypeId} {i : TypeInfo} {z : Value} {k : IntKind} (ht : P.underlying t = some (.slice el)) (ht' : P.underlying t' = some (.int k)) (hi : P.info? el = some i) (hz : i.zero = some z) {m : Nat} (hm : 0 < m) (hs : i.size ≠ 0) (h63 : m ≤ 4611686018427387904) (hb : m * i.bytes ≤ 70368744177664) :
    ∃ cap, m ≤ cap ∧ (Builtin.append_ #[t, t'] ty #[.slice none 0 0, .int .i64 (Int.ofNat m)]).run P w = .ok (.slice (some ⟨w.heap.size, 0, none⟩) m cap) (w.drew.alloc (.cells (Builtin.zeroCells z.cells m ++ Builtin.zeroCells z.cells (cap - m)) el)) := by
  refine ⟨grownCap w m 0 el, Nat.le_add_right _ _, ?_⟩
  have hw : IntKind.i64.wrap (m : Int) = (m : Int) := wr_i64 m (by omega)
  have hn : ¬ (m = 0) := by omega
  have hne : ¬ (m = 0 ∨ i.size = 0) := by omega
  have h63' : ¬ (9223372036854775807 < (m : Int)) := by omega
  have hl48 : ¬ (281474976710656 < (m : Int) * (i.bytes : Int)) := by
    rw [← Int.natCast_mul]; omega
  have h48 := growslice_fits (need := m) (old := 0) (bytes := i.bytes) hm (by omega)
  have h48' : ¬ (281474976710656 < Builtin.nextslicecap m 0 * i.bytes) := by omega
  simp [Builtin.append_, run_under ht, run_under ht', sizeOf, typeInfo, zeroValue, hi, hz, Builtin.firstCells, asInt, asIntOf, hw, hl48, hn, hs, hne, h63', h48', Question.forced, newRow, grownCap]
  rw [if_neg (show ¬ ((m : Int) < 0) by omega), if_neg (Nat.mul_ne_zero hn hs)]
end
end Go.CO
