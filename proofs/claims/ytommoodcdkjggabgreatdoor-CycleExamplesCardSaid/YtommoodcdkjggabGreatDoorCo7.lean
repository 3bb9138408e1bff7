/- The reckoner with memory: maps that are read, conversions; all operations that change nothing; blocks that are laid. -/
import Derived.Test.YtommoodcdkjggabGreatDoorCo6
import Derived.Lib.Builder
import Derived.Lib.UnsafeStr
set_option linter.unusedVariables false
set_option linter.unusedSectionVars false
set_option linter.unusedSimpArgs false
namespace Go.CO
variable [LG] [HK]

section
variable {P : Program} {N0 : Nat} {ι : Im} {h : Hp} {w : World} {e : Operand → CV} {ρ : Operand → Value} {o : Oper} {c : CV}

/-! ### Keys -/
theorem feq_iff {p q : CV} {u v : Value} {b : Bool} (hu : VR ι p u) (hv : VR ι q v) (hb : feq p q = some b) : b = true ↔ v = u := by
  unfold feq at hb
  split at hb
  · obtain rfl := vr_nu hu
    obtain rfl := vr_nu hv
    split at hb
    · rename_i hk
      obtain rfl := keq_eq hk
      injection hb with hb; subst hb
      rw [ieq_eq]; simp; exact eq_comm
    · cases hb
  · obtain ⟨a, rfl, rfl⟩ := vr_st' hu
    obtain ⟨b', rfl, rfl⟩ := vr_st' hv
    injection hb with hb; subst hb
    simp only [bs, neqL_map, beq_iff_eq, Value.string.injEq]
    constructor
    · intro h
      obtain ⟨⟨x⟩⟩ := a
      obtain ⟨⟨y⟩⟩ := b'
      simp at h
      rw [h]
    · intro h; rw [h]
  · obtain rfl := vr_bo hu
    obtain rfl := vr_bo hv
    injection hb with hb; subst hb
    simp; exact eq_comm
  · cases hb
theorem feqL_iff : ∀ {ps qs : List CV} {us vs : List Value} {b : Bool}, VRL ι ps us → VRL ι qs vs → feqL ps qs = some b → (b = true ↔ vs = us)
  | [], [], us, vs, b, hu, hv, hb => by
    simp only [feqL, Option.some.injEq] at hb
    have h1 : us = [] := List.eq_nil_of_length_eq_zero hu.1
    have h2 : vs = [] := List.eq_nil_of_length_eq_zero hv.1
    subst h1; subst h2; subst hb; simp
  | [], _ :: _, us, vs, b, hu, hv, hb => by simp [feqL] at hb
  | _ :: _, [], us, vs, b, hu, hv, hb => by simp [feqL] at hb
  | p :: ps, q :: qs, us, vs, b, hu, hv, hb => by
    cases us with
    | nil => have := hu.1; simp at this
    | cons u us =>
      cases vs with
      | nil => have := hv.1; simp at this
      | cons v vs =>
        obtain ⟨h1, h2⟩ := VRL.tail hu
        obtain ⟨h3, h4⟩ := VRL.tail hv
        simp only [feqL] at hb
        split at hb
        · rename_i hpq
          have h5 := (feq_iff h1 h3 hpq).1 rfl
          have h6 := feqL_iff h2 h4 hb
          rw [h6]; simp [h5]
        · rename_i hpq
          injection hb with hb; subst hb
          have h5 := feq_iff h1 h3 hpq
          simp only [Bool.false_eq_true, false_iff] at h5 ⊢
          simp [h5]
        · cases hb
theorem kcmp_iff {p q : CV} {u v : Value} {b : Bool} (hu : VR ι p u) (hv : VR ι q v) (hb : kcmp p q = some b) : b = true ↔ v = u := by
  unfold kcmp at hb
  split at hb
  · obtain ⟨us, rfl, h1⟩ := vr_agg hu
    obtain ⟨vs, rfl, h2⟩ := vr_agg hv
    rw [feqL_iff h1 h2 hb]
    simp only [Value.agg.injEq]
    exact ⟨fun h => by rw [← Array.toArray_toList (xs := vs), h], fun h => by rw [h]⟩
  · exact feq_iff hu hv hb

/-- Where a key is looked for. -/
def Finds (P : Program) (w : World) (ι : Im) (kt : TypeId) (key : CV) (kv : Value) : Prop := ∃ Fd : List MapEntry → Nat → Option (Nat × Value) → Prop,
  (∀ i, Fd [] i none) ∧ (∀ k e es i, VR ι k e.key → kcmp key k = some true → Fd (e :: es) i (some (i, e.val))) ∧ (∀ k e es i r, VR ι k e.key → kcmp key k = some false → Fd es (i + 1) r → Fd (e :: es) i r) ∧
  (∀ ents r, Fd ents 0 r → (Instr.findKey kt kv ents).run P w = .ok r w) ∧ ∀ em, (Instr.checkKey em 10000 kt kv).run P w = .ok () w
theorem check_flat {t : TypeId} (ht : flatT (tyk P t) = true) {p : CV} {v : Value} (hp : fitT P t p = true) (hv : VR ι p v) (em : Bool) (n : Nat) : (Instr.checkKey em (n + 1) t v).run P w = .ok () w := by
  obtain ⟨f1, f2, f3⟩ := fitT_spec hp
  rcases flatT_spec ht with ⟨k0, h1⟩ | h1 | h1
  · obtain ⟨k', m, rfl⟩ := f1 k0 h1
    obtain rfl := vr_nu hv
    simp [Instr.checkKey, run_under h1]
  · obtain ⟨s, rfl⟩ := f2 h1
    obtain ⟨a, rfl, rfl⟩ := vr_st' hv
    simp [Instr.checkKey, run_under h1]
  · obtain ⟨s, rfl⟩ := f3 h1
    obtain rfl := vr_bo hv
    simp [Instr.checkKey, run_under h1]
theorem keyF_flat : ∀ (fs : List Field) (j : Nat) (cs : List CV), keyF P fs j cs = true → fs.all (fun f => flatT (tyk P f.type)) = true
  | [], _, _, _ => rfl
  | f :: fs, j, [], h => by simp [keyF] at h
  | f :: fs, j, c :: cs, h => by
    simp only [keyF, Bool.and_eq_true] at h
    simp only [List.all_cons, h.1.1.2, keyF_flat fs (j + 1) cs h.2, Bool.and_self]
theorem keyF_mem : ∀ (fs : List Field) (j : Nat) (cs pre : List CV), keyF P fs j cs = true → pre.length = j → ∀ f ∈ fs, flatT (tyk P f.type) = true ∧ ∃ c, (pre ++ cs)[f.offset]? = some c ∧ fitT P f.type c = true
  | [], _, _, _, _, _, f, hf => by cases hf
  | g :: fs, j, [], _, h, _, f, hf => by simp [keyF] at h
  | g :: fs, j, c :: cs, pre, h, hp, f, hf => by
    simp only [keyF, Bool.and_eq_true] at h
    obtain ⟨⟨⟨⟨h3, h4⟩, h5⟩, h6⟩, h7⟩ := h
    rcases List.mem_cons.1 hf with rfl | hf
    · exact ⟨h5, c, by rw [beq1 h3, ← hp]; simp, h6⟩
    · have := keyF_mem fs (j + 1) cs (pre ++ [c]) h7 (by simp [hp]) f hf
      simpa using this
theorem feqS_of : ∀ (fs : List Field) (j : Nat) (cs ds pre pre' : List CV) (b : Bool), keyF P fs j cs = true → pre.length = j → pre'.length = j → feqL cs ds = some b → feqS P fs (pre ++ cs) (pre' ++ ds) = some b ∧ fs.all (fun f => flatT (tyk P f.type)) = true
  | [], j, cs, ds, pre, pre', b, hk, h1, h2, hb => by
    cases cs with
    | nil => cases ds with
      | nil => simpa [feqL, feqS] using hb
      | cons d ds => simp [feqL] at hb
    | cons c cs => simp [keyF] at hk
  | f :: fs, j, cs, ds, pre, pre', b, hk, h1, h2, hb => by
    cases cs with
    | nil => simp [keyF] at hk
    | cons c cs =>
      cases ds with
      | nil => simp [feqL] at hb
      | cons d ds =>
        simp only [keyF, Bool.and_eq_true] at hk
        obtain ⟨⟨⟨⟨h3, h4⟩, h5⟩, h6⟩, h7⟩ := hk
        have h3 := beq1 h3
        have h4 : (f.name == "_") = false := by simpa using h4
        have e1 : (pre ++ c :: cs)[f.offset]? = some c := by rw [h3, ← h1]; simp
        have e2 : (pre' ++ d :: ds)[f.offset]? = some d := by rw [h3, ← h2]; simp
        have rest : ∀ b', feqL cs ds = some b' → feqS P fs (pre ++ c :: cs) (pre' ++ d :: ds) = some b' ∧ fs.all (fun f => flatT (tyk P f.type)) = true := by
          intro b' hb'
          have := feqS_of fs (j + 1) cs ds (pre ++ [c]) (pre' ++ [d]) b' h7 (by simp [h1]) (by simp [h2]) hb'
          simpa using this
        have allf : fs.all (fun f => flatT (tyk P f.type)) = true := keyF_flat fs (j + 1) cs h7
        simp only [feqL] at hb
        split at hb
        · rename_i hcd
          obtain ⟨g1, g2⟩ := rest b hb
          refine ⟨?_, by simp only [List.all_cons, h5, g2, Bool.and_self]⟩
          simp only [feqS, h4, e1, e2, h6, hcd, g1]
        · rename_i hcd
          injection hb with hb; subst hb
          refine ⟨?_, by simp only [List.all_cons, h5, allf, Bool.and_self]⟩
          simp only [feqS, h4, e1, e2, h6, hcd]
        · cases hb
theorem finds {kt : TypeId} {key : CV} {kv : Value} (hk : keyOk P kt key = true) (hkv : VR ι key kv) : Finds P w ι kt key kv := by
  have flat : flatT (tyk P kt) = true → fitT P kt key = true → (∀ (k : CV) (u : Value) (b : Bool), VR ι k u → kcmp key k = some b → ∀ d, P.underlying kt = some d → Instr.sameNow d kv u = some b) → Finds P w ι kt key kv := by
    intro hf hfit hs
    have hu : ∃ d, P.underlying kt = some d := by rcases flatT_spec hf with ⟨k0, h1⟩ | h1 | h1 <;> exact ⟨_, h1⟩
    obtain ⟨d, hu⟩ := hu
    refine ⟨fun es i r => Instr.findNow d kv es i = some r, fun i => rfl, fun k e es i h1 h2 => ?_, fun k e es i r h1 h2 h3 => ?_, fun ents r h1 => ?_, fun em => check_flat hf hfit hkv em 9999⟩
    · simp [Instr.findNow, hs k _ _ h1 h2 d hu]
    · simp only [Instr.findNow, hs k _ _ h1 h2 d hu]; exact h3
    · simp [Instr.findKey, run_under hu, h1]
  unfold keyOk at hk
  split at hk
  · rename_i q hty
    split at hk
    · rename_i k0 n0
      obtain rfl := vr_nu hkv
      refine flat (by simp [flatT, hty]) (by simp [fitT, hty]) fun k u b h1 h2 d hd => ?_
      have hu := tyk_int hty
      rw [hu] at hd; injection hd with hd; subst hd
      cases k <;> simp only [kcmp, feq, reduceCtorEq] at h2
      obtain rfl := vr_nu h1
      split at h2
      · rename_i hkk
        obtain rfl := keq_eq hkk
        injection h2 with h2
        simp [Instr.sameNow, ← h2, c_eql]
      · cases h2
    · cases hk
  · rename_i hty
    split at hk
    · rename_i s0
      obtain ⟨a, rfl, rfl⟩ := vr_st' hkv
      refine flat (by simp [flatT, hty]) (by simp [fitT, hty]) fun k u b h1 h2 d hd => ?_
      have hu := tyk_str hty
      rw [hu] at hd; injection hd with hd; subst hd
      cases k <;> simp only [kcmp, feq, reduceCtorEq] at h2
      obtain ⟨a', rfl, rfl⟩ := vr_st' h1
      injection h2 with h2
      simp only [Instr.sameNow, ← h2, bs, neqL_map, beq_toListBytes, ByteArray.toList_eq]
    · cases hk
  · rename_i n el esz g z hty
    split at hk
    · rename_i cs k0 hel
      simp only [Bool.and_eq_true] at hk
      obtain ⟨⟨h3, h4⟩, h5⟩ := hk
      have h3 := beq1 h3
      have h4 := beq1 h4
      obtain ⟨us, rfl, hus⟩ := vr_agg hkv
      have hfl : flatT (tyk P el) = true := by simp [flatT, hel]
      have hfit : cs.all (fitT P el) = true := by
        rw [List.all_eq_true] at h5 ⊢
        intro x hx
        have := h5 x hx
        simp only [fitT, hel]
        split at this
        · rfl
        · cases this
      have heq : ∀ (k : CV) (u : Value) (b : Bool), VR ι k u → kcmp (.agg cs) k = some b → (Op.equal kt (.agg us) u).run P w = .ok b w := by
        intro k u b h1 h2
        cases k <;> simp only [kcmp, feq, reduceCtorEq] at h2
        obtain ⟨vs, rfl, hvs⟩ := vr_agg h1
        exact run_equal_arr hty hfl h3 hus hvs h4 hfit h2 9998
      obtain ⟨hu, ⟨i, d', hi, hsz, hd⟩, _⟩ := tyk_arr hty
      refine ⟨fun es i r => (Instr.findAsking kt (.agg us) es i).run P w = .ok r w, fun i => by simp [Instr.findAsking], fun k e es i h1 h2 => ?_, fun k e es i r h1 h2 h3 => ?_, fun ents r h1 => ?_, fun em => ?_⟩
      · simp [Instr.findAsking, heq k _ _ h1 h2]
      · simp [Instr.findAsking, heq k _ _ h1 h2, h3]
      · rw [run_findKey_eq w (by simp [hu])]; exact h1
      · have key : ∀ m, (Instr.checkKey em (m + 2) kt (.agg us)).run P w = .ok () w := by
          intro m
          rw [Instr.checkKey]
          simp only [Sem.run_bind, run_under hu, Result.andThen_ok]
          simp only [Std.Legacy.Range.forIn_eq_forIn_range', Std.Legacy.Range.size, Nat.sub_zero, Nat.add_one_sub_one, Nat.div_one]
          have hin : ∀ j ∈ List.range' 0 n, j < n := fun j hj => by simpa using hj
          revert hin
          generalize List.range' 0 n = is
          intro hin
          induction is with
          | nil => simp
          | cons j is ih =>
            have hj : j < cs.length := by rw [h4]; exact hin j List.mem_cons_self
            have hju : us[j]? = some (us.toList.getD j Go.undef) := by
              have : j < us.toList.length := by rw [hus.1]; exact hj
              rw [← Array.getElem?_toList, List.getD_eq_getElem?_getD, List.getElem?_eq_getElem this]; rfl
            have hch := check_flat (P := P) (w := w) hfl (List.all_eq_true.1 hfit _ (List.getElem_mem hj)) (hus.2 j hj) em m
            have h1 : i.size = 1 := by rw [hsz, h3]
            simp only [List.forIn_cons, Sem.run_bind, run_size hi, Result.andThen_ok, h1, Nat.mul_one, run_part_flat hfl hju, hch, Sem.run_pure]
            exact ih fun y hy => hin y (List.mem_cons_of_mem _ hy)
        exact key 9998
    · cases hk
  · rename_i sfs z hty
    split at hk
    · rename_i cs
      obtain ⟨us, rfl, hus⟩ := vr_agg hkv
      unfold keyS at hk
      split at hk
      · rename_i fs hu
        simp only [Bool.and_eq_true, Bool.not_eq_true'] at hk
        obtain ⟨hst, hkf⟩ := hk
        have hfo : P.fieldsOf kt = fs := by simp [Program.fieldsOf, hu]
        have heq : ∀ (k : CV) (u : Value) (b : Bool), VR ι k u → kcmp (.agg cs) k = some b → (Op.equal kt (.agg us) u).run P w = .ok b w := by
          intro k u b h1 h2
          cases k <;> simp only [kcmp, feq, reduceCtorEq] at h2
          obtain ⟨vs, rfl, hvs⟩ := vr_agg h1
          obtain ⟨h6, h7⟩ := feqS_of fs.toList 0 cs _ [] [] b hkf rfl rfl h2
          have h9 : (Op.equalIn (9999 + 1) kt (.agg us) (.agg vs)).run P w = .ok b w := by
            rw [run_equalIn_agg w 9999 kt us vs (by rw [hfo]; exact hu) (by simp [hst]), hfo]
            exact run_feqS 9998 hus hvs fs.toList b h7 (by simpa using h6)
          exact h9
        refine ⟨fun es i r => (Instr.findAsking kt (.agg us) es i).run P w = .ok r w, fun i => by simp [Instr.findAsking], fun k e es i h1 h2 => ?_, fun k e es i r h1 h2 h3 => ?_, fun ents r h1 => ?_, fun em => ?_⟩
        · simp [Instr.findAsking, heq k _ _ h1 h2]
        · simp [Instr.findAsking, heq k _ _ h1 h2, h3]
        · rw [run_findKey_eq w (by simp [hu])]; exact h1
        · have key : ∀ m, (Instr.checkKey em (m + 2) kt (.agg us)).run P w = .ok () w := by
            intro m
            rw [Instr.checkKey]
            simp only [Sem.run_bind, run_under hu, Result.andThen_ok]
            rw [← Array.forIn_toList]
            have hin : ∀ f ∈ fs.toList, flatT (tyk P f.type) = true ∧ ∃ c, cs[f.offset]? = some c ∧ fitT P f.type c = true := fun f hf => by simpa using keyF_mem fs.toList 0 cs [] hkf rfl f hf
            revert hin
            generalize fs.toList = l
            intro hin
            induction l with
            | nil => simp
            | cons f l ih =>
              obtain ⟨hfl, c, hc, hfit⟩ := hin f List.mem_cons_self
              obtain ⟨v, hv, hvr⟩ := hus.get? hc
              rw [Array.getElem?_toList] at hv
              have hch := check_flat (P := P) (w := w) hfl hfit hvr em m
              have hp := run_part_flat (w := w) hfl hv
              by_cases hn : f.name = "_"
              · simp only [List.forIn_cons, Sem.run_bind, hn, ne_eq, not_true_eq_false, if_false, Sem.run_pure, Result.andThen_ok]
                exact ih fun y hy => hin y (List.mem_cons_of_mem _ hy)
              · simp only [List.forIn_cons, Sem.run_bind, hn, ne_eq, not_false_eq_true, if_true, hp, hch, Sem.run_pure, Result.andThen_ok]
                exact ih fun y hy => hin y (List.mem_cons_of_mem _ hy)
          exact key 9998
      · cases hk
    · cases hk
  · cases hk

/-- Entries and entries. -/
def MR (ι : Im) (es : List (CV × CV)) (ents : List MapEntry) : Prop := VRL ι (es.map (·.1)) (ents.map (·.key)) ∧ VRL ι (es.map (·.2)) (ents.map (·.val))
theorem MR.cons {ι : Im} {k v : CV} {es : List (CV × CV)} {ents : List MapEntry} (h : MR ι ((k, v) :: es) ents) : ∃ e l, ents = e :: l ∧ VR ι k e.key ∧ VR ι v e.val ∧ MR ι es l := by
  cases ents with
  | nil => have := h.1.1; simp at this
  | cons e l =>
    obtain ⟨h1, h2⟩ := VRL.tail h.1
    obtain ⟨h3, h4⟩ := VRL.tail h.2
    exact ⟨e, l, rfl, h1, h3, h2, h4⟩
theorem MR.nil {ι : Im} {ents : List MapEntry} (h : MR ι [] ents) : ents = [] := by
  have := h.1.1
  simpa using this
theorem look_spec {kt : TypeId} {key : CV} {Fd : List MapEntry → Nat → Option (Nat × Value) → Prop} (h0 : ∀ i, Fd [] i none) (h1 : ∀ k e es i, VR ι k (MapEntry.key e) → kcmp key k = some true → Fd (e :: es) i (some (i, e.val)))
    (h2 : ∀ k e es i r, VR ι k (MapEntry.key e) → kcmp key k = some false → Fd es (i + 1) r → Fd (e :: es) i r) : ∀ (es : List (CV × CV)) (ents : List MapEntry) (i : Nat) (r : Option CV), MR ι es ents → lookM key es = some r →
    ∃ r', Fd ents i r' ∧ (r = none → r' = none) ∧ ∀ v, r = some v → ∃ j u, r' = some (j, u) ∧ VR ι v u
  | [], ents, i, r, hm, hl => by
    rw [hm.nil]
    simp only [lookM, Option.some.injEq] at hl
    subst hl
    exact ⟨none, h0 i, fun _ => rfl, fun v hv => (by cases hv)⟩
  | (k, v) :: es, ents, i, r, hm, hl => by
    obtain ⟨e, l, rfl, hk, hv, hm'⟩ := hm.cons
    simp only [lookM] at hl
    split at hl
    · rename_i hkk
      injection hl with hl; subst hl
      exact ⟨_, h1 k e l i hk hkk, fun hn => (by cases hn), fun v' hv' => by injection hv' with hv'; subst hv'; exact ⟨i, e.val, rfl, hv⟩⟩
    · rename_i hkk
      obtain ⟨r', g1, g2, g3⟩ := look_spec (kt := kt) h0 h1 h2 es l (i + 1) r hm' hl
      exact ⟨r', h2 k e l i r' hk hkk g1, g2, g3⟩
    · cases hl

theorem q_lookup (S : Sim N0 ι h w) {t : TypeId} {x i : Operand} {ok : Bool} (he : o.op = .lookup t x i ok) (hev : ∀ x ∈ o.op.operands.toList, VR ι (e x) (ρ x)) (hc : qLookup P h ok (e i) (e x) (tyk P t) = some c) : Qs P ι w ρ o c := by
  have hx := hev x (by simp [he, Op.operands])
  have hi := hev i (by simp [he, Op.operands])
  unfold qLookup at hc
  split at hc
  · rename_i kt et hty
    have hu := tyk_map hty
    split at hc
    · rename_i hk
      obtain ⟨Fd, g0, g1, g2, g3, g4⟩ := finds (w := w) hk hi
      unfold qLook at hc
      split at hc
      · rename_i z hz
        obtain ⟨iz, zv, hz1, hz2, rfl⟩ := tzero_some hz
        have hokV : ∀ {v : CV} {u : Value} {b : Bool}, VR ι v u → VR ι (okV ok v b) (if ok then .tuple #[u, .bool b] else u) := by
          intro v u b hvu
          cases ok with
          | true => exact VR.tup' (VRL.cons hvu (VRL.cons (.bo _) (VRL.nil ι)))
          | false => exact hvu
        split at hc
        · rename_i hx'
          rw [hx'] at hx
          generalize hv : ρ x = v at hx
          cases hx
          injection hc with hc; subst hc
          refine ⟨_, hokV (vr_value ι zv), ?_⟩
          have h5 := g3 [] none (g0 0)
          unfold execOp; rw [he]
          simp [Instr.lookup, run_under hu, hv, g4, h5, run_zero hz1 hz2]
        · rename_i k hx'
          rw [hx'] at hx
          generalize hv : ρ x = v at hx
          cases hx with
          | @mp _ inf hinf =>
            unfold hbLook at hc
            split at hc
            · rename_i es hb
              have hB := S.blk k inf hinf
              rw [hb] at hB
              obtain ⟨ents, clock, hg, hm⟩ := hB
              unfold qFound at hc
              have hobj : (getObj inf.b).run P w = .ok (.map ents clock) w := by simp [getObj, Sem.run, hg]
              split at hc
              · rename_i v hl
                injection hc with hc; subst hc
                obtain ⟨r', h6, _, h7⟩ := look_spec (kt := kt) g0 g1 g2 es ents.toList 0 _ hm hl
                obtain ⟨j, u, rfl, h8⟩ := h7 v rfl
                refine ⟨_, hokV h8, ?_⟩
                unfold execOp; rw [he]
                simp [Instr.lookup, run_under hu, hv, hobj, g4, g3 _ _ h6]
              · rename_i hl
                injection hc with hc; subst hc
                obtain ⟨r', h6, h7, _⟩ := look_spec (kt := kt) g0 g1 g2 es ents.toList 0 _ hm hl
                rw [h7 rfl] at h6
                refine ⟨_, hokV (vr_value ι zv), ?_⟩
                unfold execOp; rw [he]
                simp [Instr.lookup, run_under hu, hv, hobj, g4, g3 _ _ h6, run_zero hz1 hz2]
              · cases hc
            · cases hc
        · cases hc
      · cases hc
    · cases hc
  · cases hc

/-! ### Conversions -/
theorem cells_slice (S : Sim N0 ι h w) {p : CV} {v : Value} {esz : Nat} {cs : List CV} (hv : VR ι p v) (hc : cellsOf h esz p = some cs) : ∃ a n cp vs, v = .slice a n cp ∧ VRL ι cs vs ∧ vs.length = n * esz ∧ n = lenV p ∧ (∀ j u, vs[j]? = some u → ∃ ad, a = some ad ∧ w.cell? (ad.add j) = some u) ∧ (a = none → n = 0) := by
  unfold cellsOf at hc
  split at hc
  · injection hc with hc; subst hc
    cases hv
    exact ⟨none, 0, 0, [], rfl, VRL.nil ι, by simp, rfl, fun j u hu => by simp at hu, fun _ => rfl⟩
  · injection hc with hc; subst hc
    cases hv
    exact ⟨_, 0, _, [], rfl, VRL.nil ι, by simp, rfl, fun j u hu => by simp at hu, fun _ => rfl⟩
  · rename_i k off n cp
    cases hv with
    | @sl _ _ _ _ c' i hi hcc =>
      split at hc
      · rename_i h0
        have h0 := beq1 h0
        subst h0
        injection hc with hc; subst hc
        exact ⟨_, 0, _, [], rfl, VRL.nil ι, by simp, rfl, fun j u hu => by simp at hu, fun hn => by cases hn⟩
      · obtain ⟨vs, h1, h2, h3⟩ := (S.blk k i hi).sub hc
        exact ⟨_, n, _, vs, rfl, h1, h2, rfl, fun j u hu => ⟨_, rfl, h3 j u hu⟩, fun hn => by cases hn⟩
  · cases hc
theorem push_bs : ∀ (ns : List Nat) (b : ByteArray), (∀ n ∈ ns, n < 256) → bs ((ns.map Int.ofNat).foldl (fun r n => r.push (UInt8.ofNat n.toNat)) b) = bs b ++ ns
  | [], b, _ => by simp
  | n :: ns, b, h => by
    simp only [List.map_cons, List.foldl_cons]
    rw [push_bs ns _ fun m hm => h m (List.mem_cons_of_mem _ hm)]
    have hn := h n List.mem_cons_self
    have : bs (b.push (UInt8.ofNat (Int.ofNat n).toNat)) = bs b ++ [n] := by
      have h1 : (Int.ofNat n).toNat = n := rfl
      rw [h1]
      simp only [bs, ByteArray.data_push, Array.toList_push, List.map_append, List.map_cons, List.map_nil, UInt8.toNat_ofNat']
      rw [Nat.mod_eq_of_lt (by omega)]
    rw [this]; simp
theorem bytes_spec : ∀ {cs : List CV} {vs : List Value}, VRL ι cs vs → (cs.all byte?) = true → vs = (cs.map byteOf).map (fun n => Value.int .u8 (Int.ofNat n)) ∧ ∀ n ∈ cs.map byteOf, n < 256
  | [], vs, hv, _ => by
    have : vs = [] := List.eq_nil_of_length_eq_zero hv.1
    subst this; simp
  | p :: cs, vs, hv, hb => by
    cases vs with
    | nil => have := hv.1; simp at this
    | cons v vs =>
      obtain ⟨h1, h2⟩ := VRL.tail hv
      simp only [List.all_cons, Bool.and_eq_true] at hb
      obtain ⟨h3, h4⟩ := bytes_spec h2 hb.2
      have hb1 := hb.1
      unfold byte? at hb1
      split at hb1
      · rename_i a
        obtain rfl := vr_nu h1
        refine ⟨by rw [h3]; rfl, fun n hn => ?_⟩
        simp only [List.map_cons, List.mem_cons] at hn
        rcases hn with rfl | hn
        · exact blt1 hb1
        · exact h4 n hn
      · cases hb1
theorem inB_spec {i : Inf} {b : HB} {off : Nat} (hb : BR ι i w b) (h : inB off b = true) : ∃ arr el fr, w.heap[i.b]? = some (.cells arr el fr) ∧ i.base + off < arr.size := by
  cases b with
  | cells cs more te => obtain ⟨arr, e, h1, h2, h3, _⟩ := hb; exact ⟨arr, e, _, h1, by have := blt1 h; omega⟩
  | _ => cases h
theorem liesB_spec {i : Inf} {b : HB} {u off : Nat} (hb : BR ι i w b) (h : liesB P u off b = true) : ∃ arr el fr, w.heap[i.b]? = some (.cells arr el fr) ∧ liesAt P P.depth el (arr.size / P.cellsOf el) (i.base + off) u 1 = true := by
  cases b with
  | cells cs more te =>
    obtain ⟨arr, e, h1, _, _, _, _, _, _, rfl, h5⟩ := hb
    simp only [liesB, Bool.and_eq_true] at h
    obtain ⟨h6, h7⟩ := h5 (beq1 h.1)
    refine ⟨arr, _, _, h1, ?_⟩
    rw [h6, h7, Nat.zero_add]; exact h.2
  | _ => cases h
theorem q_cap {cl : Call} (he : o.op = .call cl) (hcl : cl.callee = .builtin .cap) (hev : ∀ x ∈ o.op.operands.toList, VR ι (e x) (ρ x)) (hc : qCap1 P e cl.argTypes.toList cl.args.toList = some c) : Qs P ι w ρ o c := by
  unfold qCap1 at hc
  split at hc
  · rename_i t x hts hxs
    have hargs : cl.args = #[x] := by rw [← Array.toArray_toList (xs := cl.args), hxs]
    have hats : cl.argTypes = #[t] := by rw [← Array.toArray_toList (xs := cl.argTypes), hts]
    have hx := hev x (by simp [he, Op.operands, Call.operands, hcl, hargs])
    unfold qCap at hc
    split at hc
    · rename_i el esz bytes z hty hx'
      have hu := (tyk_slice hty).1
      rw [hx'] at hx
      injection hc with hc; subst hc
      generalize hv : ρ x = v at hx
      cases hx
      refine ⟨_, .nu _ _, ?_⟩
      unfold execOp; rw [he]
      simp [resolve, hcl, hargs, hats, invoke, builtin, Builtin.cap_, hv, run_under hu, goInt]
    · cases hc
  · cases hc
theorem q_data {cl : Call} (he : o.op = .call cl) (hcl : cl.callee = .builtin .unsafeSliceData) (hev : ∀ x ∈ o.op.operands.toList, VR ι (e x) (ρ x)) (hc : qData1 e cl.args.toList = some c) : Qs P ι w ρ o c := by
  unfold qData1 at hc
  split at hc
  · rename_i x hxs
    have hargs : cl.args = #[x] := by rw [← Array.toArray_toList (xs := cl.args), hxs]
    have hx := hev x (by simp [he, Op.operands, Call.operands, hcl, hargs])
    unfold qData at hc
    split at hc
    · rename_i hx'
      rw [hx'] at hx
      injection hc with hc; subst hc
      generalize hv : ρ x = v at hx
      cases hx
      refine ⟨_, .nilp, ?_⟩
      unfold execOp; rw [he]
      have hr := Lib.run_unsafeSliceData_nil (P := P) (w := w) cl.argTypes o.type 0 0
      simp only [resolve, hcl, hargs, invoke, builtin, Sem.run_bind, Sem.run_pure, Result.andThen_ok, List.map_toArray, List.map_cons, List.map_nil, hv, hr]
    · rename_i k off n cp hx'
      rw [hx'] at hx
      split at hc
      · cases hc
      · rename_i h0
        injection hc with hc; subst hc
        generalize hv : ρ x = v at hx
        cases hx with
        | @sl _ _ _ _ c' i hi hcc =>
          have h1 : c' ≠ 0 := by
            have := beq0 h0
            rcases hcc with ⟨rfl, _⟩ | ⟨_, h, _⟩
            · exact this
            · omega
          refine ⟨_, .ptr hi, ?_⟩
          unfold execOp; rw [he]
          have hr := Lib.run_unsafeSliceData_row (P := P) (w := w) cl.argTypes o.type ⟨i.b, i.base + off, none⟩ n c' h1
          simp only [resolve, hcl, hargs, invoke, builtin, Sem.run_bind, Sem.run_pure, Result.andThen_ok, List.map_toArray, List.map_cons, List.map_nil, hv, hr]
    · cases hc
  · cases hc
theorem q_conv (S : Sim N0 ι h w) {src dst : TypeId} {x : Operand} (he : o.op = .convert src dst x) (hev : ∀ x ∈ o.op.operands.toList, VR ι (e x) (ρ x)) (hc : qConv P h (e x) (tyk P src) (tyk P dst) = some c) : Qs P ι w ρ o c := by
  have hx := hev x (by simp [he, Op.operands])
  unfold qConv at hc
  split at hc
  · rename_i k' k h1 h2
    split at hc
    · rename_i q n hx'
      rw [hx'] at hx
      have hv := vr_nu hx
      injection hc with hc; subst hc
      refine ⟨_, by rw [nuW_eq]; exact .nu _ _, ?_⟩
      unfold execOp; rw [he]
      simp [hv, convert, run_under (tyk_int h1), run_under (tyk_int h2), Conv.intToInt]
    · cases hc
  · rename_i h1 h2
    split at hc
    · rename_i s hx'
      rw [hx'] at hx
      obtain ⟨a, hv, rfl⟩ := vr_st' hx
      injection hc with hc; subst hc
      refine ⟨_, vr_bs ι a, ?_⟩
      unfold execOp; rw [he]
      simp [hv, convert, run_under (tyk_str h1), run_under (tyk_str h2)]
    · cases hc
  · rename_i el esz bytes z h1 h2
    unfold qText at hc
    split at hc
    · rename_i cs hcs
      split at hc
      · rename_i hel
        split at hc
        · rename_i hb
          simp only [Bool.and_eq_true] at hb
          have hesz := beq1 hb.2
          injection hc with hc; subst hc
          obtain ⟨a, n, cp, vs, hv, h3, h4, _, h5, h6⟩ := cells_slice S hx hcs
          obtain ⟨h7, h8⟩ := bytes_spec h3 hb.1
          have hu := (tyk_slice h1).1
          refine ⟨.string (((cs.map byteOf).map Int.ofNat).foldl (fun r n => r.push (UInt8.ofNat n.toNat)) ByteArray.empty), .st ?_, ?_⟩
          · have := push_bs (cs.map byteOf) ByteArray.empty h8
            rw [show bs ByteArray.empty = [] from rfl, List.nil_append] at this
            exact this
          · have hr : (Conv.bytesToString (.slice a n cp)).run P w = .ok (.string (((cs.map byteOf).map Int.ofNat).foldl (fun r n => r.push (UInt8.ofNat n.toNat)) ByteArray.empty)) w := by
              cases a with
              | none =>
                have hn := h6 rfl
                subst hn
                have hvs : vs = [] := List.eq_nil_of_length_eq_zero (by simpa using h4)
                subst hvs
                have hcs0 : cs = [] := List.eq_nil_of_length_eq_zero (by have := h3.1; simpa using this.symm)
                subst hcs0
                simp [Conv.bytesToString]
              | some ad =>
                refine run_bytesToString w ad n cp _ ?_
                rw [hesz, Nat.mul_one] at h4
                have h9 := run_cells (P := P) (w := w) (ad := ad) (vs := vs) fun j u hu' => by obtain ⟨ad', e1, e2⟩ := h5 j u hu'; injection e1 with e1; subst e1; exact e2
                rw [h4] at h9
                rw [h9, h7]; simp
            unfold execOp; rw [he]
            simp only [hv, Sem.run_bind, run_convert_bytes_string w src dst el a n cp hu (tyk_int hel) (tyk_str h2), hr, Result.andThen_ok, Sem.run_pure]
        · cases hc
      · cases hc
    · cases hc
  · rename_i u h1 h2
    unfold qToU at hc
    split at hc
    · rename_i hx'
      rw [hx'] at hx
      injection hc with hc; subst hc
      generalize hv : ρ x = v at hx
      cases hx
      refine ⟨_, .nilp, ?_⟩
      unfold execOp; rw [he]
      simp [hv, convert, run_under (tyk_ptr h1), run_under (tyk_uptr h2), Conv.unsafePointer]
    · rename_i k off hx'
      rw [hx'] at hx
      obtain ⟨i, hi, hv⟩ := vr_ptr hx
      split at hc
      · rename_i n g hsz
        obtain ⟨j, d, hj, hjs, _⟩ := tsz_some hsz
        split at hc
        · rename_i hcond
          simp only [Bool.and_eq_true, Bool.not_eq_true'] at hcond
          injection hc with hc; subst hc
          obtain ⟨arr, el, fr, hg, hlt⟩ := inB_spec (S.blk k i hi) hcond.2
          refine ⟨_, .ptr hi, ?_⟩
          have hr := Lib.run_to_unsafe (P := P) (w := w) (cells := arr.size) (e := el) ⟨i.b, i.base + off, none⟩ (tyk_ptr h1) (tyk_uptr h2) hj (by rw [hjs]; exact beq0 hcond.1) (by simp [World.shape?, hg]) hlt
          unfold execOp; rw [he]
          simp only [hv, Sem.run_bind, hr, Result.andThen_ok, Sem.run_pure]
        · cases hc
      · cases hc
    · cases hc
  · rename_i u h1 h2
    unfold qFromU at hc
    split at hc
    · rename_i hx'
      rw [hx'] at hx
      injection hc with hc; subst hc
      generalize hv : ρ x = v at hx
      cases hx
      refine ⟨_, .nilp, ?_⟩
      unfold execOp; rw [he]
      simp [hv, convert, run_under (tyk_uptr h1), run_under (tyk_ptr h2), Conv.unsafePointer]
    · rename_i k off hx'
      rw [hx'] at hx
      obtain ⟨i, hi, hv⟩ := vr_ptr hx
      split at hc
      · rename_i sz hsz
        obtain ⟨j, d, hj, hjs, _⟩ := tsz_some (n := sz.1) (a := sz.2) hsz
        split at hc
        · rename_i hcond
          injection hc with hc; subst hc
          obtain ⟨arr, el, fr, hg, hlies⟩ := liesB_spec (S.blk k i hi) hcond
          refine ⟨_, .ptr hi, ?_⟩
          have hr := Lib.run_from_unsafe (P := P) (w := w) (cells := arr.size) (e := el) ⟨i.b, i.base + off, none⟩ (tyk_uptr h1) (tyk_ptr h2) hj (by simp [World.shape?, hg]) hlies
          unfold execOp; rw [he]
          simp only [hv, Sem.run_bind, hr, Result.andThen_ok, Sem.run_pure]
        · cases hc
      · cases hc
    · cases hc
  · cases hc

/-- An operation that changes nothing. -/
theorem qX_sound (S : Sim N0 ι h w) (hev : ∀ x ∈ o.op.operands.toList, VR ι (e x) (ρ x)) (hc : qX P o e h = some c) : Qs P ι w ρ o c := by
  unfold qX at hc
  split at hc
  · rename_i x he
    injection hc with hc; subst hc
    exact ⟨_, hev x (by simp [he, Op.operands]), by unfold execOp; rw [he]; simp⟩
  · rename_i x he
    injection hc with hc; subst hc
    exact ⟨_, hev x (by simp [he, Op.operands]), by unfold execOp; rw [he]; simp⟩
  · rename_i he; exact q_pick he hev hc
  · rename_i he; exact q_build he hev hc
  · rename_i he; exact q_load S he hev hc
  · rename_i he; exact q_nil he hev hc
  · rename_i he; exact q_binOp he hev hc
  · rename_i he; exact q_unOp he hev hc
  · rename_i he; exact q_fieldAddr he hev hc
  · rename_i he; exact q_field he hev hc
  · rename_i he; exact q_indexAddr he hev hc
  · rename_i he; exact q_index he hev hc
  · rename_i he; exact q_slice S he hev hc
  · rename_i he; exact q_extract he hev hc
  · rename_i he; exact q_conv S he hev hc
  · rename_i he; exact q_fn he hev hc
  · rename_i he; exact q_lookup S he hev hc
  · rename_i cl he
    unfold qCall at hc
    split at hc
    · rename_i b hb
      unfold qBuiltin at hc
      split at hc
      · exact q_len S he hb hev hc
      · exact q_max he hb hev hc
      · exact q_min he hb hev hc
      · exact q_data he hb hev hc
      · exact q_cap he hb hev hc
      · cases hc
    · cases hc
  · cases hc
end
end Go.CO
