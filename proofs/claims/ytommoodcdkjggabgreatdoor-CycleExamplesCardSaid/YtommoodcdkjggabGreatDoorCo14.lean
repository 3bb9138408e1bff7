/- The reckoner with memory: regions whose order is drawn are sound. -/
import Derived.Test.YtommoodcdkjggabGreatDoorCo13
set_option linter.unusedVariables false
set_option linter.unusedSectionVars false
set_option linter.unusedSimpArgs false
namespace Go.CO
variable [LG] [HK]

section
variable {Γ : Bs} {s s' : Fr} {h h' : Hp} {a : Act} {w : World} {ops : Array Oper} {L A : Array Bool} {pd pa : List Pd} {spd : List (Nat × Array Bool)} {Rf : Nat → Nat → Bool} {Q : Exit → Act → World → Prop}

theorem lays_filter {q : Pd} {k : Nat} (hk : k ∈ lays (pa.filter fun p => p.i != q.i)) : k ∈ lays pa := by
  obtain ⟨p, hp, b, hb⟩ := lays_mem.1 hk
  exact lays_mem.2 ⟨p, (List.mem_filter.1 hp).1, b, hb⟩
theorem operOk_of (hops : ∀ o ∈ ops.toList, operOk Γ.n o) {i : Nat} {o : Oper} (h : ops[i]? = some o) : operOk Γ.n o := hops o (Array.mem_toList_iff.2 (Array.mem_of_getElem? h))

theorem qX_nd {P : Program} {o : Oper} {e : Operand → CV} {h : Hp} {c : CV} (hc : qX P o e h = some c) : ∀ cl, o.op ≠ .defer cl := by
  intro cl he
  simp [qX, he] at hc
theorem layX_nd {P : Program} {o : Oper} {e : Operand → CV} {c : Lay} (hc : layX P o e = some c) : ∀ cl, o.op ≠ .defer cl := by
  intro cl he
  simp [layX, he] at hc
/-- A pending operation is carried out. -/
theorem pend_exec (hops : ∀ o ∈ ops.toList, operOk Γ.n o) (I : Inv Γ.P ops L A pd pa spd Rf s h) (hln : ∀ p ∈ pd, ∀ k b, p.lay = some (k, b) → Γ.n0 ≤ k) (Rr : R Γ (lays pa) (mask pa s) h a w) {q : Pd} (hq : q ∈ pa) (hr : q.i ∈ Region.ready .any ops A) :
    wpOpIn Γ.F 0 Γ.P ops Q q.i (fun a' w' => R Γ (lays (pa.filter fun p => p.i != q.i)) (mask (pa.filter fun p => p.i != q.i) s) h a' w') a w := by
  have hpi := I.pi q (I.sub q hq)
  have hag := I.agree hq hr
  have hok := operOk_of hops hpi.op
  have fin : ∀ {a' w'}, R Γ (lays (pa.filter fun p => p.i != q.i)) (Fr.putO (mask pa s) q.o.dst q.c) h a' w' → R Γ (lays (pa.filter fun p => p.i != q.i)) (mask (pa.filter fun p => p.i != q.i) s) h a' w' := fun hR => hR.weak (fun t => .inr (I.after hq hr t)) fun _ hk => hk
  unfold wpOpIn
  rw [hpi.op]
  dsimp only
  cases hsk : q.skip with
  | true =>
    obtain ⟨h1, h2⟩ := hpi.skip hsk
    rw [want_sound Rr hops (hag.want.trans h1)]
    simp only [Bool.false_eq_true, if_false]
    refine ⟨fun _ _ => trivial, fin ?_⟩
    rw [h2]
    exact (Rr.skp hok.1).weak (fun t => .inr rfl) fun k hk => lays_filter hk
  | false =>
    rw [want_sound Rr hops (hag.want.trans (hpi.go hsk))]
    simp only [if_true]
    cases hly : q.lay with
    | none =>
      have h1 := hpi.quiet hsk hly
      rw [← qX_congr hag.ev] at h1
      obtain ⟨ι, Rl⟩ := Rr
      obtain ⟨v, h2, h3⟩ := qX_sound Rl.sim (fun x hx => Rl.ev (hok.2 x hx)) h1
      unfold Oper.wpIn
      refine ⟨fun _ _ => trivial, ?_⟩
      rw [Oper.semAt_eq _ _ _ (qX_nd h1), h3]
      have h4 : R Γ (lays pa) (Fr.putO (mask pa s) q.o.dst q.c) h (a.put q.o.dst v) w := ⟨ι, Rl.next (Im.le_refl ι) (fun _ _ hk => hk) Rl.sim (Ext.refl _ _) (Nat.le_refl _) hok.1 h2⟩
      exact fin (h4.weak (fun t => .inr rfl) fun k hk => lays_filter hk)
    | some kb =>
      obtain ⟨k, b⟩ := kb
      obtain ⟨hkn, hkb, f, hf, hc⟩ := hpi.lay k b hsk hly
      rw [← layX_congr hag.ev] at hf
      obtain ⟨ι, Rl⟩ := Rr
      have hkav := Rl.av k (lays_mem.2 ⟨q, hq, b, hly⟩)
      obtain ⟨v, w', i, obj, h1, h2, h3, h4, h5, h6, h7, h8, h9, h10⟩ := layX_sound (P := Γ.P) (ι := ι) (w := w) (ρ := a.eval) (fun x hx => Rl.ev (hok.2 x hx)) hf
      have hle : ι.le (ι.set k i) := Im.le_set hkav.1
      have hS := Rl.sim.laid Rl.wsize hkn hkav.1 h5 h6 h8 (by rw [hkb]; exact h9 _ _ hle h7)
      have hv : VR (ι.set k i) q.c v := by rw [hc]; exact h10 _ _ (by unfold Im.set; rw [if_pos rfl])
      have hkn0 := hln q (I.sub q hq) k b hly
      have hset : ∀ k', k' ≠ k → ι k' = none → (ι.set k i) k' = none := fun k' hne hk' => by unfold Im.set; rw [if_neg hne]; exact hk'
      unfold Oper.wpIn
      refine ⟨fun _ _ => trivial, ?_⟩
      rw [Oper.semAt_eq _ _ _ (layX_nd hf), h1]
      refine fin ⟨ι.set k i, ?_, by rw [put_tmps_size]; exact Rl.tn, Rl.le.trans hle, fun k' g1 g2 => hset k' (by omega) (Rl.dom k' g1 g2), fun k' hk' => ?_, hS, fun t ht => ?_, ⟨h2.trans Rl.ext.os, h3.trans Rl.ext.tape, h4.trans Rl.ext.output, by have := Rl.ext.size; omega, fun b hb => (h6 b (by have := Rl.wsize; omega)).trans (Rl.ext.block b hb)⟩, Rl.hn, Rl.h0⟩
      · cases q.o.dst <;> simp [Act.put] <;> exact Rl.df.mono hle
      · have := Rl.av k' (lays_filter hk')
        refine ⟨hset k' (fun e => ?_) this.1, this.2⟩
        subst e
        obtain ⟨p, hp, b', hb'⟩ := lays_mem.1 hk'
        have hp' := List.mem_filter.1 hp
        have := I.lu p (I.sub p hp'.1) q (I.sub q hq) k' b' b hb' hly
        simp [this] at hp'
      · cases hd : q.o.dst with
        | none => simp only [Fr.putO, Act.put]; exact (Rl.tv t ht).mono hle
        | some d =>
          rw [put_tmps_getD a d t v (by rw [Rl.tn]; exact hok.1 d hd)]
          simp only [Fr.putO, Fr.at_set]
          by_cases e : t = d
          · rw [if_pos e, if_pos e]; exact hv
          · rw [if_neg e, if_neg e]; exact (Rl.tv t ht).mono hle

theorem pdOk_spec {P : Program} {p : Pd} (hp : PI P ops s h p) (hag : Agree ops p.o s' s) (hdst : ∀ d, p.o.dst = some d → s'.at d = s.at d) (hn : h.n ≤ h'.n) (hk : pdOk P s' h' p = true) : PI P ops s' h' p := by
  refine ⟨hp.op, fun d hd => (hdst d hd).trans (hp.dst d hd), fun hs => ⟨hag.want.trans (hp.skip hs).1, (hp.skip hs).2⟩, fun hs => hag.want.trans (hp.go hs), fun hs hl => ?_, fun k b hs hl => ?_, hp.nolay⟩
  · unfold pdOk at hk
    rw [hs, hl] at hk
    dsimp only at hk
    split at hk
    · rename_i hlk
      rw [qX_congr hag.ev, ← qX_heap (h := h) hlk]
      exact hp.quiet hs hl
    · split at hk
      · rename_i c hq
        rw [hq, ceq_spec hk]
      · cases hk
  · obtain ⟨h1, h2, f, h3, h4⟩ := hp.lay k b hs hl
    unfold pdOk at hk
    rw [hs, hl] at hk
    dsimp only at hk
    exact ⟨by omega, heq_spec hk, f, by rw [layX_congr hag.ev]; exact h3, h4⟩
theorem reachOk_spec {i : Nat} {R : Array Bool} (hr : reachOk ops i L R = true) : (∀ j, L.getD j false = true → R.getD j false = true) ∧ ∀ j oj, ops[j]? = some oj → j ≠ i → (∀ e ∈ oj.after, Region.binds .any e = true → R.getD e.on false = true) → R.getD j false = true := by
  simp only [reachOk, Bool.and_eq_true, List.all_eq_true, List.mem_range] at hr
  obtain ⟨h1, h2⟩ := hr
  refine ⟨fun j hj => ?_, fun j oj hoj hne hall => ?_⟩
  · have hlt : j < L.size := by
      rcases Nat.lt_or_ge j L.size with h | h
      · exact h
      · simp [Array.getElem?_eq_none h] at hj
    have h3 := h1 j hlt
    rw [hj] at h3
    simpa using h3
  · have h3 := h2 j (Array.getElem?_eq_some_iff.1 hoj).1
    simp only [hoj, Bool.or_eq_true, beq_iff_eq, hne, false_or, Bool.not_eq_true'] at h3
    rcases h3 with h3 | h3
    · have : (oj.after.all fun e => !Region.binds .any e || R.getD e.on false) = true := by
        rw [Array.all_eq_true_iff_forall_mem]
        intro e he
        cases hb : Region.binds .any e with
        | false => rfl
        | true => simp only [Bool.not_true, Bool.false_or]; exact hall e he hb
      rw [this] at h3; cases h3
    · exact h3

variable {prim : PrimX} {call : CallX} {s1 : Fr} {h1 : Hp}
theorem opC_n (hcall : ∀ f args h r h', call f args h = some (r, h') → CCall Γ.P f args h r h') {av : List Nat} {o : Oper} {c : CV} (Rr : R Γ av s h a w) (ho : operOk Γ.n o) (hc : opC Γ.P prim call o (ev s) h = some (c, h')) : h.n ≤ h'.n := by
  obtain ⟨ι, Rl⟩ := Rr
  have hX : ∀ {c h'}, opX Γ.P o (ev s) h = some (c, h') → h.n ≤ h'.n := fun hc => by
    obtain ⟨ι', w', _, _, _, _, _, h6⟩ := opX_sound (ρ := a.eval) Rl.sim Rl.wsize (fun x hx => Rl.ev (ho.2 x hx)) hc
    exact h6
  unfold opC at hc
  split at hc
  · split at hc
    · split at hc
      · split at hc
        · injection hc with hc
          simp only [Prod.mk.injEq] at hc
          rw [← hc.2]; exact Nat.le_refl _
        · exact (show FCall Γ.P _ _ _ _ _ from hcall (.fn _) _ _ _ _ hc).2.1
      · exact (show YCall Γ.P _ _ _ _ _ from hcall (.yl _) _ _ _ _ hc).1
      · cases hc
    · exact hX hc
  · exact hX hc
/-- Everything that is pending is carried out, where nothing else can be. -/
theorem pend_all (hops : ∀ o ∈ ops.toList, operOk Γ.n o) (hQ : ∀ a w, R Γ [] s h a w → Q .normal a w) (hL : Region.ready .any ops L = []) (hln : ∀ p ∈ pd, ∀ k b, p.lay = some (k, b) → Γ.n0 ≤ k) : ∀ (fuel : Nat) (pa : List Pd) (A : Array Bool) (a : Act) (w : World),
    Inv Γ.P ops L A pd pa spd Rf s h → Ord A pa → R Γ (lays pa) (mask pa s) h a w → left ops A ≤ fuel → wpAnyIn Γ.F 0 Γ.P .any ops Q fuel A a w := by
  intro fuel
  induction fuel with
  | zero =>
    intro pa A a w I ho Rr hl
    have hno : Region.ready .any ops A = [] := by
      cases hre : Region.ready .any ops A with
      | nil => rfl
      | cons j r =>
        have hj : j ∈ Region.ready .any ops A := by rw [hre]; exact List.mem_cons_self
        obtain ⟨h1, oj, h2, _⟩ := mem_ready.1 hj
        have := left_lt (Array.getElem?_eq_some_iff.1 h2).1 h1 I.szA
        omega
    have hpa : pa = [] := by
      cases pa with
      | nil => rfl
      | cons p pa => exact absurd hno (Ord.ready (by simp) ho fun x hx => ⟨I.pA x hx, (I.pi x (I.sub x hx)).op⟩)
    subst hpa
    exact ⟨hno, hQ a w Rr⟩
  | succ fuel ih =>
    intro pa A a w I ho Rr hl
    refine ⟨fun hno => ?_, fun j hj => ?_⟩
    · have hpa : pa = [] := by
        cases pa with
        | nil => rfl
        | cons p pa => exact absurd hno (Ord.ready (by simp) ho fun x hx => ⟨I.pA x hx, (I.pi x (I.sub x hx)).op⟩)
      subst hpa
      exact hQ a w Rr
    · obtain ⟨g1, oj, g2, g3⟩ := mem_ready.1 hj
      have hjp : ∃ q ∈ pa, q.i = j := by
        by_cases hLj : L.getD j true = false
        · have : j ∈ Region.ready .any ops L := mem_ready.2 ⟨hLj, oj, g2, fun e he hb => I.AL _ (g3 e he hb)⟩
          rw [hL] at this; cases this
        · have hLj' : L.getD j false = true := by
            have hlt : j < L.size := by rw [I.szL]; exact (Array.getElem?_eq_some_iff.1 g2).1
            simp only [Array.getD_eq_getD_getElem?, Array.getElem?_eq_getElem hlt, Option.getD_some] at *
            simpa using hLj
          rcases I.LA j hLj' with h | h
          · have := getD_tf g1; rw [this] at h; cases h
          · exact h
      obtain ⟨q, hq, rfl⟩ := hjp
      refine wpOpIn_mono (fun a' w' hR => ?_) (pend_exec (Q := Q) hops I hln Rr hq hj)
      exact ih _ _ a' w' (I.step hq hj) (ho.filter (by rw [I.szA]; exact (Array.getElem?_eq_some_iff.1 g2).1)) hR (by have := left_lt (Array.getElem?_eq_some_iff.1 g2).1 g1 I.szA; omega)

theorem plan_sound (hprim : ∀ f args r, prim f args = some r → PrimW Γ.P f args r) (hcall : ∀ f args h r h', call f args h = some (r, h') → CCall Γ.P f args h r h') (hops : ∀ o ∈ ops.toList, operOk Γ.n o) (hQ : ∀ a w, R Γ [] s1 h1 a w → Q .normal a w) : ∀ (l : List Stp) (spd : List (Nat × Array Bool)) (L : Array Bool) (pd : List Pd) (s : Fr) (h : Hp),
    planOk ops l spd L = true → planX Γ.P prim call ops l pd s h = some (s1, h1) → ∀ (pa : List Pd) (A : Array Bool) (fuel : Nat) (Rf : Nat → Nat → Bool) (a : Act) (w : World), Inv Γ.P ops L A pd pa spd Rf s h → Ord A pa → (∀ p ∈ pd, ∀ k b, p.lay = some (k, b) → Γ.n0 ≤ k) →
    R Γ (lays pa) (mask pa s) h a w → left ops A ≤ fuel → wpAnyIn Γ.F 0 Γ.P .any ops Q fuel A a w := by
  intro l
  induction l with
  | nil =>
    intro spd L pd s h hok hx pa A fuel Rf a w I ho hln Rr hl
    simp only [planX, Option.some.injEq, Prod.mk.injEq] at hx
    obtain ⟨rfl, rfl⟩ := hx
    simp only [planOk, List.isEmpty_iff] at hok
    exact pend_all hops hQ hok hln fuel pa A a w I ho Rr hl
  | cons st l ih =>
    intro spd L pd s h hok hx pa A fuel Rf a w I ho hln Rr hl
    cases st with
    | take i =>
      simp only [planOk, Bool.and_eq_true] at hok
      obtain ⟨⟨hrd, hst⟩, hok⟩ := hok
      have hrd : i ∈ Region.ready .any ops L := by simpa using hrd
      obtain ⟨g1, o, g2, g3⟩ := mem_ready.1 hrd
      rw [g2] at hst
      simp only [Bool.and_eq_true] at hst
      obtain ⟨⟨hself, hreach⟩, hpds⟩ := hst
      obtain ⟨hr1, hr2⟩ := reachOk_spec hreach
      have hself := selfOk_spec hself
      have hilt : i < ops.size := (Array.getElem?_eq_some_iff.1 g2).1
      have hLf : L.getD i false = false := getD_tf g1
      have hni : ∀ p ∈ pd, p.i ≠ i := fun p hp e => by have := I.pL p hp; rw [e, hLf] at this; cases this
      have hpair : ∀ p ∈ pd, (∀ d, o.dst = some d → d ∉ p.o.looksAt ops ∧ p.o.dst ≠ some d) ∧ (Rf p.i i = true → ∀ d, p.o.dst = some d → d ∉ o.looksAt ops ∧ o.dst ≠ some d) := by
        intro p hp
        have hpm : p.i ∈ spd.map (·.1) := by rw [← I.hs]; exact List.mem_map_of_mem hp
        obtain ⟨x, hx1, hx2⟩ := List.mem_map.1 hpm
        have h1 := List.all_eq_true.1 hpds x hx1
        rw [hx2, (I.pi p hp).op] at h1
        simp only [Bool.and_eq_true, Bool.or_eq_true, Bool.not_eq_true'] at h1
        refine ⟨half_spec h1.1, fun hrf => ?_⟩
        rcases h1.2 with h2 | h2
        · have := I.hR x hx1 i
          rw [hx2, hrf, h2] at this; cases this
        · exact half_spec h2
      simp only [planX, g2] at hx
      have hset : ∀ y, (L.setIfInBounds i true).getD y false = true → y = i ∨ L.getD y false = true := fun y hy => by
        by_cases e : i = y
        · exact .inl e.symm
        · rw [getD_set_ne false e] at hy; exact .inr hy
      have hAi : A.getD i true = false := by
        have hAsz : i < A.size := by rw [I.szA]; exact hilt
        cases hAb : A.getD i false with
        | true => have := I.AL i hAb; rw [hLf] at this; cases this
        | false =>
          simp only [Array.getD_eq_getD_getElem?, Array.getElem?_eq_getElem hAsz, Option.getD_some] at *
          exact hAb
      -- the step, whatever was found
      have go : ∀ (p : Pd) (h' : Hp), p.i = i → p.o = o → PI Γ.P ops (Fr.putO s o.dst p.c) h' p → (∀ q ∈ pd, PI Γ.P ops (Fr.putO s o.dst p.c) h' q) → (∀ k b, p.lay = some (k, b) → Γ.n0 ≤ k ∧ ∀ q ∈ pd, ∀ b', q.lay ≠ some (k, b')) →
          R Γ (lays (p :: pa)) (mask (p :: pa) (Fr.putO s o.dst p.c)) h' a w → planX Γ.P prim call ops l (p :: pd) (Fr.putO s o.dst p.c) h' = some (s1, h1) → wpAnyIn Γ.F 0 Γ.P .any ops Q fuel A a w := by
        intro p h' hpi hpo hP1 hP2 hP3 hR hx'
        subst hpi
        subst hpo
        refine ih _ _ _ _ _ hok hx' (p :: pa) A fuel (fun j y => if j = p.i then (reach ops p.i L).getD y false else Rf j y) a w ⟨?_, ?_, ?_, ?_, ?_, ?_, ?_, ?_, ?_, ?_, ?_, ?_, ?_, ?_, I.szA, by simp [I.szL]⟩ ⟨?_, ho⟩ ?_ hR hl
        · simp [I.hs]
        · intro x hm y
          rcases List.mem_cons.1 hm with hm1 | hm1
          · subst hm1; simp
          · have hne : x.1 ≠ p.i := fun e => by
              have : x.1 ∈ pd.map (·.i) := by rw [I.hs]; exact List.mem_map_of_mem hm1
              obtain ⟨q, hq1, hq2⟩ := List.mem_map.1 this
              exact hni q hq1 (hq2.trans e)
            simp only [if_neg hne]; exact I.hR x hm1 y
        · intro q hm
          rcases List.mem_cons.1 hm with hm1 | hm1
          · rw [hm1]; exact hP1
          · exact hP2 q hm1
        · intro q hm j oj hoj hne hall
          rcases List.mem_cons.1 hm with hm1 | hm1
          · rw [hm1] at hall hne ⊢; simp only [if_true] at hall ⊢; exact hr2 j oj hoj hne hall
          · simp only [if_neg (hni q hm1)] at hall ⊢; exact I.cl q hm1 j oj hoj hne hall
        · intro q hm q' hm' hne hrf d hd
          rcases List.mem_cons.1 hm with hm1 | hm1
          · rcases List.mem_cons.1 hm' with hm1' | hm1'
            · rw [hm1, hm1'] at hne; exact absurd rfl hne
            · rw [hm1] at hd; exact (hpair q' hm1').1 d hd
          · rcases List.mem_cons.1 hm' with hm1' | hm1'
            · simp only [if_neg (hni q hm1)] at hrf
              rw [hm1'] at hrf ⊢
              exact (hpair q hm1).2 hrf d hd
            · simp only [if_neg (hni q hm1)] at hrf
              exact I.pp q hm1 q' hm1' hne hrf d hd
        · intro q hm d hd
          rcases List.mem_cons.1 hm with hm1 | hm1
          · rw [hm1] at hd ⊢; exact hself d hd
          · exact I.self q hm1 d hd
        · intro q hm q' hm' e
          rcases List.mem_cons.1 hm with hm1 | hm1 <;> rcases List.mem_cons.1 hm' with hm1' | hm1'
          · rw [hm1, hm1']
          · rw [hm1] at e; exact absurd e.symm (hni q' hm1')
          · rw [hm1'] at e; exact absurd e (hni q hm1)
          · exact I.un q hm1 q' hm1' e
        · intro q hm q' hm' k b b' hk hk'
          rcases List.mem_cons.1 hm with hm1 | hm1 <;> rcases List.mem_cons.1 hm' with hm1' | hm1'
          · rw [hm1, hm1']
          · rw [hm1] at hk; exact absurd hk' ((hP3 k b hk).2 q' hm1' b')
          · rw [hm1'] at hk'; exact absurd hk ((hP3 k b' hk').2 q hm1 b)
          · exact I.lu q hm1 q' hm1' k b b' hk hk'
        · intro q hm
          rcases List.mem_cons.1 hm with hm1 | hm1
          · rw [hm1]; simp [I.szL, hilt]
          · exact getD_set_true (I.pL q hm1)
        · intro q hm
          rcases List.mem_cons.1 hm with hm1 | hm1
          · rw [hm1]; exact List.mem_cons_self
          · exact List.mem_cons_of_mem _ (I.sub q hm1)
        · intro q hm x hy
          rcases List.mem_cons.1 hm with hm1 | hm1
          · rw [hm1]; simp only [if_true]; exact hr1 x (I.AL x hy)
          · simp only [if_neg (hni q (I.sub q hm1))]; exact I.aR q hm1 x hy
        · intro q hm
          rcases List.mem_cons.1 hm with hm1 | hm1
          · rw [hm1]; exact hAi
          · exact I.pA q hm1
        · intro x hy
          exact getD_set_true (I.AL x hy)
        · intro x hy
          rcases hset x hy with hy | hy
          · exact .inr ⟨p, List.mem_cons_self, hy.symm⟩
          · exact (I.LA x hy).imp id fun ⟨q, hq, e⟩ => ⟨q, List.mem_cons_of_mem _ hq, e⟩
        · intro e he hb
          exact I.LA _ (g3 e he hb)
        · intro q hm k b hk
          rcases List.mem_cons.1 hm with hm1 | hm1
          · rw [hm1] at hk; exact (hP3 k b hk).1
          · exact hln q hm1 k b hk
      have hagp : ∀ q ∈ pd, ∀ c, Agree ops q.o (Fr.putO s o.dst c) s := fun q hq c => agree_put fun t ht => ((hpair q hq).1 t ht).1
      have hdp : ∀ q ∈ pd, ∀ c d, q.o.dst = some d → (Fr.putO s o.dst c).at d = s.at d := fun q hq c d hd => by
        rw [putO_at, if_neg fun e => ((hpair q hq).1 d e).2 hd]
      have hago : ∀ c, Agree ops o (Fr.putO s o.dst c) s := fun c => agree_put fun t ht => hself t ht
      have hmask : ∀ (p : Pd), p.o = o → ∀ t, (mask (p :: pa) (Fr.putO s o.dst p.c)).at t = .undef ∨ (mask (p :: pa) (Fr.putO s o.dst p.c)).at t = (mask pa s).at t := by
        intro p hpo t
        by_cases hd : o.dst = some t
        · exact .inl (mask_in _ _ t ⟨p, List.mem_cons_self, by rw [hpo]; exact hd⟩)
        · by_cases hex : ∃ q ∈ pa, q.o.dst = some t
          · obtain ⟨q, hq, hqd⟩ := hex
            exact .inl (mask_in _ _ t ⟨q, List.mem_cons_of_mem _ hq, hqd⟩)
          · right
            rw [mask_out pa s t fun q hq hqd => hex ⟨q, hq, hqd⟩, mask_out (p :: pa) _ t fun q hq hqd => ?_]
            · rw [putO_at, if_neg hd]
            · rcases List.mem_cons.1 hq with rfl | hq
              · rw [hpo] at hqd; exact hd hqd
              · exact hex ⟨q, hq, hqd⟩
      have keep : ∀ q ∈ pd, ∀ c, PI Γ.P ops (Fr.putO s o.dst c) h q := fun q hq c => by
        have hp := I.pi q hq
        have hag := hagp q hq c
        exact ⟨hp.op, fun d hd => (hdp q hq c d hd).trans (hp.dst d hd), fun hs => ⟨hag.want.trans (hp.skip hs).1, (hp.skip hs).2⟩, fun hs => hag.want.trans (hp.go hs), fun hs hl => (by rw [qX_congr hag.ev]; exact hp.quiet hs hl),
          fun k b hs hl => (by obtain ⟨e1, e2, f, e3, e4⟩ := hp.lay k b hs hl; exact ⟨e1, e2, f, by rw [layX_congr hag.ev]; exact e3, e4⟩), hp.nolay⟩
      split at hx
      · cases hx
      · rename_i hw
        refine go ⟨i, o, true, .skp, none⟩ h rfl rfl ⟨g2, fun d hd => by rw [putO_at, if_pos hd], fun _ => ⟨(hago _).want.trans hw, rfl⟩, fun hs => (by cases hs), fun hs => (by cases hs), fun k b hs => (by cases hs), fun _ => rfl⟩ (fun q hq => keep q hq _) (fun k b hk => (by cases hk)) (Rr.weak (hmask ⟨i, o, true, .skp, none⟩ rfl) fun k hk => ?_) hx
        exact hk
      · rename_i hw
        split at hx
        · rename_i f b hly
          split at hx
          · rename_i hall
            obtain ⟨ι, Rl⟩ := Rr
            refine go ⟨i, o, false, f h.n, some (h.n, b)⟩ (h.push b) rfl rfl ⟨g2, fun d hd => by rw [putO_at, if_pos hd], fun hs => (by cases hs), fun _ => (hago _).want.trans hw, fun _ hl => (by cases hl), fun k b' _ hl => ?_, fun hs => (by cases hs)⟩ (fun q hq => ?_) (fun k b' hk => ?_) ?_ hx
            · injection hl with hl
              injection hl with e1 e2
              subst e1; subst e2
              exact ⟨by simp, by rw [Hp.get_push, if_pos rfl], f, by rw [layX_congr (hago _).ev]; exact hly, rfl⟩
            · have h3 := keep q hq (f h.n)
              have h4 := pdOk_spec (s' := s) (h' := h.push b) (I.pi q hq) (fun t _ => rfl) (fun d _ => rfl) (by simp) (List.all_eq_true.1 hall q hq)
              have hag := hagp q hq (f h.n)
              exact ⟨h3.op, h3.dst, h3.skip, h3.go, fun hs hl => (by rw [qX_congr hag.ev]; exact h4.quiet hs hl), fun k b' hs hl => (by obtain ⟨e1, e2, f', e3, e4⟩ := h4.lay k b' hs hl; exact ⟨e1, e2, f', by rw [layX_congr hag.ev]; exact e3, e4⟩), h3.nolay⟩
            · injection hk with hk
              injection hk with e1 e2
              subst e1
              refine ⟨Rl.hn, fun q hq b2 hq2 => ?_⟩
              have hq3 := I.pi q hq
              cases hsk : q.skip with
              | true => rw [hq3.nolay hsk] at hq2; cases hq2
              | false => have := (hq3.lay _ _ hsk hq2).1; omega
            · have hR2 : R Γ (h.n :: lays pa) (mask pa s) (h.push b) a w := by
                refine ⟨ι, Rl.df, Rl.tn, Rl.le, Rl.dom, fun k hk => ?_, Rl.sim.push b, Rl.tv, Rl.ext, by rw [Hp.n_push]; have := Rl.hn; omega, Rl.h0⟩
                rcases List.mem_cons.1 hk with rfl | hk
                · exact ⟨Rl.sim.none, by simp⟩
                · exact ⟨(Rl.av k hk).1, by rw [Hp.n_push]; have := (Rl.av k hk).2; omega⟩
              exact hR2.weak (hmask ⟨i, o, false, f h.n, some (h.n, b)⟩ rfl) fun k hk => hk
          · cases hx
        · split at hx
          · rename_i c hq
            refine go ⟨i, o, false, c, none⟩ h rfl rfl ⟨g2, fun d hd => by rw [putO_at, if_pos hd], fun hs => (by cases hs), fun _ => (hago _).want.trans hw, fun _ _ => (by rw [qX_congr (hago _).ev]; exact hq), fun k b' _ hl => (by cases hl), fun hs => (by cases hs)⟩ (fun q hq => keep q hq _) (fun k b hk => (by cases hk)) (Rr.weak (hmask ⟨i, o, false, c, none⟩ rfl) fun k hk => ?_) hx
            exact hk
          · cases hx
    | only j keep =>
      simp only [planOk, Bool.and_eq_true, beq_iff_eq] at hok
      obtain ⟨⟨hrd, hst⟩, hok⟩ := hok
      have hjL : j ∈ Region.ready .any ops L := by rw [hrd]; exact List.mem_singleton.2 rfl
      obtain ⟨g1, o, g2, g3⟩ := mem_ready.1 hjL
      rw [g2] at hst
      have hjlt : j < ops.size := (Array.getElem?_eq_some_iff.1 g2).1
      have hLf : L.getD j false = false := getD_tf g1
      have hok' := operOk_of hops g2
      have hni : ∀ p ∈ pd, p.i ≠ j := fun p hp e => by have := I.pL p hp; rw [e, hLf] at this; cases this
      have hkeep : ∀ p ∈ pd, (keep.any (Nat.beq p.i) = true → (∀ d, p.o.dst = some d → d ∉ o.looksAt ops ∧ o.dst ≠ some d) ∧ ∀ d, o.dst = some d → d ∉ p.o.looksAt ops ∧ p.o.dst ≠ some d) ∧ (keep.any (Nat.beq p.i) = false → Rf p.i j = false) := by
        intro p hp
        have hpm : p.i ∈ spd.map (·.1) := by rw [← I.hs]; exact List.mem_map_of_mem hp
        obtain ⟨x, hx1, hx2⟩ := List.mem_map.1 hpm
        have h1 := List.all_eq_true.1 hst x hx1
        rw [hx2, (I.pi p hp).op] at h1
        dsimp only at h1
        refine ⟨fun hk => ?_, fun hk => ?_⟩
        · rw [hk] at h1
          simp only [if_true, Bool.and_eq_true] at h1
          exact ⟨half_spec h1.1, half_spec h1.2⟩
        · rw [hk] at h1
          simp only [Bool.false_eq_true, if_false, Bool.not_eq_true'] at h1
          rw [← hx2, I.hR x hx1 j]; exact h1
      simp only [planX, g2] at hx
      have hAj : ∀ {A : Array Bool} {pa : List Pd}, Inv Γ.P ops L A pd pa spd Rf s h → A.getD j true = false := by
        intro A pa I
        have hAsz : j < A.size := by rw [I.szA]; exact hjlt
        cases hAb : A.getD j false with
        | true => have := I.AL j hAb; rw [hLf] at this; cases this
        | false =>
          simp only [Array.getD_eq_getD_getElem?, Array.getElem?_eq_getElem hAsz, Option.getD_some] at *
          exact hAb
      -- nothing else can come but what is pending
      have main : ∀ (fuel : Nat) (pa : List Pd) (A : Array Bool) (a : Act) (w : World), Inv Γ.P ops L A pd pa spd Rf s h → Ord A pa → R Γ (lays pa) (mask pa s) h a w → left ops A ≤ fuel → wpAnyIn Γ.F 0 Γ.P .any ops Q fuel A a w := by
        intro fuel
        induction fuel with
        | zero =>
          intro pa A a w I ho Rr hl
          have := left_lt hjlt (hAj I) I.szA
          omega
        | succ fuel ihf =>
          intro pa A a w I ho Rr hl
          refine ⟨fun hno => ?_, fun i hi => ?_⟩
          · cases hpa : pa with
            | nil =>
              subst hpa
              have : j ∈ Region.ready .any ops A := mem_ready.2 ⟨hAj I, o, g2, fun e he hb => (I.LA _ (g3 e he hb)).resolve_right fun ⟨q, hq, _⟩ => by cases hq⟩
              rw [hno] at this; cases this
            | cons p ps =>
              rw [hpa] at ho I
              exact absurd hno (Ord.ready (by simp) ho fun x hx => ⟨I.pA x hx, (I.pi x (I.sub x hx)).op⟩)
          · obtain ⟨f1, oi, f2, f3⟩ := mem_ready.1 hi
            have hilt := (Array.getElem?_eq_some_iff.1 f2).1
            have hlt := left_lt hilt f1 I.szA
            by_cases hij : i = j
            · subst hij
              rw [g2] at f2
              injection f2 with f2
              subst f2
              -- the plan's own step
              have hinA : ∀ p ∈ pa, keep.any (Nat.beq p.i) = true := by
                intro p hp
                cases hk : keep.any (Nat.beq p.i) with
                | true => rfl
                | false =>
                  have h1 := (hkeep p (I.sub p hp)).2 hk
                  have h2 := I.rf hp hi (fun e => hni p (I.sub p hp) e.symm)
                  rw [h1] at h2; cases h2
              have hag : Agree ops o (mask pa s) s := fun t ht => mask_out pa s t fun p hp hd => (((hkeep p (I.sub p hp)).1 (hinA p hp)).1 t hd).1 ht
              have hmk : ∀ c t, (mask pa (Fr.putO s o.dst c)).at t = (Fr.putO (mask pa s) o.dst c).at t := by
                intro c t
                rw [putO_at]
                split
                · rename_i hd
                  rw [mask_out pa _ t fun p hp hpd => (((hkeep p (I.sub p hp)).1 (hinA p hp)).1 t hpd).2 hd, putO_at, if_pos hd]
                · rename_i hd
                  by_cases hex : ∃ p ∈ pa, p.o.dst = some t
                  · rw [mask_in pa _ t hex, mask_in pa s t hex]
                  · rw [mask_out pa _ t fun p hp hpd => hex ⟨p, hp, hpd⟩, mask_out pa s t fun p hp hpd => hex ⟨p, hp, hpd⟩, putO_at, if_neg hd]
              have hmem : ∀ p, p ∈ pd.filter (fun p => keep.any (Nat.beq p.i)) → p ∈ pd ∧ keep.any (Nat.beq p.i) = true := fun p hp => List.mem_filter.1 hp
              have hsetL : ∀ y, (L.setIfInBounds i true).getD y false = true → y = i ∨ L.getD y false = true := fun y hy => by
                by_cases e : i = y
                · exact .inl e.symm
                · rw [getD_set_ne false e] at hy; exact .inr hy
              have hsetA : ∀ y, (A.setIfInBounds i true).getD y false = true → y = i ∨ A.getD y false = true := fun y hy => by
                by_cases e : i = y
                · exact .inl e.symm
                · rw [getD_set_ne false e] at hy; exact .inr hy
              have nextI : ∀ {s2 : Fr} {h2 : Hp}, (∀ p ∈ pd.filter (fun p => keep.any (Nat.beq p.i)), PI Γ.P ops s2 h2 p) → Inv Γ.P ops (L.setIfInBounds i true) (A.setIfInBounds i true) (pd.filter fun p => keep.any (Nat.beq p.i)) pa (spd.filter fun p => keep.any (Nat.beq p.1)) Rf s2 h2 := by
                intro s2 h2 hP
                refine ⟨?_, fun x hx y => I.hR x (List.mem_filter.1 hx).1 y, hP, fun p hp => I.cl p (hmem p hp).1, fun p hp q hq => I.pp p (hmem p hp).1 q (hmem q hq).1, fun p hp => I.self p (hmem p hp).1, fun p hp q hq => I.un p (hmem p hp).1 q (hmem q hq).1, fun p hp q hq => I.lu p (hmem p hp).1 q (hmem q hq).1, fun p hp => getD_set_true (I.pL p (hmem p hp).1),
                  fun p hp => List.mem_filter.2 ⟨I.sub p hp, hinA p hp⟩, fun p hp x hx => ?_, fun p hp => ?_, fun x hx => ?_, fun x hx => ?_, by simp [I.szA], by simp [I.szL]⟩
                · have e1 : (pd.filter fun p => keep.any (Nat.beq p.i)) = pd.filter ((fun n => keep.any (Nat.beq n)) ∘ (·.i)) := rfl
                  have e2 : (spd.filter fun p => keep.any (Nat.beq p.1)) = spd.filter ((fun n => keep.any (Nat.beq n)) ∘ (·.1)) := rfl
                  rw [e1, e2, ← List.filter_map, ← List.filter_map, I.hs]
                · rcases hsetA x hx with e | hx
                  · rw [e]; exact I.rf hp hi (fun e => hni p (I.sub p hp) e.symm)
                  · exact I.aR p hp x hx
                · rw [getD_set_ne true (fun e => hni p (I.sub p hp) e.symm)]; exact I.pA p hp
                · rcases hsetA x hx with e | hx
                  · rw [e]; simp [I.szL, hjlt]
                  · exact getD_set_true (I.AL x hx)
                · rcases hsetL x hx with e | hx
                  · left; rw [e]; simp [I.szA, hjlt]
                  · exact (I.LA x hx).imp getD_set_true id
              have hPIput : ∀ c, ∀ p ∈ pd.filter (fun p => keep.any (Nat.beq p.i)), Agree ops p.o (Fr.putO s o.dst c) s ∧ ∀ d, p.o.dst = some d → (Fr.putO s o.dst c).at d = s.at d := by
                intro c p hp
                have h1 := ((hkeep p (hmem p hp).1).1 (hmem p hp).2).2
                exact ⟨agree_put fun t ht => (h1 t ht).1, fun d hd => by rw [putO_at, if_neg fun e => (h1 d e).2 hd]⟩
              unfold wpOpIn
              rw [g2]
              dsimp only
              split at hx
              · cases hx
              · rename_i hw
                rw [want_sound Rr hops (hag.want.trans hw)]
                simp only [Bool.false_eq_true, if_false]
                refine ⟨fun _ _ => trivial, ?_⟩
                refine ih _ _ _ _ _ hok hx pa (A.setIfInBounds i true) fuel Rf _ w (nextI fun p hp => ?_) ho.mono (fun p hp => hln p (hmem p hp).1) ((Rr.skp hok'.1).weak (fun t => .inr (hmk _ t)) fun k hk => hk) (by omega)
                have hq := I.pi p (hmem p hp).1
                obtain ⟨hag2, hd2⟩ := hPIput .skp p hp
                exact ⟨hq.op, fun d hd => (hd2 d hd).trans (hq.dst d hd), fun hs => ⟨hag2.want.trans (hq.skip hs).1, (hq.skip hs).2⟩, fun hs => hag2.want.trans (hq.go hs), fun hs hl => (by rw [qX_congr hag2.ev]; exact hq.quiet hs hl),
                  fun k b hs hl => (by obtain ⟨e1, e2, f, e3, e4⟩ := hq.lay k b hs hl; exact ⟨e1, e2, f, by rw [layX_congr hag2.ev]; exact e3, e4⟩), hq.nolay⟩
              · rename_i hw
                rw [want_sound Rr hops (hag.want.trans hw)]
                simp only [if_true]
                split at hx
                · rename_i c h' hc
                  split at hx
                  · rename_i hall
                    have hc' := hc
                    rw [← opC_congr hag.ev] at hc'
                    refine Oper.wpIn_mono (fun a' w' hR => ?_) (opC_snd hprim hcall (Q := Q) Rr hok' hc')
                    have hnn : h.n ≤ h'.n := opC_n hcall Rr hok' hc'
                    refine ih _ _ _ _ _ hok hx pa (A.setIfInBounds i true) fuel Rf a' w' (nextI fun p hp => ?_) ho.mono (fun p hp => hln p (hmem p hp).1) (hR.weak (fun t => .inr (hmk _ t)) fun k hk => hk) (by omega)
                    obtain ⟨hag2, hd2⟩ := hPIput c p hp
                    exact pdOk_spec (I.pi p (hmem p hp).1) hag2 hd2 hnn (List.all_eq_true.1 hall p hp)
                  · cases hx
                · cases hx
            · have hjp : ∃ q ∈ pa, q.i = i := by
                by_cases hLi : L.getD i true = false
                · have : i ∈ Region.ready .any ops L := mem_ready.2 ⟨hLi, oi, f2, fun e he hb => I.AL _ (f3 e he hb)⟩
                  rw [hrd] at this
                  exact absurd (List.mem_singleton.1 this) hij
                · have hLi' : L.getD i false = true := by
                    have hlt : i < L.size := by rw [I.szL]; exact hilt
                    simp only [Array.getD_eq_getD_getElem?, Array.getElem?_eq_getElem hlt, Option.getD_some] at *
                    simpa using hLi
                  rcases I.LA i hLi' with h | h
                  · have := getD_tf f1; rw [this] at h; cases h
                  · exact h
              obtain ⟨q, hq, rfl⟩ := hjp
              refine wpOpIn_mono (fun a' w' hR => ?_) (pend_exec (Q := Q) hops I hln Rr hq hi)
              exact ihf _ _ a' w' (I.step hq hi) (ho.filter (by rw [I.szA]; exact hilt)) hR (by omega)
      exact main fuel pa A a w I ho Rr hl
end
end Go.CO
