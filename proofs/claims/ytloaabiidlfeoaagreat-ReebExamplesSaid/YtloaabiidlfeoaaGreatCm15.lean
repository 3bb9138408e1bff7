/- The reckoner with memory: code and calls are sound. -/
import Derived.Test.YtloaabiidlfeoaaGreatCm14
set_option linter.unusedVariables false
set_option linter.unusedSimpArgs false
namespace Go.CM

def opsOk (n : Nat) (ops : Array Oper) : Bool := ops.toList.all fun o => (match o.dst with
  | some d => Nat.blt d n
  | none => true) && o.op.operands.toList.all fun x => match x with
    | .tmp t => Nat.blt t n
    | _ => true
theorem opsOk_spec {n : Nat} {ops : Array Oper} (h : opsOk n ops = true) : ∀ o ∈ ops.toList, operOk n o := by
  intro o ho
  have h1 := List.all_eq_true.1 h o ho
  simp only [Bool.and_eq_true] at h1
  refine ⟨fun d hd => ?_, fun x hx t ht => ?_⟩
  · have := h1.1
    rw [hd] at this
    exact blt1 this
  · have := List.all_eq_true.1 h1.2 x hx
    rw [ht] at this
    exact blt1 this
def codeOk (pl : Nat → Option (List Stp)) (n : Nat) : Code → Bool
  | .seq x y => codeOk pl n x && codeOk pl n y
  | .cond c x y => (match c with
    | .tmp t => Nat.blt t n
    | _ => true) && codeOk pl n x && codeOk pl n y
  | .block _ c => codeOk pl n c
  | .scope c => codeOk pl n c
  | .loop c => codeOk pl n c
  | .region id ops true => opsOk n ops && match pl id with
    | some p => planOk ops p [] (Array.replicate ops.size false)
    | none => true
  | .region id ops false => opsOk n ops
  | _ => true

theorem least {p : Nat → Prop} (h : ∃ n, p n) : ∃ n, p n ∧ ∀ m, p m → n ≤ m := by
  obtain ⟨n, hn⟩ := h
  induction n using Nat.strongRecOn with
  | _ n ih =>
    by_cases h : ∃ m, m < n ∧ p m
    · obtain ⟨m, hm, hp⟩ := h; exact ih m hm hp
    · refine ⟨n, hn, fun m hm => ?_⟩
      rcases Nat.lt_or_ge m n with hlt | hge
      · exact (h ⟨m, hlt, hm⟩).elim
      · exact hge

section
variable {Γ : Bs} {prim : PrimX} {call : CallX} {pl : Nat → Option (List Stp)}
def ends (Γ : Bs) (e : Exit) (s : Fr) (h : Hp) : Exit → Act → World → Prop := fun e' a w => e' = e ∧ R Γ [] s h a w
theorem R.drawn {s : Fr} {h : Hp} {a : Act} {w : World} (Rr : R Γ [] s h a w) (n : Nat) : R Γ [] s h a { w with drawn := n } := by
  obtain ⟨ι, Rl⟩ := Rr
  have E : ∀ N, Ext N w { w with drawn := n } := fun N => ⟨rfl, rfl, rfl, Nat.le_refl _, fun _ _ => rfl⟩
  exact ⟨ι, Rl.df, Rl.tn, Rl.le, Rl.dom, Rl.av, Rl.sim.world (E _), Rl.tv, Rl.ext.trans (E _), Rl.hn, Rl.h0⟩
theorem getD_replicate (n x : Nat) : (Array.replicate n false).getD x false = false := by
  simp only [Array.getD_eq_getD_getElem?, Array.getElem?_replicate]
  split <;> rfl
theorem codeX_sound (hM : Γ.P.follows .mixedOrders = true) (hprim : ∀ f args r, prim f args = some r → PrimW Γ.P f args r) (hcall : ∀ f args h r h', call f args h = some (r, h') → CCall Γ.P f args h r h') : ∀ (k : Nat) (c : Code) (s : Fr) (h : Hp) (e : Exit) (s' : Fr) (h' : Hp), codeOk pl Γ.n c = true →
    codeX Γ.P prim call pl k c s h = some (e, s', h') → ∀ a w, R Γ [] s h a w → c.wp Γ.P (ends Γ e s' h') a w := by
  intro k
  induction k using Nat.strongRecOn with
  | _ k ih =>
    intro c s h e s' h' hok hx a w Rr
    cases k with
    | zero => simp [codeX] at hx
    | succ k =>
      have ih' := ih k (Nat.lt_succ_self k)
      cases c with
      | skip => simp only [codeX, Option.some.injEq, Prod.mk.injEq] at hx; obtain ⟨rfl, rfl, rfl⟩ := hx; exact wp_skip ⟨rfl, Rr⟩
      | label i => simp only [codeX, Option.some.injEq, Prod.mk.injEq] at hx; obtain ⟨rfl, rfl, rfl⟩ := hx; exact wp_label ⟨rfl, Rr⟩
      | exit i => simp only [codeX, Option.some.injEq, Prod.mk.injEq] at hx; obtain ⟨rfl, rfl, rfl⟩ := hx; exact wp_exit ⟨rfl, Rr⟩
      | goto i => simp only [codeX, Option.some.injEq, Prod.mk.injEq] at hx; obtain ⟨rfl, rfl, rfl⟩ := hx; exact wp_goto ⟨rfl, Rr⟩
      | ret => simp only [codeX, Option.some.injEq, Prod.mk.injEq] at hx; obtain ⟨rfl, rfl, rfl⟩ := hx; exact wp_ret ⟨rfl, Rr⟩
      | seq x y =>
        simp only [codeOk, Bool.and_eq_true] at hok
        simp only [codeX] at hx
        split at hx
        · rename_i s1 h1 hx1
          refine wp_seq (wp_mono (ih' x s h .normal s1 h1 hok.1 hx1 a w Rr) fun e1 a1 w1 he => ?_)
          obtain ⟨rfl, R1⟩ := he
          exact ih' y s1 h1 e s' h' hok.2 hx a1 w1 R1
        · rename_i hne
          refine wp_seq (wp_mono (ih' x s h e s' h' hok.1 hx a w Rr) fun e1 a1 w1 he => ?_)
          obtain ⟨rfl, R1⟩ := he
          cases e1 with
          | normal => exact (hne _ _ hx).elim
          | _ => exact ⟨rfl, R1⟩
      | cond c x y =>
        simp only [codeOk, Bool.and_eq_true] at hok
        simp only [codeX] at hx
        have hc : opOk Γ.n c := fun t ht => by
          have := hok.1.1
          rw [ht] at this
          exact blt1 this
        obtain ⟨ι, Rl⟩ := Rr
        have hcv := Rl.ev hc
        split at hx
        · rename_i hb
          rw [hb] at hcv
          exact wp_cond_split (vr_bo hcv) (fun _ => ih' x s h e s' h' hok.1.2 hx a w ⟨ι, Rl⟩) fun h => by cases h
        · rename_i hb
          rw [hb] at hcv
          exact wp_cond_split (vr_bo hcv) (fun h => by cases h) fun _ => ih' y s h e s' h' hok.2 hx a w ⟨ι, Rl⟩
        · cases hx
      | block id c =>
        simp only [codeOk] at hok
        simp only [codeX] at hx
        split at hx
        · rename_i i s1 h1 hx1
          refine wp_block (wp_mono (ih' c s h _ s1 h1 hok hx1 a w Rr) fun e1 a1 w1 he => ?_)
          obtain ⟨rfl, R1⟩ := he
          simp only [Exit.inBlock]
          split at hx
          · rename_i hi
            injection hx with hx
            simp only [Prod.mk.injEq] at hx
            obtain ⟨rfl, rfl, rfl⟩ := hx
            rw [if_pos (beq1 hi)]; exact ⟨rfl, R1⟩
          · rename_i hi
            injection hx with hx
            simp only [Prod.mk.injEq] at hx
            obtain ⟨rfl, rfl, rfl⟩ := hx
            rw [if_neg (beq0 hi)]; exact ⟨rfl, R1⟩
        · rename_i hne
          refine wp_block (wp_mono (ih' c s h e s' h' hok hx a w Rr) fun e1 a1 w1 he => ?_)
          obtain ⟨rfl, R1⟩ := he
          cases e1 with
          | exit i => exact (hne _ _ _ hx).elim
          | _ => exact ⟨rfl, R1⟩
      | scope c =>
        simp only [codeOk] at hok
        simp only [codeX] at hx
        split at hx
        · cases hx
        · rename_i hne
          refine wp_scope_straight (wp_mono (ih' c s h e s' h' hok hx a w Rr) fun e1 a1 w1 he => ?_)
          obtain ⟨rfl, R1⟩ := he
          cases e1 with
          | goto i => exact (hne _ _ hx).elim
          | _ => exact ⟨rfl, R1⟩
      | loop c =>
        have hokc : codeOk pl Γ.n c = true := by simpa [codeOk] using hok
        classical
        let J : Act → World → Nat → Prop := fun a w n => n ≤ k + 1 ∧ ∃ s h, codeX Γ.P prim call pl n (.loop c) s h = some (e, s', h') ∧ R Γ [] s h a w
        refine wp_loop (fun a w => ∃ n, J a w n) (fun a w => if h : ∃ n, J a w n then Classical.choose (least h) else 0) ⟨k + 1, Nat.le_refl _, s, h, hx, Rr⟩ fun a w hI => ?_
        rw [dif_pos hI]
        obtain ⟨hle, s2, h2, hx2, R2⟩ := (Classical.choose_spec (least hI)).1
        generalize Classical.choose (least hI) = n at hle hx2
        cases n with
        | zero => simp [codeX] at hx2
        | succ n =>
          simp only [codeX] at hx2
          split at hx2
          · rename_i s3 h3 hx3
            refine wp_mono (ih n (by omega) c s2 h2 .normal s3 h3 hokc hx3 a w R2) fun e1 a1 w1 he => ?_
            obtain ⟨rfl, R3⟩ := he
            have hex : ∃ m, J a1 w1 m := ⟨n, by omega, s3, h3, hx2, R3⟩
            refine ⟨hex, ?_⟩
            rw [dif_pos hex]
            exact Nat.lt_succ_of_le ((Classical.choose_spec (least hex)).2 n ⟨by omega, s3, h3, hx2, R3⟩)
          · rename_i hne
            refine wp_mono (ih n (by omega) c s2 h2 e s' h' hokc hx2 a w R2) fun e1 a1 w1 he => ?_
            obtain ⟨rfl, R3⟩ := he
            cases e1 with
            | normal => exact (hne _ _ hx2).elim
            | _ => exact ⟨rfl, R3⟩
      | region id ops dr =>
        cases dr with
        | true =>
          simp only [codeOk, Bool.and_eq_true] at hok
          simp only [codeX] at hx
          split at hx
          · rename_i p hp
            rw [hp] at hok
            split at hx
            · rename_i s1 h1 hx1
              injection hx with hx
              simp only [Prod.mk.injEq] at hx
              obtain ⟨rfl, rfl, rfl⟩ := hx
              refine wp_region_any hM ?_
              refine plan_sound hprim hcall (opsOk_spec hok.1) (s1 := s1) (h1 := h1) (Q := ends Γ .normal s1 h1) (fun a w hR => ⟨rfl, hR⟩) p [] _ [] s h hok.2 hx1 [] _ _ (fun _ _ => false) a _ ⟨rfl, fun x hm => (by cases hm), fun p hp => (by cases hp), fun p hp => (by cases hp), fun p hp => (by cases hp), fun p hp => (by cases hp), fun p hp => (by cases hp), fun p hp => (by cases hp), fun p hp => (by cases hp), fun p hp => (by cases hp), fun p hp => (by cases hp), fun p hp => (by cases hp), fun x hm => ?_, fun x hm => ?_, by simp, by simp⟩ trivial (fun p hp => (by cases hp)) (Rr.drawn _) ?_
              · rw [getD_replicate] at hm; cases hm
              · rw [getD_replicate] at hm; cases hm
              · unfold left
                exact Nat.le_trans (List.length_filter_le _ _) (by simp)
            · cases hx
          · cases hx
        | false =>
          simp only [codeOk] at hok
          simp only [codeX] at hx
          split at hx
          · rename_i s1 h1 hx1
            injection hx with hx
            simp only [Prod.mk.injEq] at hx
            obtain ⟨rfl, rfl, rfl⟩ := hx
            exact wp_region_list (list_sound hprim hcall (opsOk_spec hok) (s1 := s1) (h1 := h1) (Q := ends Γ .normal s1 h1) (fun a w hR => ⟨rfl, hR⟩) _ Rr (opsOk_spec hok) hx1)
          · cases hx
      | _ => simp [codeX] at hx
end

/-! ### Functions -/
def resOk (n : Nat) (l : List ResultVar) : Bool := l.all fun
  | .tmp t => Nat.blt t n
  | .cell a _ => Nat.blt a n
def resRun (tmps : Array Value) : ResultVar → Sem Value := fun
    | .tmp t => pure (tmps.getD t Go.undef)
    | .cell a t => do loadVar t (← asAddr (tmps.getD a Go.undef))
theorem run_results {P : Program} {fn : Func} {tmps : Array Value} {vs : List Value} {w : World} (h : (fn.results.toList.mapM (resRun tmps)).run P w = .ok vs w) : (results fn tmps).run P w = .ok (if h : vs.length = 1 then vs[0] else .tuple vs.toArray) w := by
  have h1 : (fn.results.mapM (resRun tmps)).run P w = .ok vs.toArray w := by
    rw [Array.mapM_eq_mapM_toList]
    simp [h]
  show (do
    let vs ← fn.results.mapM (resRun tmps)
    pure (if h : vs.size = 1 then vs[0] else .tuple vs) : Sem Value).run P w = _
  simp only [Sem.run_bind, h1, Result.andThen_ok, Sem.run_pure]
  congr 1
theorem resX_sound {Γ : Bs} {s : Fr} {h : Hp} {a : Act} {w : World} {ι : Im} (Rl : Rl Γ [] s h a w ι) : ∀ (l : List ResultVar) (vs : List CV), resOk Γ.n l = true → resX Γ.P s h l = some vs → ∃ us, VRL ι vs us ∧ us.length = l.length ∧ (l.mapM (resRun a.tmps)).run Γ.P w = .ok us w
  | [], vs, _, hx => by
    simp only [resX, Option.some.injEq] at hx
    subst hx
    exact ⟨[], VRL.nil ι, rfl, by simp⟩
  | .tmp t :: l, vs, hok, hx => by
    simp only [resOk, List.all_cons, Bool.and_eq_true] at hok
    simp only [resX] at hx
    split at hx
    · rename_i vs' hx'
      injection hx with hx; subst hx
      obtain ⟨us, h1, h2, h3⟩ := resX_sound Rl l vs' hok.2 hx'
      refine ⟨a.tmps.getD t Go.undef :: us, VRL.cons (Rl.tv t (blt1 hok.1)) h1, by simp [h2], ?_⟩
      simp [List.mapM_cons, resRun, h3]
    · cases hx
  | .cell ad t :: l, vs, hok, hx => by
    simp only [resOk, List.all_cons, Bool.and_eq_true] at hok
    simp only [resX] at hx
    split at hx
    · rename_i k off n g hk ht
      split at hx
      · rename_i v vs' hv hx'
        injection hx with hx; subst hx
        obtain ⟨us, h1, h2, h3⟩ := resX_sound Rl l vs' hok.2 hx'
        have h4 := Rl.tv ad (blt1 hok.1)
        rw [hk] at h4
        obtain ⟨i, hi, hav⟩ := vr_ptr h4
        obtain ⟨u, h5, h6⟩ := run_loadVar (P := Γ.P) (Rl.sim.blk k i hi) ht hv
        refine ⟨u :: us, VRL.cons h5 h1, by simp [h2], ?_⟩
        simp [List.mapM_cons, resRun, hav, asAddr, h6, h3]
      · cases hx
    · cases hx
theorem entry_at : ∀ (args : List CV) (i t : Nat), (entry i args).at t = if i ≤ t then args.getD (t - i) .undef else .undef
  | [], i, t => by
    have : (entry i []).at t = .undef := by
      simp only [entry, Fr.at, T.get]
      have : ∀ p : Ix, T.at p (T.lf : T CV) = none := by
        intro p; induction p with
        | e => rfl
        | l p ih => exact ih
        | r p ih => exact ih
      rw [this]
    rw [this]; simp
  | p :: args, i, t => by
    simp only [entry, Fr.at_set]
    by_cases h : t = i
    · subst h; simp
    · rw [if_neg h, entry_at args (i + 1) t]
      by_cases h2 : i ≤ t
      · rw [if_pos h2, if_pos (by omega), show t - i = (t - (i + 1)) + 1 by omega]; simp
      · rw [if_neg h2, if_neg (by omega)]
def funcOk (P : Program) (E : Env) (f : FuncId) : Bool := match P.funcs[f]? with
  | some fn => match fn.body with
    | some c => !(fn.name == "runtime.NumGoroutine") && resOk fn.ntmps fn.results.toList && codeOk (E.plan f) fn.ntmps c
    | none => true
  | none => true
theorem body_call {P : Program} {E : Env} {call : CallX} (hM : P.follows .mixedOrders = true) (hprim : ∀ f args r, E.prim f args = some r → PrimW P f args r) (hcall : ∀ f args h r h', call f args h = some (r, h') → CCall P f args h r h') {f : FuncId} (hE : funcOk P E f = true) {fn : Func} {c : Code} (hf : P.funcs[f]? = some fn) (hb : fn.body = some c)
    {args : List CV} {h h' : Hp} (hlen : args.length ≤ fn.ntmps) {e : Exit} (he : e = .normal ∨ e = .ret) {s : Fr} (hn : h.n ≤ h'.n) (hx : codeX P E.prim call (E.plan f) E.fuel c (entry 0 args) h = some (e, s, h')) {vs : List CV} (hr : resX P s h' fn.results.toList = some vs) : CCall P f args h (packR vs) h' := by
  unfold funcOk at hE
  rw [hf] at hE
  dsimp only at hE
  rw [hb] at hE
  simp only [Bool.and_eq_true, Bool.not_eq_true'] at hE
  obtain ⟨⟨hE1, hE2⟩, hE3⟩ := hE
  refine ⟨⟨fn, hf, by simp [hb], hE1⟩, hn, fun N0 ι w vals hN S hv => calls_of_wp hf hb ?_⟩
  let Γ : Bs := { P := P, w0 := w, N0 := N0, ι0 := ι, n0 := h.n, n := fn.ntmps }
  have hvl := hv.1
  have R0 : R Γ [] (entry 0 args) h { tmps := vals.toArray ++ Array.replicate (fn.ntmps - vals.toArray.size) Go.undef, defers := [] } w := by
    refine ⟨ι, rfl, ?_, Im.le_refl ι, fun k _ hk => hk, fun k hk => (by cases hk), S, fun t ht => ?_, Ext.refl _ _, Nat.le_refl _, hN⟩
    · show (vals.toArray ++ Array.replicate (fn.ntmps - vals.toArray.size) Go.undef).size = fn.ntmps
      simp; omega
    · rw [entry_at, if_pos (Nat.zero_le _), Nat.sub_zero]
      by_cases h2 : t < args.length
      · have h3 := hv.2 t h2
        have h4 : (vals.toArray ++ Array.replicate (fn.ntmps - vals.toArray.size) Go.undef).getD t Go.undef = vals.getD t Go.undef := by
          simp only [Array.getD_eq_getD_getElem?, List.getD_eq_getElem?_getD, Array.getElem?_append, List.size_toArray, List.getElem?_toArray]
          rw [if_pos (by omega)]
        rw [h4, List.getD_eq_getElem?_getD, List.getElem?_eq_getElem h2]; exact h3
      · rw [List.getD_eq_getElem?_getD, List.getElem?_eq_none (by omega)]; exact .undef _
  refine wp_mono (codeX_sound (Γ := Γ) hM hprim hcall _ _ _ _ _ _ _ hE3 hx _ _ R0) fun e1 a1 w1 hen => ?_
  obtain ⟨rfl, ι1, R1⟩ := hen
  obtain ⟨us, h1, h2, h3⟩ := resX_sound R1 _ vs hE2 hr
  have hrun := run_results (P := P) (fn := fn) h3
  have hfin : ∃ v, (results fn a1.tmps).run P w1 = .ok v w1 ∧ ∃ (rv : Value) (ι' : Im), Ending.returned v = .returned rv ∧ ι.le ι' ∧ (∀ k, k < h.n → ι k = none → ι' k = none) ∧ Sim N0 ι' h' w1 ∧ VR ι' (packR vs) rv ∧ Ext N0 w w1 := by
    refine ⟨_, hrun, _, ι1, rfl, R1.le, R1.dom, R1.sim, ?_, R1.ext⟩
    have hul := h1.1
    match vs, us, hul, h1 with
    | [], [], _, h1 => exact VR.tup' h1
    | [p], [u], _, h1 => exact (VRL.tail h1).1
    | p :: q :: vs, u :: v :: us, _, h1 =>
      have : ¬ (u :: v :: us).length = 1 := by simp
      rw [dif_neg this]
      exact VR.tup' (by simpa using h1)
  rcases he with rfl | rfl <;> exact ⟨R1.df, hfin⟩
end Go.CM
