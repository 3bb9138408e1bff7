/- The reckoner with memory: code, rounds and calls are sound. -/
import Derived.Test.YtommoodcdkjggabGreatDoorCo15
set_option linter.unusedVariables false
set_option linter.unusedSectionVars false
set_option linter.unusedSimpArgs false
namespace Go.CO
variable [LG] [HK]

theorem enter_ev {ro : Option Nat} {f n : Nat} {ps : Array Tmp} {as bd : Code} {s s' : Fr} {h h' : Hp} {g : Operand} (hg : opOk n g) (hns : n ≤ slot) (hx : enterX ro f n ps as bd s h = some (s', h')) : ev s' g = ev s g := by
  unfold enterX at hx
  split at hx
  · simp only [Option.some.injEq, Prod.mk.injEq] at hx
    obtain ⟨rfl, rfl⟩ := hx
    cases g with
    | tmp t =>
      have : @LT.lt Nat _ t n := hg t rfl
      simp only [ev]
      rw [Fr.at_set, if_neg (by omega)]
    | _ => rfl
  · split at hx
    · simp only [Option.some.injEq, Prod.mk.injEq] at hx
      rw [hx.1]
    · cases hx
theorem least {p : Nat → Prop} (h : ∃ n, p n) : ∃ n, p n ∧ ∀ m, p m → n ≤ m := by
  obtain ⟨n, hn⟩ := h
  induction n using Nat.strongRecOn with
  | _ n ih =>
    by_cases h : ∃ m, m < n ∧ p m
    · obtain ⟨m, hm, hp⟩ := h; exact ih m hm hp
    · refine ⟨n, hn, fun m hm => ?_⟩
      rcases Nat.lt_or_ge m n with hlt | hge
      · exact (h ⟨m, hlt, hm⟩).elim
      · exact hge

section
variable {Γ : Bs} {prim : PrimX} {call : CallX} {pl : Nat → Option (List Stp)}
def RC (Γ : Bs) (s : Fr) (h : Hp) (a : Act) (w : World) : Prop := R (Γ.at s) [] s h a w
def ends (Γ : Bs) (e : Exit) (s : Fr) (h : Hp) : Exit → Act → World → Prop := fun e' a w => e' = e ∧ RC Γ s h a w
theorem R.drawn {s : Fr} {h : Hp} {a : Act} {w : World} (Rr : R Γ [] s h a w) (n : Nat) : R Γ [] s h a { w with drawn := n } := by
  obtain ⟨ι, Rl⟩ := Rr
  have E : ∀ N, Ext N w { w with drawn := n } := fun N => ⟨rfl, rfl, rfl, Nat.le_refl _, fun _ _ => rfl⟩
  exact ⟨ι, Rl.df, Rl.tn, Rl.le, Rl.dom, Rl.av, Rl.sim.world (E _), Rl.tv, Rl.ext.trans (E _), Rl.hn, Rl.h0⟩
theorem getD_replicate (n x : Nat) : (Array.replicate n false).getD x false = false := by
  simp only [Array.getD_eq_getD_getElem?, Array.getElem?_replicate]
  split <;> rfl
theorem codeX_sound {f : Nat} {ro : Option Nat} (hns : Γ.n ≤ slot) (hro : Rnd Γ ro) (hg : ∀ ps as bd, rangeOk pl Γ.n ps as bd = true → LG.good f Γ.n ps as bd) (hM : Γ.P.follows .mixedOrders = true) (hprim : ∀ f args r, prim f args = some r → PrimW Γ.P f args r) (hcall : ∀ f args h r h', call f args h = some (r, h') → CCall Γ.P f args h r h') : ∀ (k : Nat) (c : Code) (s : Fr) (h : Hp) (e : Exit) (s' : Fr) (h' : Hp), codeOk pl Γ.n c = true →
    codeX Γ.P prim call pl f Γ.n ro k c s h = some (e, s', h') → ∀ a w, RC Γ s h a w → c.wpIn Γ.F 0 Γ.P (ends Γ e s' h') a w := by
  intro k
  induction k using Nat.strongRecOn with
  | _ k ih =>
    intro c s h e s' h' hok hx a w Rr
    cases k with
    | zero => simp [codeX] at hx
    | succ k =>
      have ih' := ih k (Nat.lt_succ_self k)
      cases c with
      | skip => simp only [codeX, Option.some.injEq, Prod.mk.injEq] at hx; obtain ⟨rfl, rfl, rfl⟩ := hx; exact wpIn_skip ⟨rfl, Rr⟩
      | label i => simp only [codeX, Option.some.injEq, Prod.mk.injEq] at hx; obtain ⟨rfl, rfl, rfl⟩ := hx; exact wpIn_label ⟨rfl, Rr⟩
      | exit i => simp only [codeX, Option.some.injEq, Prod.mk.injEq] at hx; obtain ⟨rfl, rfl, rfl⟩ := hx; exact wpIn_exit ⟨rfl, Rr⟩
      | goto i => simp only [codeX, Option.some.injEq, Prod.mk.injEq] at hx; obtain ⟨rfl, rfl, rfl⟩ := hx; exact wpIn_goto ⟨rfl, Rr⟩
      | ret => simp only [codeX, Option.some.injEq, Prod.mk.injEq] at hx; obtain ⟨rfl, rfl, rfl⟩ := hx; exact wpIn_ret ⟨rfl, Rr⟩
      | seq x y =>
        simp only [codeOk, Bool.and_eq_true] at hok
        simp only [codeX] at hx
        split at hx
        · rename_i s1 h1 hx1
          refine wpIn_seq (wpIn_mono (ih' x s h .normal s1 h1 hok.1 hx1 a w Rr) fun e1 a1 w1 he => ?_)
          obtain ⟨rfl, R1⟩ := he
          exact ih' y s1 h1 e s' h' hok.2 hx a1 w1 R1
        · rename_i hne
          refine wpIn_seq (wpIn_mono (ih' x s h e s' h' hok.1 hx a w Rr) fun e1 a1 w1 he => ?_)
          obtain ⟨rfl, R1⟩ := he
          cases e1 with
          | normal => exact (hne _ _ hx).elim
          | _ => exact ⟨rfl, R1⟩
      | cond c x y =>
        simp only [codeOk, Bool.and_eq_true] at hok
        simp only [codeX] at hx
        have hc : opOk Γ.n c := opB_spec hok.1.1
        obtain ⟨ι, Rl⟩ := Rr
        have hcv := Rl.ev (Γ := Γ.at s) hc
        split at hx
        · rename_i hb
          rw [hb] at hcv
          exact wpIn_cond_split (vr_bo hcv) (fun _ => ih' x s h e s' h' hok.1.2 hx a w ⟨ι, Rl⟩) fun h => by cases h
        · rename_i hb
          rw [hb] at hcv
          exact wpIn_cond_split (vr_bo hcv) (fun h => by cases h) fun _ => ih' y s h e s' h' hok.2 hx a w ⟨ι, Rl⟩
        · cases hx
      | block id c =>
        simp only [codeOk] at hok
        simp only [codeX] at hx
        split at hx
        · rename_i i s1 h1 hx1
          refine wpIn_block (wpIn_mono (ih' c s h _ s1 h1 hok hx1 a w Rr) fun e1 a1 w1 he => ?_)
          obtain ⟨rfl, R1⟩ := he
          simp only [Exit.inBlock]
          split at hx
          · rename_i hi
            injection hx with hx
            simp only [Prod.mk.injEq] at hx
            obtain ⟨rfl, rfl, rfl⟩ := hx
            rw [if_pos (beq1 hi)]; exact ⟨rfl, R1⟩
          · rename_i hi
            injection hx with hx
            simp only [Prod.mk.injEq] at hx
            obtain ⟨rfl, rfl, rfl⟩ := hx
            rw [if_neg (beq0 hi)]; exact ⟨rfl, R1⟩
        · rename_i hne
          refine wpIn_block (wpIn_mono (ih' c s h e s' h' hok hx a w Rr) fun e1 a1 w1 he => ?_)
          obtain ⟨rfl, R1⟩ := he
          cases e1 with
          | exit i => exact (hne _ _ _ hx).elim
          | _ => exact ⟨rfl, R1⟩
      | scope c =>
        simp only [codeOk] at hok
        simp only [codeX] at hx
        split at hx
        · cases hx
        · rename_i hne
          refine wpIn_scope_straight (wpIn_mono (ih' c s h e s' h' hok hx a w Rr) fun e1 a1 w1 he => ?_)
          obtain ⟨rfl, R1⟩ := he
          cases e1 with
          | goto i => exact (hne _ _ hx).elim
          | _ => exact ⟨rfl, R1⟩
      | loop c =>
        have hokc : codeOk pl Γ.n c = true := by simpa [codeOk] using hok
        classical
        let J : Act → World → Nat → Prop := fun a w n => n ≤ k + 1 ∧ ∃ s h, codeX Γ.P prim call pl f Γ.n ro n (.loop c) s h = some (e, s', h') ∧ RC Γ s h a w
        refine wpIn_loop (fun a w => ∃ n, J a w n) (fun a w => if h : ∃ n, J a w n then Classical.choose (least h) else 0) ⟨k + 1, Nat.le_refl _, s, h, hx, Rr⟩ fun a w hI => ?_
        rw [dif_pos hI]
        obtain ⟨hle, s2, h2, hx2, R2⟩ := (Classical.choose_spec (least hI)).1
        generalize Classical.choose (least hI) = n at hle hx2
        cases n with
        | zero => simp [codeX] at hx2
        | succ n =>
          simp only [codeX] at hx2
          split at hx2
          · rename_i s3 h3 hx3
            refine wpIn_mono (ih n (by omega) c s2 h2 .normal s3 h3 hokc hx3 a w R2) fun e1 a1 w1 he => ?_
            obtain ⟨rfl, R3⟩ := he
            have hex : ∃ m, J a1 w1 m := ⟨n, by omega, s3, h3, hx2, R3⟩
            refine ⟨hex, ?_⟩
            rw [dif_pos hex]
            exact Nat.lt_succ_of_le ((Classical.choose_spec (least hex)).2 n ⟨by omega, s3, h3, hx2, R3⟩)
          · rename_i hne
            refine wpIn_mono (ih n (by omega) c s2 h2 e s' h' hokc hx2 a w R2) fun e1 a1 w1 he => ?_
            obtain ⟨rfl, R3⟩ := he
            cases e1 with
            | normal => exact (hne _ _ hx2).elim
            | _ => exact ⟨rfl, R3⟩
      | region id ops dr =>
        cases dr with
        | true =>
          simp only [codeOk, Bool.and_eq_true] at hok
          simp only [codeX] at hx
          split at hx
          · rename_i p hp
            rw [hp] at hok
            split at hx
            · rename_i s1 h1 hx1
              injection hx with hx
              simp only [Prod.mk.injEq] at hx
              obtain ⟨rfl, rfl, rfl⟩ := hx
              have hat : Γ.at s1 = Γ.at s := Bs.at_eq (planX_slot hns (opsOk_spec hok.1) p hx1)
              refine wpIn_region_any hM ?_
              refine plan_sound (Γ := Γ.at s) hprim hcall (opsOk_spec hok.1) (s1 := s1) (h1 := h1) (Q := ends Γ .normal s1 h1) (fun a w hR => ⟨rfl, by unfold RC; rw [hat]; exact hR⟩) p [] _ [] s h (planOkN_spec hok.2) hx1 [] _ _ (fun _ _ => false) a _ ⟨rfl, fun x hm => (by cases hm), fun p hp => (by cases hp), fun p hp => (by cases hp), fun p hp => (by cases hp), fun p hp => (by cases hp), fun p hp => (by cases hp), fun p hp => (by cases hp), fun p hp => (by cases hp), fun p hp => (by cases hp), fun p hp => (by cases hp), fun p hp => (by cases hp), fun x hm => ?_, fun x hm => ?_, by simp, by simp⟩ trivial (fun p hp => (by cases hp)) (Rr.drawn _) ?_
              · rw [getD_replicate] at hm; cases hm
              · rw [getD_replicate] at hm; cases hm
              · unfold left
                exact Nat.le_trans (List.length_filter_le _ _) (by simp)
            · cases hx
          · cases hx
        | false =>
          simp only [codeOk] at hok
          simp only [codeX] at hx
          split at hx
          · rename_i s1 h1 hx1
            injection hx with hx
            simp only [Prod.mk.injEq] at hx
            obtain ⟨rfl, rfl, rfl⟩ := hx
            have hat : Γ.at s1 = Γ.at s := Bs.at_eq (listX_slot hns _ (opsOk_spec hok) hx1)
            exact wpIn_region_list (list_sound (Γ := Γ.at s) hprim hcall (opsOk_spec hok) (s1 := s1) (h1 := h1) (Q := ends Γ .normal s1 h1) (fun a w hR => ⟨rfl, by unfold RC; rw [hat]; exact hR⟩) _ Rr (opsOk_spec hok) hx1)
          · cases hx
      | rangeFunc g ps as bd =>
        simp only [codeOk, Bool.and_eq_true] at hok
        have hgo : LG.good f Γ.n ps as bd := hg ps as bd (by unfold rangeOk; simp only [Bool.and_eq_true]; exact ⟨Nat.ble_eq_true_of_le hns, hok.2⟩)
        have hgx : opOk Γ.n g := opB_spec hok.1
        simp only [codeX] at hx
        split at hx
        · rename_i f' caps hgv
          split at hx
          · rename_i s1 h1 hen
            split at hx
            · rename_i r h2 hca
              obtain ⟨⟨fn', hf', hb', hn'⟩, hnn, hcl⟩ := (show FCall Γ.P f' _ _ _ _ from hcall (.fn f') _ _ _ _ hca)
              obtain ⟨ι, R⟩ := Rr
              have hev := R.ev (Γ := Γ.at s) hgx
              rw [hgv] at hev
              obtain ⟨cv, hev, hcv⟩ := vr_fn hev
              refine wpIn_rangeFunc fun fn _ => ?_
              obtain ⟨l, mark, w1, ι1, i, h3, h4, h5, h6, R1⟩ := enter_sound R hns hro hgo hen fn
              have hle : ι.le ι1 ∨ True := .inr trivial
              have hcv1 : VRL ι1 caps cv.toList := by
                have := R1.ev (Γ := Γ.at s1) (x := g) hgx
                have e : (Act.eval { a with defers := mark ++ a.defers } g) = a.eval g := by cases g <;> rfl
                rw [e, hev] at this
                have e2 : CO.ev s1 g = CO.ev s g := enter_ev hgx hns hen
                rw [e2, hgv] at this
                obtain ⟨cv', h, h'⟩ := vr_fn this
                injection h with _ _ h
                subst h
                exact h'
              have hvals : VRL ι1 (.yl (h1.n - 1) :: caps) (.func (.yield l) #[] #[] :: cv.toList) := VRL.cons (by rw [← h5]; exact .yl h4) hcv1
              have hcc := hcl Γ.N0 ι1 w1 _ (R1.wsize (Γ := Γ.at s1)) R1.sim hvals
              have he : ¬ fn'.body = none := by intro e; rw [e] at hb'; cases hb'
              have hne : ¬ fn'.name = "runtime.NumGoroutine" := by simpa using hn'
              refine ⟨l, mark, w1, { target := .fn (.func f') cv, args := #[.func (.yield l) #[] #[]] }, w1, f', (.func (.yield l) #[] #[] :: cv.toList).toArray, w1, h3, ?_, fun _ _ => trivial, ?_, fun h => by simp [Bs.F] at h, ?_⟩
              · simp [resolve, rangeCall, hev, Deferred.ofValue]
                rfl
              · simp [invoke, callFunc, program, Sem.run, hf', he, hne]
              · refine CallsIn.mono (F := Γ.F) (show CallsIn Fence.wide 0 Γ.P f' _ w1 _ from callsIn_wide.2 hcc) ?_
                rintro e3 w3 ⟨rv, ι3, rfl, g1, g2, g3, g4, g5⟩
                have R3 : Rl (Γ.at s1) [] s1 h2 { a with defers := mark ++ a.defers } w3 ι3 := by
                  have := R1.next (Γ := Γ.at s1) g1 g2 g3 g5 hnn (d := none) (fun t ht => by cases ht) g4
                  simpa [Fr.putO, Act.put] using this
                split at hx
                · rename_i h4' hle
                  simp only [Option.some.injEq, Prod.mk.injEq] at hx
                  obtain ⟨rfl, rfl, rfl⟩ := hx
                  obtain ⟨k1, k2, w4, k3, R4⟩ := leave_sound R3 (g1 _ _ h4) hle
                  rw [h5] at k3
                  exact ⟨none, w4, k3, rfl, ι3, R4⟩
                · rename_i c h4' hle
                  obtain ⟨k1, k2, w4, k3, R4⟩ := leave_sound R3 (g1 _ _ h4) hle
                  rw [h5] at k3
                  refine ⟨some c, w4, k3, ih' c s1 h4' e s' h' ?_ hx _ w4 ⟨ι3, R4⟩⟩
                  cases c <;> first | rfl | simp [jumpC] at k1
                · cases hx
            · cases hx
          · cases hx
        · cases hx
      | _ => simp [codeX] at hx
end

/-! ### Functions -/
def resOk (n : Nat) (l : List ResultVar) : Bool := l.all fun
  | .tmp t => Nat.blt t n
  | .cell a _ => Nat.blt a n
def resRun (tmps : Array Value) : ResultVar → Sem Value := fun
    | .tmp t => pure (tmps.getD t Go.undef)
    | .cell a t => do loadVar t (← asAddr (tmps.getD a Go.undef))
theorem run_results {P : Program} {fn : Func} {tmps : Array Value} {vs : List Value} {w : World} (h : (fn.results.toList.mapM (resRun tmps)).run P w = .ok vs w) : (results fn tmps).run P w = .ok (if h : vs.length = 1 then vs[0] else .tuple vs.toArray) w := by
  have h1 : (fn.results.mapM (resRun tmps)).run P w = .ok vs.toArray w := by
    rw [Array.mapM_eq_mapM_toList]
    simp [h]
  show (do
    let vs ← fn.results.mapM (resRun tmps)
    pure (if h : vs.size = 1 then vs[0] else .tuple vs) : Sem Value).run P w = _
  simp only [Sem.run_bind, h1, Result.andThen_ok, Sem.run_pure]
  congr 1
theorem resX_sound {Γ : Bs} {s : Fr} {h : Hp} {a : Act} {w : World} {ι : Im} (Rl : Rl Γ [] s h a w ι) : ∀ (l : List ResultVar) (vs : List CV), resOk Γ.n l = true → resX Γ.P s h l = some vs → ∃ us, VRL ι vs us ∧ us.length = l.length ∧ (l.mapM (resRun a.tmps)).run Γ.P w = .ok us w
  | [], vs, _, hx => by
    simp only [resX, Option.some.injEq] at hx
    subst hx
    exact ⟨[], VRL.nil ι, rfl, by simp⟩
  | .tmp t :: l, vs, hok, hx => by
    simp only [resOk, List.all_cons, Bool.and_eq_true] at hok
    simp only [resX] at hx
    split at hx
    · rename_i vs' hx'
      injection hx with hx; subst hx
      obtain ⟨us, h1, h2, h3⟩ := resX_sound Rl l vs' hok.2 hx'
      refine ⟨a.tmps.getD t Go.undef :: us, VRL.cons (Rl.tv t (blt1 hok.1)) h1, by simp [h2], ?_⟩
      simp [List.mapM_cons, resRun, h3]
    · cases hx
  | .cell ad t :: l, vs, hok, hx => by
    simp only [resOk, List.all_cons, Bool.and_eq_true] at hok
    simp only [resX] at hx
    split at hx
    · rename_i k off n g hk ht
      split at hx
      · rename_i v vs' hv hx'
        injection hx with hx; subst hx
        obtain ⟨us, h1, h2, h3⟩ := resX_sound Rl l vs' hok.2 hx'
        have h4 := Rl.tv ad (blt1 hok.1)
        rw [hk] at h4
        obtain ⟨i, hi, hav⟩ := vr_ptr h4
        obtain ⟨u, h5, h6⟩ := run_loadVar (P := Γ.P) (Rl.sim.blk k i hi) ht hv
        refine ⟨u :: us, VRL.cons h5 h1, by simp [h2], ?_⟩
        simp [List.mapM_cons, resRun, hav, asAddr, h6, h3]
      · cases hx
    · cases hx
theorem entry_at : ∀ (args : List CV) (i t : Nat), (entry i args).at t = if i ≤ t then args.getD (t - i) .undef else .undef
  | [], i, t => by
    have : (entry i []).at t = .undef := by
      simp only [entry, Fr.at, T.get]
      have : ∀ p : Ix, T.at p (T.lf : T CV) = none := by
        intro p; induction p with
        | e => rfl
        | l p ih => exact ih
        | r p ih => exact ih
      rw [this]
    rw [this]; simp
  | p :: args, i, t => by
    simp only [entry, Fr.at_set]
    by_cases h : t = i
    · subst h; simp
    · rw [if_neg h, entry_at args (i + 1) t]
      by_cases h2 : i ≤ t
      · rw [if_pos h2, if_pos (by omega), show t - i = (t - (i + 1)) + 1 by omega]; simp
      · rw [if_neg h2, if_neg (by omega)]
def funcOk (P : Program) (E : Env) (f : FuncId) : Bool := match P.funcs[f]? with
  | some fn => match fn.body with
    | some c => !(fn.name == "runtime.NumGoroutine") && Nat.ble fn.ntmps slot && resOk fn.ntmps fn.results.toList && codeOk (E.plan f) fn.ntmps c
    | none => true
  | none => true
theorem shutX_n : ∀ (ks : List Nat) {h h2 : Hp}, shutX ks h = some h2 → h2.n = h.n
  | [], h, h2, hx => by simp only [shutX, Option.some.injEq] at hx; rw [hx]
  | k :: ks, h, h2, hx => by
    simp only [shutX] at hx
    split at hx
    · exact shutX_n (h := h.set k .dead) ks hx
    · cases hx
/-- Whose code a range may hold. -/
def Goods (pl : FuncId → Nat → Option (List Stp)) : Prop := ∀ f n ps as bd, LG.good f n ps as bd ↔ rangeOk (pl f) n ps as bd = true
theorem body_call {P : Program} {E : Env} {call : CallX} (hG : Goods E.plan) (hM : P.follows .mixedOrders = true) (hprim : ∀ f args r, E.prim f args = some r → PrimW P f args r) (hcall : ∀ f args h r h', call f args h = some (r, h') → CCall P f args h r h') {f : FuncId} (hE : funcOk P E f = true) {fn : Func} {c : Code} (hf : P.funcs[f]? = some fn) (hb : fn.body = some c)
    {args : List CV} {h h' h2 : Hp} (hlen : args.length ≤ fn.ntmps) {e : Exit} (he : e = .normal ∨ e = .ret) {s : Fr} (hn : h.n ≤ h'.n) (hx : codeX P E.prim call (E.plan f) f fn.ntmps none E.fuel c (entry 0 args) h = some (e, s, h')) (hsh : shutX (marks (s.at slot)) h' = some h2) {vs : List CV} (hr : resX P s h2 fn.results.toList = some vs) : FCall P f args h (packR vs) h2 := by
  unfold funcOk at hE
  rw [hf] at hE
  dsimp only at hE
  rw [hb] at hE
  simp only [Bool.and_eq_true, Bool.not_eq_true'] at hE
  obtain ⟨⟨⟨hE1, hE0⟩, hE2⟩, hE3⟩ := hE
  have hns : fn.ntmps ≤ slot := ble1 hE0
  refine ⟨⟨fn, hf, by simp [hb], hE1⟩, by rw [shutX_n _ hsh]; exact hn, fun N0 ι w vals hN S hv => callsIn_wide.1 (callsIn_of_wp_marks (F := Fence.wide) (n := 0) hf hb trivial ?_)⟩
  let Γ : Bs := { P := P, w0 := w, N0 := N0, ι0 := ι, n0 := h.n, n := fn.ntmps, rd := none, mks := [] }
  have hvl := hv.1
  have hslot : (entry 0 args).at slot = .undef := by
    rw [entry_at, if_pos (Nat.zero_le _), Nat.sub_zero, List.getD_eq_getElem?_getD]
    rw [List.getElem?_eq_none (by omega)]; rfl
  have R0 : RC Γ (entry 0 args) h { tmps := vals.toArray ++ Array.replicate (fn.ntmps - vals.toArray.size) Go.undef, defers := [] } w := by
    refine ⟨ι, ?_, ?_, Im.le_refl ι, fun k _ hk => hk, fun k hk => (by cases hk), S, fun t ht => ?_, Ext.refl _ _, Nat.le_refl _, hN⟩
    · show DfR ι (marks ((entry 0 args).at slot)) []
      rw [hslot]; trivial
    · show (vals.toArray ++ Array.replicate (fn.ntmps - vals.toArray.size) Go.undef).size = fn.ntmps
      simp; omega
    · rw [entry_at, if_pos (Nat.zero_le _), Nat.sub_zero]
      by_cases h2 : t < args.length
      · have h3 := hv.2 t h2
        have h4 : (vals.toArray ++ Array.replicate (fn.ntmps - vals.toArray.size) Go.undef).getD t Go.undef = vals.getD t Go.undef := by
          simp only [Array.getD_eq_getD_getElem?, List.getD_eq_getElem?_getD, Array.getElem?_append, List.size_toArray, List.getElem?_toArray]
          rw [if_pos (by omega)]
        rw [h4, List.getD_eq_getElem?_getD, List.getElem?_eq_getElem h2]; exact h3
      · rw [List.getD_eq_getElem?_getD, List.getElem?_eq_none (by omega)]; exact .undef _
  refine wpIn_mono (F := Fence.wide) (codeX_sound (Γ := Γ) (ro := none) hns rfl (fun ps as bd hk => (hG _ _ _ _ _).2 hk) hM hprim hcall _ _ _ _ _ _ _ hE3 hx _ _ R0) fun e1 a1 w1 hen => ?_
  obtain ⟨rfl, ι1, R1⟩ := hen
  have hfin : LeavesInM Fence.wide 0 P fn a1.tmps (fun e w' => ∃ (rv : Value) (ι' : Im), e = .returned rv ∧ ι.le ι' ∧ (∀ k, k < h.n → ι k = none → ι' k = none) ∧ Sim N0 ι' h2 w' ∧ VR ι' (packR vs) rv ∧ Ext N0 w w') a1.defers .returning w1 := by
    refine shut_sound (N0 := N0) (marks (s.at slot)) a1.defers h' h2 w1 R1.df hsh R1.sim fun w2 hn2 S2 E2 => ?_
    have R2 : Rl (Γ.at s) [] s h2 a1 w2 ι1 := R1.to hn2 S2 E2
    obtain ⟨us, h1, h2, h3⟩ := resX_sound R2 _ vs hE2 hr
    have hrun := run_results (P := P) (fn := fn) h3
    refine ⟨_, hrun, _, ι1, rfl, R2.le, R2.dom, R2.sim, ?_, R2.ext⟩
    have hul := h1.1
    match vs, us, hul, h1 with
    | [], [], _, h1 => exact VR.tup' h1
    | [p], [u], _, h1 => exact (VRL.tail h1).1
    | p :: q :: vs, u :: v :: us, _, h1 =>
      have : ¬ (u :: v :: us).length = 1 := by simp
      rw [dif_neg this]
      exact VR.tup' (by simpa using h1)
  rcases he with rfl | rfl <;> exact hfin
theorem round_call {P : Program} {E : Env} {call : CallX} (hG : Goods E.plan) (hM : P.follows .mixedOrders = true) (hprim : ∀ f args r, E.prim f args = some r → PrimW P f args r) (hcall : ∀ f args h r h', call f args h = some (r, h') → CCall P f args h r h') {k : Nat} {args : List CV} {h h' : Hp} {c : CV} (hx : roundX P E call k args h = some (c, h')) : YCall P k args h c h' := by
  unfold roundX at hx
  split at hx
  · rename_i r hk
    split at hx
    · rename_i s0 hp
      split at hx
      · rename_i s1 h1 hx1
        split at hx
        · rename_i h2 hb2
          split at hx
          · rename_i e s2 h3 hx3
            split at hx
            · rename_i hnn
              have hnn := ble1 hnn
              have hn' : h'.n = h3.n := by
                unfold endX at hx
                split at hx
                · split at hx
                  · simp only [Option.some.injEq, Prod.mk.injEq] at hx; rw [← hx.2]; rfl
                  · simp only [Option.some.injEq, Prod.mk.injEq] at hx; rw [← hx.2]; rfl
                  · cases hx
                · cases hx
              refine ⟨by rw [hn']; exact hnn, fun N0 ι w vals i hN S hv hi => ?_⟩
              have hb := S.blk k i hi
              rw [hk] at hb
              obtain ⟨fn0, tmps0, d0, hb1, hb2', hb3, hb4⟩ := hb
              have hgd := (hG _ _ _ _ _).1 hb4
              unfold rangeOk at hgd
              simp only [Bool.and_eq_true] at hgd
              have hns : r.n ≤ slot := ble1 hgd.1
              have hps : ∀ t ∈ r.ps.toList, @LT.lt Nat _ t r.n := fun t ht => blt1 (List.all_eq_true.1 hgd.2.1.1 t ht)
              obtain ⟨g1, g2, g3, g4⟩ := putAll_sound hns _ _ vals _ _ tmps0 hp hv hps hb2' fun t ht => by
                rw [Fr.at_set, if_neg (by omega)]
                exact hb3 t ht
              have hsz : vals.toArray.size = r.ps.size := by simpa using g1
              refine ⟨_, _, _, _, run_yield hb1 hsz, ?_⟩
              have hfold : ((r.ps.zip vals.toArray).foldl (fun (tmps : Array Value) (t, a) => tmps.setIfInBounds t a) tmps0) = ((r.ps.toList.zip vals).foldl (fun tm x => tm.setIfInBounds x.1 x.2) tmps0) := by
                rw [← Array.foldl_toList, Array.toList_zip]
              let Γ : Bs := { P := P, w0 := w, N0 := N0, ι0 := ι, n0 := h.n, n := r.n, rd := some i.b, mks := [] }
              have hslot : s0.at slot = .undef := by rw [g2, Fr.at_set, if_pos rfl]
              have R0 : RC Γ s0 h { tmps := (r.ps.toList.zip vals).foldl (fun tm x => tm.setIfInBounds x.1 x.2) tmps0, defers := [] } w := by
                refine ⟨ι, ?_, g3, Im.le_refl ι, fun k _ hk => hk, fun k hk => (by cases hk), S, g4, Ext.refl _ _, Nat.le_refl _, hN⟩
                show DfR ι (marks (s0.at slot)) []
                rw [hslot]; trivial
              have hgd' : ∀ ps as bd, rangeOk (E.plan r.f) r.n ps as bd = true → LG.good r.f r.n ps as bd := fun ps as bd hk => (hG _ _ _ _ _).2 hk
              have hro : Rnd Γ (some k) := ⟨i, hi, rfl⟩
              refine roundIn_of_wpIn (F := Fence.wide) trivial ?_
              refine wpIn_mono (F := Fence.wide.inRound i.b) (codeX_sound (Γ := Γ) (ro := some k) hns hro hgd' hM hprim hcall _ _ _ _ _ _ _ hgd.2.1.2 hx1 _ _ (by dsimp only; rw [hfold]; exact R0)) fun e1 a1 w1 hen => ?_
              obtain ⟨rfl, ι1, R1⟩ := hen
              obtain ⟨k1, w2, k2, R2⟩ := begin_sound R1 (R1.le _ _ hi) hb2
              refine ⟨w2, k2, ?_⟩
              refine wpIn_mono (F := Fence.wide.inRound i.b) (codeX_sound (Γ := Γ) (ro := some k) hns hro hgd' hM hprim hcall _ _ _ _ _ _ _ hgd.2.2 hx3 _ _ ⟨ι1, R2⟩) fun e1 a1 w1 hen => ?_
              obtain ⟨rfl, ι3, R3⟩ := hen
              obtain ⟨k3, j, v, w4, k4, k5, k6, R4⟩ := end_sound R3 (R3.le _ _ hi) hx
              have fin : ∃ (rv : Value) (ι' : Im), Ending.returned v = .returned rv ∧ ι.le ι' ∧ (∀ k, k < h.n → ι k = none → ι' k = none) ∧ Sim N0 ι' h' w4 ∧ VR ι' c rv ∧ Ext N0 w w4 := ⟨v, ι3, rfl, R4.le, R4.dom, R4.sim, k6, R4.ext⟩
              cases e1 <;> simp only [jumpX, Option.some.injEq, reduceCtorEq] at k4
              · subst k4; exact ⟨v, w4, k5, fin⟩
              · subst k4; exact ⟨v, w4, k5, fin⟩
              · subst k4; exact ⟨v, w4, k5, fin⟩
              · subst k4; exact ⟨v, w4, k5, fin⟩
            · cases hx
          · cases hx
        · cases hx
      · cases hx
    · cases hx
  · cases hx
end Go.CO
