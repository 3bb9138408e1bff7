/- The reckoner with memory: frames, calls, regions in the order of their text. -/
import Derived.Test.YtommoodcdkjggabGreatDoorCo10
import Derived.CallsIn
import Derived.OrdersIn
import Derived.TacticsIn
import Derived.RangeFuncIn
import Derived.RangeFuncLeaves
set_option linter.unusedVariables false
set_option linter.unusedSectionVars false
set_option linter.unusedSimpArgs false
namespace Go.CO
variable [LG] [HK]

def goes (P : Program) (f : FuncId) : Prop := ∃ fn, P.funcs[f]? = some fn ∧ fn.body.isSome = true ∧ (fn.name == "runtime.NumGoroutine") = false
/-- The call comes to r, and the blocks to h'. -/
def FCall (P : Program) (f : FuncId) (args : List CV) (h : Hp) (r : CV) (h' : Hp) : Prop :=
  goes P f ∧ h.n ≤ h'.n ∧ ∀ (N0 : Nat) (ι : Im) (w : World) (vals : List Value), N0 ≤ w.heap.size → Sim N0 ι h w → VRL ι args vals → Calls P f vals.toArray w fun e w' => ∃ (rv : Value) (ι' : Im), e = .returned rv ∧ ι.le ι' ∧ (∀ k, k < h.n → ι k = none → ι' k = none) ∧ Sim N0 ι' h' w' ∧ VR ι' r rv ∧ Ext N0 w w'
/-- A round comes to r, and the blocks to h'. -/
def YCall (P : Program) (k : Nat) (args : List CV) (h : Hp) (r : CV) (h' : Hp) : Prop :=
  h.n ≤ h'.n ∧ ∀ (N0 : Nat) (ι : Im) (w : World) (vals : List Value) (i : Inf), N0 ≤ w.heap.size → Sim N0 ι h w → VRL ι args vals → ι k = some i → ∃ (f : FuncId) (tmps : Array Value) (as bd : Code), (Instr.yield i.b vals.toArray).run P w = .ok (.round i.b f tmps as bd) w ∧ RoundIn Fence.wide 0 P i.b f tmps as bd w fun e w' => ∃ (rv : Value) (ι' : Im), e = .returned rv ∧ ι.le ι' ∧ (∀ k, k < h.n → ι k = none → ι' k = none) ∧ Sim N0 ι' h' w' ∧ VR ι' r rv ∧ Ext N0 w w'
def CCall (P : Program) : Tg → List CV → Hp → CV → Hp → Prop
  | .fn f => FCall P f
  | .yl k => YCall P k
/-- A function of the library without a body. -/
def PrimW (P : Program) (f : FuncId) (args : List CV) (r : CV) : Prop := ∀ (ι : Im) (w : World) (vals : List Value), VRL ι args vals → ∃ v, VR ι r v ∧ (callFunc f vals.toArray).run P w = .ok (.value v) w

/-- A frame's base: the program, the world and the blocks at its start, how many temporaries. -/
structure Bs where
  P : Program
  w0 : World
  N0 : Nat
  ι0 : Im
  n0 : Nat
  n : Nat
  rd : Option Nat
  mks : List Nat
/-- The marks among a frame's deferred calls. -/
def DfR (ι : Im) : List Nat → List Deferred → Prop
  | [], [] => True
  | k :: ks, d :: ds => (∃ i, ι k = some i ∧ d = { target := .collected i.b, args := #[] }) ∧ DfR ι ks ds
  | _, _ => False
theorem DfR.mono {ι ι' : Im} (hle : ι.le ι') : ∀ {ks : List Nat} {ds : List Deferred}, DfR ι ks ds → DfR ι' ks ds
  | [], [], h => h
  | k :: ks, d :: ds, ⟨⟨i, h1, h2⟩, h3⟩ => ⟨⟨i, hle _ _ h1, h2⟩, h3.mono hle⟩
  | [], _ :: _, h => h.elim
  | _ :: _, [], h => h.elim
/-- The fence of the frame: any function, and a round's frame or not. -/
def Bs.F (Γ : Bs) : Fence := { fn := fun _ => True, depth := none, alive := false, round := Γ.rd }
structure Rl (Γ : Bs) (av : List Nat) (s : Fr) (h : Hp) (a : Act) (w : World) (ι : Im) : Prop where
  df : DfR ι Γ.mks a.defers
  tn : a.tmps.size = Γ.n
  le : Γ.ι0.le ι
  dom : ∀ k, k < Γ.n0 → Γ.ι0 k = none → ι k = none
  av : ∀ k ∈ av, ι k = none ∧ k < h.n
  sim : Sim Γ.N0 ι h w
  tv : ∀ t, @LT.lt Nat _ t Γ.n → VR ι (s.at t) (a.tmps.getD t Go.undef)
  ext : Ext Γ.N0 Γ.w0 w
  hn : Γ.n0 ≤ h.n
  h0 : Γ.N0 ≤ Γ.w0.heap.size
def R (Γ : Bs) (av : List Nat) (s : Fr) (h : Hp) (a : Act) (w : World) : Prop := ∃ ι, Rl Γ av s h a w ι
def opOk (n : Nat) (x : Operand) : Prop := ∀ t, x = .tmp t → @LT.lt Nat _ t n
def operOk (n : Nat) (o : Oper) : Prop := (∀ d, o.dst = some d → @LT.lt Nat _ d n) ∧ ∀ x ∈ o.op.operands.toList, opOk n x

section
variable {Γ : Bs} {av : List Nat} {s : Fr} {h h' : Hp} {a : Act} {w w' : World} {ι ι' : Im}
theorem Rl.ev (R : Rl Γ av s h a w ι) {x : Operand} (hx : opOk Γ.n x) : VR ι (CO.ev s x) (a.eval x) := by
  cases x with
  | tmp t => exact R.tv t (hx t rfl)
  | const v => exact vr_value ι v
  | global g => exact .undef _
  | func f => exact VR.fn' (VRL.nil ι)
theorem put_tmps_getD (a : Act) (d t : Nat) (v : Value) (h : d < a.tmps.size) : (a.put (some d) v).tmps.getD t Go.undef = if t = d then v else a.tmps.getD t Go.undef := by
  simp only [Act.put, Array.getD_eq_getD_getElem?, Array.getElem?_setIfInBounds]
  by_cases e : t = d
  · subst e; simp [h]
  · rw [if_neg (Ne.symm e), if_neg e]
theorem put_tmps_size (a : Act) (d : Option Tmp) (v : Value) : (a.put d v).tmps.size = a.tmps.size := by
  cases d <;> simp [Act.put]
/-- An operation is done: the frame goes on. -/
theorem Rl.next (R : Rl Γ av s h a w ι) (hle : ι.le ι') (hdom : ∀ k, k < h.n → ι k = none → ι' k = none) (hsim : Sim Γ.N0 ι' h' w') (hext : Ext Γ.N0 w w') (hn : h.n ≤ h'.n) {d : Option Tmp} (hd : ∀ t, d = some t → @LT.lt Nat _ t Γ.n) {p : CV} {v : Value} (hv : VR ι' p v) :
    Rl Γ av (Fr.putO s d p) h' (a.put d v) w' ι' := by
  refine ⟨?_, by rw [put_tmps_size]; exact R.tn, R.le.trans hle, fun k h1 h2 => hdom k (Nat.lt_of_lt_of_le h1 R.hn) (R.dom k h1 h2), fun k hk => ⟨hdom k (R.av k hk).2 (R.av k hk).1, Nat.lt_of_lt_of_le (R.av k hk).2 hn⟩, hsim, fun t ht => ?_, R.ext.trans hext, Nat.le_trans R.hn hn, R.h0⟩
  · cases d <;> simp [Act.put] <;> exact R.df.mono hle
  · cases d with
    | none => exact (R.tv t ht).mono hle
    | some d =>
      rw [put_tmps_getD a d t v (by rw [R.tn]; exact hd d rfl)]
      simp only [Fr.putO, Fr.at_set]
      by_cases e : t = d
      · rw [if_pos e, if_pos e]; exact hv
      · rw [if_neg e, if_neg e]; exact (R.tv t ht).mono hle
theorem Rl.wsize (R : Rl Γ av s h a w ι) : Γ.N0 ≤ w.heap.size := Nat.le_trans R.h0 R.ext.size

/-- What an operation's soundness comes to. -/
def Snd (Γ : Bs) (av : List Nat) (o : Oper) (a : Act) (w : World) (s' : Fr) (h' : Hp) (Q : Exit → Act → World → Prop) : Prop := o.wpIn Γ.F 0 Γ.P a w (fun a' w' => R Γ av s' h' a' w') Q
theorem Ws.snd {o : Oper} {c : CV} {Q : Exit → Act → World → Prop} (R : Rl Γ av s h a w ι) (ho : operOk Γ.n o) (hd : ∀ c, o.op ≠ .defer c) (hw : Ws Γ.P Γ.N0 ι h w a.eval o c h') : Snd Γ av o a w (Fr.putO s o.dst c) h' Q := by
  obtain ⟨ι', w', h1, h2, h3, h4, h5, h6⟩ := hw
  unfold Snd Oper.wpIn
  refine ⟨fun _ _ => trivial, ?_⟩
  rw [Oper.semAt_eq _ _ _ hd]
  rcases h1 with ⟨v, hr, hv⟩ | ⟨hr, rfl⟩
  · rw [hr]; exact ⟨ι', R.next h2 h3 h4 h5 h6 ho.1 hv⟩
  · rw [hr]; exact ⟨ι', R.next h2 h3 h4 h5 h6 ho.1 (.undef _)⟩
theorem opX_nd {P : Program} {o : Oper} {e : Operand → CV} {h h' : Hp} {c : CV} (hc : opX P o e h = some (c, h')) : ∀ cl, o.op ≠ .defer cl := by
  intro cl he
  simp [opX, qX, layX, wX, he] at hc
theorem opX_snd {o : Oper} {c : CV} {Q : Exit → Act → World → Prop} (Rr : R Γ av s h a w) (ho : operOk Γ.n o) (hc : opX Γ.P o (CO.ev s) h = some (c, h')) : Snd Γ av o a w (Fr.putO s o.dst c) h' Q := by
  obtain ⟨ι, R⟩ := Rr
  exact Ws.snd R ho (opX_nd hc) (opX_sound R.sim R.wsize (fun x hx => R.ev (ho.2 x hx)) hc)

/-- A call. -/
theorem call_snd {o : Oper} {cl : Call} {g : Operand} {c : CV} {f : FuncId} {caps : List CV} {Q : Exit → Act → World → Prop} (Rr : R Γ av s h a w) (ho : operOk Γ.n o) (he : o.op = .call cl) (hcl : cl.callee = .value g) (hg : CO.ev s g = .fn f caps) (hC : FCall Γ.P f (cl.args.toList.map (CO.ev s) ++ caps) h c h') : Snd Γ av o a w (Fr.putO s o.dst c) h' Q := by
  obtain ⟨ι, R⟩ := Rr
  have hgo : opOk Γ.n g := ho.2 g (by simp [he, Op.operands, Call.operands, hcl])
  have hargs : ∀ x ∈ cl.args.toList, opOk Γ.n x := fun x hx => ho.2 x (by simp [he, Op.operands, Call.operands, hcl]; simp at hx; exact .inr hx)
  have hgv := R.ev hgo
  rw [hg] at hgv
  obtain ⟨cv, hev, hcv⟩ := vr_fn hgv
  obtain ⟨⟨fn, hf, hb, hn⟩, hnn, hcall⟩ := hC
  have hvals := (vrl_map (ι := ι) cl.args.toList (CO.ev s) a.eval fun x hx => R.ev (hargs x hx)).append hcv
  have hrun : (execOp a.eval o).run Γ.P w = .ok (.enter f (cl.args.toList.map a.eval ++ cv.toList).toArray) w := by
    have e : ¬ fn.body = none := by intro e; rw [e] at hb; cases hb
    have hn' : ¬ fn.name = "runtime.NumGoroutine" := by simpa using hn
    unfold execOp; rw [he]
    simp [resolve, hcl, hev, Deferred.ofValue, invoke, callFunc, program, Sem.run, hf, e, hn']
  unfold Snd Oper.wpIn
  refine ⟨fun _ _ => trivial, ?_⟩
  rw [Oper.semAt_eq _ _ _ (by intro c; rw [he]; simp), hrun, Oper.uponIn_enter]
  refine ⟨fun h => by simp [Bs.F] at h, ?_⟩
  refine CallsIn.mono (F := Γ.F) (show CallsIn Fence.wide 0 Γ.P f _ w _ from callsIn_wide.2 (hcall Γ.N0 ι w _ R.wsize R.sim hvals)) ?_
  rintro e w' ⟨rv, ι', rfl, h1, h2, h3, h4, h5⟩
  exact ⟨ι', R.next h1 h2 h3 h5 hnn ho.1 h4⟩
theorem yield_snd {o : Oper} {cl : Call} {g : Operand} {c : CV} {k : Nat} {Q : Exit → Act → World → Prop} (Rr : R Γ av s h a w) (ho : operOk Γ.n o) (he : o.op = .call cl) (hcl : cl.callee = .value g) (hg : CO.ev s g = .yl k) (hC : YCall Γ.P k (cl.args.toList.map (CO.ev s)) h c h') : Snd Γ av o a w (Fr.putO s o.dst c) h' Q := by
  obtain ⟨ι, R⟩ := Rr
  have hgo : opOk Γ.n g := ho.2 g (by simp [he, Op.operands, Call.operands, hcl])
  have hargs : ∀ x ∈ cl.args.toList, opOk Γ.n x := fun x hx => ho.2 x (by simp [he, Op.operands, Call.operands, hcl]; simp at hx; exact .inr hx)
  have hgv := R.ev hgo
  rw [hg] at hgv
  obtain ⟨i, hi, hev⟩ := vr_yl hgv
  obtain ⟨hnn, hcall⟩ := hC
  have hvals := vrl_map (ι := ι) cl.args.toList (CO.ev s) a.eval fun x hx => R.ev (hargs x hx)
  obtain ⟨f, tmps, as, bd, h1, h2⟩ := hcall Γ.N0 ι w _ i R.wsize R.sim hvals hi
  have hrun : (execOp a.eval o).run Γ.P w = .ok (.round i.b f tmps as bd) w := by
    have h3 : (cl.args.toList.map a.eval).toArray = cl.args.map a.eval := by rw [← Array.toList_map, Array.toArray_toList]
    rw [h3] at h1
    unfold execOp; rw [he]
    simp [resolve, hcl, hev, Deferred.ofValue, invoke, h1]
  unfold Snd Oper.wpIn
  refine ⟨fun _ _ => trivial, ?_⟩
  rw [Oper.semAt_eq _ _ _ (by intro c; rw [he]; simp), hrun, Oper.uponIn_round]
  refine ⟨fun h => by simp [Bs.F] at h, ?_⟩
  refine RoundIn.mono (F := Γ.F) (show RoundIn Fence.wide 0 Γ.P i.b f tmps as bd w _ from h2) ?_
  rintro e w' ⟨rv, ι', rfl, h1, h2, h3, h4, h5⟩
  exact ⟨ι', R.next h1 h2 h3 h5 hnn ho.1 h4⟩
theorem prim_snd {o : Oper} {cl : Call} {g : Operand} {c : CV} {f : FuncId} {caps : List CV} {Q : Exit → Act → World → Prop} (Rr : R Γ av s h a w) (ho : operOk Γ.n o) (he : o.op = .call cl) (hcl : cl.callee = .value g) (hg : CO.ev s g = .fn f caps) (hC : PrimW Γ.P f (cl.args.toList.map (CO.ev s) ++ caps) c) : Snd Γ av o a w (Fr.putO s o.dst c) h Q := by
  obtain ⟨ι, R⟩ := Rr
  have hgo : opOk Γ.n g := ho.2 g (by simp [he, Op.operands, Call.operands, hcl])
  have hargs : ∀ x ∈ cl.args.toList, opOk Γ.n x := fun x hx => ho.2 x (by simp [he, Op.operands, Call.operands, hcl]; simp at hx; exact .inr hx)
  have hgv := R.ev hgo
  rw [hg] at hgv
  obtain ⟨cv, hev, hcv⟩ := vr_fn hgv
  have hvals := (vrl_map (ι := ι) cl.args.toList (CO.ev s) a.eval fun x hx => R.ev (hargs x hx)).append hcv
  obtain ⟨v, h1, h2⟩ := hC ι w _ hvals
  have hrun : (execOp a.eval o).run Γ.P w = .ok (.value v) w := by
    have h3 : (cl.args.map a.eval ++ cv) = (cl.args.toList.map a.eval ++ cv.toList).toArray := by simp
    unfold execOp; rw [he]
    simp only [resolve, hcl, hev, Deferred.ofValue, invoke, Sem.run_bind, Sem.run_pure, Result.andThen_ok, Array.empty_append, h3, h2]
  unfold Snd Oper.wpIn
  refine ⟨fun _ _ => trivial, ?_⟩
  rw [Oper.semAt_eq _ _ _ (by intro c; rw [he]; simp), hrun]
  exact ⟨ι, R.next (Im.le_refl ι) (fun _ _ hk => hk) R.sim (Ext.refl _ _) (Nat.le_refl _) ho.1 h1⟩
theorem opC_snd {prim : PrimX} {call : CallX} (hprim : ∀ f args r, prim f args = some r → PrimW Γ.P f args r) (hcall : ∀ f args h r h', call f args h = some (r, h') → CCall Γ.P f args h r h') {o : Oper} {c : CV} {Q : Exit → Act → World → Prop} (Rr : R Γ av s h a w) (ho : operOk Γ.n o)
    (hc : opC Γ.P prim call o (CO.ev s) h = some (c, h')) : Snd Γ av o a w (Fr.putO s o.dst c) h' Q := by
  unfold opC at hc
  split at hc
  · rename_i cl he
    split at hc
    · rename_i g hcl
      split at hc
      · rename_i f caps hg
        split at hc
        · rename_i v hp
          injection hc with hc
          simp only [Prod.mk.injEq] at hc
          obtain ⟨rfl, rfl⟩ := hc
          exact prim_snd Rr ho he hcl hg (hprim _ _ _ hp)
        · exact call_snd Rr ho he hcl hg (hcall (.fn _) _ _ _ _ hc)
      · rename_i k hg
        exact yield_snd Rr ho he hcl hg (hcall (.yl _) _ _ _ _ hc)
      · cases hc
    · exact opX_snd Rr ho hc
  · exact opX_snd Rr ho hc
/-- An operation is passed over. -/
theorem R.skp (Rr : R Γ av s h a w) {d : Option Tmp} (hd : ∀ t, d = some t → @LT.lt Nat _ t Γ.n) : R Γ av (Fr.putO s d .skp) h (a.put d Go.undef) w := by
  obtain ⟨ι, R⟩ := Rr
  exact ⟨ι, R.next (Im.le_refl ι) (fun _ _ hk => hk) R.sim (Ext.refl _ _) (Nat.le_refl _) hd .skp⟩
theorem want_sound (Rr : R Γ av s h a w) {ops : Array Oper} (hops : ∀ o ∈ ops.toList, operOk Γ.n o) {o : Oper} {b : Bool} (hw : wantX ops o s = some b) : Region.wanted o (yielded ops a.tmps) = b := by
  obtain ⟨ι, R⟩ := Rr
  unfold wantX at hw
  cases hg : o.guard with
  | none => rw [hg] at hw; injection hw with hw; subst hw; simp [Region.wanted, hg]
  | some g =>
    obtain ⟨j, want⟩ := g
    rw [hg] at hw
    dsimp only at hw
    cases hj : ops[j]? with
    | none => rw [hj] at hw; cases hw
    | some oj =>
      rw [hj] at hw
      dsimp only at hw
      cases ht : oj.dst with
      | none => rw [ht] at hw; cases hw
      | some t =>
        rw [ht] at hw
        dsimp only at hw
        have htn : @LT.lt Nat _ t Γ.n := (hops oj (Array.mem_toList_iff.2 (Array.mem_of_getElem? hj))).1 t ht
        have hO := R.tv t htn
        have hy : yielded ops a.tmps j = match a.tmps.getD t Go.undef with | .bool b => some b | _ => none := by
          unfold yielded
          rw [hj, Option.bind_some, ht, Option.bind_some]
          have h2 : t < a.tmps.size := by rw [R.tn]; exact htn
          have h3 : a.tmps.getD t Go.undef = a.tmps[t] := by simp [Array.getD, h2]
          rw [h3, Array.getElem?_eq_getElem h2]
          cases a.tmps[t] <;> rfl
        split at hw
        · rename_i x hx
          rw [hx] at hO
          rw [vr_bo hO] at hy
          injection hw with hw
          subst hw
          simp [Region.wanted, hg, hy]
        · rename_i hx
          rw [hx] at hO
          injection hw with hw
          subst hw
          generalize hv : a.tmps.getD t Go.undef = v at hO hy
          cases hO
          have hy : yielded ops a.tmps j = none := hy
          simp [Region.wanted, hg, hy]
        · cases hw
/-- A region in the order of its text. -/
theorem list_sound {prim : PrimX} {call : CallX} (hprim : ∀ f args r, prim f args = some r → PrimW Γ.P f args r) (hcall : ∀ f args h r h', call f args h = some (r, h') → CCall Γ.P f args h r h') {ops : Array Oper} (hops : ∀ o ∈ ops.toList, operOk Γ.n o) {Q : Exit → Act → World → Prop} {s1 : Fr} {h1 : Hp} (hQ : ∀ a w, R Γ av s1 h1 a w → Q .normal a w) (l : List Oper) :
    ∀ {s : Fr} {h : Hp} {a : Act} {w : World}, R Γ av s h a w → (∀ o ∈ l, operOk Γ.n o) → listX Γ.P prim call ops l s h = some (s1, h1) → wpListIn Γ.F 0 Γ.P ops Q l a w := by
  induction l with
  | nil =>
    intro s h a w Rr _ hx
    simp only [listX, Option.some.injEq, Prod.mk.injEq] at hx
    obtain ⟨rfl, rfl⟩ := hx
    exact hQ a w Rr
  | cons o l ih =>
    intro s h a w Rr hl hx
    have hok := hl o List.mem_cons_self
    have hl' : ∀ o ∈ l, operOk Γ.n o := fun o ho => hl o (List.mem_cons_of_mem _ ho)
    unfold wpListIn
    simp only [listX] at hx
    split at hx
    · rename_i hw
      split at hx
      · rename_i v h' hc
        rw [if_pos (want_sound Rr hops hw)]
        exact (Oper.wpIn_mono (fun a' w' hR => ih hR hl' hx) (opC_snd hprim hcall (Q := Q) Rr hok hc))
      · cases hx
    · rename_i hw
      rw [if_neg (by rw [want_sound Rr hops hw]; simp)]
      exact ⟨fun _ _ => trivial, ih (Rr.skp hok.1) hl' hx⟩
    · cases hx
end
end Go.CO
