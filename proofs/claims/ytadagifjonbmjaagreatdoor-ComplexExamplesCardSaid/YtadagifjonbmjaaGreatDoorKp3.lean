import Derived.Test.YtadagifjonbmjaaGreatDoorKp2
import Derived.CallsIn
import Derived.OrdersIn
import Derived.TacticsIn
import Derived.RangeFuncIn
import Derived.RangeFuncLeaves
set_option linter.all false
namespace Go.CP
variable [LG] [HK]
def qY (P : Program) (f : FuncId) : Prop := ∃ fn, P.funcs[f]? = some fn ∧ fn.body.isSome = true ∧ (fn.name == "runtime.NumGoroutine") = false
def FCall (P : Program) (f : FuncId) (args : List CV) (h : Hp) (r : CV) (h' : Hp) : Prop :=
 qY P f ∧ h.n ≤ h'.n ∧ ∀ (N0 : Nat) (ι : Im) (w : World) (vals : List Value), N0 ≤ w.heap.size → Sim N0 ι h w → VRL ι args vals → Calls P f vals.toArray w fun e w' => ∃ (rv : Value) (ι' : Im), e = .returned rv ∧ ι.le ι' ∧ (∀ k, k < h.n → ι k = none → ι' k = none) ∧ Sim N0 ι' h' w' ∧ VR ι' r rv ∧ Ext N0 w w'
def uF (P : Program) (k : Nat) (args : List CV) (h : Hp) (r : CV) (h' : Hp) : Prop :=
 h.n ≤ h'.n ∧ ∀ (N0 : Nat) (ι : Im) (w : World) (vals : List Value) (i : cE), N0 ≤ w.heap.size → Sim N0 ι h w → VRL ι args vals → ι k = some i → ∃ (f : FuncId) (tmps : Array Value) (as bd : Code), (Instr.yield i.b vals.toArray).run P w = .ok (.round i.b f tmps as bd) w ∧ RoundIn Fence.wide 0 P i.b f tmps as bd w fun e w' => ∃ (rv : Value) (ι' : Im), e = .returned rv ∧ ι.le ι' ∧ (∀ k, k < h.n → ι k = none → ι' k = none) ∧ Sim N0 ι' h' w' ∧ VR ι' r rv ∧ Ext N0 w w'
def je (P : Program) : Tg → List CV → Hp → CV → Hp → Prop
 | .fn f => FCall P f
 | .yl k => uF P k
def eG (P : Program) (f : FuncId) (args : List CV) (r : CV) : Prop := ∀ (ι : Im) (w : World) (vals : List Value), VRL ι args vals → ∃ v, VR ι r v ∧ (callFunc f vals.toArray).run P w = .ok (.value v) w
structure Bs where
 P : Program
 w0 : World
 N0 : Nat
 ι0 : Im
 n0 : Nat
 n : Nat
 rd : Option Nat
 mks : List Nat
def DfR (ι : Im) : List Nat → List Deferred → Prop
 | [], [] => True
 | k :: ks, d :: ds => (∃ i, ι k = some i ∧ d = { target := .collected i.b, args := #[] }) ∧ DfR ι ks ds
 | _, _ => False
theorem DfR.mono {ι ι' : Im} (hle : ι.le ι') : ∀ {ks : List Nat} {ds : List Deferred}, DfR ι ks ds → DfR ι' ks ds
 | [], [], h => h
 | k :: ks, d :: ds, ⟨⟨i, h1, h2⟩, h3⟩ => ⟨⟨i, hle _ _ h1, h2⟩, h3.mono hle⟩
 | [], _ :: _, h => h.elim
 | _ :: _, [], h => h.elim
def Bs.F (Γ : Bs) : Fence := { fn := fun _ => True, depth := none, alive := false, round := Γ.rd }
structure Rl (Γ : Bs) (av : List Nat) (s : Fr) (h : Hp) (a : Act) (w : World) (ι : Im) : Prop where
 df : DfR ι Γ.mks a.defers
 tn : a.tmps.size = Γ.n
 le : Γ.ι0.le ι
 dom : ∀ k, k < Γ.n0 → Γ.ι0 k = none → ι k = none
 av : ∀ k ∈ av, ι k = none ∧ k < h.n
 sim : Sim Γ.N0 ι h w
 tv : ∀ t, @LT.lt Nat _ t Γ.n → VR ι (s.at t) (a.tmps.getD t Go.undef)
 ext : Ext Γ.N0 Γ.w0 w
 hn : Γ.n0 ≤ h.n
 h0 : Γ.N0 ≤ Γ.w0.heap.size
def R (Γ : Bs) (av : List Nat) (s : Fr) (h : Hp) (a : Act) (w : World) : Prop := ∃ ι, Rl Γ av s h a w ι
def iR (n : Nat) (x : Operand) : Prop := ∀ t, x = .tmp t → @LT.lt Nat _ t n
def cu (n : Nat) (o : Oper) : Prop := (∀ d, o.dst = some d → @LT.lt Nat _ d n) ∧ ∀ x ∈ o.op.operands.toList, iR n x
section
variable {Γ : Bs} {av : List Nat} {s : Fr} {h h' : Hp} {a : Act} {w w' : World} {ι ι' : Im}
theorem Rl.ev (R : Rl Γ av s h a w ι) {x : Operand} (hx : iR Γ.n x) : VR ι (CP.ev s x) (a.eval x) := by
 cases x with
 | tmp t => exact R.tv t (hx t rfl)
 | const v => exact pv ι v
 | global g => exact .undef _
 | func f => exact zS (VRL.nil ι)
theorem mG (a : Act) (d t : Nat) (v : Value) (h : d < a.tmps.size) : (a.put (some d) v).tmps.getD t Go.undef = if t = d then v else a.tmps.getD t Go.undef := by
 simp only [Act.put, Array.getD_eq_getD_getElem?, Array.getElem?_setIfInBounds]
 by_cases e : t = d
 · subst e; simp [h]
 · rw [if_neg (Ne.symm e), if_neg e]
theorem mH (a : Act) (d : Option Tmp) (v : Value) : (a.put d v).tmps.size = a.tmps.size := by
 cases d <;> simp [Act.put]
theorem Rl.next (R : Rl Γ av s h a w ι) (hle : ι.le ι') (hdom : ∀ k, k < h.n → ι k = none → ι' k = none) (hsim : Sim Γ.N0 ι' h' w') (hext : Ext Γ.N0 w w') (hn : h.n ≤ h'.n) {d : Option Tmp} (hd : ∀ t, d = some t → @LT.lt Nat _ t Γ.n) {p : CV} {v : Value} (hv : VR ι' p v) :
  Rl Γ av (Fr.putO s d p) h' (a.put d v) w' ι' := by
 refine ⟨?_, by rw [mH]; exact R.tn, R.le.trans hle, fun k h1 h2 => hdom k (Nat.lt_of_lt_of_le h1 R.hn) (R.dom k h1 h2), fun k hk => ⟨hdom k (R.av k hk).2 (R.av k hk).1, Nat.lt_of_lt_of_le (R.av k hk).2 hn⟩, hsim, fun t ht => ?_, R.ext.trans hext, Nat.le_trans R.hn hn, R.h0⟩
 · cases d <;> simp [Act.put] <;> exact R.df.mono hle
 · cases d with
   | none => exact (R.tv t ht).mono hle
   | some d =>
    rw [mG a d t v (by rw [R.tn]; exact hd d rfl)]
    simp only [Fr.putO, aI]
    by_cases e : t = d
    · rw [if_pos e, if_pos e]; exact hv
    · rw [if_neg e, if_neg e]; exact (R.tv t ht).mono hle
theorem Rl.wsize (R : Rl Γ av s h a w ι) : Γ.N0 ≤ w.heap.size := Nat.le_trans R.h0 R.ext.size
def oU (Γ : Bs) (av : List Nat) (o : Oper) (a : Act) (w : World) (s' : Fr) (h' : Hp) (Q : Exit → Act → World → Prop) : Prop := o.wpIn Γ.F 0 Γ.P a w (fun a' w' => R Γ av s' h' a' w') Q
theorem Aa {o : Oper} {c : CV} {Q : Exit → Act → World → Prop} (R : Rl Γ av s h a w ι) (ho : cu Γ.n o) (hd : ∀ c, o.op ≠ .defer c) (hw : Ws Γ.P Γ.N0 ι h w a.eval o c h') : oU Γ av o a w (Fr.putO s o.dst c) h' Q := by
 obtain ⟨ι', w', h1, h2, h3, h4, h5, h6⟩ := hw
 unfold oU Oper.wpIn
 refine ⟨fun _ _ => trivial, ?_⟩
 rw [Oper.semAt_eq _ _ _ hd]
 rcases h1 with ⟨v, hr, hv⟩ | ⟨hr, rfl⟩
 · rw [hr]; exact ⟨ι', R.next h2 h3 h4 h5 h6 ho.1 hv⟩
 · rw [hr]; exact ⟨ι', R.next h2 h3 h4 h5 h6 ho.1 (.undef _)⟩
theorem Ab {P : Program} {o : Oper} {e : Operand → CV} {h h' : Hp} {c : CV} (hc : gS P o e h = some (c, h')) : ∀ cl, o.op ≠ .defer cl := by
 intro cl he
 simp [gS, qX, bA, wX, he] at hc
theorem xC {o : Oper} {c : CV} {Q : Exit → Act → World → Prop} (Rr : R Γ av s h a w) (ho : cu Γ.n o) (hc : gS Γ.P o (CP.ev s) h = some (c, h')) : oU Γ av o a w (Fr.putO s o.dst c) h' Q := by
 obtain ⟨ι, R⟩ := Rr
 exact Aa R ho (Ab hc) (nc R.sim R.wsize (fun x hx => R.ev (ho.2 x hx)) hc)
theorem Dg {o : Oper} {cl : Call} {g : Operand} {c : CV} {f : FuncId} {caps : List CV} {Q : Exit → Act → World → Prop} (Rr : R Γ av s h a w) (ho : cu Γ.n o) (he : o.op = .call cl) (hcl : cl.callee = .value g) (hg : CP.ev s g = .fn f caps) (hC : FCall Γ.P f (cl.args.toList.map (CP.ev s) ++ caps) h c h') : oU Γ av o a w (Fr.putO s o.dst c) h' Q := by
 obtain ⟨ι, R⟩ := Rr
 have hgo : iR Γ.n g := ho.2 g (by simp [he, Op.operands, Call.operands, hcl])
 have hargs : ∀ x ∈ cl.args.toList, iR Γ.n x := fun x hx => ho.2 x (by simp [he, Op.operands, Call.operands, hcl]; simp at hx; exact .inr hx)
 have hgv := R.ev hgo
 rw [hg] at hgv
 obtain ⟨cv, hev, hcv⟩ := p6 hgv
 obtain ⟨⟨fn, hf, hb, hn⟩, hnn, hcall⟩ := hC
 have hvals := (gY (ι := ι) cl.args.toList (CP.ev s) a.eval fun x hx => R.ev (hargs x hx)).append hcv
 have hrun : (execOp a.eval o).run Γ.P w = .ok (.enter f (cl.args.toList.map a.eval ++ cv.toList).toArray) w := by
  have e : ¬ fn.body = none := by intro e; rw [e] at hb; cases hb
  have hn' : ¬ fn.name = "runtime.NumGoroutine" := by simpa using hn
  unfold execOp; rw [he]
  simp [resolve, hcl, hev, Deferred.ofValue, invoke, callFunc, program, Sem.run, hf, e, hn']
 unfold oU Oper.wpIn
 refine ⟨fun _ _ => trivial, ?_⟩
 rw [Oper.semAt_eq _ _ _ (by intro c; rw [he]; simp), hrun, Oper.uponIn_enter]
 refine ⟨fun h => by simp [Bs.F] at h, ?_⟩
 refine CallsIn.mono (F := Γ.F) (show CallsIn Fence.wide 0 Γ.P f _ w _ from callsIn_wide.2 (hcall Γ.N0 ι w _ R.wsize R.sim hvals)) ?_
 rintro e w' ⟨rv, ι', rfl, h1, h2, h3, h4, h5⟩
 exact ⟨ι', R.next h1 h2 h3 h5 hnn ho.1 h4⟩
theorem Ac {o : Oper} {cl : Call} {g : Operand} {c : CV} {k : Nat} {Q : Exit → Act → World → Prop} (Rr : R Γ av s h a w) (ho : cu Γ.n o) (he : o.op = .call cl) (hcl : cl.callee = .value g) (hg : CP.ev s g = .yl k) (hC : uF Γ.P k (cl.args.toList.map (CP.ev s)) h c h') : oU Γ av o a w (Fr.putO s o.dst c) h' Q := by
 obtain ⟨ι, R⟩ := Rr
 have hgo : iR Γ.n g := ho.2 g (by simp [he, Op.operands, Call.operands, hcl])
 have hargs : ∀ x ∈ cl.args.toList, iR Γ.n x := fun x hx => ho.2 x (by simp [he, Op.operands, Call.operands, hcl]; simp at hx; exact .inr hx)
 have hgv := R.ev hgo
 rw [hg] at hgv
 obtain ⟨i, hi, hev⟩ := Fg hgv
 obtain ⟨hnn, hcall⟩ := hC
 have hvals := gY (ι := ι) cl.args.toList (CP.ev s) a.eval fun x hx => R.ev (hargs x hx)
 obtain ⟨f, tmps, as, bd, h1, h2⟩ := hcall Γ.N0 ι w _ i R.wsize R.sim hvals hi
 have hrun : (execOp a.eval o).run Γ.P w = .ok (.round i.b f tmps as bd) w := by
  have h3 : (cl.args.toList.map a.eval).toArray = cl.args.map a.eval := by rw [← Array.toList_map, Array.toArray_toList]
  rw [h3] at h1
  unfold execOp; rw [he]
  simp [resolve, hcl, hev, Deferred.ofValue, invoke, h1]
 unfold oU Oper.wpIn
 refine ⟨fun _ _ => trivial, ?_⟩
 rw [Oper.semAt_eq _ _ _ (by intro c; rw [he]; simp), hrun, Oper.uponIn_round]
 refine ⟨fun h => by simp [Bs.F] at h, ?_⟩
 refine RoundIn.mono (F := Γ.F) (show RoundIn Fence.wide 0 Γ.P i.b f tmps as bd w _ from h2) ?_
 rintro e w' ⟨rv, ι', rfl, h1, h2, h3, h4, h5⟩
 exact ⟨ι', R.next h1 h2 h3 h5 hnn ho.1 h4⟩
theorem Dh {o : Oper} {cl : Call} {g : Operand} {c : CV} {f : FuncId} {caps : List CV} {Q : Exit → Act → World → Prop} (Rr : R Γ av s h a w) (ho : cu Γ.n o) (he : o.op = .call cl) (hcl : cl.callee = .value g) (hg : CP.ev s g = .fn f caps) (hC : eG Γ.P f (cl.args.toList.map (CP.ev s) ++ caps) c) : oU Γ av o a w (Fr.putO s o.dst c) h Q := by
 obtain ⟨ι, R⟩ := Rr
 have hgo : iR Γ.n g := ho.2 g (by simp [he, Op.operands, Call.operands, hcl])
 have hargs : ∀ x ∈ cl.args.toList, iR Γ.n x := fun x hx => ho.2 x (by simp [he, Op.operands, Call.operands, hcl]; simp at hx; exact .inr hx)
 have hgv := R.ev hgo
 rw [hg] at hgv
 obtain ⟨cv, hev, hcv⟩ := p6 hgv
 have hvals := (gY (ι := ι) cl.args.toList (CP.ev s) a.eval fun x hx => R.ev (hargs x hx)).append hcv
 obtain ⟨v, h1, h2⟩ := hC ι w _ hvals
 have hrun : (execOp a.eval o).run Γ.P w = .ok (.value v) w := by
  have h3 : (cl.args.map a.eval ++ cv) = (cl.args.toList.map a.eval ++ cv.toList).toArray := by simp
  unfold execOp; rw [he]
  simp only [resolve, hcl, hev, Deferred.ofValue, invoke, Sem.run_bind, Sem.run_pure, Result.andThen_ok, Array.empty_append, h3, h2]
 unfold oU Oper.wpIn
 refine ⟨fun _ _ => trivial, ?_⟩
 rw [Oper.semAt_eq _ _ _ (by intro c; rw [he]; simp), hrun]
 exact ⟨ι, R.next (Im.le_refl ι) (fun _ _ hk => hk) R.sim (Ext.refl _ _) (Nat.le_refl _) ho.1 h1⟩
theorem xD {prim : cM} {call : dE} (hprim : ∀ f args r, prim f args = some r → eG Γ.P f args r) (hcall : ∀ f args h r h', call f args h = some (r, h') → je Γ.P f args h r h') {o : Oper} {c : CV} {Q : Exit → Act → World → Prop} (Rr : R Γ av s h a w) (ho : cu Γ.n o)
  (hc : gy Γ.P prim call o (CP.ev s) h = some (c, h')) : oU Γ av o a w (Fr.putO s o.dst c) h' Q := by
 unfold gy at hc
 split at hc
 · rename_i cl he
   split at hc
   · rename_i g hcl
     split at hc
     · rename_i f caps hg
       split at hc
       · rename_i v hp
         injection hc with hc
         simp only [Prod.mk.injEq] at hc
         obtain ⟨rfl, rfl⟩ := hc
         exact Dh Rr ho he hcl hg (hprim _ _ _ hp)
       · exact Dg Rr ho he hcl hg (hcall (.fn _) _ _ _ _ hc)
     · rename_i k hg
       exact Ac Rr ho he hcl hg (hcall (.yl _) _ _ _ _ hc)
     · cases hc
   · exact xC Rr ho hc
 · exact xC Rr ho hc
theorem R.skp (Rr : R Γ av s h a w) {d : Option Tmp} (hd : ∀ t, d = some t → @LT.lt Nat _ t Γ.n) : R Γ av (Fr.putO s d .skp) h (a.put d Go.undef) w := by
 obtain ⟨ι, R⟩ := Rr
 exact ⟨ι, R.next (Im.le_refl ι) (fun _ _ hk => hk) R.sim (Ext.refl _ _) (Nat.le_refl _) hd .skp⟩
theorem fy (Rr : R Γ av s h a w) {ops : Array Oper} (hops : ∀ o ∈ ops.toList, cu Γ.n o) {o : Oper} {b : Bool} (hw : bN ops o s = some b) : Region.wanted o (yielded ops a.tmps) = b := by
 obtain ⟨ι, R⟩ := Rr
 unfold bN at hw
 cases hg : o.guard with
 | none => rw [hg] at hw; injection hw with hw; subst hw; simp [Region.wanted, hg]
 | some g =>
  obtain ⟨j, want⟩ := g
  rw [hg] at hw
  dsimp only at hw
  cases hj : ops[j]? with
  | none => rw [hj] at hw; cases hw
  | some oj =>
   rw [hj] at hw
   dsimp only at hw
   cases ht : oj.dst with
   | none => rw [ht] at hw; cases hw
   | some t =>
    rw [ht] at hw
    dsimp only at hw
    have htn : @LT.lt Nat _ t Γ.n := (hops oj (Array.mem_toList_iff.2 (Array.mem_of_getElem? hj))).1 t ht
    have hO := R.tv t htn
    have hy : yielded ops a.tmps j = match a.tmps.getD t Go.undef with | .bool b => some b | _ => none := by
     unfold yielded
     rw [hj, Option.bind_some, ht, Option.bind_some]
     have h2 : t < a.tmps.size := by rw [R.tn]; exact htn
     have h3 : a.tmps.getD t Go.undef = a.tmps[t] := by simp [Array.getD, h2]
     rw [h3, Array.getElem?_eq_getElem h2]
     cases a.tmps[t] <;> rfl
    split at hw
    · rename_i x hx
      rw [hx] at hO
      rw [dF hO] at hy
      injection hw with hw
      subst hw
      simp [Region.wanted, hg, hy]
    · rename_i hx
      rw [hx] at hO
      injection hw with hw
      subst hw
      generalize hv : a.tmps.getD t Go.undef = v at hO hy
      cases hO
      have hy : yielded ops a.tmps j = none := hy
      simp [Region.wanted, hg, hy]
    · cases hw
theorem qd {prim : cM} {call : dE} (hprim : ∀ f args r, prim f args = some r → eG Γ.P f args r) (hcall : ∀ f args h r h', call f args h = some (r, h') → je Γ.P f args h r h') {ops : Array Oper} (hops : ∀ o ∈ ops.toList, cu Γ.n o) {Q : Exit → Act → World → Prop} {s1 : Fr} {h1 : Hp} (hQ : ∀ a w, R Γ av s1 h1 a w → Q .normal a w) (l : List Oper) :
  ∀ {s : Fr} {h : Hp} {a : Act} {w : World}, R Γ av s h a w → (∀ o ∈ l, cu Γ.n o) → eD Γ.P prim call ops l s h = some (s1, h1) → wpListIn Γ.F 0 Γ.P ops Q l a w := by
 induction l with
 | nil =>
  intro s h a w Rr _ hx
  simp only [eD, Option.some.injEq, Prod.mk.injEq] at hx
  obtain ⟨rfl, rfl⟩ := hx
  exact hQ a w Rr
 | cons o l ih =>
  intro s h a w Rr hl hx
  have hok := hl o List.mem_cons_self
  have hl' : ∀ o ∈ l, cu Γ.n o := fun o ho => hl o (List.mem_cons_of_mem _ ho)
  unfold wpListIn
  simp only [eD] at hx
  split at hx
  · rename_i hw
    split at hx
    · rename_i v h' hc
      rw [if_pos (fy Rr hops hw)]
      exact (Oper.wpIn_mono (fun a' w' hR => ih hR hl' hx) (xD hprim hcall (Q := Q) Rr hok hc))
    · cases hx
  · rename_i hw
    rw [if_neg (by rw [fy Rr hops hw]; simp)]
    exact ⟨fun _ _ => trivial, ih (Rr.skp hok.1) hl' hx⟩
  · cases hx
end
end Go.CP
namespace Go.CP
variable [LG] [HK]
theorem kC {f : CV → CV → Bool} (hf : ∀ x y, f x y = true → x = y) : ∀ (xs ys : List CV), gW f xs ys = true → xs = ys
 | [], [], _ => rfl
 | [], _ :: _, h => by simp [gW] at h
 | _ :: _, [], h => by simp [gW] at h
 | x :: xs, y :: ys, h => by
  simp only [gW] at h
  split at h
  · rename_i h1
    rw [hf x y h1, kC hf xs ys h]
  · cases h
theorem tc : ∀ {x y : List Nat}, ga x y = true → x = y
 | [], [], _ => rfl
 | [], _ :: _, h => by simp [ga] at h
 | _ :: _, [], h => by simp [ga] at h
 | a :: x, b :: y, h => by
  simp only [ga] at h
  split at h
  · rename_i h1; rw [aW h1, tc h]
  · cases h
theorem Ad : ∀ (d : Nat) (x y : CV), mS d x y = true → x = y := by
 intro d
 induction d with
 | zero => intro x y h; simp [mS] at h
 | succ d ih =>
  intro x y h
  have hl := kC ih
  cases x <;> cases y <;> simp only [mS, Bool.and_eq_true, Bool.false_eq_true, beq_iff_eq] at h <;> first
   | rfl
   | (rw [h]; done)
   | (rw [aW h]; done)
   | (rw [tc h]; done)
   | (rw [hl _ _ h]; done)
   | (rw [aW h.1, hl _ _ h.2]; done)
   | (rw [aW h.1, aW h.2]; done)
   | (rw [aW h.1.1.1, aW h.1.1.2, aW h.1.2, aW h.2]; done)
   | (obtain ⟨h1, h2⟩ := h
      rw [fQ] at h2
      rw [li h1, of_decide_eq_true h2])
theorem jL {x y : CV} (h : ceq x y = true) : x = y := Ad 10 x y h
theorem Di {x y : HB} (h : fj x y = true) : x = y := by
 unfold fj at h
 split at h
 · simp only [Bool.and_eq_true] at h
   rw [aW h.1.1, aW h.1.2, kC (fun _ _ => jL) _ _ h.2]
 · rw [kC (fun _ _ => jL) _ _ h]
 · rfl
 · cases h
section
variable {P : Program} {o : Oper} {e e' : Operand → CV} {h h' : Hp}
theorem eH (hx : ∀ x ∈ o.op.operands.toList, e x = e' x) : bA P o e = bA P o e' := by
 unfold bA
 cases ho : o.op <;> (try simp only []) <;> rw [ho] at hx
 case box t x => rw [hx x (by simp [Op.operands])]
 case buildSlice t n ps =>
  congr 1
  refine List.map_congr_left fun p hp => ?_
  rw [hx p.2 (by simp [Op.operands]; exact ⟨_, Array.mem_toList_iff.1 hp⟩)]
 case makeSlice t l c => rw [hx l (by simp [Op.operands]), hx c (by simp [Op.operands])]
 case makeMap t r => cases r <;> rfl
 case convert s d x => rw [hx x (by simp [Op.operands])]
theorem c8 {x : Option Operand} {d : Nat} (hx : ∀ y, x = some y → e y = e' y) : fL e x d = fL e' x d := by
 cases x with
 | none => rfl
 | some y => simp only [fL, hx y rfl]
theorem uW {lo hi : Option Operand} {x : CV} {t : cq} (hl : ∀ y, lo = some y → e y = e' y) (hh : ∀ y, hi = some y → e y = e' y) : iC e lo hi h x t = iC e' lo hi h x t := by
 unfold iC
 split
 · split
   · rw [c8 hl, c8 hh]
   · rfl
 · split
   · rw [c8 hl, c8 hh]
   · rw [c8 hl, c8 hh]
   · rfl
 · split
   · rw [c8 hl, c8 hh]
   · rfl
 · rfl
theorem ug {lo hi : Option Operand} {mx : Operand} {x : CV} {t : cq} (hl : ∀ y, lo = some y → e y = e' y) (hh : ∀ y, hi = some y → e y = e' y) (hm : e mx = e' mx) : jr e lo hi mx x t = jr e' lo hi mx x t := by
 have h1 : fL e (some mx) 0 = fL e' (some mx) 0 := c8 fun y hy => by injection hy with hy; subst hy; exact hm
 unfold jr
 split
 · split
   · cases hi with
     | none => rfl
     | some hv =>
      have h2 : fL e (some hv) 0 = fL e' (some hv) 0 := c8 fun y hy => hh y hy
      simp only [c8 hl, h1, h2]
   · rfl
 · rfl
theorem gh (hx : ∀ x ∈ o.op.operands.toList, e x = e' x) : qX P o e h = qX P o e' h := by
 unfold qX
 cases ho : o.op <;> (try simp only []) <;> rw [ho] at hx
 case move x => rw [hx x (by simp [Op.operands])]
 case assign x => rw [hx x (by simp [Op.operands])]
 case pick c a b => rw [hx c (by simp [Op.operands]), hx a (by simp [Op.operands]), hx b (by simp [Op.operands])]
 case build t ps =>
  congr 1
  refine List.map_congr_left fun p hp => ?_
  rw [hx p.2 (by simp [Op.operands]; exact ⟨_, Array.mem_toList_iff.1 hp⟩)]
 case load t x => rw [hx x (by simp [Op.operands])]
 case nilCheck x => rw [hx x (by simp [Op.operands])]
 case binOp op t x y yt => rw [hx x (by simp [Op.operands]), hx y (by simp [Op.operands])]
 case unOp op t x => rw [hx x (by simp [Op.operands])]
 case convert s d x => rw [hx x (by simp [Op.operands])]
 case makeFunc f first caps =>
  cases f <;> simp only []
  congr 1
  refine List.map_congr_left fun x hxc => hx x ?_
  simp [Op.operands]; exact .inr (Array.mem_toList_iff.1 hxc)
 case slice t x lo hi mx =>
  cases mx with
  | some m =>
   simp only []
   rw [hx x (by simp [Op.operands])]
   exact ug (fun y hy => hx y (by simp [Op.operands, hy])) (fun y hy => hx y (by simp [Op.operands, hy])) (hx m (by simp [Op.operands]))
  | none =>
   simp only []
   rw [hx x (by simp [Op.operands])]
   exact uW (fun y hy => hx y (by simp [Op.operands, hy])) (fun y hy => hx y (by simp [Op.operands, hy]))
 case fieldAddr t x f => rw [hx x (by simp [Op.operands])]
 case field t x f => rw [hx x (by simp [Op.operands])]
 case indexAddr t x i => rw [hx x (by simp [Op.operands]), hx i (by simp [Op.operands])]
 case index t x i => rw [hx x (by simp [Op.operands]), hx i (by simp [Op.operands])]
 case lookup t x i ok => rw [hx x (by simp [Op.operands]), hx i (by simp [Op.operands])]
 case extract x i => rw [hx x (by simp [Op.operands])]
 case call c =>
  have ha : ∀ x ∈ c.args.toList, e x = e' x := fun x hxa => hx x (by simp [Op.operands, Call.operands]; simp at hxa; exact .inr hxa)
  unfold jb
  split
  · rename_i b hb
    unfold eA
    split
    · unfold oe
      split
      · rename_i h1 h2; rw [ha _ (by rw [h2]; simp)]
      · rfl
    · unfold pW
      split
      · rename_i h2; rw [ha _ (by rw [h2]; simp), ha _ (by rw [h2]; simp)]
      · rfl
    · unfold pX
      split
      · rename_i h2; rw [ha _ (by rw [h2]; simp), ha _ (by rw [h2]; simp)]
      · rfl
    · unfold pY
      split
      · rename_i h2; rw [ha _ (by rw [h2]; simp)]
      · rfl
    · unfold pZ
      split
      · rename_i h1 h2; rw [ha _ (by rw [h2]; simp)]
      · rfl
    · rfl
  · rfl
theorem FY (hl : bO P o = false) : qX P o e h = qX P o e h' := by
 unfold bO at hl
 unfold qX
 cases ho : o.op <;> rw [ho] at hl <;> (try simp only [] at hl ⊢) <;> first | rfl | (cases hl; done) | (rename_i fn _ _; cases fn <;> rfl; done) | skip
 case call c =>
  unfold jb
  split
  · unfold eA
    split
    · unfold oe
      split
      · rename_i t x h1 h2
        rw [h1] at hl
        simp only [] at hl
        unfold aB
        split <;> first | rfl | (rename_i hty; rw [hty] at hl; simp [IK] at hl)
      · rfl
    all_goals rfl
  · rfl
theorem Dj (hx : ∀ x ∈ o.op.operands.toList, e x = e' x) : wX P o e h = wX P o e' h := by
 unfold wX
 cases ho : o.op <;> (try simp only []) <;> rw [ho] at hx
 case store t a x => rw [hx a (by simp [Op.operands]), hx x (by simp [Op.operands])]
 case mapUpdate t m k x => rw [hx m (by simp [Op.operands]), hx k (by simp [Op.operands]), hx x (by simp [Op.operands])]
 case call c =>
  have ha : ∀ x ∈ c.args.toList, e x = e' x := fun x hxa => hx x (by simp [Op.operands, Call.operands]; simp at hxa; exact .inr hxa)
  have hw : kl P e h c.argTypes.toList c.args.toList = kl P e' h c.argTypes.toList c.args.toList := by
   unfold kl
   split
   · rename_i h1 h2; rw [ha _ (by rw [h2]; simp), ha _ (by rw [h2]; simp)]
   · rfl
  have hk : og P e h c.argTypes.toList c.args.toList = og P e' h c.argTypes.toList c.args.toList := by
   unfold og
   split
   · rename_i h1 h2; rw [ha _ (by rw [h2]; simp), ha _ (by rw [h2]; simp)]
   · rfl
  have hq : lg P e h c.argTypes.toList c.args.toList = lg P e' h c.argTypes.toList c.args.toList := by
   unfold lg
   split
   · rename_i h1 h2; rw [ha _ (by rw [h2]; simp), ha _ (by rw [h2]; simp)]
   · rfl
  have hr : oh P e h c.argTypes.toList c.args.toList = oh P e' h c.argTypes.toList c.args.toList := by
   unfold oh
   split
   · rename_i h1 h2; rw [ha _ (by rw [h2]; simp)]
   · rfl
  unfold lL
  rw [hw, hk, hq, hr]
theorem Ae (hx : ∀ x ∈ o.op.operands.toList, e x = e' x) : gS P o e h = gS P o e' h := by
 unfold gS
 rw [gh hx, eH hx, Dj hx]
theorem Af {prim : cM} {call : dE} (hx : ∀ x ∈ o.op.operands.toList, e x = e' x) : gy P prim call o e h = gy P prim call o e' h := by
 unfold gy
 rw [Ae hx]
 cases ho : o.op <;> simp only []
 case call c =>
  rw [ho] at hx
  cases hc : c.callee <;> simp only []
  case value g =>
   rw [hx g (by simp [Op.operands, Call.operands, hc]), List.map_congr_left fun x hxa => hx x (by simp [Op.operands, Call.operands]; simp at hxa; exact .inr hxa)]
end
def Agree (ops : Array Oper) (o : Oper) (s s' : Fr) : Prop := ∀ t ∈ o.looksAt ops, s.at t = s'.at t
theorem Agree.ev {ops : Array Oper} {o : Oper} {s s' : Fr} (h : Agree ops o s s') : ∀ x ∈ o.op.operands.toList, ev s x = ev s' x := by
 intro x hx
 cases x with
 | tmp t => exact h t (List.mem_append_left _ (List.mem_filterMap.2 ⟨.tmp t, hx, rfl⟩))
 | _ => rfl
theorem Agree.want {ops : Array Oper} {o : Oper} {s s' : Fr} (h : Agree ops o s s') : bN ops o s = bN ops o s' := by
 unfold bN
 cases hg : o.guard with
 | none => rfl
 | some g =>
  obtain ⟨j, b⟩ := g
  simp only []
  cases hj : ops[j]? with
  | none => rfl
  | some oj =>
   simp only []
   cases hd : oj.dst with
   | none => rfl
   | some t =>
    simp only []
    rw [h t (by simp [Oper.looksAt, hg, hj, hd])]
theorem ng {ops : Array Oper} {o : Oper} {s : Fr} {d : Option Tmp} {c : CV} (h : ∀ t, d = some t → t ∉ o.looksAt ops) : Agree ops o (Fr.putO s d c) s := by
 intro t ht
 cases d with
 | none => rfl
 | some d =>
  simp only [Fr.putO, aI]
  rw [if_neg fun (e : t = d) => h d rfl (e ▸ ht)]
theorem kD {ops : Array Oper} {x y : Oper} (h : mT ops x y = true) : ∀ d, x.dst = some d → d ∉ y.looksAt ops ∧ y.dst ≠ some d := by
 intro d hd
 simp only [mT, hd, Bool.and_eq_true, Bool.not_eq_true', List.contains_eq_mem, decide_eq_false_iff_not, beq_eq_false_iff_ne] at h
 exact h
theorem wN {ops : Array Oper} {x : Oper} (h : mU ops x = true) : ∀ d, x.dst = some d → d ∉ x.looksAt ops := by
 intro d hd
 simp only [mU, hd, Bool.not_eq_true', List.contains_eq_mem, decide_eq_false_iff_not] at h
 exact h
end Go.CP
namespace Go.CP
variable [LG] [HK]
def dt : List Pd → Fr → Fr
 | [], s => s
 | p :: pd, s => Fr.putO (dt pd s) p.o.dst .undef
theorem dL (s : Fr) (d : Option Tmp) (c : CV) (t : Nat) : Fr.at (Fr.putO s d c) t = if d = some t then c else s.at t := by
 cases d with
 | none => simp [Fr.putO]
 | some d =>
  simp only [Fr.putO, aI, Option.some.injEq]
  by_cases h : t = d
  · rw [if_pos h, if_pos h.symm]
  · rw [if_neg h, if_neg (Ne.symm h)]
theorem dC : ∀ (pa : List Pd) (s : Fr) (t : Nat), (∀ p ∈ pa, p.o.dst ≠ some t) → (dt pa s).at t = s.at t
 | [], s, t, _ => rfl
 | p :: pa, s, t, h => by
  simp only [dt, dL, if_neg (h p List.mem_cons_self)]
  exact dC pa s t fun q hq => h q (List.mem_cons_of_mem _ hq)
theorem gZ : ∀ (pa : List Pd) (s : Fr) (t : Nat), (∃ p ∈ pa, p.o.dst = some t) → (dt pa s).at t = .undef
 | [], s, t, h => by obtain ⟨p, hp, _⟩ := h; cases hp
 | p :: pa, s, t, h => by
  simp only [dt, dL]
  split
  · rfl
  · rename_i hn
    obtain ⟨q, hq, hd⟩ := h
    rcases List.mem_cons.1 hq with rfl | hq
    · exact absurd hd hn
    · exact gZ pa s t ⟨q, hq, hd⟩
def gJ (pa : List Pd) : List Nat := pa.filterMap fun p => p.lay.map (·.1)
theorem lT {pa : List Pd} {k : Nat} : k ∈ gJ pa ↔ ∃ p ∈ pa, ∃ b, p.lay = some (k, b) := by
 simp only [gJ, List.mem_filterMap, Option.map_eq_some_iff]
 constructor
 · rintro ⟨p, hp, ⟨k', b⟩, h1, rfl⟩; exact ⟨p, hp, b, h1⟩
 · rintro ⟨p, hp, b, h1⟩; exact ⟨p, hp, (k, b), h1, rfl⟩
section
variable {Γ : Bs} {av : List Nat} {s s' : Fr} {h h' : Hp} {a : Act} {w : World}
theorem R.weak (Rr : R Γ av s h a w) (hs : ∀ t, s'.at t = .undef ∨ s'.at t = s.at t) {av' : List Nat} (ha : ∀ k ∈ av', k ∈ av) : R Γ av' s' h a w := by
 obtain ⟨ι, R⟩ := Rr
 exact ⟨ι, R.df, R.tn, R.le, R.dom, fun k hk => R.av k (ha k hk), R.sim, fun t ht => by
  rcases hs t with e | e
  · rw [e]; exact .undef _
  · rw [e]; exact R.tv t ht, R.ext, R.hn, R.h0⟩
structure PI (P : Program) (ops : Array Oper) (s : Fr) (h : Hp) (p : Pd) : Prop where
 op : ops[p.i]? = some p.o
 dst : ∀ d, p.o.dst = some d → s.at d = p.c
 skip : p.skip = true → bN ops p.o s = some false ∧ p.c = .skp
 go : p.skip = false → bN ops p.o s = some true
 quiet : p.skip = false → p.lay = none → qX P p.o (ev s) h = some p.c
 lay : ∀ k b, p.skip = false → p.lay = some (k, b) → k < h.n ∧ h.get k = b ∧ ∃ f, bA P p.o (ev s) = some (f, b) ∧ p.c = f k
 nolay : p.skip = true → p.lay = none
structure Inv (P : Program) (ops : Array Oper) (L A : Array Bool) (pd pa : List Pd) (spd : List (Nat × Array Bool)) (Rf : Nat → Nat → Bool) (s : Fr) (h : Hp) : Prop where
 hs : pd.map (·.i) = spd.map (·.1)
 hR : ∀ x ∈ spd, ∀ y, Rf x.1 y = x.2.getD y false
 pi : ∀ p ∈ pd, PI P ops s h p
 cl : ∀ p ∈ pd, ∀ j oj, ops[j]? = some oj → j ≠ p.i → (∀ e ∈ oj.after, Region.binds .any e = true → Rf p.i e.on = true) → Rf p.i j = true
 pp : ∀ p ∈ pd, ∀ q ∈ pd, p.i ≠ q.i → Rf p.i q.i = true → ∀ d, p.o.dst = some d → d ∉ q.o.looksAt ops ∧ q.o.dst ≠ some d
 self : ∀ p ∈ pd, ∀ d, p.o.dst = some d → d ∉ p.o.looksAt ops
 un : ∀ p ∈ pd, ∀ q ∈ pd, p.i = q.i → p = q
 lu : ∀ p ∈ pd, ∀ q ∈ pd, ∀ k b b', p.lay = some (k, b) → q.lay = some (k, b') → p.i = q.i
 pL : ∀ p ∈ pd, L.getD p.i false = true
 sub : ∀ p ∈ pa, p ∈ pd
 aR : ∀ p ∈ pa, ∀ x, A.getD x false = true → Rf p.i x = true
 pA : ∀ p ∈ pa, A.getD p.i true = false
 AL : ∀ x, A.getD x false = true → L.getD x false = true
 LA : ∀ x, L.getD x false = true → A.getD x false = true ∨ ∃ p ∈ pa, p.i = x
 szA : A.size = ops.size
 szL : L.size = ops.size
def Ord (A : Array Bool) : List Pd → Prop
 | [] => True
 | p :: pa => (∀ e ∈ p.o.after, Region.binds .any e = true → A.getD e.on false = true ∨ ∃ q ∈ pa, q.i = e.on) ∧ Ord A pa
theorem Ord.filter {A : Array Bool} {i : Nat} (hi : i < A.size) : ∀ {pa : List Pd}, Ord A pa → Ord (A.setIfInBounds i true) (pa.filter fun p => p.i != i)
 | [], _ => trivial
 | p :: pa, ho => by
  have ih := Ord.filter hi ho.2
  rw [List.filter_cons]
  split
  · refine ⟨fun e he hb => ?_, ih⟩
    rcases ho.1 e he hb with h1 | ⟨q, hq, h1⟩
    · exact .inl (getD_set_true h1)
    · by_cases hqi : q.i = i
      · left
        rw [← h1, hqi]
        simp [hi]
      · exact .inr ⟨q, List.mem_filter.2 ⟨hq, by simpa using hqi⟩, h1⟩
  · exact ih
theorem Ord.mono {A : Array Bool} {i : Nat} : ∀ {pa : List Pd}, Ord A pa → Ord (A.setIfInBounds i true) pa
 | [], _ => trivial
 | p :: pa, ho => ⟨fun e he hb => (ho.1 e he hb).imp getD_set_true id, Ord.mono ho.2⟩
theorem Ord.ready {ops : Array Oper} {A : Array Bool} : ∀ {pa : List Pd}, pa ≠ [] → Ord A pa → (∀ p ∈ pa, A.getD p.i true = false ∧ ops[p.i]? = some p.o) → Region.ready .any ops A ≠ []
 | [], hn, _, _ => absurd rfl hn
 | [p], _, ho, hp => by
  have h1 := hp p List.mem_cons_self
  have : p.i ∈ Region.ready .any ops A := mem_ready.2 ⟨h1.1, p.o, h1.2, fun e he hb => (ho.1 e he hb).resolve_right fun ⟨q, hq, _⟩ => by cases hq⟩
  intro e; rw [e] at this; cases this
 | p :: q :: pa, _, ho, hp => Ord.ready (pa := q :: pa) (by simp) ho.2 fun x hx => hp x (List.mem_cons_of_mem _ hx)
def left (ops : Array Oper) (A : Array Bool) : Nat := ((List.range ops.size).filter fun i => !A.getD i true).length
theorem oo {ops : Array Oper} {A : Array Bool} {i : Nat} (hi : i < ops.size) (hA : A.getD i true = false) (hsz : A.size = ops.size) : left ops (A.setIfInBounds i true) < left ops A := by
 unfold left
 have h1 : ((List.range ops.size).filter fun j => !(A.setIfInBounds i true).getD j true) = (((List.range ops.size).filter fun j => !A.getD j true).filter fun j => j != i) := by
  rw [List.filter_filter]
  refine List.filter_congr fun j hj => ?_
  by_cases e : i = j
  · subst e
    have : (A.setIfInBounds i true).getD i true = true := by simp [hsz, hi]
    rw [this]; simp
  · rw [getD_set_ne true e]
    simp [Ne.symm e]
 rw [h1]
 refine List.length_filter_lt_length_iff_exists.2 ⟨i, List.mem_filter.2 ⟨List.mem_range.2 hi, by rw [hA]; rfl⟩, by simp⟩
section
variable {P : Program} {ops : Array Oper} {L A : Array Bool} {pd pa : List Pd} {spd : List (Nat × Array Bool)} {Rf : Nat → Nat → Bool}
theorem oq {A : Array Bool} {i : Nat} (h : A.getD i true = false) : A.getD i false = false := by
 simp only [Array.getD_eq_getD_getElem?] at *
 cases hi : A[i]? with
 | none => rw [hi] at h; cases h
 | some b => rw [hi] at h; exact h
theorem Inv.rf (I : Inv P ops L A pd pa spd Rf s h) {p : Pd} (hp : p ∈ pa) {j : Nat} (hj : j ∈ Region.ready .any ops A) (hne : j ≠ p.i) : Rf p.i j = true := by
 obtain ⟨_, oj, hoj, hall⟩ := mem_ready.1 hj
 exact I.cl p (I.sub p hp) j oj hoj hne fun e he hb => I.aR p hp _ (hall e he hb)
theorem Inv.agree (I : Inv P ops L A pd pa spd Rf s h) {q : Pd} (hq : q ∈ pa) (hr : q.i ∈ Region.ready .any ops A) : Agree ops q.o (dt pa s) s := by
 intro t ht
 refine dC pa s t fun p hp hd => ?_
 by_cases e : p.i = q.i
 · have := I.un p (I.sub p hp) q (I.sub q hq) e
   subst this
   exact I.self p (I.sub p hp) t hd ht
 · exact (I.pp p (I.sub p hp) q (I.sub q hq) e (I.rf hp hr (Ne.symm e)) t hd).1 ht
theorem Inv.after (I : Inv P ops L A pd pa spd Rf s h) {q : Pd} (hq : q ∈ pa) (hr : q.i ∈ Region.ready .any ops A) (t : Nat) : Fr.at (dt (pa.filter fun p => p.i != q.i) s) t = Fr.at (Fr.putO (dt pa s) q.o.dst q.c) t := by
 rw [dL]
 have hmem : ∀ p, p ∈ pa.filter (fun p => p.i != q.i) → p ∈ pa ∧ p.i ≠ q.i := fun p hp => by simpa using List.mem_filter.1 hp
 split
 · rename_i hd
   rw [dC _ _ _ fun p hp hpd => (I.pp p (I.sub p (hmem p hp).1) q (I.sub q hq) (hmem p hp).2 (I.rf (hmem p hp).1 hr (Ne.symm (hmem p hp).2)) t hpd).2 hd]
   exact (I.pi q (I.sub q hq)).dst t hd
 · rename_i hd
   by_cases hex : ∃ p ∈ pa, p.o.dst = some t
   · rw [gZ pa s t hex]
     obtain ⟨p, hp, hpd⟩ := hex
     refine gZ _ s t ⟨p, List.mem_filter.2 ⟨hp, ?_⟩, hpd⟩
     have : p.i ≠ q.i := fun e => by
      have := I.un p (I.sub p hp) q (I.sub q hq) e
      subst this; exact hd hpd
     simpa using this
   · rw [dC pa s t fun p hp hpd => hex ⟨p, hp, hpd⟩]
     exact dC _ s t fun p hp hpd => hex ⟨p, (hmem p hp).1, hpd⟩
theorem Inv.step (I : Inv P ops L A pd pa spd Rf s h) {q : Pd} (hq : q ∈ pa) (hr : q.i ∈ Region.ready .any ops A) : Inv P ops L (A.setIfInBounds q.i true) pd (pa.filter fun p => p.i != q.i) spd Rf s h := by
 have hmem : ∀ p, p ∈ pa.filter (fun p => p.i != q.i) → p ∈ pa ∧ p.i ≠ q.i := fun p hp => by simpa using List.mem_filter.1 hp
 have hlt : q.i < ops.size := (Array.getElem?_eq_some_iff.1 (I.pi q (I.sub q hq)).op).1
 have hset : ∀ x, (A.setIfInBounds q.i true).getD x false = true → x = q.i ∨ A.getD x false = true := fun x hx => by
  by_cases e : q.i = x
  · exact .inl e.symm
  · rw [getD_set_ne false e] at hx; exact .inr hx
 exact { I with
  sub := fun p hp => I.sub p (hmem p hp).1
  aR := fun p hp x hx => by
   rcases hset x hx with rfl | hx
   · exact I.rf (hmem p hp).1 hr (Ne.symm (hmem p hp).2)
   · exact I.aR p (hmem p hp).1 x hx
  pA := fun p hp => by rw [getD_set_ne true (Ne.symm (hmem p hp).2)]; exact I.pA p (hmem p hp).1
  AL := fun x hx => by
   rcases hset x hx with rfl | hx
   · exact I.pL q (I.sub q hq)
   · exact I.AL x hx
  LA := fun x hx => by
   rcases I.LA x hx with h1 | ⟨p, hp, rfl⟩
   · exact .inl (getD_set_true h1)
   · by_cases e : p.i = q.i
     · left; rw [e]; simp [I.szA, hlt]
     · exact .inr ⟨p, List.mem_filter.2 ⟨hp, by simpa using e⟩, rfl⟩
  szA := by simp [I.szA] }
end
end
end Go.CP
namespace Go.CP
variable [LG] [HK]
section
variable {Γ : Bs} {s s' : Fr} {h h' : Hp} {a : Act} {w : World} {ops : Array Oper} {L A : Array Bool} {pd pa : List Pd} {spd : List (Nat × Array Bool)} {Rf : Nat → Nat → Bool} {Q : Exit → Act → World → Prop}
theorem kR {q : Pd} {k : Nat} (hk : k ∈ gJ (pa.filter fun p => p.i != q.i)) : k ∈ gJ pa := by
 obtain ⟨p, hp, b, hb⟩ := lT.1 hk
 exact lT.2 ⟨p, (List.mem_filter.1 hp).1, b, hb⟩
theorem kE (hops : ∀ o ∈ ops.toList, cu Γ.n o) {i : Nat} {o : Oper} (h : ops[i]? = some o) : cu Γ.n o := hops o (Array.mem_toList_iff.2 (Array.mem_of_getElem? h))
theorem Ly {P : Program} {o : Oper} {e : Operand → CV} {h : Hp} {c : CV} (hc : qX P o e h = some c) : ∀ cl, o.op ≠ .defer cl := by
 intro cl he
 simp [qX, he] at hc
theorem FZ {P : Program} {o : Oper} {e : Operand → CV} {c : uJ} (hc : bA P o e = some c) : ∀ cl, o.op ≠ .defer cl := by
 intro cl he
 simp [bA, he] at hc
theorem td (hops : ∀ o ∈ ops.toList, cu Γ.n o) (I : Inv Γ.P ops L A pd pa spd Rf s h) (hln : ∀ p ∈ pd, ∀ k b, p.lay = some (k, b) → Γ.n0 ≤ k) (Rr : R Γ (gJ pa) (dt pa s) h a w) {q : Pd} (hq : q ∈ pa) (hr : q.i ∈ Region.ready .any ops A) :
  wpOpIn Γ.F 0 Γ.P ops Q q.i (fun a' w' => R Γ (gJ (pa.filter fun p => p.i != q.i)) (dt (pa.filter fun p => p.i != q.i) s) h a' w') a w := by
 have hpi := I.pi q (I.sub q hq)
 have hag := I.agree hq hr
 have hok := kE hops hpi.op
 have fin : ∀ {a' w'}, R Γ (gJ (pa.filter fun p => p.i != q.i)) (Fr.putO (dt pa s) q.o.dst q.c) h a' w' → R Γ (gJ (pa.filter fun p => p.i != q.i)) (dt (pa.filter fun p => p.i != q.i) s) h a' w' := fun hR => hR.weak (fun t => .inr (I.after hq hr t)) fun _ hk => hk
 unfold wpOpIn
 rw [hpi.op]
 dsimp only
 cases hsk : q.skip with
 | true =>
  obtain ⟨h1, h2⟩ := hpi.skip hsk
  rw [fy Rr hops (hag.want.trans h1)]
  simp only [Bool.false_eq_true, if_false]
  refine ⟨fun _ _ => trivial, fin ?_⟩
  rw [h2]
  exact (Rr.skp hok.1).weak (fun t => .inr rfl) fun k hk => kR hk
 | false =>
  rw [fy Rr hops (hag.want.trans (hpi.go hsk))]
  simp only [if_true]
  cases hly : q.lay with
  | none =>
   have h1 := hpi.quiet hsk hly
   rw [← gh hag.ev] at h1
   obtain ⟨ι, Rl⟩ := Rr
   obtain ⟨v, h2, h3⟩ := uU Rl.sim (fun x hx => Rl.ev (hok.2 x hx)) h1
   unfold Oper.wpIn
   refine ⟨fun _ _ => trivial, ?_⟩
   rw [Oper.semAt_eq _ _ _ (Ly h1), h3]
   have h4 : R Γ (gJ pa) (Fr.putO (dt pa s) q.o.dst q.c) h (a.put q.o.dst v) w := ⟨ι, Rl.next (Im.le_refl ι) (fun _ _ hk => hk) Rl.sim (Ext.refl _ _) (Nat.le_refl _) hok.1 h2⟩
   exact fin (h4.weak (fun t => .inr rfl) fun k hk => kR hk)
  | some kb =>
   obtain ⟨k, b⟩ := kb
   obtain ⟨hkn, hkb, f, hf, hc⟩ := hpi.lay k b hsk hly
   rw [← eH hag.ev] at hf
   obtain ⟨ι, Rl⟩ := Rr
   have hkav := Rl.av k (lT.2 ⟨q, hq, b, hly⟩)
   obtain ⟨v, w', i, obj, h1, h2, h3, h4, hdr, h5, h6, h7, h8, h9, h10⟩ := qc (P := Γ.P) (ι := ι) (w := w) (ρ := a.eval) (fun x hx => Rl.ev (hok.2 x hx)) hf
   have hle : ι.le (ι.set k i) := bE hkav.1
   have hS := Rl.sim.laid Rl.wsize hkn hkav.1 h5 h6 h8 (by rw [hkb]; exact h9 _ _ hle h7)
   have hv : VR (ι.set k i) q.c v := by rw [hc]; exact h10 _ _ (by unfold Im.set; rw [if_pos rfl])
   have hkn0 := hln q (I.sub q hq) k b hly
   have hset : ∀ k', k' ≠ k → ι k' = none → (ι.set k i) k' = none := fun k' hne hk' => by unfold Im.set; rw [if_neg hne]; exact hk'
   unfold Oper.wpIn
   refine ⟨fun _ _ => trivial, ?_⟩
   rw [Oper.semAt_eq _ _ _ (FZ hf), h1]
   refine fin ⟨ι.set k i, ?_, by rw [mH]; exact Rl.tn, Rl.le.trans hle, fun k' g1 g2 => hset k' (by omega) (Rl.dom k' g1 g2), fun k' hk' => ?_, hS, fun t ht => ?_, ⟨h2.trans Rl.ext.os, h3.trans Rl.ext.tape, h4.trans Rl.ext.output, by have := Rl.ext.size; omega, fun b hb => (h6 b (by have := Rl.wsize; omega)).trans (Rl.ext.block b hb), Nat.le_trans Rl.ext.drew (HK.mono hdr)⟩, Rl.hn, Rl.h0⟩
   · cases q.o.dst <;> simp [Act.put] <;> exact Rl.df.mono hle
   · have := Rl.av k' (kR hk')
     refine ⟨hset k' (fun e => ?_) this.1, this.2⟩
     subst e
     obtain ⟨p, hp, b', hb'⟩ := lT.1 hk'
     have hp' := List.mem_filter.1 hp
     have := I.lu p (I.sub p hp'.1) q (I.sub q hq) k' b' b hb' hly
     simp [this] at hp'
   · cases hd : q.o.dst with
     | none => simp only [Fr.putO, Act.put]; exact (Rl.tv t ht).mono hle
     | some d =>
      rw [mG a d t v (by rw [Rl.tn]; exact hok.1 d hd)]
      simp only [Fr.putO, aI]
      by_cases e : t = d
      · rw [if_pos e, if_pos e]; exact hv
      · rw [if_neg e, if_neg e]; exact (Rl.tv t ht).mono hle
theorem tf {P : Program} {p : Pd} (hp : PI P ops s h p) (hag : Agree ops p.o s' s) (hdst : ∀ d, p.o.dst = some d → s'.at d = s.at d) (hn : h.n ≤ h'.n) (hk : bQ P s' h' p = true) : PI P ops s' h' p := by
 refine ⟨hp.op, fun d hd => (hdst d hd).trans (hp.dst d hd), fun hs => ⟨hag.want.trans (hp.skip hs).1, (hp.skip hs).2⟩, fun hs => hag.want.trans (hp.go hs), fun hs hl => ?_, fun k b hs hl => ?_, hp.nolay⟩
 · unfold bQ at hk
   rw [hs, hl] at hk
   dsimp only at hk
   split at hk
   · rename_i hlk
     rw [gh hag.ev, ← FY (h := h) hlk]
     exact hp.quiet hs hl
   · split at hk
     · rename_i c hq
       rw [hq, jL hk]
     · cases hk
 · obtain ⟨h1, h2, f, h3, h4⟩ := hp.lay k b hs hl
   unfold bQ at hk
   rw [hs, hl] at hk
   dsimp only at hk
   exact ⟨by omega, Di hk, f, by rw [eH hag.ev]; exact h3, h4⟩
theorem uX {i : Nat} {R : Array Bool} (hr : lh ops i L R = true) : (∀ j, L.getD j false = true → R.getD j false = true) ∧ ∀ j oj, ops[j]? = some oj → j ≠ i → (∀ e ∈ oj.after, Region.binds .any e = true → R.getD e.on false = true) → R.getD j false = true := by
 simp only [lh, Bool.and_eq_true, List.all_eq_true, List.mem_range] at hr
 obtain ⟨h1, h2⟩ := hr
 refine ⟨fun j hj => ?_, fun j oj hoj hne hall => ?_⟩
 · have hlt : j < L.size := by
    rcases Nat.lt_or_ge j L.size with h | h
    · exact h
    · simp [Array.getElem?_eq_none h] at hj
   have h3 := h1 j hlt
   rw [hj] at h3
   simpa using h3
 · have h3 := h2 j (Array.getElem?_eq_some_iff.1 hoj).1
   simp only [hoj, Bool.or_eq_true, beq_iff_eq, hne, false_or, Bool.not_eq_true'] at h3
   rcases h3 with h3 | h3
   · have : (oj.after.all fun e => !Region.binds .any e || R.getD e.on false) = true := by
      rw [Array.all_eq_true_iff_forall_mem]
      intro e he
      cases hb : Region.binds .any e with
      | false => rfl
      | true => simp only [Bool.not_true, Bool.false_or]; exact hall e he hb
     rw [this] at h3; cases h3
   · exact h3
variable {prim : cM} {call : dE} {s1 : Fr} {h1 : Hp}
theorem Lz (hcall : ∀ f args h r h', call f args h = some (r, h') → je Γ.P f args h r h') {av : List Nat} {o : Oper} {c : CV} (Rr : R Γ av s h a w) (ho : cu Γ.n o) (hc : gy Γ.P prim call o (ev s) h = some (c, h')) : h.n ≤ h'.n := by
 obtain ⟨ι, Rl⟩ := Rr
 have hX : ∀ {c h'}, gS Γ.P o (ev s) h = some (c, h') → h.n ≤ h'.n := fun hc => by
  obtain ⟨ι', w', _, _, _, _, _, h6⟩ := nc (ρ := a.eval) Rl.sim Rl.wsize (fun x hx => Rl.ev (ho.2 x hx)) hc
  exact h6
 unfold gy at hc
 split at hc
 · split at hc
   · split at hc
     · split at hc
       · injection hc with hc
         simp only [Prod.mk.injEq] at hc
         rw [← hc.2]; exact Nat.le_refl _
       · exact (show FCall Γ.P _ _ _ _ _ from hcall (.fn _) _ _ _ _ hc).2.1
     · exact (show uF Γ.P _ _ _ _ _ from hcall (.yl _) _ _ _ _ hc).1
     · cases hc
   · exact hX hc
 · exact hX hc
theorem Dk (hops : ∀ o ∈ ops.toList, cu Γ.n o) (hQ : ∀ a w, R Γ [] s h a w → Q .normal a w) (hL : Region.ready .any ops L = []) (hln : ∀ p ∈ pd, ∀ k b, p.lay = some (k, b) → Γ.n0 ≤ k) : ∀ (fuel : Nat) (pa : List Pd) (A : Array Bool) (a : Act) (w : World),
  Inv Γ.P ops L A pd pa spd Rf s h → Ord A pa → R Γ (gJ pa) (dt pa s) h a w → left ops A ≤ fuel → wpAnyIn Γ.F 0 Γ.P .any ops Q fuel A a w := by
 intro fuel
 induction fuel with
 | zero =>
  intro pa A a w I ho Rr hl
  have hno : Region.ready .any ops A = [] := by
   cases hre : Region.ready .any ops A with
   | nil => rfl
   | cons j r =>
    have hj : j ∈ Region.ready .any ops A := by rw [hre]; exact List.mem_cons_self
    obtain ⟨h1, oj, h2, _⟩ := mem_ready.1 hj
    have := oo (Array.getElem?_eq_some_iff.1 h2).1 h1 I.szA
    omega
  have hpa : pa = [] := by
   cases pa with
   | nil => rfl
   | cons p pa => exact absurd hno (Ord.ready (by simp) ho fun x hx => ⟨I.pA x hx, (I.pi x (I.sub x hx)).op⟩)
  subst hpa
  exact ⟨hno, hQ a w Rr⟩
 | succ fuel ih =>
  intro pa A a w I ho Rr hl
  refine ⟨fun hno => ?_, fun j hj => ?_⟩
  · have hpa : pa = [] := by
     cases pa with
     | nil => rfl
     | cons p pa => exact absurd hno (Ord.ready (by simp) ho fun x hx => ⟨I.pA x hx, (I.pi x (I.sub x hx)).op⟩)
    subst hpa
    exact hQ a w Rr
  · obtain ⟨g1, oj, g2, g3⟩ := mem_ready.1 hj
    have hjp : ∃ q ∈ pa, q.i = j := by
     by_cases hLj : L.getD j true = false
     · have : j ∈ Region.ready .any ops L := mem_ready.2 ⟨hLj, oj, g2, fun e he hb => I.AL _ (g3 e he hb)⟩
       rw [hL] at this; cases this
     · have hLj' : L.getD j false = true := by
        have hlt : j < L.size := by rw [I.szL]; exact (Array.getElem?_eq_some_iff.1 g2).1
        simp only [Array.getD_eq_getD_getElem?, Array.getElem?_eq_getElem hlt, Option.getD_some] at *
        simpa using hLj
       rcases I.LA j hLj' with h | h
       · have := oq g1; rw [this] at h; cases h
       · exact h
    obtain ⟨q, hq, rfl⟩ := hjp
    refine wpOpIn_mono (fun a' w' hR => ?_) (td (Q := Q) hops I hln Rr hq hj)
    exact ih _ _ a' w' (I.step hq hj) (ho.filter (by rw [I.szA]; exact (Array.getElem?_eq_some_iff.1 g2).1)) hR (by have := oo (Array.getElem?_eq_some_iff.1 g2).1 g1 I.szA; omega)
theorem yM (hprim : ∀ f args r, prim f args = some r → eG Γ.P f args r) (hcall : ∀ f args h r h', call f args h = some (r, h') → je Γ.P f args h r h') (hops : ∀ o ∈ ops.toList, cu Γ.n o) (hQ : ∀ a w, R Γ [] s1 h1 a w → Q .normal a w) : ∀ (l : List Stp) (spd : List (Nat × Array Bool)) (L : Array Bool) (pd : List Pd) (s : Fr) (h : Hp),
  fk ops l spd L = true → co Γ.P prim call ops l pd s h = some (s1, h1) → ∀ (pa : List Pd) (A : Array Bool) (fuel : Nat) (Rf : Nat → Nat → Bool) (a : Act) (w : World), Inv Γ.P ops L A pd pa spd Rf s h → Ord A pa → (∀ p ∈ pd, ∀ k b, p.lay = some (k, b) → Γ.n0 ≤ k) →
  R Γ (gJ pa) (dt pa s) h a w → left ops A ≤ fuel → wpAnyIn Γ.F 0 Γ.P .any ops Q fuel A a w := by
 intro l
 induction l with
 | nil =>
  intro spd L pd s h hok hx pa A fuel Rf a w I ho hln Rr hl
  simp only [co, Option.some.injEq, Prod.mk.injEq] at hx
  obtain ⟨rfl, rfl⟩ := hx
  simp only [fk, List.isEmpty_iff] at hok
  exact Dk hops hQ hok hln fuel pa A a w I ho Rr hl
 | cons st l ih =>
  intro spd L pd s h hok hx pa A fuel Rf a w I ho hln Rr hl
  cases st with
  | take i =>
   simp only [fk, Bool.and_eq_true] at hok
   obtain ⟨⟨hrd, hst⟩, hok⟩ := hok
   have hrd : i ∈ Region.ready .any ops L := by simpa using hrd
   obtain ⟨g1, o, g2, g3⟩ := mem_ready.1 hrd
   rw [g2] at hst
   simp only [Bool.and_eq_true] at hst
   obtain ⟨⟨hself, hreach⟩, hpds⟩ := hst
   obtain ⟨hr1, hr2⟩ := uX hreach
   have hself := wN hself
   have hilt : i < ops.size := (Array.getElem?_eq_some_iff.1 g2).1
   have hLf : L.getD i false = false := oq g1
   have hni : ∀ p ∈ pd, p.i ≠ i := fun p hp e => by have := I.pL p hp; rw [e, hLf] at this; cases this
   have hpair : ∀ p ∈ pd, (∀ d, o.dst = some d → d ∉ p.o.looksAt ops ∧ p.o.dst ≠ some d) ∧ (Rf p.i i = true → ∀ d, p.o.dst = some d → d ∉ o.looksAt ops ∧ o.dst ≠ some d) := by
    intro p hp
    have hpm : p.i ∈ spd.map (·.1) := by rw [← I.hs]; exact List.mem_map_of_mem hp
    obtain ⟨x, hx1, hx2⟩ := List.mem_map.1 hpm
    have h1 := List.all_eq_true.1 hpds x hx1
    rw [hx2, (I.pi p hp).op] at h1
    simp only [Bool.and_eq_true, Bool.or_eq_true, Bool.not_eq_true'] at h1
    refine ⟨kD h1.1, fun hrf => ?_⟩
    rcases h1.2 with h2 | h2
    · have := I.hR x hx1 i
      rw [hx2, hrf, h2] at this; cases this
    · exact kD h2
   simp only [co, g2] at hx
   have hset : ∀ y, (L.setIfInBounds i true).getD y false = true → y = i ∨ L.getD y false = true := fun y hy => by
    by_cases e : i = y
    · exact .inl e.symm
    · rw [getD_set_ne false e] at hy; exact .inr hy
   have hAi : A.getD i true = false := by
    have hAsz : i < A.size := by rw [I.szA]; exact hilt
    cases hAb : A.getD i false with
    | true => have := I.AL i hAb; rw [hLf] at this; cases this
    | false =>
     simp only [Array.getD_eq_getD_getElem?, Array.getElem?_eq_getElem hAsz, Option.getD_some] at *
     exact hAb
   have go : ∀ (p : Pd) (h' : Hp), p.i = i → p.o = o → PI Γ.P ops (Fr.putO s o.dst p.c) h' p → (∀ q ∈ pd, PI Γ.P ops (Fr.putO s o.dst p.c) h' q) → (∀ k b, p.lay = some (k, b) → Γ.n0 ≤ k ∧ ∀ q ∈ pd, ∀ b', q.lay ≠ some (k, b')) →
     R Γ (gJ (p :: pa)) (dt (p :: pa) (Fr.putO s o.dst p.c)) h' a w → co Γ.P prim call ops l (p :: pd) (Fr.putO s o.dst p.c) h' = some (s1, h1) → wpAnyIn Γ.F 0 Γ.P .any ops Q fuel A a w := by
    intro p h' hpi hpo hP1 hP2 hP3 hR hx'
    subst hpi
    subst hpo
    refine ih _ _ _ _ _ hok hx' (p :: pa) A fuel (fun j y => if j = p.i then (p0 ops p.i L).getD y false else Rf j y) a w ⟨?_, ?_, ?_, ?_, ?_, ?_, ?_, ?_, ?_, ?_, ?_, ?_, ?_, ?_, I.szA, by simp [I.szL]⟩ ⟨?_, ho⟩ ?_ hR hl
    · simp [I.hs]
    · intro x hm y
      rcases List.mem_cons.1 hm with hm1 | hm1
      · subst hm1; simp
      · have hne : x.1 ≠ p.i := fun e => by
         have : x.1 ∈ pd.map (·.i) := by rw [I.hs]; exact List.mem_map_of_mem hm1
         obtain ⟨q, hq1, hq2⟩ := List.mem_map.1 this
         exact hni q hq1 (hq2.trans e)
        simp only [if_neg hne]; exact I.hR x hm1 y
    · intro q hm
      rcases List.mem_cons.1 hm with hm1 | hm1
      · rw [hm1]; exact hP1
      · exact hP2 q hm1
    · intro q hm j oj hoj hne hall
      rcases List.mem_cons.1 hm with hm1 | hm1
      · rw [hm1] at hall hne ⊢; simp only [if_true] at hall ⊢; exact hr2 j oj hoj hne hall
      · simp only [if_neg (hni q hm1)] at hall ⊢; exact I.cl q hm1 j oj hoj hne hall
    · intro q hm q' hm' hne hrf d hd
      rcases List.mem_cons.1 hm with hm1 | hm1
      · rcases List.mem_cons.1 hm' with hm1' | hm1'
        · rw [hm1, hm1'] at hne; exact absurd rfl hne
        · rw [hm1] at hd; exact (hpair q' hm1').1 d hd
      · rcases List.mem_cons.1 hm' with hm1' | hm1'
        · simp only [if_neg (hni q hm1)] at hrf
          rw [hm1'] at hrf ⊢
          exact (hpair q hm1).2 hrf d hd
        · simp only [if_neg (hni q hm1)] at hrf
          exact I.pp q hm1 q' hm1' hne hrf d hd
    · intro q hm d hd
      rcases List.mem_cons.1 hm with hm1 | hm1
      · rw [hm1] at hd ⊢; exact hself d hd
      · exact I.self q hm1 d hd
    · intro q hm q' hm' e
      rcases List.mem_cons.1 hm with hm1 | hm1 <;> rcases List.mem_cons.1 hm' with hm1' | hm1'
      · rw [hm1, hm1']
      · rw [hm1] at e; exact absurd e.symm (hni q' hm1')
      · rw [hm1'] at e; exact absurd e (hni q hm1)
      · exact I.un q hm1 q' hm1' e
    · intro q hm q' hm' k b b' hk hk'
      rcases List.mem_cons.1 hm with hm1 | hm1 <;> rcases List.mem_cons.1 hm' with hm1' | hm1'
      · rw [hm1, hm1']
      · rw [hm1] at hk; exact absurd hk' ((hP3 k b hk).2 q' hm1' b')
      · rw [hm1'] at hk'; exact absurd hk ((hP3 k b' hk').2 q hm1 b)
      · exact I.lu q hm1 q' hm1' k b b' hk hk'
    · intro q hm
      rcases List.mem_cons.1 hm with hm1 | hm1
      · rw [hm1]; simp [I.szL, hilt]
      · exact getD_set_true (I.pL q hm1)
    · intro q hm
      rcases List.mem_cons.1 hm with hm1 | hm1
      · rw [hm1]; exact List.mem_cons_self
      · exact List.mem_cons_of_mem _ (I.sub q hm1)
    · intro q hm x hy
      rcases List.mem_cons.1 hm with hm1 | hm1
      · rw [hm1]; simp only [if_true]; exact hr1 x (I.AL x hy)
      · simp only [if_neg (hni q (I.sub q hm1))]; exact I.aR q hm1 x hy
    · intro q hm
      rcases List.mem_cons.1 hm with hm1 | hm1
      · rw [hm1]; exact hAi
      · exact I.pA q hm1
    · intro x hy
      exact getD_set_true (I.AL x hy)
    · intro x hy
      rcases hset x hy with hy | hy
      · exact .inr ⟨p, List.mem_cons_self, hy.symm⟩
      · exact (I.LA x hy).imp id fun ⟨q, hq, e⟩ => ⟨q, List.mem_cons_of_mem _ hq, e⟩
    · intro e he hb
      exact I.LA _ (g3 e he hb)
    · intro q hm k b hk
      rcases List.mem_cons.1 hm with hm1 | hm1
      · rw [hm1] at hk; exact (hP3 k b hk).1
      · exact hln q hm1 k b hk
   have hagp : ∀ q ∈ pd, ∀ c, Agree ops q.o (Fr.putO s o.dst c) s := fun q hq c => ng fun t ht => ((hpair q hq).1 t ht).1
   have hdp : ∀ q ∈ pd, ∀ c d, q.o.dst = some d → (Fr.putO s o.dst c).at d = s.at d := fun q hq c d hd => by
    rw [dL, if_neg fun e => ((hpair q hq).1 d e).2 hd]
   have hago : ∀ c, Agree ops o (Fr.putO s o.dst c) s := fun c => ng fun t ht => hself t ht
   have hmask : ∀ (p : Pd), p.o = o → ∀ t, (dt (p :: pa) (Fr.putO s o.dst p.c)).at t = .undef ∨ (dt (p :: pa) (Fr.putO s o.dst p.c)).at t = (dt pa s).at t := by
    intro p hpo t
    by_cases hd : o.dst = some t
    · exact .inl (gZ _ _ t ⟨p, List.mem_cons_self, by rw [hpo]; exact hd⟩)
    · by_cases hex : ∃ q ∈ pa, q.o.dst = some t
      · obtain ⟨q, hq, hqd⟩ := hex
        exact .inl (gZ _ _ t ⟨q, List.mem_cons_of_mem _ hq, hqd⟩)
      · right
        rw [dC pa s t fun q hq hqd => hex ⟨q, hq, hqd⟩, dC (p :: pa) _ t fun q hq hqd => ?_]
        · rw [dL, if_neg hd]
        · rcases List.mem_cons.1 hq with rfl | hq
          · rw [hpo] at hqd; exact hd hqd
          · exact hex ⟨q, hq, hqd⟩
   have keep : ∀ q ∈ pd, ∀ c, PI Γ.P ops (Fr.putO s o.dst c) h q := fun q hq c => by
    have hp := I.pi q hq
    have hag := hagp q hq c
    exact ⟨hp.op, fun d hd => (hdp q hq c d hd).trans (hp.dst d hd), fun hs => ⟨hag.want.trans (hp.skip hs).1, (hp.skip hs).2⟩, fun hs => hag.want.trans (hp.go hs), fun hs hl => (by rw [gh hag.ev]; exact hp.quiet hs hl),
     fun k b hs hl => (by obtain ⟨e1, e2, f, e3, e4⟩ := hp.lay k b hs hl; exact ⟨e1, e2, f, by rw [eH hag.ev]; exact e3, e4⟩), hp.nolay⟩
   split at hx
   · cases hx
   · rename_i hw
     refine go ⟨i, o, true, .skp, none⟩ h rfl rfl ⟨g2, fun d hd => by rw [dL, if_pos hd], fun _ => ⟨(hago _).want.trans hw, rfl⟩, fun hs => (by cases hs), fun hs => (by cases hs), fun k b hs => (by cases hs), fun _ => rfl⟩ (fun q hq => keep q hq _) (fun k b hk => (by cases hk)) (Rr.weak (hmask ⟨i, o, true, .skp, none⟩ rfl) fun k hk => ?_) hx
     exact hk
   · rename_i hw
     split at hx
     · rename_i f b hly
       split at hx
       · rename_i hall
         obtain ⟨ι, Rl⟩ := Rr
         refine go ⟨i, o, false, f h.n, some (h.n, b)⟩ (h.push b) rfl rfl ⟨g2, fun d hd => by rw [dL, if_pos hd], fun hs => (by cases hs), fun _ => (hago _).want.trans hw, fun _ hl => (by cases hl), fun k b' _ hl => ?_, fun hs => (by cases hs)⟩ (fun q hq => ?_) (fun k b' hk => ?_) ?_ hx
         · injection hl with hl
           injection hl with e1 e2
           subst e1; subst e2
           exact ⟨by simp, by rw [ag, if_pos rfl], f, by rw [eH (hago _).ev]; exact hly, rfl⟩
         · have h3 := keep q hq (f h.n)
           have h4 := tf (s' := s) (h' := h.push b) (I.pi q hq) (fun t _ => rfl) (fun d _ => rfl) (by simp) (List.all_eq_true.1 hall q hq)
           have hag := hagp q hq (f h.n)
           exact ⟨h3.op, h3.dst, h3.skip, h3.go, fun hs hl => (by rw [gh hag.ev]; exact h4.quiet hs hl), fun k b' hs hl => (by obtain ⟨e1, e2, f', e3, e4⟩ := h4.lay k b' hs hl; exact ⟨e1, e2, f', by rw [eH hag.ev]; exact e3, e4⟩), h3.nolay⟩
         · injection hk with hk
           injection hk with e1 e2
           subst e1
           refine ⟨Rl.hn, fun q hq b2 hq2 => ?_⟩
           have hq3 := I.pi q hq
           cases hsk : q.skip with
           | true => rw [hq3.nolay hsk] at hq2; cases hq2
           | false => have := (hq3.lay _ _ hsk hq2).1; omega
         · have hR2 : R Γ (h.n :: gJ pa) (dt pa s) (h.push b) a w := by
            refine ⟨ι, Rl.df, Rl.tn, Rl.le, Rl.dom, fun k hk => ?_, Rl.sim.push b, Rl.tv, Rl.ext, by rw [kq]; have := Rl.hn; omega, Rl.h0⟩
            rcases List.mem_cons.1 hk with rfl | hk
            · exact ⟨Rl.sim.none, by simp⟩
            · exact ⟨(Rl.av k hk).1, by rw [kq]; have := (Rl.av k hk).2; omega⟩
           exact hR2.weak (hmask ⟨i, o, false, f h.n, some (h.n, b)⟩ rfl) fun k hk => hk
       · cases hx
     · split at hx
       · rename_i c hq
         refine go ⟨i, o, false, c, none⟩ h rfl rfl ⟨g2, fun d hd => by rw [dL, if_pos hd], fun hs => (by cases hs), fun _ => (hago _).want.trans hw, fun _ _ => (by rw [gh (hago _).ev]; exact hq), fun k b' _ hl => (by cases hl), fun hs => (by cases hs)⟩ (fun q hq => keep q hq _) (fun k b hk => (by cases hk)) (Rr.weak (hmask ⟨i, o, false, c, none⟩ rfl) fun k hk => ?_) hx
         exact hk
       · cases hx
  | only j keep =>
   simp only [fk, Bool.and_eq_true, beq_iff_eq] at hok
   obtain ⟨⟨hrd, hst⟩, hok⟩ := hok
   have hjL : j ∈ Region.ready .any ops L := by rw [hrd]; exact List.mem_singleton.2 rfl
   obtain ⟨g1, o, g2, g3⟩ := mem_ready.1 hjL
   rw [g2] at hst
   have hjlt : j < ops.size := (Array.getElem?_eq_some_iff.1 g2).1
   have hLf : L.getD j false = false := oq g1
   have hok' := kE hops g2
   have hni : ∀ p ∈ pd, p.i ≠ j := fun p hp e => by have := I.pL p hp; rw [e, hLf] at this; cases this
   have hkeep : ∀ p ∈ pd, (keep.any (Nat.beq p.i) = true → (∀ d, p.o.dst = some d → d ∉ o.looksAt ops ∧ o.dst ≠ some d) ∧ ∀ d, o.dst = some d → d ∉ p.o.looksAt ops ∧ p.o.dst ≠ some d) ∧ (keep.any (Nat.beq p.i) = false → Rf p.i j = false) := by
    intro p hp
    have hpm : p.i ∈ spd.map (·.1) := by rw [← I.hs]; exact List.mem_map_of_mem hp
    obtain ⟨x, hx1, hx2⟩ := List.mem_map.1 hpm
    have h1 := List.all_eq_true.1 hst x hx1
    rw [hx2, (I.pi p hp).op] at h1
    dsimp only at h1
    refine ⟨fun hk => ?_, fun hk => ?_⟩
    · rw [hk] at h1
      simp only [if_true, Bool.and_eq_true] at h1
      exact ⟨kD h1.1, kD h1.2⟩
    · rw [hk] at h1
      simp only [Bool.false_eq_true, if_false, Bool.not_eq_true'] at h1
      rw [← hx2, I.hR x hx1 j]; exact h1
   simp only [co, g2] at hx
   have hAj : ∀ {A : Array Bool} {pa : List Pd}, Inv Γ.P ops L A pd pa spd Rf s h → A.getD j true = false := by
    intro A pa I
    have hAsz : j < A.size := by rw [I.szA]; exact hjlt
    cases hAb : A.getD j false with
    | true => have := I.AL j hAb; rw [hLf] at this; cases this
    | false =>
     simp only [Array.getD_eq_getD_getElem?, Array.getElem?_eq_getElem hAsz, Option.getD_some] at *
     exact hAb
   have main : ∀ (fuel : Nat) (pa : List Pd) (A : Array Bool) (a : Act) (w : World), Inv Γ.P ops L A pd pa spd Rf s h → Ord A pa → R Γ (gJ pa) (dt pa s) h a w → left ops A ≤ fuel → wpAnyIn Γ.F 0 Γ.P .any ops Q fuel A a w := by
    intro fuel
    induction fuel with
    | zero =>
     intro pa A a w I ho Rr hl
     have := oo hjlt (hAj I) I.szA
     omega
    | succ fuel ihf =>
     intro pa A a w I ho Rr hl
     refine ⟨fun hno => ?_, fun i hi => ?_⟩
     · cases hpa : pa with
       | nil =>
        subst hpa
        have : j ∈ Region.ready .any ops A := mem_ready.2 ⟨hAj I, o, g2, fun e he hb => (I.LA _ (g3 e he hb)).resolve_right fun ⟨q, hq, _⟩ => by cases hq⟩
        rw [hno] at this; cases this
       | cons p ps =>
        rw [hpa] at ho I
        exact absurd hno (Ord.ready (by simp) ho fun x hx => ⟨I.pA x hx, (I.pi x (I.sub x hx)).op⟩)
     · obtain ⟨f1, oi, f2, f3⟩ := mem_ready.1 hi
       have hilt := (Array.getElem?_eq_some_iff.1 f2).1
       have hlt := oo hilt f1 I.szA
       by_cases hij : i = j
       · subst hij
         rw [g2] at f2
         injection f2 with f2
         subst f2
         have hinA : ∀ p ∈ pa, keep.any (Nat.beq p.i) = true := by
          intro p hp
          cases hk : keep.any (Nat.beq p.i) with
          | true => rfl
          | false =>
           have h1 := (hkeep p (I.sub p hp)).2 hk
           have h2 := I.rf hp hi (fun e => hni p (I.sub p hp) e.symm)
           rw [h1] at h2; cases h2
         have hag : Agree ops o (dt pa s) s := fun t ht => dC pa s t fun p hp hd => (((hkeep p (I.sub p hp)).1 (hinA p hp)).1 t hd).1 ht
         have hmk : ∀ c t, (dt pa (Fr.putO s o.dst c)).at t = (Fr.putO (dt pa s) o.dst c).at t := by
          intro c t
          rw [dL]
          split
          · rename_i hd
            rw [dC pa _ t fun p hp hpd => (((hkeep p (I.sub p hp)).1 (hinA p hp)).1 t hpd).2 hd, dL, if_pos hd]
          · rename_i hd
            by_cases hex : ∃ p ∈ pa, p.o.dst = some t
            · rw [gZ pa _ t hex, gZ pa s t hex]
            · rw [dC pa _ t fun p hp hpd => hex ⟨p, hp, hpd⟩, dC pa s t fun p hp hpd => hex ⟨p, hp, hpd⟩, dL, if_neg hd]
         have hmem : ∀ p, p ∈ pd.filter (fun p => keep.any (Nat.beq p.i)) → p ∈ pd ∧ keep.any (Nat.beq p.i) = true := fun p hp => List.mem_filter.1 hp
         have hsetL : ∀ y, (L.setIfInBounds i true).getD y false = true → y = i ∨ L.getD y false = true := fun y hy => by
          by_cases e : i = y
          · exact .inl e.symm
          · rw [getD_set_ne false e] at hy; exact .inr hy
         have hsetA : ∀ y, (A.setIfInBounds i true).getD y false = true → y = i ∨ A.getD y false = true := fun y hy => by
          by_cases e : i = y
          · exact .inl e.symm
          · rw [getD_set_ne false e] at hy; exact .inr hy
         have nextI : ∀ {s2 : Fr} {h2 : Hp}, (∀ p ∈ pd.filter (fun p => keep.any (Nat.beq p.i)), PI Γ.P ops s2 h2 p) → Inv Γ.P ops (L.setIfInBounds i true) (A.setIfInBounds i true) (pd.filter fun p => keep.any (Nat.beq p.i)) pa (spd.filter fun p => keep.any (Nat.beq p.1)) Rf s2 h2 := by
          intro s2 h2 hP
          refine ⟨?_, fun x hx y => I.hR x (List.mem_filter.1 hx).1 y, hP, fun p hp => I.cl p (hmem p hp).1, fun p hp q hq => I.pp p (hmem p hp).1 q (hmem q hq).1, fun p hp => I.self p (hmem p hp).1, fun p hp q hq => I.un p (hmem p hp).1 q (hmem q hq).1, fun p hp q hq => I.lu p (hmem p hp).1 q (hmem q hq).1, fun p hp => getD_set_true (I.pL p (hmem p hp).1),
           fun p hp => List.mem_filter.2 ⟨I.sub p hp, hinA p hp⟩, fun p hp x hx => ?_, fun p hp => ?_, fun x hx => ?_, fun x hx => ?_, by simp [I.szA], by simp [I.szL]⟩
          · have e1 : (pd.filter fun p => keep.any (Nat.beq p.i)) = pd.filter ((fun n => keep.any (Nat.beq n)) ∘ (·.i)) := rfl
            have e2 : (spd.filter fun p => keep.any (Nat.beq p.1)) = spd.filter ((fun n => keep.any (Nat.beq n)) ∘ (·.1)) := rfl
            rw [e1, e2, ← List.filter_map, ← List.filter_map, I.hs]
          · rcases hsetA x hx with e | hx
            · rw [e]; exact I.rf hp hi (fun e => hni p (I.sub p hp) e.symm)
            · exact I.aR p hp x hx
          · rw [getD_set_ne true (fun e => hni p (I.sub p hp) e.symm)]; exact I.pA p hp
          · rcases hsetA x hx with e | hx
            · rw [e]; simp [I.szL, hjlt]
            · exact getD_set_true (I.AL x hx)
          · rcases hsetL x hx with e | hx
            · left; rw [e]; simp [I.szA, hjlt]
            · exact (I.LA x hx).imp getD_set_true id
         have hPIput : ∀ c, ∀ p ∈ pd.filter (fun p => keep.any (Nat.beq p.i)), Agree ops p.o (Fr.putO s o.dst c) s ∧ ∀ d, p.o.dst = some d → (Fr.putO s o.dst c).at d = s.at d := by
          intro c p hp
          have h1 := ((hkeep p (hmem p hp).1).1 (hmem p hp).2).2
          exact ⟨ng fun t ht => (h1 t ht).1, fun d hd => by rw [dL, if_neg fun e => (h1 d e).2 hd]⟩
         unfold wpOpIn
         rw [g2]
         dsimp only
         split at hx
         · cases hx
         · rename_i hw
           rw [fy Rr hops (hag.want.trans hw)]
           simp only [Bool.false_eq_true, if_false]
           refine ⟨fun _ _ => trivial, ?_⟩
           refine ih _ _ _ _ _ hok hx pa (A.setIfInBounds i true) fuel Rf _ w (nextI fun p hp => ?_) ho.mono (fun p hp => hln p (hmem p hp).1) ((Rr.skp hok'.1).weak (fun t => .inr (hmk _ t)) fun k hk => hk) (by omega)
           have hq := I.pi p (hmem p hp).1
           obtain ⟨hag2, hd2⟩ := hPIput .skp p hp
           exact ⟨hq.op, fun d hd => (hd2 d hd).trans (hq.dst d hd), fun hs => ⟨hag2.want.trans (hq.skip hs).1, (hq.skip hs).2⟩, fun hs => hag2.want.trans (hq.go hs), fun hs hl => (by rw [gh hag2.ev]; exact hq.quiet hs hl),
            fun k b hs hl => (by obtain ⟨e1, e2, f, e3, e4⟩ := hq.lay k b hs hl; exact ⟨e1, e2, f, by rw [eH hag2.ev]; exact e3, e4⟩), hq.nolay⟩
         · rename_i hw
           rw [fy Rr hops (hag.want.trans hw)]
           simp only [if_true]
           split at hx
           · rename_i c h' hc
             split at hx
             · rename_i hall
               have hc' := hc
               rw [← Af hag.ev] at hc'
               refine Oper.wpIn_mono (fun a' w' hR => ?_) (xD hprim hcall (Q := Q) Rr hok' hc')
               have hnn : h.n ≤ h'.n := Lz hcall Rr hok' hc'
               refine ih _ _ _ _ _ hok hx pa (A.setIfInBounds i true) fuel Rf a' w' (nextI fun p hp => ?_) ho.mono (fun p hp => hln p (hmem p hp).1) (hR.weak (fun t => .inr (hmk _ t)) fun k hk => hk) (by omega)
               obtain ⟨hag2, hd2⟩ := hPIput c p hp
               exact tf (I.pi p (hmem p hp).1) hag2 hd2 hnn (List.all_eq_true.1 hall p hp)
             · cases hx
           · cases hx
       · have hjp : ∃ q ∈ pa, q.i = i := by
          by_cases hLi : L.getD i true = false
          · have : i ∈ Region.ready .any ops L := mem_ready.2 ⟨hLi, oi, f2, fun e he hb => I.AL _ (f3 e he hb)⟩
            rw [hrd] at this
            exact absurd (List.mem_singleton.1 this) hij
          · have hLi' : L.getD i false = true := by
             have hlt : i < L.size := by rw [I.szL]; exact hilt
             simp only [Array.getD_eq_getD_getElem?, Array.getElem?_eq_getElem hlt, Option.getD_some] at *
             simpa using hLi
            rcases I.LA i hLi' with h | h
            · have := oq f1; rw [this] at h; cases h
            · exact h
         obtain ⟨q, hq, rfl⟩ := hjp
         refine wpOpIn_mono (fun a' w' hR => ?_) (td (Q := Q) hops I hln Rr hq hi)
         exact ihf _ _ a' w' (I.step hq hi) (ho.filter (by rw [I.szA]; exact hilt)) hR (by omega)
   exact main fuel pa A a w I ho Rr hl
end
end Go.CP
namespace Go.CP
def gK (m j : Nat) : Bool := Nat.beq (Nat.land (Nat.shiftRight m j) 1) 1
def pB (m j : Nat) : Nat := Nat.lor m (Nat.shiftLeft 1 j)
def kS (a m : Nat) : Bool := Nat.beq (Nat.land a m) a
theorem lj (m j : Nat) : gK m j = m.testBit j := by
 have h : gK m j = Nat.beq ((m >>> j) &&& 1) 1 := rfl
 rw [h, Nat.and_one_is_mod, Nat.shiftRight_eq_div_pow, Nat.testBit_eq_decide_div_mod_eq, Bool.eq_iff_iff]
 simp
theorem uY (m j k : Nat) : gK (pB m j) k = (gK m k || decide (k = j)) := by
 have h : pB m j = m ||| (1 <<< j) := rfl
 rw [lj, lj, h, Nat.testBit_or, Nat.one_shiftLeft, Nat.testBit_two_pow]
 congr 1
 rw [Bool.eq_iff_iff]; simp; exact eq_comm
theorem uZ {a m : Nat} : kS a m = true ↔ ∀ j, gK a j = true → gK m j = true := by
 have h : kS a m = Nat.beq (a &&& m) a := rfl
 rw [h]
 constructor
 · intro e j hj
   have e := Nat.eq_of_beq_eq_true e
   rw [lj] at hj ⊢
   rw [← e, Nat.testBit_and] at hj
   simp at hj; exact hj.2
 · intro hh
   have e : a &&& m = a := by
    apply Nat.eq_of_testBit_eq
    intro j
    rw [Nat.testBit_and]
    have := hh j
    rw [lj, lj] at this
    cases ha : a.testBit j
    · rfl
    · rw [this ha]; rfl
   rw [e]; exact Nat.beq_refl a
def ot : List Nat → Nat → Nat
 | [], m => m
 | t :: l, m => ot l (pB m t)
theorem kF : ∀ (l : List Nat) (m k : Nat), gK (ot l m) k = (gK m k || l.contains k)
 | [], m, k => by simp [ot]
 | t :: l, m, k => by
  simp only [ot]
  rw [kF l, uY, List.contains_cons, Bool.or_assoc]
  rfl
theorem lU (k : Nat) : gK 0 k = false := by rw [lj]; simp
structure Nf where
 em : Nat
 d : Option Nat
 lm : Nat
def nf (ops : Array Oper) (o : Oper) : Nf := ⟨ot ((o.after.toList.filter (Region.binds .any)).map (·.on)) 0, o.dst, ot (o.looksAt ops) 0⟩
def nh (ops : Array Oper) : List Nf := ops.toList.map (nf ops)
def LW : Option Nat → Nat → Bool
 | some a, d => Nat.beq a d
 | none, _ => false
def ou (x y : Nf) : Bool := match x.d with
 | some d => !(gK y.lm d) && !(LW y.d d)
 | none => true
def yN (x : Nf) : Bool := match x.d with
 | some d => !(gK x.lm d)
 | none => true
def iG : Nat → List Nf → Nat → List Nat
 | _, [], _ => []
 | j, e :: es, m => match !(gK m j) && kS e.em m with
  | true => j :: iG (j + 1) es m
  | false => iG (j + 1) es m
def fR (i : Nat) : Nat → List Nf → Nat → Nat
 | _, [], R => R
 | j, e :: es, R => match Nat.beq j i with
  | true => fR i (j + 1) es R
  | false => match kS e.em R with
   | true => fR i (j + 1) es (pB R j)
   | false => fR i (j + 1) es R
def lk (i : Nat) : Nat → List Nf → Nat → Bool
 | _, [], _ => true
 | j, e :: es, R => (Nat.beq j i || (!(kS e.em R) || gK R j)) && lk i (j + 1) es R
def gA (E : List Nf) : List Stp → List (Nat × Nat × Nf) → Nat → Bool
 | [], _, m => (iG 0 E m).isEmpty
 | .take i :: l, pd, m => (iG 0 E m).contains i && (match E[i]? with
   | some x => yN x && (kS m (fR i 0 E m) && lk i 0 E (fR i 0 E m)) && pd.all (fun p => ou x p.2.2 && (!(gK p.2.1 i) || ou p.2.2 x)) && gA E l ((i, fR i 0 E m, x) :: pd) (pB m i)
   | none => false)
 | .only i keep :: l, pd, m => iG 0 E m == [i] && (match E[i]? with
   | some x => pd.all (fun p => match keep.any (Nat.beq p.1) with
    | true => ou p.2.2 x && ou x p.2.2
    | false => !(gK p.2.1 i))
   | none => false) && gA E l (pd.filter fun p => keep.any (Nat.beq p.1)) (pB m i)
structure Rel (n : Nat) (arr : Array Bool) (m : Nat) : Prop where
 size : arr.size = n
 get : ∀ j, arr.getD j false = gK m j
theorem Rel.set {n : Nat} {arr : Array Bool} {m i : Nat} (R : Rel n arr m) (hi : i < n) : Rel n (arr.setIfInBounds i true) (pB m i) := by
 refine ⟨by simp [R.size], fun j => ?_⟩
 rw [uY, ← R.get j]
 simp only [Array.getD_eq_getD_getElem?, Array.getElem?_setIfInBounds]
 by_cases h : i = j
 · subst h
   rw [if_pos rfl, if_pos (by rw [R.size]; exact hi)]
   simp
 · rw [if_neg h]
   have : ¬ (j = i) := fun e => h e.symm
   simp [this]
theorem Rel.getT {n : Nat} {arr : Array Bool} {m i : Nat} (R : Rel n arr m) (hi : i < n) : arr.getD i true = gK m i := by
 rw [← R.get i]
 have : i < arr.size := by rw [R.size]; exact hi
 simp [Array.getD, this]
theorem pC {n : Nat} {arr : Array Bool} {m : Nat} (R : Rel n arr m) (ops : Array Oper) (o : Oper) : (o.after.all fun e => !Region.binds .any e || arr.getD e.on false) = kS (nf ops o).em m := by
 rw [Bool.eq_iff_iff, uZ, ← Array.all_toList, List.all_eq_true]
 simp only [nf, kF, lU, Bool.false_or]
 constructor
 · intro h j hj
   simp only [List.contains_iff_mem, List.mem_map, List.mem_filter] at hj
   obtain ⟨e, ⟨he, hb⟩, rfl⟩ := hj
   have := h e he
   rw [hb] at this
   rw [← R.get]; simpa using this
 · intro h e he
   cases hb : Region.binds .any e
   · rfl
   · rw [R.get]
     have := h e.on (by simp only [List.contains_iff_mem, List.mem_map, List.mem_filter]; exact ⟨e, ⟨he, hb⟩, rfl⟩)
     rw [this]; rfl
theorem pD {ops : Array Oper} {arr : Array Bool} {m : Nat} (R : Rel ops.size arr m) : Region.ready .any ops arr = iG 0 (nh ops) m := by
 have key : ∀ (l : List Oper) (j : Nat), (∀ t, ops[j + t]? = l[t]?) → (List.range' j l.length).filter (fun i => !arr.getD i true && ((ops[i]?).map (·.after.all fun e => !Region.binds .any e || arr.getD e.on false)).getD false) = iG j (l.map (nf ops)) m := by
  intro l
  induction l with
  | nil => intro j _; rfl
  | cons o l ih =>
   intro j hj
   have h0 : ops[j]? = some o := by simpa using hj 0
   have hlt : j < ops.size := (Array.getElem?_eq_some_iff.1 h0).1
   have ih' := ih (j + 1) fun t => by rw [Nat.add_assoc, Nat.add_comm 1 t]; simpa using hj (t + 1)
   simp only [List.length_cons, List.range'_succ, List.filter_cons, List.map_cons, iG]
   rw [R.getT hlt, h0, Option.map_some, Option.getD_some, pC R ops o]
   cases hb : !(gK m j) && kS (nf ops o).em m
   · simp only [Bool.false_eq_true, if_false]; exact ih'
   · simp only [if_true]; rw [ih']
 unfold Region.ready
 rw [List.range_eq_range']
 have := key ops.toList 0 (fun t => by simp)
 rw [Array.length_toList] at this
 exact this
theorem Ag {ops : Array Oper} {arr : Array Bool} {m i : Nat} (R : Rel ops.size arr m) : Rel ops.size (p0 ops i arr) (fR i 0 (nh ops) m) := by
 have key : ∀ (l : List Oper) (j : Nat) (arr : Array Bool) (m : Nat), (∀ t, ops[j + t]? = l[t]?) → Rel ops.size arr m → Rel ops.size ((List.range' j l.length).foldl (fun R j => if j == i then R else match ops[j]? with
   | some o => if o.after.all (fun e => !Region.binds .any e || R.getD e.on false) then R.setIfInBounds j true else R
   | none => R) arr) (fR i j (l.map (nf ops)) m) := by
  intro l
  induction l with
  | nil => intro j arr m _ R; exact R
  | cons o l ih =>
   intro j arr m hj R
   have h0 : ops[j]? = some o := by simpa using hj 0
   have hlt : j < ops.size := (Array.getElem?_eq_some_iff.1 h0).1
   have hj' : ∀ t, ops[j + 1 + t]? = l[t]? := fun t => by rw [Nat.add_assoc, Nat.add_comm 1 t]; simpa using hj (t + 1)
   simp only [List.length_cons, List.range'_succ, List.foldl_cons, List.map_cons, fR]
   cases hb : Nat.beq j i
   · have hne : (j == i) = false := by simpa using Nat.ne_of_beq_eq_false hb
     simp only [hne, Bool.false_eq_true, if_false, h0, pC R ops o]
     cases hs : kS (nf ops o).em m
     · simp only [Bool.false_eq_true, if_false]; exact ih _ _ _ hj' R
     · simp only [if_true]; exact ih _ _ _ hj' (R.set hlt)
   · have he : (j == i) = true := by simpa using Nat.eq_of_beq_eq_true hb
     simp only [he, if_true]; exact ih _ _ _ hj' R
 unfold p0
 rw [List.range_eq_range']
 have := key ops.toList 0 arr m (fun t => by simp) R
 rw [Array.length_toList] at this
 exact this
theorem yO {ops : Array Oper} {arr R : Array Bool} {m r i : Nat} (hm : Rel ops.size arr m) (hr : Rel ops.size R r) (h1 : kS m r = true) (h2 : lk i 0 (nh ops) r = true) : lh ops i arr R = true := by
 unfold lh
 rw [Bool.and_eq_true]
 constructor
 · rw [List.all_eq_true]
   intro j _
   rw [hm.get, hr.get]
   cases hh : gK m j
   · rfl
   · rw [uZ.1 h1 j hh]; rfl
 · have key : ∀ (l : List Oper) (j : Nat), (∀ t, ops[j + t]? = l[t]?) → lk i j (l.map (nf ops)) r = true → ((List.range' j l.length).all fun j => j == i || match ops[j]? with
    | some o => !(o.after.all fun e => !Region.binds .any e || R.getD e.on false) || R.getD j false
    | none => true) = true := by
    intro l
    induction l with
    | nil => intro j _ _; rfl
    | cons o l ih =>
     intro j hj hc
     have h0 : ops[j]? = some o := by simpa using hj 0
     have hj' : ∀ t, ops[j + 1 + t]? = l[t]? := fun t => by rw [Nat.add_assoc, Nat.add_comm 1 t]; simpa using hj (t + 1)
     simp only [List.map_cons, lk, Bool.and_eq_true] at hc
     simp only [List.length_cons, List.range'_succ, List.all_cons, Bool.and_eq_true]
     refine ⟨?_, ih _ hj' hc.2⟩
     rw [h0]
     dsimp only
     rw [pC hr ops o, hr.get]
     have h3 := hc.1
     cases hb : Nat.beq j i
     · rw [hb] at h3
       simp only [Bool.false_or] at h3
       rw [h3]; simp
     · have he : (j == i) = true := by simpa using Nat.eq_of_beq_eq_true hb
       rw [he]; rfl
   rw [List.range_eq_range']
   have := key ops.toList 0 (fun t => by simp) h2
   rw [Array.length_toList] at this
   exact this
theorem xE (ops : Array Oper) (x y : Oper) : mT ops x y = ou (nf ops x) (nf ops y) := by
 unfold mT ou
 simp only [nf]
 cases x.dst with
 | none => rfl
 | some d =>
  simp only [kF, lU, Bool.false_or]
  congr 1
  cases y.dst with
  | none => rfl
  | some a =>
   simp only [LW]
   congr 1
   rw [Bool.eq_iff_iff]; simp
theorem F0 (ops : Array Oper) (x : Oper) : mU ops x = yN (nf ops x) := by
 unfold mU yN
 simp only [nf]
 cases x.dst with
 | none => rfl
 | some d => simp only [kF, lU, Bool.false_or]
def PdR (ops : Array Oper) : List (Nat × Array Bool) → List (Nat × Nat × Nf) → Prop
 | [], [] => True
 | p :: ps, q :: qs => (p.1 = q.1 ∧ Rel ops.size p.2 q.2.1 ∧ ∃ o, ops[p.1]? = some o ∧ q.2.2 = nf ops o) ∧ PdR ops ps qs
 | _, _ => False
theorem PdR.all {ops : Array Oper} {F : Nat × Array Bool → Bool} {G : Nat × Nat × Nf → Bool} (hFG : ∀ p q o, p.1 = q.1 → Rel ops.size p.2 q.2.1 → ops[p.1]? = some o → q.2.2 = nf ops o → G q = true → F p = true) :
  ∀ {ps : List (Nat × Array Bool)} {qs : List (Nat × Nat × Nf)}, PdR ops ps qs → qs.all G = true → ps.all F = true
 | [], [], _, _ => rfl
 | p :: ps, q :: qs, ⟨⟨h1, h2, o, h3, h4⟩, h5⟩, hg => by
  simp only [List.all_cons, Bool.and_eq_true] at hg ⊢
  exact ⟨hFG p q o h1 h2 h3 h4 hg.1, PdR.all hFG h5 hg.2⟩
 | [], _ :: _, h, _ => h.elim
 | _ :: _, [], h, _ => h.elim
theorem PdR.filter {ops : Array Oper} (f : Nat → Bool) : ∀ {ps : List (Nat × Array Bool)} {qs : List (Nat × Nat × Nf)}, PdR ops ps qs → PdR ops (ps.filter fun p => f p.1) (qs.filter fun p => f p.1)
 | [], [], _ => trivial
 | p :: ps, q :: qs, ⟨h1, h5⟩ => by
  simp only [List.filter_cons, ← h1.1]
  cases f p.1
  · simp only [Bool.false_eq_true, if_false]; exact PdR.filter f h5
  · simp only [if_true]; exact ⟨h1, PdR.filter f h5⟩
 | [], _ :: _, h => h.elim
 | _ :: _, [], h => h.elim
theorem lV {ops : Array Oper} : ∀ (l : List Stp) (pd : List (Nat × Array Bool)) (pn : List (Nat × Nat × Nf)) (arr : Array Bool) (m : Nat), Rel ops.size arr m → PdR ops pd pn → gA (nh ops) l pn m = true → fk ops l pd arr = true
 | [], pd, pn, arr, m, R, hp, h => by
  simp only [gA] at h
  simp only [fk, pD R, h]
 | .take i :: l, pd, pn, arr, m, R, hp, h => by
  simp only [gA, Bool.and_eq_true] at h
  obtain ⟨h1, h⟩ := h
  have hE : (nh ops)[i]? = ops[i]?.map (nf ops) := by simp [nh]
  rw [hE] at h
  cases ho : ops[i]? with
  | none => rw [ho] at h; cases h
  | some o =>
   rw [ho] at h
   simp only [Option.map_some, Bool.and_eq_true] at h
   obtain ⟨⟨⟨h2, h3, h4⟩, h5⟩, h6⟩ := h
   have hlt : i < ops.size := (Array.getElem?_eq_some_iff.1 ho).1
   have hr := Ag (i := i) R
   simp only [fk, pD R, h1, ho, F0, h2, yO R hr h3 h4, Bool.true_and, Bool.and_eq_true]
   refine ⟨hp.all ?_ h5, lV l _ ((i, fR i 0 (nh ops) m, nf ops o) :: pn) _ _ (R.set hlt) ⟨⟨rfl, hr, o, ho, rfl⟩, hp⟩ h6⟩
   intro p q o' e1 e2 e3 e4 hg
   rw [e3]
   simp only [xE, e2.get]
   rw [e4] at hg
   exact hg
 | .only i keep :: l, pd, pn, arr, m, R, hp, h => by
  simp only [gA, Bool.and_eq_true] at h
  obtain ⟨⟨h1, h⟩, h6⟩ := h
  have hE : (nh ops)[i]? = ops[i]?.map (nf ops) := by simp [nh]
  rw [hE] at h
  cases ho : ops[i]? with
  | none => rw [ho] at h; cases h
  | some o =>
   rw [ho] at h
   simp only [Option.map_some] at h
   have hlt : i < ops.size := (Array.getElem?_eq_some_iff.1 ho).1
   simp only [fk, pD R, h1, ho, Bool.true_and, Bool.and_eq_true]
   refine ⟨hp.all ?_ h, lV l _ _ _ _ (R.set hlt) (hp.filter fun j => keep.any (Nat.beq j)) h6⟩
   intro p q o' e1 e2 e3 e4 hg
   rw [e3]
   simp only [xE, e2.get]
   rw [e4, ← e1] at hg
   cases hk : keep.any (Nat.beq p.1)
   · rw [hk] at hg; simpa using hg
   · rw [hk] at hg; simpa using hg
theorem u0 {ops : Array Oper} {l : List Stp} (h : gA (nh ops) l [] 0 = true) : fk ops l [] (Array.replicate ops.size false) = true := by
 refine lV l [] [] _ 0 ⟨by simp, fun j => ?_⟩ trivial h
 rw [lU]
 simp only [Array.getD_eq_getD_getElem?, Array.getElem?_replicate]
 split <;> rfl
end Go.CP
