import Derived.Test.YtadagifjonbmjaaGreatDoorKp3
import Derived.RangeFuncRecord
import Derived.Laws.Externs
import Derived.Below
set_option linter.all false
namespace Go.CP
variable [LG] [HK]
def jf (n : Nat) (ops : Array Oper) : Bool := ops.toList.all fun o => (match o.dst with
 | some d => Nat.blt d n
 | none => true) && o.op.operands.toList.all fun x => match x with
  | .tmp t => Nat.blt t n
  | _ => true
theorem eI {n : Nat} {ops : Array Oper} (h : jf n ops = true) : ∀ o ∈ ops.toList, cu n o := by
 intro o ho
 have h1 := List.all_eq_true.1 h o ho
 simp only [Bool.and_eq_true] at h1
 refine ⟨fun d hd => ?_, fun x hx t ht => ?_⟩
 · have := h1.1
   rw [hd] at this
   exact cO this
 · have := List.all_eq_true.1 h1.2 x hx
   rw [ht] at this
   exact cO this
def Ah (n : Nat) : Operand → Bool
 | .tmp t => Nat.blt t n
 | _ => true
theorem lW {n : Nat} {x : Operand} (h : Ah n x = true) : iR n x := fun t ht => by
 rw [ht] at h; exact cO h
def bp (pl : Nat → Option (List Stp)) (n : Nat) : Code → Bool
 | .seq x y => bp pl n x && bp pl n y
 | .cond c x y => Ah n c && bp pl n x && bp pl n y
 | .block _ c => bp pl n c
 | .scope c => bp pl n c
 | .loop c => bp pl n c
 | .region id ops true => jf n ops && match pl id with
  | some p => gA (nh ops) p [] 0
  | none => true
 | .region id ops false => jf n ops
 | .rangeFunc g ps as bd => Ah n g && (ps.toList.all (fun t => Nat.blt t n) && bp pl n as && bp pl n bd)
 | _ => true
def jy (pl : Nat → Option (List Stp)) (n : Nat) (ps : Array Tmp) (as bd : Code) : Bool := Nat.ble n ai && (ps.toList.all (fun t => Nat.blt t n) && bp pl n as && bp pl n bd)
theorem dQ {s : Fr} {n : Nat} (hn : n ≤ ai) {d : Option Tmp} (hd : ∀ t, d = some t → @LT.lt Nat _ t n) (c : CV) : (Fr.putO s d c).at ai = s.at ai := by
 cases d with
 | none => rfl
 | some d =>
  have := hd d rfl
  simp only [Fr.putO, aI]
  rw [if_neg (by omega)]
theorem jg {P : Program} {prim : cM} {call : dE} {ops : Array Oper} {n : Nat} (hn : n ≤ ai) : ∀ (l : List Oper) {s s' : Fr} {h h' : Hp}, (∀ o ∈ l, cu n o) → eD P prim call ops l s h = some (s', h') → s'.at ai = s.at ai
 | [], s, s', h, h', _, hx => by
  simp only [eD, Option.some.injEq, Prod.mk.injEq] at hx
  rw [hx.1]
 | o :: l, s, s', h, h', hl, hx => by
  have hl' : ∀ o ∈ l, cu n o := fun o ho => hl o (List.mem_cons_of_mem _ ho)
  have ho := (hl o List.mem_cons_self).1
  simp only [eD] at hx
  split at hx
  · split at hx
    · exact (jg hn l hl' hx).trans (dQ hn ho _)
    · cases hx
  · exact (jg hn l hl' hx).trans (dQ hn ho _)
  · cases hx
theorem fA {P : Program} {prim : cM} {call : dE} {ops : Array Oper} {n : Nat} (hn : n ≤ ai) (hops : ∀ o ∈ ops.toList, cu n o) : ∀ (l : List Stp) {pd : List Pd} {s s' : Fr} {h h' : Hp}, co P prim call ops l pd s h = some (s', h') → s'.at ai = s.at ai
 | [], pd, s, s', h, h', hx => by
  simp only [co, Option.some.injEq, Prod.mk.injEq] at hx
  rw [hx.1]
 | .take i :: l, pd, s, s', h, h', hx => by
  simp only [co] at hx
  split at hx
  · cases hx
  · rename_i o ho
    have ho := (kE (Γ := ⟨P, default, 0, fun _ => none, 0, n, none, []⟩) hops ho).1
    split at hx
    · cases hx
    · exact (fA hn hops l hx).trans (dQ hn ho _)
    · split at hx
      · split at hx
        · exact (fA hn hops l hx).trans (dQ hn ho _)
        · cases hx
      · split at hx
        · exact (fA hn hops l hx).trans (dQ hn ho _)
        · cases hx
 | .only i keep :: l, pd, s, s', h, h', hx => by
  simp only [co] at hx
  split at hx
  · cases hx
  · rename_i o ho
    have ho := (kE (Γ := ⟨P, default, 0, fun _ => none, 0, n, none, []⟩) hops ho).1
    split at hx
    · cases hx
    · exact (fA hn hops l hx).trans (dQ hn ho _)
    · split at hx
      · split at hx
        · exact (fA hn hops l hx).trans (dQ hn ho _)
        · cases hx
      · cases hx
theorem Ext.alloc {N0 : Nat} {w : World} (hN : N0 ≤ w.heap.size) (obj : Obj) : Ext N0 w (w.alloc obj) := by
 refine ⟨rfl, rfl, rfl, ?_, fun b hb => ?_, Nat.le_refl _⟩
 · show w.heap.size ≤ (w.heap.push obj).size
   simp
 · show (w.heap.push obj)[b]? = _
   rw [Array.getElem?_push, if_neg (by omega)]
def fm (b : Nat) : cE := ⟨b, 0, 0, 0, 0, false⟩
theorem jN {N0 : Nat} {ι : Im} {h : Hp} {w : World} (S : Sim N0 ι h w) : ι h.n = none := by
 cases e : ι h.n with
 | none => rfl
 | some i => exact absurd (S.lt _ _ e).1 (Nat.lt_irrefl _)
theorem Sim.add {N0 : Nat} {ι : Im} {h : Hp} {w : World} (S : Sim N0 ι h w) (hN : N0 ≤ w.heap.size) {b : HB} {obj : Obj} (hb : BR (ι.set h.n (fm w.heap.size)) (fm w.heap.size) (w.alloc obj) b) : Sim N0 (ι.set h.n (fm w.heap.size)) (h.push b) (w.alloc obj) := by
 refine (S.push b).laid hN (by simp) (jN S) ?_ (fun j hj => ?_) rfl ?_
 · show (w.heap.push obj).size = _
   simp
 · show (w.heap.push obj)[j]? = _
   rw [Array.getElem?_push, if_neg (by omega)]
 · rw [ag, if_pos rfl]; exact hb
theorem Ext.put {N0 : Nat} {w : World} {i : Nat} (hi : N0 ≤ i) (obj : Obj) : Ext N0 w (w.putObj i obj) :=
 ⟨rfl, rfl, rfl, by simp, fun b hb => World.putObj_heap_other (by omega), Nat.le_refl _⟩
theorem Sim.wrote_lp {N0 : Nat} {ι : Im} {h : Hp} {w : World} (S : Sim N0 ι h w) {k : Nat} {i : cE} (hi : ι k = some i) {r : Lp} (hk : h.get k = .lp r) {fn : FuncId} {tmps : Array Value} {d : Nat} (h2 : tmps.size = r.n) (h3 : ∀ t, t < r.n → VR ι (Fr.at r.s t) (tmps.getD t Go.undef)) (h4 : LG.good r.f r.n r.ps r.as r.bd) (st : LoopState) (pend : Option Code) :
  Sim N0 ι (h.set k (.lp ⟨st, pend, r.s, r.f, r.n, r.ps, r.as, r.bd⟩)) (w.putObj i.b (.loop { state := st, pending := pend, fn := fn, tmps := tmps, params := r.ps, assign := r.as, body := r.bd, defers := d })) ∧ Ext N0 w (w.putObj i.b (.loop { state := st, pending := pend, fn := fn, tmps := tmps, params := r.ps, assign := r.as, body := r.bd, defers := d })) := by
 have hw : (h.get k).wr = true := by rw [hk]; rfl
 refine ⟨S.wrote hi hw (.inl rfl) (by simp) (fun j hj => World.putObj_heap_other hj) ?_, Ext.put (S.own k i hi hw) _⟩
 exact ⟨fn, tmps, d, World.putObj_heap_same (S.lt k i hi).2, h2, h3, h4⟩
theorem Sim.wrote_df {N0 : Nat} {ι : Im} {h : Hp} {w : World} (S : Sim N0 ι h w) {k : Nat} {i : cE} (hi : ι k = some i) (hk : h.get k = .df) (obj : Obj) :
  Sim N0 ι (h.set k .dead) (w.putObj i.b obj) ∧ Ext N0 w (w.putObj i.b obj) := by
 have hw : (h.get k).wr = true := by rw [hk]; rfl
 exact ⟨S.wrote hi hw (.inr rfl) (by simp) (fun j hj => World.putObj_heap_other hj) trivial, Ext.put (S.own k i hi hw) _⟩
def Bs.at (Γ : Bs) (s : Fr) : Bs := { Γ with mks := ce (s.at ai) }
theorem lX {Γ : Bs} {s s' : Fr} (h : s'.at ai = s.at ai) : Γ.at s' = Γ.at s := by unfold Bs.at; rw [h]
theorem tg (k : Nat) (c : CV) : ce (jt k c) = k :: ce c := by
 cases c <;> rfl
def Fl (Γ : Bs) : Option Nat → Prop
 | none => Γ.rd = none
 | some l => ∃ i, Γ.ι0 l = some i ∧ Γ.rd = some i.b
section
variable {Γ : Bs} {s s' : Fr} {h h' : Hp} {a : Act} {w w' : World} {ι ι' : Im}
theorem wO (R : Rl (Γ.at s) [] s h a w ι) (hns : Γ.n ≤ ai) {ro : Option Nat} (hro : Fl Γ ro) {f : Nat} {ps : Array Tmp} {as bd : Code} (hg : LG.good f Γ.n ps as bd) (hx : jF ro f Γ.n ps as bd s h = some (s', h')) (fn : FuncId) :
  ∃ l mark w1 ι1 i, (Instr.enterLoop fn a.tmps ps as bd Γ.F.round).run Γ.P w = .ok (l, mark) w1 ∧ ι1 (h'.n - 1) = some i ∧ i.b = l ∧ h.n ≤ h'.n ∧ Rl (Γ.at s') [] s' h' { a with defers := mark ++ a.defers } w1 ι1 := by
 have hN : Γ.N0 ≤ w.heap.size := R.wsize
 have hset : ∀ (ι : Im) (k : Nat) (i : cE) (k' : Nat), k' ≠ k → ι k' = none → (ι.set k i) k' = none := fun ι k i k' hne hk' => by unfold Im.set; rw [if_neg hne]; exact hk'
 cases ro with
 | none =>
  simp only [jF, Option.some.injEq, Prod.mk.injEq] at hx
  obtain ⟨rfl, rfl⟩ := hx
  have hr : Γ.F.round = none := hro
  rw [hr]
  let ι1 := ι.set h.n (fm w.heap.size)
  have hle1 : ι.le ι1 := bE (jN R.sim)
  have S1 : Sim Γ.N0 ι1 (h.push .df) (w.alloc (.deferred (some []))) := R.sim.add hN (World.alloc_heap_new w _)
  have hsz : (w.alloc (.deferred (some []))).heap.size = w.heap.size + 1 := by
   show (w.heap.push _).size = _
   simp
  let obj : Obj := .loop { state := .ready, pending := none, fn := fn, tmps := a.tmps, params := ps, assign := as, body := bd, defers := w.heap.size }
  let ι2 := ι1.set (h.push .df).n (fm (w.alloc (.deferred (some []))).heap.size)
  have hle2 : ι1.le ι2 := bE (jN S1)
  have S2 : Sim Γ.N0 ι2 ((h.push .df).push (.lp ⟨.ready, none, s, f, Γ.n, ps, as, bd⟩)) ((w.alloc (.deferred (some []))).alloc obj) := S1.add (by rw [hsz]; omega) ⟨fn, a.tmps, w.heap.size, World.alloc_heap_new _ _, R.tn, fun t ht => ((R.tv t ht).mono hle1).mono hle2, hg⟩
  refine ⟨_, _, _, ι2, fm (w.heap.size + 1), run_enterLoop_outer fn a.tmps ps as bd, ?_, rfl, by simp; omega, ?_⟩
  · have : ((h.push .df).push (.lp ⟨.ready, none, s, f, Γ.n, ps, as, bd⟩)).n - 1 = (h.push .df).n := by simp
    rw [this]
    show ι1.set (h.push .df).n (fm (w.alloc (.deferred (some []))).heap.size) (h.push .df).n = _
    unfold Im.set
    rw [if_pos rfl, hsz]
  · refine ⟨?_, R.tn, (R.le.trans hle1).trans hle2, fun k h1 h2 => ?_, fun k hk => (by cases hk), S2, fun t ht => ?_, ?_, ?_, R.h0⟩
    · show DfR ι2 (ce (Fr.at (T.set s ai (jt h.n (s.at ai))) ai)) _
      rw [aI, if_pos rfl, tg]
      refine ⟨⟨fm w.heap.size, ?_, rfl⟩, (R.df.mono hle1).mono hle2⟩
      apply hle2
      show ι.set h.n (fm w.heap.size) h.n = _
      unfold Im.set; rw [if_pos rfl]
    · have hk : k < h.n := Nat.lt_of_lt_of_le h1 R.hn
      refine hset _ _ _ _ (by simp; omega) (hset _ _ _ _ (by omega) (R.dom k h1 h2))
    · have ht' : t < ai := Nat.lt_of_lt_of_le ht hns
      rw [aI, if_neg (by omega)]
      exact ((R.tv t ht).mono hle1).mono hle2
    · exact R.ext.trans ((Ext.alloc hN _).trans (Ext.alloc (by rw [hsz]; omega) _))
    · have := R.hn
      simp
      exact Nat.le_trans this (by omega)
 | some l0 =>
  obtain ⟨i0, hi0, hrd⟩ := hro
  simp only [jF] at hx
  split at hx
  · rename_i r hk
    simp only [Option.some.injEq, Prod.mk.injEq] at hx
    obtain ⟨rfl, rfl⟩ := hx
    have hr : Γ.F.round = some i0.b := hrd
    rw [hr]
    have hb := R.sim.blk l0 i0 (R.le _ _ hi0)
    rw [hk] at hb
    obtain ⟨fn0, tmps0, d0, hb1, _, _, _⟩ := hb
    let obj : Obj := .loop { state := .ready, pending := none, fn := fn, tmps := a.tmps, params := ps, assign := as, body := bd, defers := d0 }
    let ι1 := ι.set h.n (fm w.heap.size)
    have hle1 : ι.le ι1 := bE (jN R.sim)
    have S1 : Sim Γ.N0 ι1 (h.push (.lp ⟨.ready, none, s, f, Γ.n, ps, as, bd⟩)) (w.alloc obj) := R.sim.add hN ⟨fn, a.tmps, d0, World.alloc_heap_new _ _, R.tn, fun t ht => (R.tv t ht).mono hle1, hg⟩
    have hrun : (Instr.enterLoop fn a.tmps ps as bd (some i0.b)).run Γ.P w = .ok (w.heap.size, []) (w.alloc obj) := by
     unfold Instr.enterLoop
     simp only [Sem.run_bind, run_getLoop hb1, run_newObj_alloc, Result.andThen, Sem.run_pure]
     rfl
    refine ⟨_, _, _, ι1, fm w.heap.size, hrun, ?_, rfl, by simp, ?_⟩
    · have : (h.push (.lp ⟨.ready, none, s, f, Γ.n, ps, as, bd⟩)).n - 1 = h.n := by simp
      rw [this]
      show ι.set h.n (fm w.heap.size) h.n = _
      unfold Im.set; rw [if_pos rfl]
    · refine ⟨R.df.mono hle1, R.tn, R.le.trans hle1, fun k h1 h2 => ?_, fun k hk => (by cases hk), S1, fun t ht => (R.tv t ht).mono hle1, R.ext.trans (Ext.alloc hN _), ?_, R.h0⟩
      · have hk : k < h.n := Nat.lt_of_lt_of_le h1 R.hn
        exact hset _ _ _ _ (by omega) (R.dom k h1 h2)
      · have := R.hn
        simp
        exact Nat.le_trans this (by omega)
  · cases hx
theorem Rl.to (R : Rl Γ [] s h a w ι) (hn : h'.n = h.n) (S : Sim Γ.N0 ι h' w') (E : Ext Γ.N0 w w') : Rl Γ [] s h' a w' ι :=
 ⟨R.df, R.tn, R.le, R.dom, fun k hk => (by cases hk), S, R.tv, R.ext.trans E, by rw [hn]; exact R.hn, R.h0⟩
theorem oW (R : Rl Γ [] s h a w ι) {l : Nat} {i : cE} (hi : ι l = some i) {j : Option Code} (hx : iD l h = some (j, h')) :
  p2 j = true ∧ h'.n = h.n ∧ ∃ w', (Instr.endLoop i.b).run Γ.P w = .ok j w' ∧ Rl Γ [] s h' a w' ι := by
 unfold iD at hx
 split at hx
 · rename_i r hk
   have hb := R.sim.blk l i hi
   rw [hk] at hb
   obtain ⟨fn0, tmps0, d0, hb1, hb2, hb3, hb4⟩ := hb
   split at hx
   · cases hx
   · rename_i hst
     split at hx
     · rename_i hj
       simp only [Option.some.injEq, Prod.mk.injEq] at hx
       obtain ⟨rfl, rfl⟩ := hx
       obtain ⟨S, E⟩ := R.sim.wrote_lp hi hk (fn := fn0) (d := d0) hb2 hb3 hb4 .exhausted r.pend
       exact ⟨hj, rfl, _, run_endLoop hb1 (fun e => hst e), R.to rfl S E⟩
     · cases hx
 · cases hx
theorem wP (R : Rl Γ [] s h a w ι) {l : Nat} {i : cE} (hi : ι l = some i) (hx : iF l h = some h') :
  h'.n = h.n ∧ ∃ w', (Instr.beginRound i.b).run Γ.P w = .ok () w' ∧ Rl Γ [] s h' a w' ι := by
 unfold iF at hx
 split at hx
 · rename_i r hk
   have hb := R.sim.blk l i hi
   rw [hk] at hb
   obtain ⟨fn0, tmps0, d0, hb1, hb2, hb3, hb4⟩ := hb
   split at hx
   · rename_i hst
     simp only [Option.some.injEq] at hx
     subst hx
     obtain ⟨S, E⟩ := R.sim.wrote_lp hi hk (fn := fn0) (d := d0) hb2 hb3 hb4 .busy r.pend
     exact ⟨rfl, _, run_beginRound hb1 hst, R.to rfl S E⟩
   · cases hx
 · cases hx
theorem Ai (R : Rl Γ [] s h a w ι) {l : Nat} {i : cE} (hi : ι l = some i) {e : Exit} {c : CV} (hx : pu l e h = some (c, h')) :
  h'.n = h.n ∧ ∃ j v w', p3 e = some j ∧ (Instr.endRound i.b j).run Γ.P w = .ok v w' ∧ VR ι c v ∧ Rl Γ [] s h' a w' ι := by
 unfold pu at hx
 split at hx
 · rename_i r hk
   have hb := R.sim.blk l i hi
   rw [hk] at hb
   obtain ⟨fn0, tmps0, d0, hb1, hb2, hb3, hb4⟩ := hb
   split at hx
   · rename_i hj
     simp only [Option.some.injEq, Prod.mk.injEq] at hx
     obtain ⟨rfl, rfl⟩ := hx
     obtain ⟨S, E⟩ := R.sim.wrote_lp hi hk (fn := fn0) (d := d0) hb2 hb3 hb4 .ready none
     exact ⟨rfl, none, _, _, hj, run_endRound none hb1, .bo _, R.to rfl S E⟩
   · rename_i c hj
     simp only [Option.some.injEq, Prod.mk.injEq] at hx
     obtain ⟨rfl, rfl⟩ := hx
     obtain ⟨S, E⟩ := R.sim.wrote_lp hi hk (fn := fn0) (d := d0) hb2 hb3 hb4 .done (some c)
     exact ⟨rfl, some c, _, _, hj, run_endRound (some c) hb1, .bo _, R.to rfl S E⟩
   · cases hx
 · cases hx
end
theorem nj {ι : Im} {n : Nat} (hns : n ≤ ai) : ∀ (ts : List Tmp) (cs : List CV) (vs : List Value) (s s0 : Fr) (tmps : Array Value), iE s ts cs = some s0 → VRL ι cs vs → (∀ t ∈ ts, @LT.lt Nat _ t n) → tmps.size = n → (∀ t, t < n → VR ι (s.at t) (tmps.getD t Go.undef)) →
  vs.length = ts.length ∧ s0.at ai = s.at ai ∧ ((ts.zip vs).foldl (fun tm x => tm.setIfInBounds x.1 x.2) tmps).size = n ∧ ∀ t, t < n → VR ι (s0.at t) (((ts.zip vs).foldl (fun tm x => tm.setIfInBounds x.1 x.2) tmps).getD t Go.undef)
 | [], [], vs, s, s0, tmps, hx, hv, _, hn, ht => by
  have : vs = [] := List.eq_nil_of_length_eq_zero hv.1
  subst this
  simp only [iE, Option.some.injEq] at hx
  subst hx
  exact ⟨rfl, rfl, hn, ht⟩
 | t :: ts, c :: cs, vs, s, s0, tmps, hx, hv, hts, hn, ht => by
  cases vs with
  | nil => have := hv.1; simp at this
  | cons v vs =>
   obtain ⟨h1, h2⟩ := VRL.tail hv
   simp only [iE] at hx
   have htn := hts t List.mem_cons_self
   have htn' : t < n := htn
   obtain ⟨g1, g2, g3, g4⟩ := nj hns ts cs vs (T.set s t c) s0 (tmps.setIfInBounds t v) hx h2 (fun t ht => hts t (List.mem_cons_of_mem _ ht)) (by simpa using hn) fun j hj => by
    rw [aI]
    simp only [Array.getD_eq_getD_getElem?, Array.getElem?_setIfInBounds]
    by_cases e : j = t
    · subst e
      rw [if_pos rfl, if_pos rfl, if_pos (by omega)]
      exact h1
    · rw [if_neg e, if_neg (Ne.symm e), ← Array.getD_eq_getD_getElem?]
      exact ht j hj
   refine ⟨by simp [g1], g2.trans ?_, g3, g4⟩
   rw [aI, if_neg (by omega)]
 | [], _ :: _, _, _, _, _, hx, _, _, _, _ => by simp [iE] at hx
 | _ :: _, [], _, _, _, _, hx, _, _, _, _ => by simp [iE] at hx
theorem lY {P : Program} {fn : Func} {tmps : Array Value} {Rr : Ending → World → Prop} {N0 : Nat} {ι : Im} : ∀ (ks : List Nat) (ds : List Deferred) (h h2 : Hp) (w : World), DfR ι ks ds → eE ks h = some h2 → Sim N0 ι h w →
  (∀ w2, h2.n = h.n → Sim N0 ι h2 w2 → Ext N0 w w2 → ∃ v, (results fn tmps).run P w2 = .ok v w2 ∧ Rr (.returned v) w2) → LeavesInM Fence.wide 0 P fn tmps Rr ds .returning w
 | [], [], h, h2, w, _, hx, S, hr => by
  simp only [eE, Option.some.injEq] at hx
  subst hx
  exact hr w rfl S (Ext.refl _ _)
 | k :: ks, d :: ds, h, h2, w, ⟨⟨i, hi, hd⟩, hds⟩, hx, S, hr => by
  simp only [eE] at hx
  split at hx
  · rename_i hk
    have hb := S.blk k i hi
    rw [hk] at hb
    obtain ⟨S', E⟩ := S.wrote_df hi hk (.deferred none)
    refine ⟨by simp, .inl ⟨i.b, _, by rw [hd], run_takeDeferred hb, ?_⟩⟩
    exact lY ks ds _ h2 _ hds hx S' fun w2 hn S2 E2 => hr w2 hn S2 (E.trans E2)
  · cases hx
 | [], _ :: _, _, _, _, h, _, _, _ => h.elim
 | _ :: _, [], _, _, _, h, _, _, _ => h.elim
theorem pE {F : Fence} {n : Nat} {P : Program} {Q : Exit → Act → World → Prop} {c : Code} (J : Nat → Code → Act → World → Prop) (pass : ∀ j r a w, J j r a w → r.wpIn F n P (fun e a' w' => (∃ l, e = .goto l ∧ ∃ rest j', findLabel c l = some rest ∧ j' < j ∧ J j' rest a' w') ∨ ((∀ l, e ≠ .goto l) ∧ Q e a' w')) a w) {j0 : Nat} {a : Act} {w : World} (h0 : J j0 c a w) : (Code.scope c).wpIn F n P Q a w := by
 intro b k cs hro hb hr
 have s1 : step P (lone (b.atR a (.code (.scope c) :: k)) cs w) = .next (lone (b.atR a (.code c :: .inScope c :: k)) cs w) := step_lone_go (by simp [stepG, stepG.exec, Frame.atR])
 have s2 : ∀ a w, step P (lone (b.atR a (.inScope c :: k)) cs w) = .next (lone (b.atR a k) cs w) := fun a w => step_lone_go (by simp [stepG, stepG.exec, Frame.atR])
 have hc : (lone (b.atR a (.code (.scope c) :: k)) cs w).fenced P F := fenced_calm hb hr rfl
 have key : ∀ j r a w, J j r a w → ∃ e a' w', Q e a' w' ∧ ArrivesIn (Machine.fenced P F) P (lone (b.atR a (.code r :: .inScope c :: k)) cs w) b k cs e a' w' := by
  intro j
  induction j using Nat.strongRecOn with
  | _ j ih =>
   intro r a w hJ
   obtain ⟨e, a₁, w₁, hq, harr⟩ := pass j r a w hJ b (.inScope c :: k) cs hro hb hr
   rcases hq with ⟨l, rfl, rest, j', hf, hlt, hJ'⟩ | ⟨hne, hq⟩
   · obtain ⟨e₂, a₂, w₂, hq₂, harr₂⟩ := ih j' hlt rest a₁ w₁ hJ'
     exact ⟨e₂, a₂, w₂, hq₂, .of_steps (harr.1 _ (by simp [gotoIn, hf])) harr₂⟩
   · cases e with
     | normal => exact ⟨.normal, a₁, w₁, hq, StepsIn.trans harr (.one (fenced_calm hb hr rfl) (s2 _ _))⟩
     | exit id =>
      have hx : exitTo id (.inScope c :: k) = exitTo id k := by simp [exitTo]
      exact ⟨.exit id, a₁, w₁, hq, fun k' hk => harr.1 k' (by rw [hx]; exact hk), fun hr' hk => harr.2 hr' (by rw [hx]; exact hk)⟩
     | goto l => exact absurd rfl (hne l)
     | ret => exact ⟨_, a₁, w₁, hq, harr⟩
     | panic ch => exact ⟨_, a₁, w₁, hq, harr⟩
     | outgrown => exact ⟨_, a₁, w₁, hq, harr⟩
 obtain ⟨e, a', w', hq, harr⟩ := key j0 c a w h0
 exact ⟨e, a', w', hq, .of_steps (.one hc s1) harr⟩
end Go.CP
namespace Go.CP
variable [LG] [HK]
theorem Dl {ro : Option Nat} {f n : Nat} {ps : Array Tmp} {as bd : Code} {s s' : Fr} {h h' : Hp} {g : Operand} (hg : iR n g) (hns : n ≤ ai) (hx : jF ro f n ps as bd s h = some (s', h')) : ev s' g = ev s g := by
 unfold jF at hx
 split at hx
 · simp only [Option.some.injEq, Prod.mk.injEq] at hx
   obtain ⟨rfl, rfl⟩ := hx
   cases g with
   | tmp t =>
    have : @LT.lt Nat _ t n := hg t rfl
    simp only [ev]
    rw [aI, if_neg (by omega)]
   | _ => rfl
 · split at hx
   · simp only [Option.some.injEq, Prod.mk.injEq] at hx
     rw [hx.1]
   · cases hx
theorem kG {p : Nat → Prop} (h : ∃ n, p n) : ∃ n, p n ∧ ∀ m, p m → n ≤ m := by
 obtain ⟨n, hn⟩ := h
 induction n using Nat.strongRecOn with
 | _ n ih =>
  by_cases h : ∃ m, m < n ∧ p m
  · obtain ⟨m, hm, hp⟩ := h; exact ih m hm hp
  · refine ⟨n, hn, fun m hm => ?_⟩
    rcases Nat.lt_or_ge m n with hlt | hge
    · exact (h ⟨m, hlt, hm⟩).elim
    · exact hge
section
variable {Γ : Bs} {prim : cM} {call : dE} {pl : Nat → Option (List Stp)}
def RC (Γ : Bs) (s : Fr) (h : Hp) (a : Act) (w : World) : Prop := R (Γ.at s) [] s h a w
def Dm (Γ : Bs) (e : Exit) (s : Fr) (h : Hp) : Exit → Act → World → Prop := fun e' a w => e' = e ∧ RC Γ s h a w
theorem R.drawn {s : Fr} {h : Hp} {a : Act} {w : World} (Rr : R Γ [] s h a w) (n : Nat) (hdn : w.drawn ≤ n) : R Γ [] s h a { w with drawn := n } := by
 obtain ⟨ι, Rl⟩ := Rr
 have E : ∀ N, Ext N w { w with drawn := n } := fun N => ⟨rfl, rfl, rfl, Nat.le_refl _, fun _ _ => rfl, HK.mono hdn⟩
 exact ⟨ι, Rl.df, Rl.tn, Rl.le, Rl.dom, Rl.av, Rl.sim.world (E _), Rl.tv, Rl.ext.trans (E _), Rl.hn, Rl.h0⟩
theorem ll (n x : Nat) : (Array.replicate n false).getD x false = false := by
 simp only [Array.getD_eq_getD_getElem?, Array.getElem?_replicate]
 split <;> rfl
theorem u5 {pl : Nat → Option (List Stp)} {n : Nat} : ∀ (c : Code) (l : Nat) {rest : Code}, bp pl n c = true → findLabel c l = some rest → bp pl n rest = true := by
 intro c l
 induction c with
 | seq x y ihx ihy =>
  intro rest h hf
  simp only [bp, Bool.and_eq_true] at h
  simp only [findLabel] at hf
  split at hf
  · rename_i r hr
    injection hf with hf; subst hf
    simp only [bp, Bool.and_eq_true]
    exact ⟨ihx h.1 hr, h.2⟩
  · exact ihy h.2 hf
 | label l' =>
  intro rest h hf
  simp only [findLabel] at hf
  split at hf
  · injection hf with hf; subst hf; rfl
  · cases hf
 | _ => intro rest h hf; simp [findLabel] at hf
theorem ig {f : Nat} {ro : Option Nat} (hns : Γ.n ≤ ai) (hro : Fl Γ ro) (hg : ∀ ps as bd, jy pl Γ.n ps as bd = true → LG.good f Γ.n ps as bd) (hM : Γ.P.follows .mixedOrders = true) (hprim : ∀ f args r, prim f args = some r → eG Γ.P f args r) (hcall : ∀ f args h r h', call f args h = some (r, h') → je Γ.P f args h r h') : ∀ (k : Nat) (c : Code) (s : Fr) (h : Hp) (e : Exit) (s' : Fr) (h' : Hp), bp pl Γ.n c = true →
  ba Γ.P prim call pl f Γ.n ro k c s h = some (e, s', h') → ∀ a w, RC Γ s h a w → c.wpIn Γ.F 0 Γ.P (Dm Γ e s' h') a w := by
 intro k
 induction k using Nat.strongRecOn with
 | _ k ih =>
  intro c s h e s' h' hok hx a w Rr
  cases k with
  | zero => simp [ba] at hx
  | succ k =>
   have ih' := ih k (Nat.lt_succ_self k)
   cases c with
   | skip => simp only [ba, Option.some.injEq, Prod.mk.injEq] at hx; obtain ⟨rfl, rfl, rfl⟩ := hx; exact wpIn_skip ⟨rfl, Rr⟩
   | label i => simp only [ba, Option.some.injEq, Prod.mk.injEq] at hx; obtain ⟨rfl, rfl, rfl⟩ := hx; exact wpIn_label ⟨rfl, Rr⟩
   | exit i => simp only [ba, Option.some.injEq, Prod.mk.injEq] at hx; obtain ⟨rfl, rfl, rfl⟩ := hx; exact wpIn_exit ⟨rfl, Rr⟩
   | goto i => simp only [ba, Option.some.injEq, Prod.mk.injEq] at hx; obtain ⟨rfl, rfl, rfl⟩ := hx; exact wpIn_goto ⟨rfl, Rr⟩
   | ret => simp only [ba, Option.some.injEq, Prod.mk.injEq] at hx; obtain ⟨rfl, rfl, rfl⟩ := hx; exact wpIn_ret ⟨rfl, Rr⟩
   | seq x y =>
    simp only [bp, Bool.and_eq_true] at hok
    simp only [ba] at hx
    split at hx
    · rename_i s1 h1 hx1
      refine wpIn_seq (wpIn_mono (ih' x s h .normal s1 h1 hok.1 hx1 a w Rr) fun e1 a1 w1 he => ?_)
      obtain ⟨rfl, R1⟩ := he
      exact ih' y s1 h1 e s' h' hok.2 hx a1 w1 R1
    · rename_i hne
      refine wpIn_seq (wpIn_mono (ih' x s h e s' h' hok.1 hx a w Rr) fun e1 a1 w1 he => ?_)
      obtain ⟨rfl, R1⟩ := he
      cases e1 with
      | normal => exact (hne _ _ hx).elim
      | _ => exact ⟨rfl, R1⟩
   | cond c x y =>
    simp only [bp, Bool.and_eq_true] at hok
    simp only [ba] at hx
    have hc : iR Γ.n c := lW hok.1.1
    obtain ⟨ι, Rl⟩ := Rr
    have hcv := Rl.ev (Γ := Γ.at s) hc
    split at hx
    · rename_i hb
      rw [hb] at hcv
      exact wpIn_cond_split (dF hcv) (fun _ => ih' x s h e s' h' hok.1.2 hx a w ⟨ι, Rl⟩) fun h => by cases h
    · rename_i hb
      rw [hb] at hcv
      exact wpIn_cond_split (dF hcv) (fun h => by cases h) fun _ => ih' y s h e s' h' hok.2 hx a w ⟨ι, Rl⟩
    · cases hx
   | block id c =>
    simp only [bp] at hok
    simp only [ba] at hx
    split at hx
    · rename_i i s1 h1 hx1
      refine wpIn_block (wpIn_mono (ih' c s h _ s1 h1 hok hx1 a w Rr) fun e1 a1 w1 he => ?_)
      obtain ⟨rfl, R1⟩ := he
      simp only [Exit.inBlock]
      split at hx
      · rename_i hi
        injection hx with hx
        simp only [Prod.mk.injEq] at hx
        obtain ⟨rfl, rfl, rfl⟩ := hx
        rw [if_pos (aW hi)]; exact ⟨rfl, R1⟩
      · rename_i hi
        injection hx with hx
        simp only [Prod.mk.injEq] at hx
        obtain ⟨rfl, rfl, rfl⟩ := hx
        rw [if_neg (jG hi)]; exact ⟨rfl, R1⟩
    · rename_i hne
      refine wpIn_block (wpIn_mono (ih' c s h e s' h' hok hx a w Rr) fun e1 a1 w1 he => ?_)
      obtain ⟨rfl, R1⟩ := he
      cases e1 with
      | exit i => exact (hne _ _ _ hx).elim
      | _ => exact ⟨rfl, R1⟩
   | scope c =>
    simp only [bp] at hok
    simp only [ba] at hx
    refine pE (c := c) (fun j r a w => bp pl Γ.n r = true ∧ ∃ s h, uO (ba Γ.P prim call pl f Γ.n ro k) c j r s h = some (e, s', h') ∧ RC Γ s h a w) (fun j r a w hJ => ?_) ⟨hok, s, h, hx, Rr⟩
    obtain ⟨hokr, s2, h2, hx2, R2⟩ := hJ
    cases j with
    | zero => simp [uO] at hx2
    | succ j =>
     simp only [uO] at hx2
     split at hx2
     · rename_i l s3 h3 hx3
       split at hx2
       · rename_i rest hrest
         refine wpIn_mono (ih' r s2 h2 _ s3 h3 hokr hx3 a w R2) fun e1 a1 w1 he => ?_
         obtain ⟨rfl, R3⟩ := he
         exact .inl ⟨l, rfl, rest, j, hrest, Nat.lt_succ_self j, u5 _ _ hok hrest, s3, h3, hx2, R3⟩
       · cases hx2
     · rename_i hne
       refine wpIn_mono (ih' r s2 h2 e s' h' hokr hx2 a w R2) fun e1 a1 w1 he => ?_
       obtain ⟨rfl, R3⟩ := he
       exact .inr ⟨fun l hl => by subst hl; exact hne _ _ _ hx2, rfl, R3⟩
   | loop c =>
    have hokc : bp pl Γ.n c = true := by simpa [bp] using hok
    classical
    let J : Act → World → Nat → Prop := fun a w n => n ≤ k + 1 ∧ ∃ s h, ba Γ.P prim call pl f Γ.n ro n (.loop c) s h = some (e, s', h') ∧ RC Γ s h a w
    refine wpIn_loop (fun a w => ∃ n, J a w n) (fun a w => if h : ∃ n, J a w n then Classical.choose (kG h) else 0) ⟨k + 1, Nat.le_refl _, s, h, hx, Rr⟩ fun a w hI => ?_
    rw [dif_pos hI]
    obtain ⟨hle, s2, h2, hx2, R2⟩ := (Classical.choose_spec (kG hI)).1
    generalize Classical.choose (kG hI) = n at hle hx2
    cases n with
    | zero => simp [ba] at hx2
    | succ n =>
     simp only [ba] at hx2
     split at hx2
     · rename_i s3 h3 hx3
       refine wpIn_mono (ih n (by omega) c s2 h2 .normal s3 h3 hokc hx3 a w R2) fun e1 a1 w1 he => ?_
       obtain ⟨rfl, R3⟩ := he
       have hex : ∃ m, J a1 w1 m := ⟨n, by omega, s3, h3, hx2, R3⟩
       refine ⟨hex, ?_⟩
       rw [dif_pos hex]
       exact Nat.lt_succ_of_le ((Classical.choose_spec (kG hex)).2 n ⟨by omega, s3, h3, hx2, R3⟩)
     · rename_i hne
       refine wpIn_mono (ih n (by omega) c s2 h2 e s' h' hokc hx2 a w R2) fun e1 a1 w1 he => ?_
       obtain ⟨rfl, R3⟩ := he
       cases e1 with
       | normal => exact (hne _ _ hx2).elim
       | _ => exact ⟨rfl, R3⟩
   | region id ops dr =>
    cases dr with
    | true =>
     simp only [bp, Bool.and_eq_true] at hok
     simp only [ba] at hx
     split at hx
     · rename_i p hp
       rw [hp] at hok
       split at hx
       · rename_i s1 h1 hx1
         injection hx with hx
         simp only [Prod.mk.injEq] at hx
         obtain ⟨rfl, rfl, rfl⟩ := hx
         have hat : Γ.at s1 = Γ.at s := lX (fA hns (eI hok.1) p hx1)
         refine wpIn_region_any hM ?_
         refine yM (Γ := Γ.at s) hprim hcall (eI hok.1) (s1 := s1) (h1 := h1) (Q := Dm Γ .normal s1 h1) (fun a w hR => ⟨rfl, by unfold RC; rw [hat]; exact hR⟩) p [] _ [] s h (u0 hok.2) hx1 [] _ _ (fun _ _ => false) a _ ⟨rfl, fun x hm => (by cases hm), fun p hp => (by cases hp), fun p hp => (by cases hp), fun p hp => (by cases hp), fun p hp => (by cases hp), fun p hp => (by cases hp), fun p hp => (by cases hp), fun p hp => (by cases hp), fun p hp => (by cases hp), fun p hp => (by cases hp), fun p hp => (by cases hp), fun x hm => ?_, fun x hm => ?_, by simp, by simp⟩ trivial (fun p hp => (by cases hp)) (Rr.drawn _ (Nat.le_succ _)) ?_
         · rw [ll] at hm; cases hm
         · rw [ll] at hm; cases hm
         · unfold left
           exact Nat.le_trans (List.length_filter_le _ _) (by simp)
       · cases hx
     · cases hx
    | false =>
     simp only [bp] at hok
     simp only [ba] at hx
     split at hx
     · rename_i s1 h1 hx1
       injection hx with hx
       simp only [Prod.mk.injEq] at hx
       obtain ⟨rfl, rfl, rfl⟩ := hx
       have hat : Γ.at s1 = Γ.at s := lX (jg hns _ (eI hok) hx1)
       exact wpIn_region_list (qd (Γ := Γ.at s) hprim hcall (eI hok) (s1 := s1) (h1 := h1) (Q := Dm Γ .normal s1 h1) (fun a w hR => ⟨rfl, by unfold RC; rw [hat]; exact hR⟩) _ Rr (eI hok) hx1)
     · cases hx
   | rangeFunc g ps as bd =>
    simp only [bp, Bool.and_eq_true] at hok
    have hgo : LG.good f Γ.n ps as bd := hg ps as bd (by unfold jy; simp only [Bool.and_eq_true]; exact ⟨Nat.ble_eq_true_of_le hns, hok.2⟩)
    have hgx : iR Γ.n g := lW hok.1
    simp only [ba] at hx
    split at hx
    · rename_i f' caps hgv
      split at hx
      · rename_i s1 h1 hen
        split at hx
        · rename_i r h2 hca
          obtain ⟨⟨fn', hf', hb', hn'⟩, hnn, hcl⟩ := (show FCall Γ.P f' _ _ _ _ from hcall (.fn f') _ _ _ _ hca)
          obtain ⟨ι, R⟩ := Rr
          have hev := R.ev (Γ := Γ.at s) hgx
          rw [hgv] at hev
          obtain ⟨cv, hev, hcv⟩ := p6 hev
          refine wpIn_rangeFunc fun fn _ => ?_
          obtain ⟨l, mark, w1, ι1, i, h3, h4, h5, h6, R1⟩ := wO R hns hro hgo hen fn
          have hle : ι.le ι1 ∨ True := .inr trivial
          have hcv1 : VRL ι1 caps cv.toList := by
           have := R1.ev (Γ := Γ.at s1) (x := g) hgx
           have e : (Act.eval { a with defers := mark ++ a.defers } g) = a.eval g := by cases g <;> rfl
           rw [e, hev] at this
           have e2 : CP.ev s1 g = CP.ev s g := Dl hgx hns hen
           rw [e2, hgv] at this
           obtain ⟨cv', h, h'⟩ := p6 this
           injection h with _ _ h
           subst h
           exact h'
          have hvals : VRL ι1 (.yl (h1.n - 1) :: caps) (.func (.yield l) #[] #[] :: cv.toList) := VRL.cons (by rw [← h5]; exact .yl h4) hcv1
          have hcc := hcl Γ.N0 ι1 w1 _ (R1.wsize (Γ := Γ.at s1)) R1.sim hvals
          have he : ¬ fn'.body = none := by intro e; rw [e] at hb'; cases hb'
          have hne : ¬ fn'.name = "runtime.NumGoroutine" := by simpa using hn'
          refine ⟨l, mark, w1, { target := .fn (.func f') cv, args := #[.func (.yield l) #[] #[]] }, w1, f', (.func (.yield l) #[] #[] :: cv.toList).toArray, w1, h3, ?_, fun _ _ => trivial, ?_, fun h => by simp [Bs.F] at h, ?_⟩
          · simp [resolve, rangeCall, hev, Deferred.ofValue]
            rfl
          · simp [invoke, callFunc, program, Sem.run, hf', he, hne]
          · refine CallsIn.mono (F := Γ.F) (show CallsIn Fence.wide 0 Γ.P f' _ w1 _ from callsIn_wide.2 hcc) ?_
            rintro e3 w3 ⟨rv, ι3, rfl, g1, g2, g3, g4, g5⟩
            have R3 : Rl (Γ.at s1) [] s1 h2 { a with defers := mark ++ a.defers } w3 ι3 := by
             have := R1.next (Γ := Γ.at s1) g1 g2 g3 g5 hnn (d := none) (fun t ht => by cases ht) g4
             simpa [Fr.putO, Act.put] using this
            split at hx
            · rename_i h4' hle
              simp only [Option.some.injEq, Prod.mk.injEq] at hx
              obtain ⟨rfl, rfl, rfl⟩ := hx
              obtain ⟨k1, k2, w4, k3, R4⟩ := oW R3 (g1 _ _ h4) hle
              rw [h5] at k3
              exact ⟨none, w4, k3, rfl, ι3, R4⟩
            · rename_i c h4' hle
              obtain ⟨k1, k2, w4, k3, R4⟩ := oW R3 (g1 _ _ h4) hle
              rw [h5] at k3
              refine ⟨some c, w4, k3, ih' c s1 h4' e s' h' ?_ hx _ w4 ⟨ι3, R4⟩⟩
              cases c <;> first | rfl | simp [p2] at k1
            · cases hx
        · cases hx
      · cases hx
    · cases hx
   | _ => simp [ba] at hx
end
def uG (n : Nat) (l : List ResultVar) : Bool := l.all fun
 | .tmp t => Nat.blt t n
 | .cell a _ => Nat.blt a n
def ln (tmps : Array Value) : ResultVar → Sem Value := fun
  | .tmp t => pure (tmps.getD t Go.undef)
  | .cell a t => do loadVar t (← asAddr (tmps.getD a Go.undef))
theorem oX {P : Program} {fn : Func} {tmps : Array Value} {vs : List Value} {w : World} (h : (fn.results.toList.mapM (ln tmps)).run P w = .ok vs w) : (results fn tmps).run P w = .ok (if h : vs.length = 1 then vs[0] else .tuple vs.toArray) w := by
 have h1 : (fn.results.mapM (ln tmps)).run P w = .ok vs.toArray w := by
  rw [Array.mapM_eq_mapM_toList]
  simp [h]
 show (do
  let vs ← fn.results.mapM (ln tmps)
  pure (if h : vs.size = 1 then vs[0] else .tuple vs) : Sem Value).run P w = _
 simp only [Sem.run_bind, h1, Result.andThen_ok, Sem.run_pure]
 congr 1
theorem jh {Γ : Bs} {s : Fr} {h : Hp} {a : Act} {w : World} {ι : Im} (Rl : Rl Γ [] s h a w ι) : ∀ (l : List ResultVar) (vs : List CV), uG Γ.n l = true → gf Γ.P s h l = some vs → ∃ us, VRL ι vs us ∧ us.length = l.length ∧ (l.mapM (ln a.tmps)).run Γ.P w = .ok us w
 | [], vs, _, hx => by
  simp only [gf, Option.some.injEq] at hx
  subst hx
  exact ⟨[], VRL.nil ι, rfl, by simp⟩
 | .tmp t :: l, vs, hok, hx => by
  simp only [uG, List.all_cons, Bool.and_eq_true] at hok
  simp only [gf] at hx
  split at hx
  · rename_i vs' hx'
    injection hx with hx; subst hx
    obtain ⟨us, h1, h2, h3⟩ := jh Rl l vs' hok.2 hx'
    refine ⟨a.tmps.getD t Go.undef :: us, VRL.cons (Rl.tv t (cO hok.1)) h1, by simp [h2], ?_⟩
    simp [List.mapM_cons, ln, h3]
  · cases hx
 | .cell ad t :: l, vs, hok, hx => by
  simp only [uG, List.all_cons, Bool.and_eq_true] at hok
  simp only [gf] at hx
  split at hx
  · rename_i k off n g hk ht
    split at hx
    · rename_i v vs' hv hx'
      injection hx with hx; subst hx
      obtain ⟨us, h1, h2, h3⟩ := jh Rl l vs' hok.2 hx'
      have h4 := Rl.tv ad (cO hok.1)
      rw [hk] at h4
      obtain ⟨i, hi, hav⟩ := cN h4
      obtain ⟨u, h5, h6⟩ := oS (P := Γ.P) (Rl.sim.blk k i hi) ht hv
      refine ⟨u :: us, VRL.cons h5 h1, by simp [h2], ?_⟩
      simp [List.mapM_cons, ln, hav, asAddr, h6, h3]
    · cases hx
  · cases hx
theorem jO : ∀ (args : List CV) (i t : Nat), (entry i args).at t = if i ≤ t then args.getD (t - i) .undef else .undef
 | [], i, t => by
  have : (entry i []).at t = .undef := by
   simp only [entry, Fr.at, T.get]
   have : ∀ p : Ix, T.at p (T.lf : T CV) = none := by
    intro p; induction p with
    | e => rfl
    | l p ih => exact ih
    | r p ih => exact ih
   rw [this]
  rw [this]; simp
 | p :: args, i, t => by
  simp only [entry, aI]
  by_cases h : t = i
  · subst h; simp
  · rw [if_neg h, jO args (i + 1) t]
    by_cases h2 : i ≤ t
    · rw [if_pos h2, if_pos (by omega), show t - i = (t - (i + 1)) + 1 by omega]; simp
    · rw [if_neg h2, if_neg (by omega)]
def dh (P : Program) (E : fl) (f : FuncId) : Bool := match P.funcs[f]? with
 | some fn => match fn.body with
  | some c => !(fn.name == "runtime.NumGoroutine") && Nat.ble fn.ntmps ai && uG fn.ntmps fn.results.toList && bp (E.plan f) fn.ntmps c
  | none => true
 | none => true
theorem xF : ∀ (ks : List Nat) {h h2 : Hp}, eE ks h = some h2 → h2.n = h.n
 | [], h, h2, hx => by simp only [eE, Option.some.injEq] at hx; rw [hx]
 | k :: ks, h, h2, hx => by
  simp only [eE] at hx
  split at hx
  · exact xF (h := h.set k .dead) ks hx
  · cases hx
def qe (pl : FuncId → Nat → Option (List Stp)) : Prop := ∀ f n ps as bd, LG.good f n ps as bd ↔ jy (pl f) n ps as bd = true
theorem Aj {P : Program} {E : fl} {call : dE} (hG : qe E.plan) (hM : P.follows .mixedOrders = true) (hprim : ∀ f args r, E.prim f args = some r → eG P f args r) (hcall : ∀ f args h r h', call f args h = some (r, h') → je P f args h r h') {f : FuncId} (hE : dh P E f = true) {fn : Func} {c : Code} (hf : P.funcs[f]? = some fn) (hb : fn.body = some c)
  {args : List CV} {h h' h2 : Hp} (hlen : args.length ≤ fn.ntmps) {e : Exit} (he : e = .normal ∨ e = .ret) {s : Fr} (hn : h.n ≤ h'.n) (hx : ba P E.prim call (E.plan f) f fn.ntmps none E.fuel c (entry 0 args) h = some (e, s, h')) (hsh : eE (ce (s.at ai)) h' = some h2) {vs : List CV} (hr : gf P s h2 fn.results.toList = some vs) : FCall P f args h (ib vs) h2 := by
 unfold dh at hE
 rw [hf] at hE
 dsimp only at hE
 rw [hb] at hE
 simp only [Bool.and_eq_true, Bool.not_eq_true'] at hE
 obtain ⟨⟨⟨hE1, hE0⟩, hE2⟩, hE3⟩ := hE
 have hns : fn.ntmps ≤ ai := bv hE0
 refine ⟨⟨fn, hf, by simp [hb], hE1⟩, by rw [xF _ hsh]; exact hn, fun N0 ι w vals hN S hv => callsIn_wide.1 (callsIn_of_wp_marks (F := Fence.wide) (n := 0) hf hb trivial ?_)⟩
 let Γ : Bs := { P := P, w0 := w, N0 := N0, ι0 := ι, n0 := h.n, n := fn.ntmps, rd := none, mks := [] }
 have hvl := hv.1
 have hslot : (entry 0 args).at ai = .undef := by
  rw [jO, if_pos (Nat.zero_le _), Nat.sub_zero, List.getD_eq_getElem?_getD]
  rw [List.getElem?_eq_none (by omega)]; rfl
 have R0 : RC Γ (entry 0 args) h { tmps := vals.toArray ++ Array.replicate (fn.ntmps - vals.toArray.size) Go.undef, defers := [] } w := by
  refine ⟨ι, ?_, ?_, Im.le_refl ι, fun k _ hk => hk, fun k hk => (by cases hk), S, fun t ht => ?_, Ext.refl _ _, Nat.le_refl _, hN⟩
  · show DfR ι (ce ((entry 0 args).at ai)) []
    rw [hslot]; trivial
  · show (vals.toArray ++ Array.replicate (fn.ntmps - vals.toArray.size) Go.undef).size = fn.ntmps
    simp; omega
  · rw [jO, if_pos (Nat.zero_le _), Nat.sub_zero]
    by_cases h2 : t < args.length
    · have h3 := hv.2 t h2
      have h4 : (vals.toArray ++ Array.replicate (fn.ntmps - vals.toArray.size) Go.undef).getD t Go.undef = vals.getD t Go.undef := by
       simp only [Array.getD_eq_getD_getElem?, List.getD_eq_getElem?_getD, Array.getElem?_append, List.size_toArray, List.getElem?_toArray]
       rw [if_pos (by omega)]
      rw [h4, List.getD_eq_getElem?_getD, List.getElem?_eq_getElem h2]; exact h3
    · rw [List.getD_eq_getElem?_getD, List.getElem?_eq_none (by omega)]; exact .undef _
 refine wpIn_mono (F := Fence.wide) (ig (Γ := Γ) (ro := none) hns rfl (fun ps as bd hk => (hG _ _ _ _ _).2 hk) hM hprim hcall _ _ _ _ _ _ _ hE3 hx _ _ R0) fun e1 a1 w1 hen => ?_
 obtain ⟨rfl, ι1, R1⟩ := hen
 have hfin : LeavesInM Fence.wide 0 P fn a1.tmps (fun e w' => ∃ (rv : Value) (ι' : Im), e = .returned rv ∧ ι.le ι' ∧ (∀ k, k < h.n → ι k = none → ι' k = none) ∧ Sim N0 ι' h2 w' ∧ VR ι' (ib vs) rv ∧ Ext N0 w w') a1.defers .returning w1 := by
  refine lY (N0 := N0) (ce (s.at ai)) a1.defers h' h2 w1 R1.df hsh R1.sim fun w2 hn2 S2 E2 => ?_
  have R2 : Rl (Γ.at s) [] s h2 a1 w2 ι1 := R1.to hn2 S2 E2
  obtain ⟨us, h1, h2, h3⟩ := jh R2 _ vs hE2 hr
  have hrun := oX (P := P) (fn := fn) h3
  refine ⟨_, hrun, _, ι1, rfl, R2.le, R2.dom, R2.sim, ?_, R2.ext⟩
  have hul := h1.1
  match vs, us, hul, h1 with
  | [], [], _, h1 => exact ee h1
  | [p], [u], _, h1 => exact (VRL.tail h1).1
  | p :: q :: vs, u :: v :: us, _, h1 =>
   have : ¬ (u :: v :: us).length = 1 := by simp
   rw [dif_neg this]
   exact ee (by simpa using h1)
 rcases he with rfl | rfl <;> exact hfin
theorem yP {P : Program} {E : fl} {call : dE} (hG : qe E.plan) (hM : P.follows .mixedOrders = true) (hprim : ∀ f args r, E.prim f args = some r → eG P f args r) (hcall : ∀ f args h r h', call f args h = some (r, h') → je P f args h r h') {k : Nat} {args : List CV} {h h' : Hp} {c : CV} (hx : p5 P E call k args h = some (c, h')) : uF P k args h c h' := by
 unfold p5 at hx
 split at hx
 · rename_i r hk
   split at hx
   · rename_i s0 hp
     split at hx
     · rename_i s1 h1 hx1
       split at hx
       · rename_i h2 hb2
         split at hx
         · rename_i e s2 h3 hx3
           split at hx
           · rename_i hnn
             have hnn := bv hnn
             have hn' : h'.n = h3.n := by
              unfold pu at hx
              split at hx
              · split at hx
                · simp only [Option.some.injEq, Prod.mk.injEq] at hx; rw [← hx.2]; rfl
                · simp only [Option.some.injEq, Prod.mk.injEq] at hx; rw [← hx.2]; rfl
                · cases hx
              · cases hx
             refine ⟨by rw [hn']; exact hnn, fun N0 ι w vals i hN S hv hi => ?_⟩
             have hb := S.blk k i hi
             rw [hk] at hb
             obtain ⟨fn0, tmps0, d0, hb1, hb2', hb3, hb4⟩ := hb
             have hgd := (hG _ _ _ _ _).1 hb4
             unfold jy at hgd
             simp only [Bool.and_eq_true] at hgd
             have hns : r.n ≤ ai := bv hgd.1
             have hps : ∀ t ∈ r.ps.toList, @LT.lt Nat _ t r.n := fun t ht => cO (List.all_eq_true.1 hgd.2.1.1 t ht)
             obtain ⟨g1, g2, g3, g4⟩ := nj hns _ _ vals _ _ tmps0 hp hv hps hb2' fun t ht => by
              rw [aI, if_neg (by omega)]
              exact hb3 t ht
             have hsz : vals.toArray.size = r.ps.size := by simpa using g1
             refine ⟨_, _, _, _, run_yield hb1 hsz, ?_⟩
             have hfold : ((r.ps.zip vals.toArray).foldl (fun (tmps : Array Value) (t, a) => tmps.setIfInBounds t a) tmps0) = ((r.ps.toList.zip vals).foldl (fun tm x => tm.setIfInBounds x.1 x.2) tmps0) := by
              rw [← Array.foldl_toList, Array.toList_zip]
             let Γ : Bs := { P := P, w0 := w, N0 := N0, ι0 := ι, n0 := h.n, n := r.n, rd := some i.b, mks := [] }
             have hslot : s0.at ai = .undef := by rw [g2, aI, if_pos rfl]
             have R0 : RC Γ s0 h { tmps := (r.ps.toList.zip vals).foldl (fun tm x => tm.setIfInBounds x.1 x.2) tmps0, defers := [] } w := by
              refine ⟨ι, ?_, g3, Im.le_refl ι, fun k _ hk => hk, fun k hk => (by cases hk), S, g4, Ext.refl _ _, Nat.le_refl _, hN⟩
              show DfR ι (ce (s0.at ai)) []
              rw [hslot]; trivial
             have hgd' : ∀ ps as bd, jy (E.plan r.f) r.n ps as bd = true → LG.good r.f r.n ps as bd := fun ps as bd hk => (hG _ _ _ _ _).2 hk
             have hro : Fl Γ (some k) := ⟨i, hi, rfl⟩
             refine roundIn_of_wpIn (F := Fence.wide) trivial ?_
             refine wpIn_mono (F := Fence.wide.inRound i.b) (ig (Γ := Γ) (ro := some k) hns hro hgd' hM hprim hcall _ _ _ _ _ _ _ hgd.2.1.2 hx1 _ _ (by dsimp only; rw [hfold]; exact R0)) fun e1 a1 w1 hen => ?_
             obtain ⟨rfl, ι1, R1⟩ := hen
             obtain ⟨k1, w2, k2, R2⟩ := wP R1 (R1.le _ _ hi) hb2
             refine ⟨w2, k2, ?_⟩
             refine wpIn_mono (F := Fence.wide.inRound i.b) (ig (Γ := Γ) (ro := some k) hns hro hgd' hM hprim hcall _ _ _ _ _ _ _ hgd.2.2 hx3 _ _ ⟨ι1, R2⟩) fun e1 a1 w1 hen => ?_
             obtain ⟨rfl, ι3, R3⟩ := hen
             obtain ⟨k3, j, v, w4, k4, k5, k6, R4⟩ := Ai R3 (R3.le _ _ hi) hx
             have fin : ∃ (rv : Value) (ι' : Im), Ending.returned v = .returned rv ∧ ι.le ι' ∧ (∀ k, k < h.n → ι k = none → ι' k = none) ∧ Sim N0 ι' h' w4 ∧ VR ι' c rv ∧ Ext N0 w w4 := ⟨v, ι3, rfl, R4.le, R4.dom, R4.sim, k6, R4.ext⟩
             cases e1 <;> simp only [p3, Option.some.injEq, reduceCtorEq] at k4
             · subst k4; exact ⟨v, w4, k5, fin⟩
             · subst k4; exact ⟨v, w4, k5, fin⟩
             · subst k4; exact ⟨v, w4, k5, fin⟩
             · subst k4; exact ⟨v, w4, k5, fin⟩
           · cases hx
         · cases hx
       · cases hx
     · cases hx
   · cases hx
 · cases hx
end Go.CP
namespace Go.CP
variable [LG] [HK]
theorem u6 {ι ι' : Im} {v : CV} {u : Value} (h : p1 v = true) (hv : VR ι v u) : VR ι' v u := by
 cases hv <;> first
  | exact .bo _
  | exact .nu _ _
  | exact .st (by assumption)
  | exact .nilp
  | exact .nils
  | exact .nilf
  | exact .nilm
  | (simp [p1] at h; done)
structure Ro (N0 : Nat) (ι : Im) (h : Hp) (w : World) : Prop where
 sim : Sim N0 ι h w
 ro : ∀ k, (h.get k).wr = false
theorem Ro.push {N0 : Nat} {ι : Im} {h : Hp} {w : World} (Rh : Ro N0 ι h w) {vs : List CV} {i : cE} (hib : i.b < w.heap.size) (hb : BR ι i w (.ro vs)) : Ro N0 (ι.set h.n i) (h.push (.ro vs)) w ∧ ι.le (ι.set h.n i) := by
 have hnn : ι h.n = Option.none := Rh.sim.none
 have hle : ι.le (ι.set h.n i) := bE hnn
 have S := Rh.sim.push (.ro vs)
 have hro : ∀ k, ((h.push (.ro vs)).get k).wr = false := fun k => by
  rw [ag]
  split
  · rfl
  · exact Rh.ro k
 refine ⟨⟨⟨fun j i' e => ?_, fun j i' e hw => (by rw [hro j] at hw; cases hw), S.fresh, fun j i' e => ?_, fun j j' a a' e e' hjj h1 h2 => (by rw [hro j] at h1; cases h1)⟩, hro⟩, hle⟩
 · unfold Im.set at e; split at e
   · rename_i e'; subst e'; injection e with e; subst e; exact ⟨by simp, hib⟩
   · exact S.lt j i' e
 · unfold Im.set at e; split at e
   · rename_i e'; subst e'; injection e with e; subst e
     rw [ag, if_pos rfl]
     exact hb.mono hle rfl
   · exact (S.blk j i' e).mono hle rfl
theorem lZ {ι : Im} {i : cE} {w : World} {b : HB} (h : BR ι i w b) {o : Nat} {cs : List CV} (hc : eV o b = some cs) : ∃ arr e f, w.heap[i.b]? = some (.cells arr e f) ∧ VRL ι cs ((arr.toList.drop (i.base + o)).take cs.length) := by
 have key : ∀ {cs : List CV} {arr : Array Value}, VRL ι cs ((arr.toList.drop i.base).take cs.length) → VRL ι (cs.drop o) ((arr.toList.drop (i.base + o)).take (cs.drop o).length) := by
  intro cs arr hv
  have h1 := hv.drop o
  rw [List.drop_take, List.drop_drop] at h1
  rw [List.length_drop]; exact h1
 cases b with
 | fz ds => obtain ⟨arr, e, fr, h1, h7⟩ := h; injection hc with hc; subst hc; exact ⟨arr, e, fr, h1, key h7⟩
 | cells ds aO el => obtain ⟨arr, e, h1, _, _, _, _, _, h7, _⟩ := h; injection hc with hc; subst hc; exact ⟨arr, e, _, h1, key h7⟩
 | ro ds => obtain ⟨arr, e, fr, h1, _, _, h4⟩ := h; injection hc with hc; subst hc; exact ⟨arr, e, fr, h1, key h4⟩
 | kp ds ys aO => obtain ⟨arr, e, h1, _, _, _, _, _, h7, _, _⟩ := h; injection hc with hc; subst hc; exact ⟨arr, e, _, h1, key h7⟩
 | mp es => cases hc
 | df => cases hc
 | lp r => cases hc
 | mi es bs c => cases hc
 | it m a b c => cases hc
 | dead => cases hc
theorem ma {ι : Im} {vs : List CV} {L : List Value} {m : Nat} (h : VRL ι vs ((L.take m).take vs.length)) : VRL ι vs (L.take vs.length) := by
 have h1 := h.1
 rw [List.take_take] at h
 have h2 : min vs.length m = vs.length ∨ (L.take (min vs.length m)) = L.take vs.length := by
  simp only [List.length_take] at h1
  by_cases h3 : vs.length ≤ m
  · exact .inl (by omega)
  · right
    rw [List.take_of_length_le (by omega), List.take_of_length_le (by omega)]
 rcases h2 with h2 | h2
 · rw [h2] at h; exact h
 · rw [h2] at h; exact h
section
variable {N0 Nb : Nat} {ιb : Im} {hb : Hp} {w : World}
theorem fB {ι : Im} {c : CV} {cs : List CV} {us : List Value} (h : VRL ι (c :: cs) us) : ∃ u l, us = u :: l ∧ VR ι c u ∧ VRL ι cs l := by
 cases us with
 | nil => have := h.1; simp at this
 | cons u l => exact ⟨u, l, rfl, (VRL.tail h).1, (VRL.tail h).2⟩
mutual
theorem u7 (Sb : Sim Nb ιb hb w) : ∀ (d : DV) (x : CV) (u : Value) (ι : Im) (h : Hp), Ro N0 ι h w → dm hb d x = true → VR ιb x u → ∃ ι', Ro N0 ι' (lay d h).2 w ∧ ι.le ι' ∧ VR ι' (lay d h).1 u
 | .c v, x, u, ι, h, Rh, hd, hv => by
  simp only [dm, Bool.and_eq_true] at hd
  have := jL hd.2
  subst this
  exact ⟨ι, Rh, Im.le_refl ι, u6 hd.1 hv⟩
 | .sl n l, x, u, ι, h, Rh, hd, hv => by
  cases x <;> simp only [dm, Bool.and_eq_true, Bool.false_eq_true] at hd
  rename_i k o n' c
  obtain ⟨⟨h1, h2⟩, h3⟩ := hd
  have h1 := aW h1
  have h2 := bv h2
  subst h1
  split at h3
  case h_2 => cases h3
  rename_i cells hcl
  cases hv with
  | @sl _ _ _ _ c' i hi hcc =>
   have hcle : c ≤ c' := hcc.elim (fun e => Nat.le_of_eq e.1) fun h => h.2.1
   have hB := Sb.blk k i hi
   have hlt := (Sb.lt k i hi).2
   obtain ⟨arr, e, f, hg, hvc⟩ := lZ hB hcl
   obtain ⟨ι', R', hle, hvl⟩ := nk Sb l cells _ ι h Rh h3 hvc
   have hvl := ma hvl
   generalize hla : bm l h = r at R' hvl
   obtain ⟨vs, h'⟩ := r
   simp only at R' hvl
   have hbr : BR ι' ⟨i.b, i.base + o, 0, 0, 0, true⟩ w (.ro vs) := ⟨arr, e, f, hg, rfl, rfl, hvl⟩
   obtain ⟨R2, hle2⟩ := R'.push (i := ⟨i.b, i.base + o, 0, 0, 0, true⟩) hlt hbr
   refine ⟨_, ?_, hle.trans hle2, ?_⟩
   · simp only [lay, hla]; exact R2
   · simp only [lay, hla]
     have hk : (ι'.set h'.n ⟨i.b, i.base + o, 0, 0, 0, true⟩) h'.n = some ⟨i.b, i.base + o, 0, 0, 0, true⟩ := by unfold Im.set; rw [if_pos rfl]
     have := VR.sl (o := 0) (n := n) (c := n) (c' := c') hk (.inr ⟨rfl, by omega, fun hz => absurd rfl hz⟩)
     simpa using this
 | .p l, x, u, ι, h, Rh, hd, hv => by
  cases x <;> simp only [dm, Bool.false_eq_true] at hd
  rename_i k o
  split at hd
  case h_2 => cases hd
  rename_i cells hcl
  obtain ⟨i, hi, rfl⟩ := cN hv
  have hB := Sb.blk k i hi
  have hlt := (Sb.lt k i hi).2
  obtain ⟨arr, e, f, hg, hvc⟩ := lZ hB hcl
  obtain ⟨ι', R', hle, hvl⟩ := nk Sb l cells _ ι h Rh hd hvc
  have hvl := ma hvl
  generalize hla : bm l h = r at R' hvl
  obtain ⟨vs, h'⟩ := r
  simp only at R' hvl
  have hbr : BR ι' ⟨i.b, i.base + o, 0, 0, 0, true⟩ w (.ro vs) := ⟨arr, e, f, hg, rfl, rfl, hvl⟩
  obtain ⟨R2, hle2⟩ := R'.push (i := ⟨i.b, i.base + o, 0, 0, 0, true⟩) hlt hbr
  refine ⟨_, ?_, hle.trans hle2, ?_⟩
  · simp only [lay, hla]; exact R2
  · simp only [lay, hla]
    have hk : (ι'.set h'.n ⟨i.b, i.base + o, 0, 0, 0, true⟩) h'.n = some ⟨i.b, i.base + o, 0, 0, 0, true⟩ := by unfold Im.set; rw [if_pos rfl]
    simpa using VR.ptr (o := 0) hk
 | .agg l, x, u, ι, h, Rh, hd, hv => by
  cases x <;> simp only [dm, Bool.false_eq_true] at hd
  rename_i cs
  obtain ⟨us, rfl, hus⟩ := dd hv
  obtain ⟨ι', R', hle, hvl⟩ := nl Sb l cs us.toList ι h Rh hd hus
  refine ⟨ι', ?_, hle, ?_⟩
  · simp only [lay]; exact R'
  · simp only [lay]; exact ju hvl
 | .e, x, u, ι, h, Rh, hd, hv => by
  simp only [dm] at hd
  split at hd
  · cases hv; exact ⟨ι, Rh, Im.le_refl ι, .sle _ _⟩
  · rename_i n c
    have h0 := aW hd
    subst h0
    cases hv
    exact ⟨ι, Rh, Im.le_refl ι, .sle _ _⟩
  · cases hd
theorem nk (Sb : Sim Nb ιb hb w) : ∀ (l : DL) (xs : List CV) (us : List Value) (ι : Im) (h : Hp), Ro N0 ι h w → mE hb l xs = true → VRL ιb xs us → ∃ ι', Ro N0 ι' (bm l h).2 w ∧ ι.le ι' ∧ VRL ι' (bm l h).1 (us.take (bm l h).1.length)
 | .nil, xs, us, ι, h, Rh, hd, hv => ⟨ι, Rh, Im.le_refl ι, by simpa [bm] using VRL.nil ι⟩
 | .cons d l, xs, us, ι, h, Rh, hd, hv => by
  cases xs with
  | nil => simp [mE] at hd
  | cons x xs =>
   simp only [mE, Bool.and_eq_true] at hd
   obtain ⟨u, us', rfl, h1, h2⟩ := fB hv
   obtain ⟨ι1, R1, hle1, hv1⟩ := u7 Sb d x u ι h Rh hd.1 h1
   obtain ⟨ι2, R2, hle2, hv2⟩ := nk Sb l xs us' ι1 _ R1 hd.2 h2
   refine ⟨ι2, ?_, hle1.trans hle2, ?_⟩
   · simp only [bm]; exact R2
   · simp only [bm, List.length_cons, List.take_succ_cons]
     exact VRL.cons (hv1.mono hle2) hv2
theorem nl (Sb : Sim Nb ιb hb w) : ∀ (l : DL) (xs : List CV) (us : List Value) (ι : Im) (h : Hp), Ro N0 ι h w → jE hb l xs = true → VRL ιb xs us → ∃ ι', Ro N0 ι' (bm l h).2 w ∧ ι.le ι' ∧ VRL ι' (bm l h).1 us
 | .nil, xs, us, ι, h, Rh, hd, hv => by
  cases xs with
  | nil =>
   have : us = [] := List.eq_nil_of_length_eq_zero hv.1
   subst this
   exact ⟨ι, Rh, Im.le_refl ι, VRL.nil ι⟩
  | cons => simp [jE] at hd
 | .cons d l, xs, us, ι, h, Rh, hd, hv => by
  cases xs with
  | nil => simp [jE] at hd
  | cons x xs =>
   simp only [jE, Bool.and_eq_true] at hd
   obtain ⟨u, us', rfl, h1, h2⟩ := fB hv
   obtain ⟨ι1, R1, hle1, hv1⟩ := u7 Sb d x u ι h Rh hd.1 h1
   obtain ⟨ι2, R2, hle2, hv2⟩ := nl Sb l xs us' ι1 _ R1 hd.2 h2
   refine ⟨ι2, ?_, hle1.trans hle2, ?_⟩
   · simp only [bm]; exact R2
   · simp only [bm]
     exact VRL.cons (hv1.mono hle2) hv2
end
end
structure Tgt (M N0 : Nat) (ι : Im) (h : Hp) (w : World) : Prop where
 sim : Sim N0 ι h w
 low : ∀ k i, ι k = some i → (h.get k).wr = true → i.b < M
structure More (ι ι' : Im) (h h' : Hp) : Prop where
 le : ι.le ι'
 n : h.n ≤ h'.n
 dom : ∀ k, k < h.n → ι k = Option.none → ι' k = Option.none
theorem More.refl (ι : Im) (h : Hp) : More ι ι h h := ⟨Im.le_refl ι, Nat.le_refl _, fun _ _ hk => hk⟩
theorem More.trans {ι ι' ι'' : Im} {h h' h'' : Hp} (a : More ι ι' h h') (b : More ι' ι'' h' h'') : More ι ι'' h h'' := ⟨a.le.trans b.le, Nat.le_trans a.n b.n, fun k h1 h2 => b.dom k (Nat.lt_of_lt_of_le h1 a.n) (a.dom k h1 h2)⟩
theorem Tgt.push {M N0 : Nat} {ι : Im} {h : Hp} {w : World} (T : Tgt M N0 ι h w) {vs : List CV} {i : cE} (hib : i.b < w.heap.size) (hM : M ≤ i.b) (hb : BR ι i w (.ro vs)) : Tgt M N0 (ι.set h.n i) (h.push (.ro vs)) w ∧ More ι (ι.set h.n i) h (h.push (.ro vs)) := by
 have hnn : ι h.n = Option.none := T.sim.none
 have hle : ι.le (ι.set h.n i) := bE hnn
 have S := T.sim.push (.ro vs)
 have hge : (h.push (.ro vs)).get h.n = .ro vs := by rw [ag, if_pos rfl]
 have hold : ∀ j a, ι j = some a → ((h.push (.ro vs)).get j).wr = true → (h.get j).wr = true := fun j a ej hw => by
  have hjn : j ≠ h.n := fun e => by rw [e, hnn] at ej; cases ej
  rw [ag, if_neg hjn] at hw
  exact hw
 refine ⟨⟨S.attachR (k := h.n) (by simp) hnn hib (by rw [hge]; rfl) (fun j a ej hw => ?_) (by rw [hge]; exact hb.mono hle rfl), fun k a e hw => ?_⟩, hle, by simp, jx (Nat.le_refl _)⟩
 · have := T.low j a ej (hold j a ej hw)
   omega
 · unfold Im.set at e
   split at e
   · rename_i e'; subst e'; rw [hge] at hw; cases hw
   · exact T.low k a e (hold k a e hw)
theorem u9 {o : Nat} {b : HB} {cs : List CV} (h : uD o b = some cs) : b.wr = true ∧ eV o b = some cs := by
 cases b <;> simp [uD] at h
 exact ⟨rfl, by simp [eV, h]⟩
section
variable {M N0 : Nat} {ιb : Im} {hb : Hp} {w : World}
mutual
theorem pF (Sb : Sim M ιb hb w) : ∀ (d : DV) (x : CV) (u : Value) (ι : Im) (h : Hp), Tgt M N0 ι h w → dn hb d x = true → VR ιb x u → ∃ ι', Tgt M N0 ι' (lay d h).2 w ∧ More ι ι' h (lay d h).2 ∧ VR ι' (lay d h).1 u
 | .c v, x, u, ι, h, Rh, hd, hv => by
  simp only [dn, Bool.and_eq_true] at hd
  have := jL hd.2
  subst this
  exact ⟨ι, Rh, More.refl ι h, u6 hd.1 hv⟩
 | .sl n l, x, u, ι, h, Rh, hd, hv => by
  cases x <;> simp only [dn, Bool.and_eq_true, Bool.false_eq_true] at hd
  rename_i k o n' c
  obtain ⟨⟨h1, h2⟩, h3⟩ := hd
  have h1 := aW h1
  have h2 := bv h2
  subst h1
  split at h3
  case h_2 => cases h3
  rename_i cells hcl
  obtain ⟨hwr, hcl⟩ := u9 hcl
  cases hv with
  | @sl _ _ _ _ c' i hi hcc =>
   have hcle : c ≤ c' := hcc.elim (fun e => Nat.le_of_eq e.1) fun h => h.2.1
   have hB := Sb.blk k i hi
   have hlt := (Sb.lt k i hi).2
   have hM := Sb.own k i hi hwr
   obtain ⟨arr, e, f, hg, hvc⟩ := lZ hB hcl
   obtain ⟨ι', R', hmo, hvl⟩ := nm Sb l cells _ ι h Rh h3 hvc
   have hvl := ma hvl
   generalize hla : bm l h = r at R' hvl hmo
   obtain ⟨vs, h'⟩ := r
   simp only at R' hvl hmo
   have hbr : BR ι' ⟨i.b, i.base + o, 0, 0, 0, true⟩ w (.ro vs) := ⟨arr, e, f, hg, rfl, rfl, hvl⟩
   obtain ⟨R2, hmo2⟩ := R'.push (i := ⟨i.b, i.base + o, 0, 0, 0, true⟩) hlt hM hbr
   refine ⟨ι'.set h'.n ⟨i.b, i.base + o, 0, 0, 0, true⟩, ?_, ?_, ?_⟩
   · simp only [lay, hla]; exact R2
   · simp only [lay, hla]; exact hmo.trans hmo2
   · simp only [lay, hla]
     have hk : (ι'.set h'.n ⟨i.b, i.base + o, 0, 0, 0, true⟩) h'.n = some ⟨i.b, i.base + o, 0, 0, 0, true⟩ := by unfold Im.set; rw [if_pos rfl]
     have := VR.sl (o := 0) (n := n) (c := n) (c' := c') hk (.inr ⟨rfl, by omega, fun hz => absurd rfl hz⟩)
     simpa using this
 | .p l, x, u, ι, h, Rh, hd, hv => by
  cases x <;> simp only [dn, Bool.false_eq_true] at hd
  rename_i k o
  split at hd
  case h_2 => cases hd
  rename_i cells hcl
  obtain ⟨hwr, hcl⟩ := u9 hcl
  obtain ⟨i, hi, rfl⟩ := cN hv
  have hB := Sb.blk k i hi
  have hlt := (Sb.lt k i hi).2
  have hM := Sb.own k i hi hwr
  obtain ⟨arr, e, f, hg, hvc⟩ := lZ hB hcl
  obtain ⟨ι', R', hmo, hvl⟩ := nm Sb l cells _ ι h Rh hd hvc
  have hvl := ma hvl
  generalize hla : bm l h = r at R' hvl hmo
  obtain ⟨vs, h'⟩ := r
  simp only at R' hvl hmo
  have hbr : BR ι' ⟨i.b, i.base + o, 0, 0, 0, true⟩ w (.ro vs) := ⟨arr, e, f, hg, rfl, rfl, hvl⟩
  obtain ⟨R2, hmo2⟩ := R'.push (i := ⟨i.b, i.base + o, 0, 0, 0, true⟩) hlt hM hbr
  refine ⟨ι'.set h'.n ⟨i.b, i.base + o, 0, 0, 0, true⟩, ?_, ?_, ?_⟩
  · simp only [lay, hla]; exact R2
  · simp only [lay, hla]; exact hmo.trans hmo2
  · simp only [lay, hla]
    have hk : (ι'.set h'.n ⟨i.b, i.base + o, 0, 0, 0, true⟩) h'.n = some ⟨i.b, i.base + o, 0, 0, 0, true⟩ := by unfold Im.set; rw [if_pos rfl]
    simpa using VR.ptr (o := 0) hk
 | .agg l, x, u, ι, h, Rh, hd, hv => by
  cases x <;> simp only [dn, Bool.false_eq_true] at hd
  rename_i cs
  obtain ⟨us, rfl, hus⟩ := dd hv
  obtain ⟨ι', R', hmo, hvl⟩ := np Sb l cs us.toList ι h Rh hd hus
  refine ⟨ι', ?_, ?_, ?_⟩
  · simp only [lay]; exact R'
  · simp only [lay]; exact hmo
  · simp only [lay]; exact ju hvl
 | .e, x, u, ι, h, Rh, hd, hv => by
  simp only [dn] at hd
  split at hd
  · cases hv; exact ⟨ι, Rh, More.refl ι h, .sle _ _⟩
  · rename_i n c
    have h0 := aW hd
    subst h0
    cases hv
    exact ⟨ι, Rh, More.refl ι h, .sle _ _⟩
  · cases hd
theorem nm (Sb : Sim M ιb hb w) : ∀ (l : DL) (xs : List CV) (us : List Value) (ι : Im) (h : Hp), Tgt M N0 ι h w → xt hb l xs = true → VRL ιb xs us → ∃ ι', Tgt M N0 ι' (bm l h).2 w ∧ More ι ι' h (bm l h).2 ∧ VRL ι' (bm l h).1 (us.take (bm l h).1.length)
 | .nil, xs, us, ι, h, Rh, hd, hv => ⟨ι, Rh, More.refl ι h, by simpa [bm] using VRL.nil ι⟩
 | .cons d l, xs, us, ι, h, Rh, hd, hv => by
  cases xs with
  | nil => simp [xt] at hd
  | cons x xs =>
   simp only [xt, Bool.and_eq_true] at hd
   obtain ⟨u, us', rfl, h1, h2⟩ := fB hv
   obtain ⟨ι1, R1, hle1, hv1⟩ := pF Sb d x u ι h Rh hd.1 h1
   obtain ⟨ι2, R2, hle2, hv2⟩ := nm Sb l xs us' ι1 _ R1 hd.2 h2
   refine ⟨ι2, ?_, ?_, ?_⟩
   · simp only [bm]; exact R2
   · simp only [bm]; exact hle1.trans hle2
   · simp only [bm, List.length_cons, List.take_succ_cons]
     exact VRL.cons (hv1.mono hle2.le) hv2
theorem np (Sb : Sim M ιb hb w) : ∀ (l : DL) (xs : List CV) (us : List Value) (ι : Im) (h : Hp), Tgt M N0 ι h w → uN hb l xs = true → VRL ιb xs us → ∃ ι', Tgt M N0 ι' (bm l h).2 w ∧ More ι ι' h (bm l h).2 ∧ VRL ι' (bm l h).1 us
 | .nil, xs, us, ι, h, Rh, hd, hv => by
  cases xs with
  | nil =>
   have : us = [] := List.eq_nil_of_length_eq_zero hv.1
   subst this
   exact ⟨ι, Rh, More.refl ι h, VRL.nil ι⟩
  | cons => simp [uN] at hd
 | .cons d l, xs, us, ι, h, Rh, hd, hv => by
  cases xs with
  | nil => simp [uN] at hd
  | cons x xs =>
   simp only [uN, Bool.and_eq_true] at hd
   obtain ⟨u, us', rfl, h1, h2⟩ := fB hv
   obtain ⟨ι1, R1, hle1, hv1⟩ := pF Sb d x u ι h Rh hd.1 h1
   obtain ⟨ι2, R2, hle2, hv2⟩ := np Sb l xs us' ι1 _ R1 hd.2 h2
   refine ⟨ι2, ?_, ?_, ?_⟩
   · simp only [bm]; exact R2
   · simp only [bm]; exact hle1.trans hle2
   · simp only [bm]
     exact VRL.cons (hv1.mono hle2.le) hv2
end
end
mutual
theorem Fm : ∀ (d : DV) (h : Hp), h.n ≤ (lay d h).2.n
 | .c v, h => Nat.le_refl _
 | .e, h => Nat.le_refl _
 | .sl n l, h => by simp only [lay]; have := nq l h; simp; omega
 | .p l, h => by simp only [lay]; have := nq l h; simp; omega
 | .agg l, h => by simp only [lay]; exact nq l h
theorem nq : ∀ (l : DL) (h : Hp), h.n ≤ (bm l h).2.n
 | .nil, h => Nat.le_refl _
 | .cons d l, h => by simp only [bm]; exact Nat.le_trans (Fm d h) (nq l _)
end
def Known (P : Program) (f : FuncId) (ds : DL) (rd : RV) : Prop := ∀ (args : List CV) (h : Hp), jE h ds args = true → FCall P f args h (kQ rd h).1 (kQ rd h).2
theorem va {P : Program} {f : FuncId} {ds : DL} {rd : RV} {r : CV} {h' : Hp} (hc : FCall P f (bm ds h0).1 (bm ds h0).2 r h') (hd : IL h' rd r = true) : Known P f ds rd := by
 obtain ⟨hg, _, hc⟩ := hc
 intro args h hds
 refine ⟨hg, ?_, fun N0 ι w vals hN S hv => ?_⟩
 · cases rd with
   | one d => exact Fm d h
   | tup l => exact nq l h
 have hat : ∀ p : Ix, T.at p (T.lf : T HB) = none := by
  intro p; induction p with
  | e => rfl
  | l p ih => exact ih
  | r p ih => exact ih
 have hget : ∀ k, h0.get k = .dead := fun k => by simp only [Hp.get, h0, T.get, hat]
 have R0 : Ro w.heap.size (fun _ => none) h0 w := ⟨⟨fun k i e => (by cases e), fun k i e => (by cases e), fun k _ => hget k, fun k i e => (by cases e), fun k k' i i' e => (by cases e)⟩, fun k => by rw [hget k]; rfl⟩
 obtain ⟨ιs, Rs, _, hvs⟩ := nl S ds args vals (fun _ => none) h0 R0 hds hv
 refine Calls.mono (hc w.heap.size ιs w vals (Nat.le_refl _) Rs.sim hvs) ?_
 rintro e w' ⟨rv, ι', rfl, _, _, S', hr, hE⟩
 have Tg0 : Tgt w.heap.size N0 ι h w' := ⟨S.world hE, fun k i e _ => (S.lt k i e).2⟩
 have hext : Ext N0 w w' := ⟨hE.os, hE.tape, hE.output, hE.size, fun b hb => hE.block b (by omega), hE.drew⟩
 cases rd with
 | one d =>
  obtain ⟨ι2, T2, mo, hv2⟩ := pF S' d r rv ι h Tg0 hd hr
  exact ⟨rv, ι2, rfl, mo.le, mo.dom, T2.sim, hv2, hext⟩
 | tup l =>
  simp only [IL] at hd
  split at hd
  · rename_i cs
    obtain ⟨us, rfl, hus⟩ := zT hr
    obtain ⟨ι2, T2, mo, hv2⟩ := np S' l cs us.toList ι h Tg0 hd hus
    exact ⟨_, ι2, rfl, mo.le, mo.dom, T2.sim, ee hv2, hext⟩
  · cases hd
theorem qf {P : Program} {f : FuncId} {h : Hp} {args : List CV} {r : CV} {h' : Hp} : ∀ {l : List (DL × RV)}, (∀ x ∈ l, Known P f x.1 x.2) → ko h args l = some (r, h') → FCall P f args h r h'
 | [], _, hm => by simp [ko] at hm
 | (ds, r') :: l, hl, hm => by
  simp only [ko] at hm
  split at hm
  · rename_i hd
    injection hm with hm
    have := hl _ List.mem_cons_self args h hd
    rw [hm] at this
    exact this
  · exact qf (fun x hx => hl x (List.mem_cons_of_mem _ hx)) hm
structure fY (P : Program) (E : fl) : Prop where
 goods : qe E.plan
 orders : P.follows .mixedOrders = true
 prim : ∀ f args r, E.prim f args = some r → eG P f args r
 func : ∀ f, dh P E f = true
 memo : ∀ f, ∀ x ∈ E.memo f, Known P f x.1 x.2
 spec : ∀ f args h r h', E.spec f args h = some (r, h') → FCall P f args h r h'
theorem qg {P : Program} {E : fl} (hE : fY P E) {call : dE} (hcall : ∀ f args h r h', call f args h = some (r, h') → je P f args h r h') {f : FuncId} {args : List CV} {h h' : Hp} {r : CV} (hx : ol P E call f args h = some (r, h')) : FCall P f args h r h' := by
 unfold ol at hx
 split at hx
 · cases hx
 · rename_i fn hf
   split at hx
   · rename_i c hb
     split at hx
     · rename_i hlen
       have hlen := bv hlen
       unfold yF at hx
       split at hx
       · rename_i e s h1 hc
         have fin : (e = .normal ∨ e = .ret) → (match Nat.ble h.n h1.n with
          | true => match eE (ce (s.at ai)) h1 with
           | some h2 => match gf P s h2 fn.results.toList with
            | some vs => some (ib vs, h2)
            | none => none
           | none => none
          | false => none) = some (r, h') → FCall P f args h r h' := by
          intro he hx
          split at hx
          · rename_i hn
            split at hx
            · rename_i h2 hsh
              split at hx
              · rename_i vs hr
                injection hx with hx
                simp only [Prod.mk.injEq] at hx
                obtain ⟨rfl, rfl⟩ := hx
                exact Aj hE.goods hE.orders hE.prim hcall (hE.func f) hf hb hlen he (bv hn) hc hsh hr
              · cases hx
            · cases hx
          · cases hx
         cases e <;> first | exact fin (.inl rfl) hx | exact fin (.inr rfl) hx | cases hx
       · cases hx
     · cases hx
   · cases hx
theorem fD {P : Program} {E : fl} (hE : fY P E) : ∀ (d : Nat) (t : Tg) (args : List CV) (h : Hp) (r : CV) (h' : Hp), cz P E d t args h = some (r, h') → je P t args h r h' := by
 intro d
 induction d with
 | zero => intro t args h r h' hx; simp [cz] at hx
 | succ d ih =>
  intro t args h r h' hx
  cases t with
  | fn f =>
   simp only [cz] at hx
   show FCall P f args h r h'
   split at hx
   · rename_i r' hm
     injection hx with hx
     subst hx
     exact qf (hE.memo f) hm
   · split at hx
     · rename_i r' hm
       injection hx with hx
       subst hx
       exact hE.spec _ _ _ _ _ hm
     · exact qg hE ih hx
  | yl k =>
   simp only [cz] at hx
   exact yP hE.goods hE.orders hE.prim ih hx
theorem th {P : Program} {E : fl} (hE : fY P E) {d : Nat} {f : FuncId} {ds : DL} {rd : RV} (hx : yG P E d f ds rd = true) : Known P f ds rd := by
 unfold yG at hx
 split at hx
 · rename_i args h hl
   split at hx
   · rename_i r' h' hb
     refine va (r := r') (h' := h') ?_ hx
     rw [hl]
     exact qg hE (fD hE d) hb
   · cases hx
end Go.CP
namespace Go.CP
variable [LG] [HK]
def bU {α : Type} : List (Nat × α) → T α
 | [] => .lf
 | (k, x) :: l => T.set (bU l) k x
theorem ov {α : Type} : ∀ {l : List (Nat × α)} {k : Nat} {x : α}, (bU l).get k = some x → (k, x) ∈ l
 | [], k, x, h => by
  have hat : ∀ p : Ix, T.at p (T.lf : T α) = none := by
   intro p; induction p with
   | e => rfl
   | l p ih => exact ih
   | r p ih => exact ih
  simp only [bU, T.get, hat] at h
  cases h
 | (j, y) :: l, k, x, h => by
  simp only [bU, T.get_set] at h
  split at h
  · rename_i e; injection h with h; subst h; subst e; exact List.mem_cons_self
  · exact List.mem_cons_of_mem _ (ov h)
abbrev iS := List (Nat × List (DL × RV))
def cw (M : iS) (f : FuncId) : List (DL × RV) := match (bU M).get f with
 | some l => l
 | none => []
def bj (pl : T (T (List Stp))) (f : FuncId) (r : Nat) : Option (List Stp) := match pl.get f with
 | some t => t.get r
 | none => none
def KnownAll (P : Program) (M : iS) : Prop := ∀ x ∈ M, ∀ y ∈ x.2, Known P x.1 y.1 y.2
theorem KnownAll.of {P : Program} {M : iS} (h : KnownAll P M) (f : FuncId) : ∀ x ∈ cw M f, Known P f x.1 x.2 := by
 intro x hx
 unfold cw at hx
 split at hx
 · rename_i l hl
   exact h _ (ov hl) x hx
 · cases hx
theorem KnownAll.nil (P : Program) : KnownAll P [] := fun x hx => by cases hx
theorem KnownAll.cons {P : Program} {M : iS} {f : FuncId} {l : List (DL × RV)} (h : ∀ y ∈ l, Known P f y.1 y.2) (hM : KnownAll P M) : KnownAll P ((f, l) :: M) := by
 intro x hx
 rcases List.mem_cons.1 hx with rfl | hx
 · exact h
 · exact hM x hx
def dR (P : Program) (E : fl) (d : Nat) (f : FuncId) : List (DL × RV) → Bool
 | [] => true
 | (ds, r) :: l => match yG P E d f ds r with
  | true => dR P E d f l
  | false => false
theorem dy {P : Program} {E : fl} (hE : fY P E) {d : Nat} {f : FuncId} : ∀ {l : List (DL × RV)}, dR P E d f l = true → ∀ y ∈ l, Known P f y.1 y.2
 | [], _, y, hy => by cases hy
 | (ds, r) :: l, h, y, hy => by
  simp only [dR] at h
  split at h
  · rename_i hr
    rcases List.mem_cons.1 hy with rfl | hy
    · exact th hE hr
    · exact dy hE h y hy
  · cases h
def ow (c : Nat) : Nat → List Nat → Int
 | _, [] => .negSucc 0
 | i, a :: l => match Nat.beq a c with
  | true => .ofNat i
  | false => ow c (i + 1) l
def cU (k : Nat) : cM := fun f args => match Nat.beq f k with
 | true => match args with
  | [.st s, .nu .u8 (.ofNat c)] => match Nat.blt c 256 with
   | true => some (.nu .i64 (ow c 0 s))
   | false => none
  | _ => none
 | false => none
theorem qh (b : ByteArray) (c : Nat) (hc : c < 256) : ∀ (m i : Nat), i + m = b.size → (match (List.range' i m).find? fun j => b[j]! == c.toUInt8 with
  | some j => Int.ofNat j
  | none => .negSucc 0) = ow c i ((bs b).drop i)
 | 0, i, h => by
  have : (bs b).drop i = [] := List.drop_of_length_le (by rw [dx]; omega)
  rw [this]; rfl
 | m + 1, i, h => by
  have hi : i < (bs b).length := by rw [dx]; omega
  have hib : i < b.size := by omega
  rw [List.drop_eq_getElem_cons hi, List.range'_succ, List.find?_cons]
  have hb : b[i]! = b[i] := getElem!_pos b i hib
  have hbe : (bs b)[i] = (b[i]).toNat := by simp [bs]; rfl
  simp only [ow]
  cases hq : Nat.beq (bs b)[i] c with
  | true =>
   have hq := aW hq
   have : (b[i]! == c.toUInt8) = true := by
    rw [hb, beq_iff_eq]
    apply UInt8.toNat_inj.1
    rw [← hbe, hq]
    simp [Nat.mod_eq_of_lt hc]
   rw [this]
  | false =>
   have hq := jG hq
   have : (b[i]! == c.toUInt8) = false := by
    rw [hb, beq_eq_false_iff_ne]
    intro e
    apply hq
    rw [hbe, e]
    simp [Nat.mod_eq_of_lt hc]
   rw [this]
   exact qh b c hc m (i + 1) (by omega)
theorem yQ {P : Program} {k : Nat} {fn : Func} (hf : P.funcs[k]? = some fn) (hn : fn.name = "internal/bytealg.IndexByteString") (hb : fn.body = none) (hx : Extern.findNext fn = none) (hr : Extern.find fn = some Extern.BytealgIndexByte.indexByte) :
  ∀ f args r, cU k f args = some r → eG P f args r := by
 intro f args r hp ι w vals hv
 unfold cU at hp
 split at hp
 · rename_i hfk
   have hfk := aW hfk
   subst hfk
   split at hp
   · rename_i s c
     split at hp
     · rename_i hc
       have hc := cO hc
       injection hp with hp; subst hp
       obtain ⟨v1, l1, rfl, h1, hv1⟩ := fB hv
       obtain ⟨v2, l2, rfl, h2, hv2⟩ := fB hv1
       have : l2 = [] := List.eq_nil_of_length_eq_zero hv2.1
       subst this
       obtain ⟨b, rfl, rfl⟩ := cG h1
       obtain rfl := bS h2
       have hs := qh b c hc b.size 0 (by omega)
       rw [List.drop_zero, ← List.range_eq_range'] at hs
       have hrow : (Extern.BytealgIndexByte.indexByte #[.string b, .int .u8 (Int.ofNat c)]).run P w = .ok (.int .i64 (ow c 0 (bs b))) w := by
        rw [← hs]
        have he : Extern.BytealgIndexByte.indexByte #[.string b, .int .u8 (Int.ofNat c)] = (do
         let b' ← Extern.Bytes.bytesOf (.string b)
         let i ← Extern.Bytes.asByte (.int .u8 (Int.ofNat c))
         match (List.range b'.size).find? fun j => b'[j]! == i with
          | some j => pure (goInt j)
          | none => pure (goInt (-1))) := rfl
        rw [he]
        simp only [Extern.Bytes.bytesOf, Extern.Bytes.asByte, Sem.run_bind, Sem.run_pure, Result.andThen_ok]
        have ht : (Int.ofNat c).toNat = c := rfl
        rw [ht]
        cases hfd : (List.range b.size).find? fun j => b[j]! == c.toUInt8 with
        | none => rfl
        | some j => rfl
       have hrow' : (Extern.BytealgIndexByte.indexByte #[.string b, .int .u8 (c : Int)]).run P w = .ok (.int .i64 (ow c 0 (bs b))) w := hrow
       refine ⟨_, .nu _ _, ?_⟩
       unfold callFunc
       simp [program, Sem.run, hf, hn, hb, hx, hr, mark, hrow']
     · cases hp
   · cases hp
 · cases hp
def ci (p q : cM) : cM := fun f args => match p f args with
 | some r => some r
 | none => q f args
theorem wQ {P : Program} {p q : cM} (hp : ∀ f args r, p f args = some r → eG P f args r) (hq : ∀ f args r, q f args = some r → eG P f args r) : ∀ f args r, ci p q f args = some r → eG P f args r := by
 intro f args r h
 unfold ci at h
 split at h
 · rename_i r' hr
   injection h with h; subst h
   exact hp _ _ _ hr
 · exact hq _ _ _ h
def Fn : List CV → Option CV
 | [x] => some x
 | _ => none
def cV (k : Nat) : cM := fun f args => match Nat.beq f k with
 | true => Fn args
 | false => none
theorem yR {P : Program} {k : Nat} {fn : Func} (hf : P.funcs[k]? = some fn) (hn : (fn.name == "runtime.NumGoroutine") = false) (hb : fn.body.isNone = true) (hx : Extern.findNext fn = none) (hr : Extern.find fn = some Extern.AbiNoEscape.same) :
  ∀ f args r, cV k f args = some r → eG P f args r := by
 intro f args r hp ι w vals hv
 unfold cV at hp
 split at hp
 · rename_i hfk
   have hfk := aW hfk
   subst hfk
   unfold Fn at hp
   split at hp
   · rename_i x
     injection hp with hp; subst hp
     obtain ⟨v1, l1, rfl, h1, hv1⟩ := fB hv
     have : l1 = [] := List.eq_nil_of_length_eq_zero hv1.1
     subst this
     exact ⟨v1, h1, by rw [run_callFunc_extern hf hn hb hx hr]; rfl⟩
   · cases hp
 · cases hp
end Go.CP
namespace Go.CP
variable [LG] [HK]
open Go.RowKit
theorem wR {P : Program} {E E' : fl} (h : E'.plan = E.plan) (f : FuncId) : dh P E' f = dh P E f := by
 unfold dh; rw [h]
abbrev L1 (pl : FuncId → Nat → Option (List Stp)) : LG := ⟨fun f n ps as bd => jy (pl f) n ps as bd = true⟩
structure Base (P : Program) (pl : FuncId → Nat → Option (List Stp)) (pr : cM) (sp : FuncId → List CV → Hp → Option (CV × Hp)) : Prop where
 goods : qe pl
 orders : P.follows .mixedOrders = true
 prim : ∀ f args r, pr f args = some r → eG P f args r
 func : ∀ f, dh P (fl.mk pl pr (cw []) (fun _ _ _ => none) 0) f = true
 spec : ∀ f args h r h', sp f args h = some (r, h') → FCall P f args h r h'
theorem mb {P : Program} {pl : FuncId → Nat → Option (List Stp)} {prim : cM} {sp : FuncId → List CV → Hp → Option (CV × Hp)} (h0 : qe pl) (h1 : P.follows .mixedOrders = true) (h2 : ∀ f args r, prim f args = some r → eG P f args r) (h3 : (List.range P.funcs.size).all (dh P ⟨pl, prim, cw [], fun _ _ _ => none, 0⟩) = true) (h4 : ∀ f args h r h', sp f args h = some (r, h') → FCall P f args h r h') : Base P pl prim sp := ⟨h0, h1, h2, fun f => by
 by_cases h : f < P.funcs.size
 · exact List.all_eq_true.1 h3 f (List.mem_range.2 h)
 · unfold dh
   rw [Array.getElem?_eq_none (Nat.not_lt.1 h)], h4⟩
theorem Base.ok {P : Program} {pl : FuncId → Nat → Option (List Stp)} {prim : cM} {sp : FuncId → List CV → Hp → Option (CV × Hp)} (b : Base P pl prim sp) {M : iS} (hM : KnownAll P M) {n : Nat} : fY P ⟨pl, prim, cw M, sp, n⟩ := ⟨b.goods, b.orders, b.prim, fun f => (wR rfl f).trans (b.func f), fun f => hM.of f, b.spec⟩
end Go.CP
