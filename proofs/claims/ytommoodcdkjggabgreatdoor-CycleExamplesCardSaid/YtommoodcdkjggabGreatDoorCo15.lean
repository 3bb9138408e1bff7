/- The reckoner with memory: ranges over functions: their records, rounds, marks. -/
import Derived.Test.YtommoodcdkjggabGreatDoorCo14
import Derived.Test.YtommoodcdkjggabGreatDoorCo14n
import Derived.RangeFuncRecord
set_option linter.unusedVariables false
set_option linter.unusedSectionVars false
set_option linter.unusedSimpArgs false
namespace Go.CO
variable [LG] [HK]

def opsOk (n : Nat) (ops : Array Oper) : Bool := ops.toList.all fun o => (match o.dst with
  | some d => Nat.blt d n
  | none => true) && o.op.operands.toList.all fun x => match x with
    | .tmp t => Nat.blt t n
    | _ => true
theorem opsOk_spec {n : Nat} {ops : Array Oper} (h : opsOk n ops = true) : ∀ o ∈ ops.toList, operOk n o := by
  intro o ho
  have h1 := List.all_eq_true.1 h o ho
  simp only [Bool.and_eq_true] at h1
  refine ⟨fun d hd => ?_, fun x hx t ht => ?_⟩
  · have := h1.1
    rw [hd] at this
    exact blt1 this
  · have := List.all_eq_true.1 h1.2 x hx
    rw [ht] at this
    exact blt1 this
def opB (n : Nat) : Operand → Bool
  | .tmp t => Nat.blt t n
  | _ => true
theorem opB_spec {n : Nat} {x : Operand} (h : opB n x = true) : opOk n x := fun t ht => by
  rw [ht] at h; exact blt1 h
def codeOk (pl : Nat → Option (List Stp)) (n : Nat) : Code → Bool
  | .seq x y => codeOk pl n x && codeOk pl n y
  | .cond c x y => opB n c && codeOk pl n x && codeOk pl n y
  | .block _ c => codeOk pl n c
  | .scope c => codeOk pl n c
  | .loop c => codeOk pl n c
  | .region id ops true => opsOk n ops && match pl id with
    | some p => planOkN (nfs ops) p [] 0
    | none => true
  | .region id ops false => opsOk n ops
  | .rangeFunc g ps as bd => opB n g && (ps.toList.all (fun t => Nat.blt t n) && codeOk pl n as && codeOk pl n bd)
  | _ => true
def rangeOk (pl : Nat → Option (List Stp)) (n : Nat) (ps : Array Tmp) (as bd : Code) : Bool := Nat.ble n slot && (ps.toList.all (fun t => Nat.blt t n) && codeOk pl n as && codeOk pl n bd)

/-! ### The marks' place in a frame -/
theorem Fr.at_slot {s : Fr} {n : Nat} (hn : n ≤ slot) {d : Option Tmp} (hd : ∀ t, d = some t → @LT.lt Nat _ t n) (c : CV) : (Fr.putO s d c).at slot = s.at slot := by
  cases d with
  | none => rfl
  | some d =>
    have := hd d rfl
    simp only [Fr.putO, Fr.at_set]
    rw [if_neg (by omega)]
theorem listX_slot {P : Program} {prim : PrimX} {call : CallX} {ops : Array Oper} {n : Nat} (hn : n ≤ slot) : ∀ (l : List Oper) {s s' : Fr} {h h' : Hp}, (∀ o ∈ l, operOk n o) → listX P prim call ops l s h = some (s', h') → s'.at slot = s.at slot
  | [], s, s', h, h', _, hx => by
    simp only [listX, Option.some.injEq, Prod.mk.injEq] at hx
    rw [hx.1]
  | o :: l, s, s', h, h', hl, hx => by
    have hl' : ∀ o ∈ l, operOk n o := fun o ho => hl o (List.mem_cons_of_mem _ ho)
    have ho := (hl o List.mem_cons_self).1
    simp only [listX] at hx
    split at hx
    · split at hx
      · exact (listX_slot hn l hl' hx).trans (Fr.at_slot hn ho _)
      · cases hx
    · exact (listX_slot hn l hl' hx).trans (Fr.at_slot hn ho _)
    · cases hx
theorem planX_slot {P : Program} {prim : PrimX} {call : CallX} {ops : Array Oper} {n : Nat} (hn : n ≤ slot) (hops : ∀ o ∈ ops.toList, operOk n o) : ∀ (l : List Stp) {pd : List Pd} {s s' : Fr} {h h' : Hp}, planX P prim call ops l pd s h = some (s', h') → s'.at slot = s.at slot
  | [], pd, s, s', h, h', hx => by
    simp only [planX, Option.some.injEq, Prod.mk.injEq] at hx
    rw [hx.1]
  | .take i :: l, pd, s, s', h, h', hx => by
    simp only [planX] at hx
    split at hx
    · cases hx
    · rename_i o ho
      have ho := (operOk_of (Γ := ⟨P, default, 0, fun _ => none, 0, n, none, []⟩) hops ho).1
      split at hx
      · cases hx
      · exact (planX_slot hn hops l hx).trans (Fr.at_slot hn ho _)
      · split at hx
        · split at hx
          · exact (planX_slot hn hops l hx).trans (Fr.at_slot hn ho _)
          · cases hx
        · split at hx
          · exact (planX_slot hn hops l hx).trans (Fr.at_slot hn ho _)
          · cases hx
  | .only i keep :: l, pd, s, s', h, h', hx => by
    simp only [planX] at hx
    split at hx
    · cases hx
    · rename_i o ho
      have ho := (operOk_of (Γ := ⟨P, default, 0, fun _ => none, 0, n, none, []⟩) hops ho).1
      split at hx
      · cases hx
      · exact (planX_slot hn hops l hx).trans (Fr.at_slot hn ho _)
      · split at hx
        · split at hx
          · exact (planX_slot hn hops l hx).trans (Fr.at_slot hn ho _)
          · cases hx
        · cases hx

/-! ### Blocks that the machine lays and writes -/
theorem Ext.alloc {N0 : Nat} {w : World} (hN : N0 ≤ w.heap.size) (obj : Obj) : Ext N0 w (w.alloc obj) := by
  refine ⟨rfl, rfl, rfl, ?_, fun b hb => ?_⟩
  · show w.heap.size ≤ (w.heap.push obj).size
    simp
  · show (w.heap.push obj)[b]? = _
    rw [Array.getElem?_push, if_neg (by omega)]
def newI (b : Nat) : Inf := ⟨b, 0, 0, 0, 0, false⟩
theorem sim_free {N0 : Nat} {ι : Im} {h : Hp} {w : World} (S : Sim N0 ι h w) : ι h.n = none := by
  cases e : ι h.n with
  | none => rfl
  | some i => exact absurd (S.lt _ _ e).1 (Nat.lt_irrefl _)
theorem Sim.add {N0 : Nat} {ι : Im} {h : Hp} {w : World} (S : Sim N0 ι h w) (hN : N0 ≤ w.heap.size) {b : HB} {obj : Obj} (hb : BR (ι.set h.n (newI w.heap.size)) (newI w.heap.size) (w.alloc obj) b) : Sim N0 (ι.set h.n (newI w.heap.size)) (h.push b) (w.alloc obj) := by
  refine (S.push b).laid hN (by simp) (sim_free S) ?_ (fun j hj => ?_) rfl ?_
  · show (w.heap.push obj).size = _
    simp
  · show (w.heap.push obj)[j]? = _
    rw [Array.getElem?_push, if_neg (by omega)]
  · rw [Hp.get_push, if_pos rfl]; exact hb
theorem Ext.put {N0 : Nat} {w : World} {i : Nat} (hi : N0 ≤ i) (obj : Obj) : Ext N0 w (w.putObj i obj) :=
  ⟨rfl, rfl, rfl, by simp, fun b hb => World.putObj_heap_other (by omega)⟩
theorem Sim.wrote_lp {N0 : Nat} {ι : Im} {h : Hp} {w : World} (S : Sim N0 ι h w) {k : Nat} {i : Inf} (hi : ι k = some i) {r : Lp} (hk : h.get k = .lp r) {fn : FuncId} {tmps : Array Value} {d : Nat} (h2 : tmps.size = r.n) (h3 : ∀ t, t < r.n → VR ι (Fr.at r.s t) (tmps.getD t Go.undef)) (h4 : LG.good r.f r.n r.ps r.as r.bd) (st : LoopState) (pend : Option Code) :
    Sim N0 ι (h.set k (.lp ⟨st, pend, r.s, r.f, r.n, r.ps, r.as, r.bd⟩)) (w.putObj i.b (.loop { state := st, pending := pend, fn := fn, tmps := tmps, params := r.ps, assign := r.as, body := r.bd, defers := d })) ∧ Ext N0 w (w.putObj i.b (.loop { state := st, pending := pend, fn := fn, tmps := tmps, params := r.ps, assign := r.as, body := r.bd, defers := d })) := by
  have hw : (h.get k).wr = true := by rw [hk]; rfl
  refine ⟨S.wrote hi hw (.inl rfl) (by simp) (fun j hj => World.putObj_heap_other hj) ?_, Ext.put (S.own k i hi hw) _⟩
  exact ⟨fn, tmps, d, World.putObj_heap_same (S.lt k i hi).2, h2, h3, h4⟩
theorem Sim.wrote_df {N0 : Nat} {ι : Im} {h : Hp} {w : World} (S : Sim N0 ι h w) {k : Nat} {i : Inf} (hi : ι k = some i) (hk : h.get k = .df) (obj : Obj) :
    Sim N0 ι (h.set k .dead) (w.putObj i.b obj) ∧ Ext N0 w (w.putObj i.b obj) := by
  have hw : (h.get k).wr = true := by rw [hk]; rfl
  exact ⟨S.wrote hi hw (.inr rfl) (by simp) (fun j hj => World.putObj_heap_other hj) trivial, Ext.put (S.own k i hi hw) _⟩

/-! ### The frame at code -/
def Bs.at (Γ : Bs) (s : Fr) : Bs := { Γ with mks := marks (s.at slot) }
theorem Bs.at_eq {Γ : Bs} {s s' : Fr} (h : s'.at slot = s.at slot) : Γ.at s' = Γ.at s := by unfold Bs.at; rw [h]
theorem marks_add (k : Nat) (c : CV) : marks (addMark k c) = k :: marks c := by
  cases c <;> rfl
/-- Is the frame a round's, as is told? -/
def Rnd (Γ : Bs) : Option Nat → Prop
  | none => Γ.rd = none
  | some l => ∃ i, Γ.ι0 l = some i ∧ Γ.rd = some i.b
section
variable {Γ : Bs} {s s' : Fr} {h h' : Hp} {a : Act} {w w' : World} {ι ι' : Im}
/-- The range begins. -/
theorem enter_sound (R : Rl (Γ.at s) [] s h a w ι) (hns : Γ.n ≤ slot) {ro : Option Nat} (hro : Rnd Γ ro) {f : Nat} {ps : Array Tmp} {as bd : Code} (hg : LG.good f Γ.n ps as bd) (hx : enterX ro f Γ.n ps as bd s h = some (s', h')) (fn : FuncId) :
    ∃ l mark w1 ι1 i, (Instr.enterLoop fn a.tmps ps as bd Γ.F.round).run Γ.P w = .ok (l, mark) w1 ∧ ι1 (h'.n - 1) = some i ∧ i.b = l ∧ h.n ≤ h'.n ∧ Rl (Γ.at s') [] s' h' { a with defers := mark ++ a.defers } w1 ι1 := by
  have hN : Γ.N0 ≤ w.heap.size := R.wsize
  have hset : ∀ (ι : Im) (k : Nat) (i : Inf) (k' : Nat), k' ≠ k → ι k' = none → (ι.set k i) k' = none := fun ι k i k' hne hk' => by unfold Im.set; rw [if_neg hne]; exact hk'
  cases ro with
  | none =>
    simp only [enterX, Option.some.injEq, Prod.mk.injEq] at hx
    obtain ⟨rfl, rfl⟩ := hx
    have hr : Γ.F.round = none := hro
    rw [hr]
    let ι1 := ι.set h.n (newI w.heap.size)
    have hle1 : ι.le ι1 := Im.le_set (sim_free R.sim)
    have S1 : Sim Γ.N0 ι1 (h.push .df) (w.alloc (.deferred (some []))) := R.sim.add hN (World.alloc_heap_new w _)
    have hsz : (w.alloc (.deferred (some []))).heap.size = w.heap.size + 1 := by
      show (w.heap.push _).size = _
      simp
    let obj : Obj := .loop { state := .ready, pending := none, fn := fn, tmps := a.tmps, params := ps, assign := as, body := bd, defers := w.heap.size }
    let ι2 := ι1.set (h.push .df).n (newI (w.alloc (.deferred (some []))).heap.size)
    have hle2 : ι1.le ι2 := Im.le_set (sim_free S1)
    have S2 : Sim Γ.N0 ι2 ((h.push .df).push (.lp ⟨.ready, none, s, f, Γ.n, ps, as, bd⟩)) ((w.alloc (.deferred (some []))).alloc obj) := S1.add (by rw [hsz]; omega) ⟨fn, a.tmps, w.heap.size, World.alloc_heap_new _ _, R.tn, fun t ht => ((R.tv t ht).mono hle1).mono hle2, hg⟩
    refine ⟨_, _, _, ι2, newI (w.heap.size + 1), run_enterLoop_outer fn a.tmps ps as bd, ?_, rfl, by simp; omega, ?_⟩
    · have : ((h.push .df).push (.lp ⟨.ready, none, s, f, Γ.n, ps, as, bd⟩)).n - 1 = (h.push .df).n := by simp
      rw [this]
      show ι1.set (h.push .df).n (newI (w.alloc (.deferred (some []))).heap.size) (h.push .df).n = _
      unfold Im.set
      rw [if_pos rfl, hsz]
    · refine ⟨?_, R.tn, (R.le.trans hle1).trans hle2, fun k h1 h2 => ?_, fun k hk => (by cases hk), S2, fun t ht => ?_, ?_, ?_, R.h0⟩
      · show DfR ι2 (marks (Fr.at (T.set s slot (addMark h.n (s.at slot))) slot)) _
        rw [Fr.at_set, if_pos rfl, marks_add]
        refine ⟨⟨newI w.heap.size, ?_, rfl⟩, (R.df.mono hle1).mono hle2⟩
        apply hle2
        show ι.set h.n (newI w.heap.size) h.n = _
        unfold Im.set; rw [if_pos rfl]
      · have hk : k < h.n := Nat.lt_of_lt_of_le h1 R.hn
        refine hset _ _ _ _ (by simp; omega) (hset _ _ _ _ (by omega) (R.dom k h1 h2))
      · have ht' : t < slot := Nat.lt_of_lt_of_le ht hns
        rw [Fr.at_set, if_neg (by omega)]
        exact ((R.tv t ht).mono hle1).mono hle2
      · exact R.ext.trans ((Ext.alloc hN _).trans (Ext.alloc (by rw [hsz]; omega) _))
      · have := R.hn
        simp
        exact Nat.le_trans this (by omega)
  | some l0 =>
    obtain ⟨i0, hi0, hrd⟩ := hro
    simp only [enterX] at hx
    split at hx
    · rename_i r hk
      simp only [Option.some.injEq, Prod.mk.injEq] at hx
      obtain ⟨rfl, rfl⟩ := hx
      have hr : Γ.F.round = some i0.b := hrd
      rw [hr]
      have hb := R.sim.blk l0 i0 (R.le _ _ hi0)
      rw [hk] at hb
      obtain ⟨fn0, tmps0, d0, hb1, _, _, _⟩ := hb
      let obj : Obj := .loop { state := .ready, pending := none, fn := fn, tmps := a.tmps, params := ps, assign := as, body := bd, defers := d0 }
      let ι1 := ι.set h.n (newI w.heap.size)
      have hle1 : ι.le ι1 := Im.le_set (sim_free R.sim)
      have S1 : Sim Γ.N0 ι1 (h.push (.lp ⟨.ready, none, s, f, Γ.n, ps, as, bd⟩)) (w.alloc obj) := R.sim.add hN ⟨fn, a.tmps, d0, World.alloc_heap_new _ _, R.tn, fun t ht => (R.tv t ht).mono hle1, hg⟩
      have hrun : (Instr.enterLoop fn a.tmps ps as bd (some i0.b)).run Γ.P w = .ok (w.heap.size, []) (w.alloc obj) := by
        unfold Instr.enterLoop
        simp only [Sem.run_bind, run_getLoop hb1, run_newObj_alloc, Result.andThen, Sem.run_pure]
        rfl
      refine ⟨_, _, _, ι1, newI w.heap.size, hrun, ?_, rfl, by simp, ?_⟩
      · have : (h.push (.lp ⟨.ready, none, s, f, Γ.n, ps, as, bd⟩)).n - 1 = h.n := by simp
        rw [this]
        show ι.set h.n (newI w.heap.size) h.n = _
        unfold Im.set; rw [if_pos rfl]
      · refine ⟨R.df.mono hle1, R.tn, R.le.trans hle1, fun k h1 h2 => ?_, fun k hk => (by cases hk), S1, fun t ht => (R.tv t ht).mono hle1, R.ext.trans (Ext.alloc hN _), ?_, R.h0⟩
        · have hk : k < h.n := Nat.lt_of_lt_of_le h1 R.hn
          exact hset _ _ _ _ (by omega) (R.dom k h1 h2)
        · have := R.hn
          simp
          exact Nat.le_trans this (by omega)
    · cases hx
/-- The frame's blocks are other ones. -/
theorem Rl.to (R : Rl Γ [] s h a w ι) (hn : h'.n = h.n) (S : Sim Γ.N0 ι h' w') (E : Ext Γ.N0 w w') : Rl Γ [] s h' a w' ι :=
  ⟨R.df, R.tn, R.le, R.dom, fun k hk => (by cases hk), S, R.tv, R.ext.trans E, by rw [hn]; exact R.hn, R.h0⟩
/-- The range ends. -/
theorem leave_sound (R : Rl Γ [] s h a w ι) {l : Nat} {i : Inf} (hi : ι l = some i) {j : Option Code} (hx : leaveX l h = some (j, h')) :
    jumpC j = true ∧ h'.n = h.n ∧ ∃ w', (Instr.endLoop i.b).run Γ.P w = .ok j w' ∧ Rl Γ [] s h' a w' ι := by
  unfold leaveX at hx
  split at hx
  · rename_i r hk
    have hb := R.sim.blk l i hi
    rw [hk] at hb
    obtain ⟨fn0, tmps0, d0, hb1, hb2, hb3, hb4⟩ := hb
    split at hx
    · cases hx
    · rename_i hst
      split at hx
      · rename_i hj
        simp only [Option.some.injEq, Prod.mk.injEq] at hx
        obtain ⟨rfl, rfl⟩ := hx
        obtain ⟨S, E⟩ := R.sim.wrote_lp hi hk (fn := fn0) (d := d0) hb2 hb3 hb4 .exhausted r.pend
        exact ⟨hj, rfl, _, run_endLoop hb1 (fun e => hst e), R.to rfl S E⟩
      · cases hx
  · cases hx
theorem begin_sound (R : Rl Γ [] s h a w ι) {l : Nat} {i : Inf} (hi : ι l = some i) (hx : beginX l h = some h') :
    h'.n = h.n ∧ ∃ w', (Instr.beginRound i.b).run Γ.P w = .ok () w' ∧ Rl Γ [] s h' a w' ι := by
  unfold beginX at hx
  split at hx
  · rename_i r hk
    have hb := R.sim.blk l i hi
    rw [hk] at hb
    obtain ⟨fn0, tmps0, d0, hb1, hb2, hb3, hb4⟩ := hb
    split at hx
    · rename_i hst
      simp only [Option.some.injEq] at hx
      subst hx
      obtain ⟨S, E⟩ := R.sim.wrote_lp hi hk (fn := fn0) (d := d0) hb2 hb3 hb4 .busy r.pend
      exact ⟨rfl, _, run_beginRound hb1 hst, R.to rfl S E⟩
    · cases hx
  · cases hx
theorem end_sound (R : Rl Γ [] s h a w ι) {l : Nat} {i : Inf} (hi : ι l = some i) {e : Exit} {c : CV} (hx : endX l e h = some (c, h')) :
    h'.n = h.n ∧ ∃ j v w', jumpX e = some j ∧ (Instr.endRound i.b j).run Γ.P w = .ok v w' ∧ VR ι c v ∧ Rl Γ [] s h' a w' ι := by
  unfold endX at hx
  split at hx
  · rename_i r hk
    have hb := R.sim.blk l i hi
    rw [hk] at hb
    obtain ⟨fn0, tmps0, d0, hb1, hb2, hb3, hb4⟩ := hb
    split at hx
    · rename_i hj
      simp only [Option.some.injEq, Prod.mk.injEq] at hx
      obtain ⟨rfl, rfl⟩ := hx
      obtain ⟨S, E⟩ := R.sim.wrote_lp hi hk (fn := fn0) (d := d0) hb2 hb3 hb4 .ready none
      exact ⟨rfl, none, _, _, hj, run_endRound none hb1, .bo _, R.to rfl S E⟩
    · rename_i c hj
      simp only [Option.some.injEq, Prod.mk.injEq] at hx
      obtain ⟨rfl, rfl⟩ := hx
      obtain ⟨S, E⟩ := R.sim.wrote_lp hi hk (fn := fn0) (d := d0) hb2 hb3 hb4 .done (some c)
      exact ⟨rfl, some c, _, _, hj, run_endRound (some c) hb1, .bo _, R.to rfl S E⟩
    · cases hx
  · cases hx
end
/-- The loop's variables are set. -/
theorem putAll_sound {ι : Im} {n : Nat} (hns : n ≤ slot) : ∀ (ts : List Tmp) (cs : List CV) (vs : List Value) (s s0 : Fr) (tmps : Array Value), putAll s ts cs = some s0 → VRL ι cs vs → (∀ t ∈ ts, @LT.lt Nat _ t n) → tmps.size = n → (∀ t, t < n → VR ι (s.at t) (tmps.getD t Go.undef)) →
    vs.length = ts.length ∧ s0.at slot = s.at slot ∧ ((ts.zip vs).foldl (fun tm x => tm.setIfInBounds x.1 x.2) tmps).size = n ∧ ∀ t, t < n → VR ι (s0.at t) (((ts.zip vs).foldl (fun tm x => tm.setIfInBounds x.1 x.2) tmps).getD t Go.undef)
  | [], [], vs, s, s0, tmps, hx, hv, _, hn, ht => by
    have : vs = [] := List.eq_nil_of_length_eq_zero hv.1
    subst this
    simp only [putAll, Option.some.injEq] at hx
    subst hx
    exact ⟨rfl, rfl, hn, ht⟩
  | t :: ts, c :: cs, vs, s, s0, tmps, hx, hv, hts, hn, ht => by
    cases vs with
    | nil => have := hv.1; simp at this
    | cons v vs =>
      obtain ⟨h1, h2⟩ := VRL.tail hv
      simp only [putAll] at hx
      have htn := hts t List.mem_cons_self
      have htn' : t < n := htn
      obtain ⟨g1, g2, g3, g4⟩ := putAll_sound hns ts cs vs (T.set s t c) s0 (tmps.setIfInBounds t v) hx h2 (fun t ht => hts t (List.mem_cons_of_mem _ ht)) (by simpa using hn) fun j hj => by
        rw [Fr.at_set]
        simp only [Array.getD_eq_getD_getElem?, Array.getElem?_setIfInBounds]
        by_cases e : j = t
        · subst e
          rw [if_pos rfl, if_pos rfl, if_pos (by omega)]
          exact h1
        · rw [if_neg e, if_neg (Ne.symm e), ← Array.getD_eq_getD_getElem?]
          exact ht j hj
      refine ⟨by simp [g1], g2.trans ?_, g3, g4⟩
      rw [Fr.at_set, if_neg (by omega)]
  | [], _ :: _, _, _, _, _, hx, _, _, _, _ => by simp [putAll] at hx
  | _ :: _, [], _, _, _, _, hx, _, _, _, _ => by simp [putAll] at hx
/-- Marks are shut. -/
theorem shut_sound {P : Program} {fn : Func} {tmps : Array Value} {Rr : Ending → World → Prop} {N0 : Nat} {ι : Im} : ∀ (ks : List Nat) (ds : List Deferred) (h h2 : Hp) (w : World), DfR ι ks ds → shutX ks h = some h2 → Sim N0 ι h w →
    (∀ w2, h2.n = h.n → Sim N0 ι h2 w2 → Ext N0 w w2 → ∃ v, (results fn tmps).run P w2 = .ok v w2 ∧ Rr (.returned v) w2) → LeavesInM Fence.wide 0 P fn tmps Rr ds .returning w
  | [], [], h, h2, w, _, hx, S, hr => by
    simp only [shutX, Option.some.injEq] at hx
    subst hx
    exact hr w rfl S (Ext.refl _ _)
  | k :: ks, d :: ds, h, h2, w, ⟨⟨i, hi, hd⟩, hds⟩, hx, S, hr => by
    simp only [shutX] at hx
    split at hx
    · rename_i hk
      have hb := S.blk k i hi
      rw [hk] at hb
      obtain ⟨S', E⟩ := S.wrote_df hi hk (.deferred none)
      refine ⟨by simp, .inl ⟨i.b, _, by rw [hd], run_takeDeferred hb, ?_⟩⟩
      exact shut_sound ks ds _ h2 _ hds hx S' fun w2 hn S2 E2 => hr w2 hn S2 (E.trans E2)
    · cases hx
  | [], _ :: _, _, _, _, h, _, _, _ => h.elim
  | _ :: _, [], _, _, _, h, _, _, _ => h.elim
theorem wpIn_scope_straight {F : Fence} {n : Nat} {P : Program} {Q : Exit → Act → World → Prop} {a : Act} {w : World} {c : Code} (h : c.wpIn F n P (Exit.noGoto Q) a w) : (Code.scope c).wpIn F n P Q a w := by
  intro b k cs hro hb hr
  have s1 : step P (lone (b.atR a (.code (.scope c) :: k)) cs w) = .next (lone (b.atR a (.code c :: .inScope c :: k)) cs w) := step_lone_go (by simp [stepG, stepG.exec, Frame.atR])
  have s2 : ∀ a w, step P (lone (b.atR a (.inScope c :: k)) cs w) = .next (lone (b.atR a k) cs w) := fun a w => step_lone_go (by simp [stepG, stepG.exec, Frame.atR])
  have h0 : (lone (b.atR a (.code (.scope c) :: k)) cs w).fenced P F := fenced_calm hb hr rfl
  obtain ⟨e, a₁, w₁, hq, harr⟩ := h b (.inScope c :: k) cs hro hb hr
  cases e with
  | normal => exact ⟨.normal, a₁, w₁, hq, .head h0 s1 (StepsIn.trans harr (.one (fenced_calm hb hr rfl) (s2 _ _)))⟩
  | exit id =>
    have hx : exitTo id (.inScope c :: k) = exitTo id k := by simp [exitTo]
    exact ⟨.exit id, a₁, w₁, hq, fun k' hk => .head h0 s1 (harr.1 k' (by rw [hx]; exact hk)), fun hr' hk => let ⟨k₁, h1, h2⟩ := harr.2 hr' (by rw [hx]; exact hk); ⟨k₁, h1, .head h0 s1 h2⟩⟩
  | goto l => exact hq.elim
  | ret => exact ⟨_, a₁, w₁, hq, .of_steps (.one h0 s1) harr⟩
  | panic ch => exact ⟨_, a₁, w₁, hq, .of_steps (.one h0 s1) harr⟩
  | outgrown => exact ⟨_, a₁, w₁, hq, .of_steps (.one h0 s1) harr⟩
end Go.CO
