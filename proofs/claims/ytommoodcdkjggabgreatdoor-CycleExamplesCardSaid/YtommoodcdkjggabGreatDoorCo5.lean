/- The reckoner with memory: operations that change nothing are sound. -/
import Derived.Test.YtommoodcdkjggabGreatDoorCo4
import Derived.Laws.Append
import Derived.Laws.Tables
set_option linter.unusedVariables false
set_option linter.unusedSectionVars false
set_option linter.unusedSimpArgs false
namespace Go.CO
variable [LG] [HK]

section
variable {P : Program} {N0 : Nat} {ι : Im} {h : Hp} {w : World} {e : Operand → CV} {ρ : Operand → Value} {o : Oper} {c : CV}

def Qs (P : Program) (ι : Im) (w : World) (ρ : Operand → Value) (o : Oper) (c : CV) : Prop := ∃ v, VR ι c v ∧ (execOp ρ o).run P w = .ok (.value v) w

theorem q_pick {x a b : Operand} (he : o.op = .pick x a b) (hev : ∀ x ∈ o.op.operands.toList, VR ι (e x) (ρ x)) (hc : qPick (e a) (e b) (e x) = some c) : Qs P ι w ρ o c := by
  have hx := hev x (by simp [he, Op.operands])
  have ha := hev a (by simp [he, Op.operands])
  have hb := hev b (by simp [he, Op.operands])
  unfold qPick at hc
  split at hc
  · rename_i hx'
    rw [hx'] at hx
    injection hc with hc; subst hc
    refine ⟨_, ha, ?_⟩
    unfold execOp; rw [he]
    simp [vr_bo hx, asBool]
  · rename_i hx'
    rw [hx'] at hx
    injection hc with hc; subst hc
    refine ⟨_, hb, ?_⟩
    unfold execOp; rw [he]
    simp [vr_bo hx, asBool]
  · cases hc

theorem vrl_map {α : Type} (l : List α) (f : α → CV) (g : α → Value) (hfg : ∀ x ∈ l, VR ι (f x) (g x)) : VRL ι (l.map f) (l.map g) := by
  induction l with
  | nil => exact VRL.nil ι
  | cons x l ih => exact VRL.cons (hfg x List.mem_cons_self) (ih fun y hy => hfg y (List.mem_cons_of_mem _ hy))
theorem pvs_of (parts : List (Nat × Operand)) (hev : ∀ x ∈ parts.map (·.2), VR ι (e x) (ρ x)) : PVs ι (parts.map fun p => (p.1, e p.2)) (parts.map fun p => (p.1, ρ p.2)) := by
  refine ⟨by simp, ?_⟩
  have h1 : (parts.map fun p => (p.1, e p.2)).map (·.2) = parts.map fun p => e p.2 := by simp
  have h2 : (parts.map fun p => (p.1, ρ p.2)).map (·.2) = parts.map fun p => ρ p.2 := by simp
  rw [h1, h2]
  exact vrl_map parts (fun p => e p.2) (fun p => ρ p.2) fun p hp => hev p.2 (List.mem_map.2 ⟨p, hp, rfl⟩)

theorem q_build {t : TypeId} {parts : Array (Nat × Operand)} (he : o.op = .build t parts) (hev : ∀ x ∈ o.op.operands.toList, VR ι (e x) (ρ x)) (hc : qBuild (parts.toList.map fun p => (p.1, e p.2)) (tyk P t) = some c) : Qs P ι w ρ o c := by
  have hpv := pvs_of (ι := ι) (e := e) (ρ := ρ) parts.toList (fun x hx => hev x (by simp [he, Op.operands]; simpa using hx))
  have hmapv : (parts.map fun x => (x.1, ρ x.2)).toList = parts.toList.map fun x => (x.1, ρ x.2) := by simp
  unfold qBuild at hc
  split at hc
  · cases hc
  · rename_i hsol
    have fin : ∀ {arr : Array Value} {cs : List CV}, P.built t (parts.map fun x => (x.1, ρ x.2)).toList = some arr → VRL ι cs arr.toList → Qs P ι w ρ o (.agg cs) := by
      intro arr cs hb hv
      refine ⟨.agg arr, VR.agg' hv, ?_⟩
      unfold execOp; rw [he]
      simp only [Sem.run_bind, run_build w t _ arr hb, Result.andThen_ok, Sem.run_pure]
    split at hc
    · rename_i fs z hty
      obtain ⟨fields, i, zv, hu, hi, hz, hzc, hfs, hall⟩ := tyk_strct hty
      split at hc
      · rename_i cs hf
        injection hc with hc; subst hc
        have hplaces : fields.toList.mapM (fun f => (P.info? f.type).map fun i => (f.offset, i.size)) = some (fields.toList.map fun f => (f.offset, P.cellsOf f.type)) := by
          have : ∀ l : List Field, (∀ f ∈ l, (P.info? f.type).isSome = true) → l.mapM (fun f => (P.info? f.type).map fun i => (f.offset, i.size)) = some (l.map fun f => (f.offset, P.cellsOf f.type)) := by
            intro l
            induction l with
            | nil => intro _; rfl
            | cons f l ih =>
              intro hl
              obtain ⟨i2, hi2⟩ := Option.isSome_iff_exists.1 (hl f List.mem_cons_self)
              simp [List.mapM_cons, hi2, ih (fun g hg => hl g (List.mem_cons_of_mem _ hg)), Program.cellsOf]
          exact this _ fun f hf => (hall f hf).1
        subst hzc
        obtain ⟨arr, e1, e2⟩ := fillS_spec (ι := ι) (fs := fs) (place := (((fields.toList.map fun f => (f.offset, P.cellsOf f.type)).toArray)[·]?)) (by
          intro k; rw [hfs]; simp [List.getElem?_map, Function.comp_def]) _ _ (zeroL zv) zv.cells cs hpv hsol (vrl_cells ι _) hf
        refine fin ?_ e2
        unfold Program.built
        simp only [hi, hu, hz, hplaces, hmapv]
        exact e1
      · cases hc
    · rename_i n el esz g z hty
      obtain ⟨hu, ⟨i, d, hi, hsz, hd⟩, _, j, zv, hj, hz, hzc⟩ := tyk_arr hty
      split at hc
      · rename_i cs hf
        injection hc with hc; subst hc
        subst hzc
        obtain ⟨arr, e1, e2⟩ := fillA_spec (ι := ι) _ _ (zeroL zv) zv.cells cs hpv hsol (vrl_cells ι _) hf
        refine fin ?_ e2
        unfold Program.built
        simp only [hi, hu, hz, hj, hmapv, hsz]
        exact e1
      · cases hc
    · cases hc

theorem q_load (S : Sim N0 ι h w) {t : TypeId} {x : Operand} (he : o.op = .load t x) (hev : ∀ x ∈ o.op.operands.toList, VR ι (e x) (ρ x)) (hc : qLoad h (e x) (tsz P t) = some c) : Qs P ι w ρ o c := by
  have hx := hev x (by simp [he, Op.operands])
  unfold qLoad at hc
  split at hc
  · rename_i n a ht
    split at hc
    · rename_i k off hx'
      rw [hx'] at hx
      obtain ⟨i, hi, hv⟩ := vr_ptr hx
      obtain ⟨v, h1, h2⟩ := run_loadVar (P := P) (S.blk k i hi) ht hc
      refine ⟨v, h1, ?_⟩
      unfold execOp; rw [he]
      simp only [hv, Instr.loadAt, Instr.sureAddr, Sem.run_bind, Sem.run_pure, Result.andThen_ok, h2]
    · cases hc
  · cases hc

theorem q_nil {x : Operand} (he : o.op = .nilCheck x) (hev : ∀ x ∈ o.op.operands.toList, VR ι (e x) (ρ x)) (hc : qNil (e x) = some c) : Qs P ι w ρ o c := by
  have hx := hev x (by simp [he, Op.operands])
  unfold qNil at hc
  split at hc
  · rename_i k off hx'
    rw [hx'] at hx
    obtain ⟨i, hi, hv⟩ := vr_ptr hx
    injection hc with hc; subst hc
    refine ⟨_, by rw [hv] at hx; exact hx, ?_⟩
    unfold execOp; rw [he]; simp [hv]
  · rename_i f cs hx'
    rw [hx'] at hx
    obtain ⟨vs, hv, _⟩ := vr_fn hx
    injection hc with hc; subst hc
    refine ⟨_, by rw [hv] at hx; exact hx, ?_⟩
    unfold execOp; rw [he]; simp [hv]
  · rename_i k hx'
    rw [hx'] at hx
    obtain ⟨i, hi, hv⟩ := vr_yl hx
    injection hc with hc; subst hc
    refine ⟨_, by rw [hv] at hx; exact hx, ?_⟩
    unfold execOp; rw [he]; simp [hv]
  · cases hc

theorem q_fieldAddr {t : TypeId} {x : Operand} {f : Nat} (he : o.op = .fieldAddr t x f) (hev : ∀ x ∈ o.op.operands.toList, VR ι (e x) (ρ x)) (hc : qFieldAddr f (e x) (tyk P t) = some c) : Qs P ι w ρ o c := by
  have hx := hev x (by simp [he, Op.operands])
  unfold qFieldAddr at hc
  split at hc
  · rename_i fs z hty
    split at hc
    · rename_i k off' hx'
      rw [hx'] at hx
      obtain ⟨i, hi, hv⟩ := vr_ptr hx
      split at hc
      · rename_i off size agg hf
        injection hc with hc; subst hc
        obtain ⟨fields, i2, zv, hu, hi2, hz, _, hfs, hall⟩ := tyk_strct hty
        rw [hfs] at hf
        have hflt : f < fields.toList.length := by
          rcases Nat.lt_or_ge f fields.toList.length with h | h
          · exact h
          · rw [List.getElem?_eq_none (by simpa using h)] at hf; simp at hf
        have hflt' : f < fields.size := by simpa using hflt
        rw [List.getElem?_map, List.getElem?_eq_getElem hflt] at hf
        simp only [Option.map_some, Option.some.injEq, Prod.mk.injEq] at hf
        obtain ⟨h1, h2, h3⟩ := hf
        obtain ⟨hi1, hu1, hn0⟩ := hall _ (List.getElem_mem hflt)
        have hel : fields.toList[f] = fields[f] := Array.getElem_toList ..
        rw [hel] at h1 h2 h3 hi1 hu1 hn0
        have hfield : fields[f]? = some fields[f] := Array.getElem?_eq_getElem hflt'
        have hplace : ∀ (ad : Addr), (fieldPlace ad fields[f]).run P w = .ok (ad.add off) w := by
          intro ad
          obtain ⟨i2, hi2⟩ := Option.isSome_iff_exists.1 hi1
          have : P.cellsOf fields[f].type = i2.size := by simp [Program.cellsOf, hi2]
          rw [this] at hn0
          simp [fieldPlace, run_size hi2, hn0, h1]
        refine ⟨_, .ptr hi, ?_⟩
        unfold execOp; rw [he]
        simp [hv, Instr.fieldAt, run_under hu, hfield, Instr.sureAddr, hplace, add_none, Nat.add_assoc]
      · cases hc
    · cases hc
  · cases hc

theorem val_spec {cs : List CV} {vs : Array Value} (hv : VRL ι cs vs.toList) {t : TypeId} {i2 : TypeInfo} {d : TypeDesc} (hi : P.info? t = some i2) (hd : P.underlying t = some d) {off : Nat} (hc : val cs off i2.size (aggT P t) = some c) : ∃ v, VR ι c v ∧ (part t vs off).run P w = .ok v w := by
  unfold val at hc
  split at hc
  · cases hc
  · rename_i hle
    have hle := ble1 hle
    split at hc
    · rename_i hg
      injection hc with hc; subst hc
      refine ⟨.agg (vs.extract off (off + i2.size)), VR.agg' ?_, ?_⟩
      · have := hv.sub off i2.size
        simpa [Array.toList_extract, List.extract] using this
      · simp [part, run_isAgg hd, hg, run_size hi]
    · rename_i hg
      split at hc
      · obtain ⟨v, h1, h2⟩ := hv.get? hc
        refine ⟨v, h2, ?_⟩
        rw [Array.getElem?_toList] at h1
        simp [part, run_isAgg hd, hg, h1]
      · cases hc

theorem q_field {t : TypeId} {x : Operand} {f : Nat} (he : o.op = .field t x f) (hev : ∀ x ∈ o.op.operands.toList, VR ι (e x) (ρ x)) (hc : qField f (e x) (tyk P t) = some c) : Qs P ι w ρ o c := by
  have hx := hev x (by simp [he, Op.operands])
  unfold qField at hc
  split at hc
  · rename_i fs z hty
    split at hc
    · rename_i cs hx'
      rw [hx'] at hx
      obtain ⟨vs, hv, hvs⟩ := vr_agg hx
      split at hc
      · rename_i off size agg hf
        obtain ⟨fields, i2, zv, hu, hi2, hz, _, hfs, hall⟩ := tyk_strct hty
        rw [hfs] at hf
        have hflt : f < fields.toList.length := by
          rcases Nat.lt_or_ge f fields.toList.length with h | h
          · exact h
          · rw [List.getElem?_eq_none (by simpa using h)] at hf; simp at hf
        have hflt' : f < fields.size := by simpa using hflt
        rw [List.getElem?_map, List.getElem?_eq_getElem hflt] at hf
        simp only [Option.map_some, Option.some.injEq, Prod.mk.injEq] at hf
        obtain ⟨h1, h2, h3⟩ := hf
        obtain ⟨hi1, hu1, hn0⟩ := hall _ (List.getElem_mem hflt)
        have hel : fields.toList[f] = fields[f] := Array.getElem_toList ..
        rw [hel] at h1 h2 h3 hi1 hu1 hn0
        have hfield : fields[f]? = some fields[f] := Array.getElem?_eq_getElem hflt'
        obtain ⟨i3, hi3⟩ := Option.isSome_iff_exists.1 hi1
        obtain ⟨d3, hd3⟩ := Option.isSome_iff_exists.1 hu1
        have hsz : P.cellsOf fields[f].type = i3.size := by simp [Program.cellsOf, hi3]
        rw [← h2, ← h3, hsz] at hc
        obtain ⟨v, h4, h5⟩ := val_spec (P := P) (w := w) hvs hi3 hd3 hc
        refine ⟨v, h4, ?_⟩
        unfold execOp; rw [he]
        simp [hv, Instr.field, run_under hu, hfield, asAgg, h1, h5]
      · cases hc
    · cases hc
  · cases hc

theorem q_indexAddr {t : TypeId} {x i : Operand} (he : o.op = .indexAddr t x i) (hev : ∀ x ∈ o.op.operands.toList, VR ι (e x) (ρ x)) (hc : qIndexAddr (e x) (e i) (tyk P t) = some c) : Qs P ι w ρ o c := by
  have hx := hev x (by simp [he, Op.operands])
  have hi := hev i (by simp [he, Op.operands])
  have at_ : ∀ {k off n esz : Nat}, qAt k off n esz (e i) = some c → ∃ q j, ρ i = .int q (Int.ofNat j) ∧ j < n ∧ c = .ptr k (off + j * esz) := by
    intro k off n esz hq
    unfold qAt at hq
    split at hq
    · rename_i q j hi'
      rw [hi'] at hi
      split at hq
      · rename_i hlt
        injection hq with hq
        exact ⟨q, j, vr_nu hi, blt1 hlt, hq.symm⟩
      · cases hq
    · cases hq
  have hnn : ∀ j : Nat, (0 : Int) ≤ Int.ofNat j := fun j => Int.natCast_nonneg j
  unfold qIndexAddr at hc
  split at hc
  · rename_i el esz bytes z hty
    obtain ⟨hu, inf, zv, d, hinf, hsz, _⟩ := tyk_slice hty
    split at hc
    · rename_i k off n cp hx'
      obtain ⟨q, j, hq, hlt, rfl⟩ := at_ hc
      rw [hx'] at hx
      generalize hv : ρ x = v at hx
      cases hx with
      | @sl _ _ _ _ c' ii hi hcc =>
        refine ⟨_, .ptr hi, ?_⟩
        unfold execOp; rw [he]
        have h2 : (Int.ofNat j) < (n : Int) := Int.ofNat_lt.2 hlt
        have h3 : (Int.ofNat j).toNat = j := rfl
        simp only [hv, hq, Instr.indexAt, asIntOf, run_under hu, run_size hinf, Sem.run_bind, Sem.run_pure, Result.andThen_ok, hnn j, h2, and_self, if_true, h3, hsz, add_none, Nat.add_assoc]
    · cases hc
  · rename_i n el esz g z hty
    obtain ⟨hu, ⟨inf, d, hinf, hsz, hd⟩, _⟩ := tyk_arr hty
    split at hc
    · rename_i k off hx'
      obtain ⟨q, j, hq, hlt, rfl⟩ := at_ hc
      rw [hx'] at hx
      obtain ⟨ii, hi, hv⟩ := vr_ptr hx
      refine ⟨_, .ptr hi, ?_⟩
      unfold execOp; rw [he]
      have h2 : (Int.ofNat j) < (n : Int) := Int.ofNat_lt.2 hlt
      have h3 : (Int.ofNat j).toNat = j := rfl
      simp only [hv, hq, Instr.indexAt, Instr.sureAddr, asIntOf, run_under hu, run_size hinf, Sem.run_bind, Sem.run_pure, Result.andThen_ok, hnn j, h2, and_self, if_true, h3, hsz, add_none, Nat.add_assoc]
    · cases hc
  · cases hc

theorem q_index {t : TypeId} {x i : Operand} (he : o.op = .index t x i) (hev : ∀ x ∈ o.op.operands.toList, VR ι (e x) (ρ x)) (hc : qIndex (e x) (e i) (tyk P t) = some c) : Qs P ι w ρ o c := by
  have hx := hev x (by simp [he, Op.operands])
  have hi := hev i (by simp [he, Op.operands])
  unfold qIndex at hc
  split at hc
  · rename_i hty
    have hu := tyk_str hty
    split at hc
    · rename_i s hx'
      split at hc
      · rename_i q j hi'
        rw [hx'] at hx
        rw [hi'] at hi
        obtain ⟨b, hv, rfl⟩ := vr_st' hx
        have hq := vr_nu hi
        split at hc
        · rename_i a ha
          injection hc with hc; subst hc
          unfold bs at ha
          rw [List.getElem?_map] at ha
          cases hb : b.data.toList[j]? with
          | none => rw [hb] at ha; simp at ha
          | some y =>
            rw [hb] at ha
            simp only [Option.map_some, Option.some.injEq] at ha
            subst ha
            refine ⟨_, .nu _ _, ?_⟩
            have hnn : (0 : Int) ≤ Int.ofNat j := Int.natCast_nonneg j
            have h3 : (Int.ofNat j).toNat = j := rfl
            have hlt : j < b.size := by
              have := (List.getElem?_eq_some_iff.1 hb).1
              simpa using this
            have h4 : b[j]? = some y := by
              rw [Array.getElem?_toList] at hb
              obtain ⟨hj, he⟩ := Array.getElem?_eq_some_iff.1 hb
              rw [getElem?_pos b j hlt]
              exact congrArg some he
            unfold execOp; rw [he]
            simp only [hv, hq, Instr.index, asIntOf, run_under hu, Sem.run_bind, Sem.run_pure, Result.andThen_ok, hnn, if_true, h3, h4]
            rfl
        · cases hc
      · cases hc
    · cases hc
  · cases hc

theorem q_extract {x : Operand} {j : Nat} (he : o.op = .extract x j) (hev : ∀ x ∈ o.op.operands.toList, VR ι (e x) (ρ x)) (hc : qExtract j (e x) = some c) : Qs P ι w ρ o c := by
  have hx := hev x (by simp [he, Op.operands])
  unfold qExtract at hc
  split at hc
  · rename_i vs hx'
    rw [hx'] at hx
    obtain ⟨us, hv, hus⟩ := vr_tup hx
    obtain ⟨v, h1, h2⟩ := hus.get? hc
    rw [Array.getElem?_toList] at h1
    refine ⟨v, h2, ?_⟩
    unfold execOp; rw [he]
    simp [hv, Instr.extract, h1]
  · cases hc

theorem q_fn {f : FuncId} {first caps : Array Operand} (he : o.op = .makeFunc (.func f) first caps) (hev : ∀ x ∈ o.op.operands.toList, VR ι (e x) (ρ x)) (hc : qFn f (caps.toList.map e) first.toList = some c) : Qs P ι w ρ o c := by
  unfold qFn at hc
  split at hc
  · rename_i hf
    injection hc with hc; subst hc
    have hf : first = #[] := by rw [← Array.toArray_toList (xs := first), hf]
    subst hf
    refine ⟨.func (.func f) #[] (caps.map ρ), VR.fn' ?_, ?_⟩
    · have := vrl_map (ι := ι) caps.toList e ρ fun x hx => hev x (by simp [he, Op.operands]; exact Array.mem_toList_iff.1 hx)
      simpa using this
    · unfold execOp; rw [he]
      simp [Instr.makeFunc]
  · cases hc

theorem q_len (S : Sim N0 ι h w) {cl : Call} (he : o.op = .call cl) (hcl : cl.callee = .builtin .len) (hev : ∀ x ∈ o.op.operands.toList, VR ι (e x) (ρ x)) (hc : qLen1 P h e cl.argTypes.toList cl.args.toList = some c) : Qs P ι w ρ o c := by
  unfold qLen1 at hc
  split at hc
  · rename_i t x hts hxs
    have hargs : cl.args = #[x] := by rw [← Array.toArray_toList (xs := cl.args), hxs]
    have hats : cl.argTypes = #[t] := by rw [← Array.toArray_toList (xs := cl.argTypes), hts]
    have hx := hev x (by simp [he, Op.operands, Call.operands, hcl, hargs])
    unfold qLen at hc
    split at hc
    · rename_i kt et hty
      have hu := tyk_map hty
      split at hc
      · rename_i hx'
        rw [hx'] at hx
        injection hc with hc; subst hc
        generalize hv : ρ x = v at hx
        cases hx
        refine ⟨_, .nu _ _, ?_⟩
        unfold execOp; rw [he]
        simp [resolve, hcl, hargs, hats, invoke, builtin, Builtin.len_, hv, run_under hu, goInt]
      · rename_i k hx'
        rw [hx'] at hx
        generalize hv : ρ x = v at hx
        cases hx with
        | @mp _ i hi =>
          have hB := S.blk k i hi
          unfold hbLen at hc
          split at hc
          · rename_i es hb
            rw [hb] at hB
            obtain ⟨ents, clock, hg, hm, _⟩ := hB
            injection hc with hc; subst hc
            have hl := hm.1
            simp only [List.length_map, Array.length_toList] at hl
            have hobj : (getObj i.b).run P w = .ok (.map ents clock) w := by simp [getObj, Sem.run, hg]
            refine ⟨_, .nu _ _, ?_⟩
            unfold execOp; rw [he]
            simp [resolve, hcl, hargs, hats, invoke, builtin, Builtin.len_, hv, run_under hu, goInt, hobj, hl]
          · cases hc
      · cases hc
    · rename_i el esz bytes z hty
      have hu := (tyk_slice hty).1
      split at hc
      · rename_i k off n cp hx'
        rw [hx'] at hx
        injection hc with hc; subst hc
        generalize hv : ρ x = v at hx
        cases hx with
        | sl hi hcc =>
          refine ⟨_, .nu _ _, ?_⟩
          unfold execOp; rw [he]
          simp [resolve, hcl, hargs, hats, invoke, builtin, Builtin.len_, hv, run_under hu, goInt]
      · rename_i hx'
        rw [hx'] at hx
        injection hc with hc; subst hc
        generalize hv : ρ x = v at hx
        cases hx
        refine ⟨_, .nu _ _, ?_⟩
        unfold execOp; rw [he]
        simp [resolve, hcl, hargs, hats, invoke, builtin, Builtin.len_, hv, run_under hu, goInt]
      · rename_i hx'
        rw [hx'] at hx
        injection hc with hc; subst hc
        generalize hv : ρ x = v at hx
        cases hx
        refine ⟨_, .nu _ _, ?_⟩
        unfold execOp; rw [he]
        simp [resolve, hcl, hargs, hats, invoke, builtin, Builtin.len_, hv, run_under hu, goInt]
      · cases hc
    · rename_i hty
      have hu := tyk_str hty
      split at hc
      · rename_i s hx'
        rw [hx'] at hx
        injection hc with hc; subst hc
        obtain ⟨b, hv, rfl⟩ := vr_st' hx
        rw [bs_length]
        refine ⟨_, .nu _ _, ?_⟩
        unfold execOp; rw [he]
        simp [resolve, hcl, hargs, hats, invoke, builtin, Builtin.len_, hv, run_under hu, goInt]
      · cases hc
    · cases hc
  · cases hc
theorem q_max {cl : Call} (he : o.op = .call cl) (hcl : cl.callee = .builtin .max) (hev : ∀ x ∈ o.op.operands.toList, VR ι (e x) (ρ x)) (hc : qMax1 e cl.args.toList = some c) : Qs P ι w ρ o c := by
  unfold qMax1 at hc
  split at hc
  · rename_i x y hxs
    have hargs : cl.args = #[x, y] := by rw [← Array.toArray_toList (xs := cl.args), hxs]
    have hx := hev x (by simp [he, Op.operands, Call.operands, hcl, hargs])
    have hy := hev y (by simp [he, Op.operands, Call.operands, hcl, hargs])
    unfold qMax at hc
    split at hc
    · rename_i k a k' b hx' hy'
      rw [hx'] at hx; rw [hy'] at hy
      have h1 := vr_nu hx
      have h2 := vr_nu hy
      injection hc with hc; subst hc
      refine ⟨_, .nu _ _, ?_⟩
      unfold execOp; rw [he]
      simp only [resolve, hcl, hargs, invoke, builtin, Builtin.max_, Builtin.max2, h1, h2, Sem.run_bind, Sem.run_pure, Result.andThen_ok]
      have : (if b > a then b else a) = (match ile b a with | true => a | false => b) := by
        rw [ile_eq]
        by_cases hlt : b ≤ a
        · rw [if_neg (by omega)]; simp [hlt]
        · rw [if_pos (by omega)]; simp [hlt]
      simp [Builtin.max2, h1, h2, this]
      cases ile b a <;> rfl
    · cases hc
  · cases hc
theorem q_min {cl : Call} (he : o.op = .call cl) (hcl : cl.callee = .builtin .min) (hev : ∀ x ∈ o.op.operands.toList, VR ι (e x) (ρ x)) (hc : qMin1 e cl.args.toList = some c) : Qs P ι w ρ o c := by
  unfold qMin1 at hc
  split at hc
  · rename_i x y hxs
    have hargs : cl.args = #[x, y] := by rw [← Array.toArray_toList (xs := cl.args), hxs]
    have hx := hev x (by simp [he, Op.operands, Call.operands, hcl, hargs])
    have hy := hev y (by simp [he, Op.operands, Call.operands, hcl, hargs])
    unfold qMin at hc
    split at hc
    · rename_i k a k' b hx' hy'
      rw [hx'] at hx; rw [hy'] at hy
      have h1 := vr_nu hx
      have h2 := vr_nu hy
      injection hc with hc; subst hc
      refine ⟨_, .nu _ _, ?_⟩
      unfold execOp; rw [he]
      have : (if b < a then b else a) = (match ile a b with | true => a | false => b) := by
        rw [ile_eq]
        by_cases hlt : a ≤ b
        · rw [if_neg (by omega)]; simp [hlt]
        · rw [if_pos (by omega)]; simp [hlt]
      simp [resolve, hcl, hargs, invoke, builtin, Builtin.min_, Builtin.min2, h1, h2, this]
      cases ile a b <;> rfl
    · cases hc
  · cases hc
end
end Go.CO
