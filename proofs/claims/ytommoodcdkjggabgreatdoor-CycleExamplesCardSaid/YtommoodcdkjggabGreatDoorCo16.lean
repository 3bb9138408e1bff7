/- The reckoner with memory: calls whose result is known; what the reckoner finds is a contract. -/
import Derived.Test.YtommoodcdkjggabGreatDoorCo15b
set_option linter.unusedVariables false
set_option linter.unusedSectionVars false
set_option linter.unusedSimpArgs false
namespace Go.CO
variable [LG] [HK]

theorem flatV_vr {ι ι' : Im} {v : CV} {u : Value} (h : flatV v = true) (hv : VR ι v u) : VR ι' v u := by
  cases hv <;> first
    | exact .bo _
    | exact .nu _ _
    | exact .st (by assumption)
    | exact .nilp
    | exact .nils
    | exact .nilf
    | exact .nilm
    | (simp [flatV] at h; done)
theorem flatR_vr {ι ι' : Im} {v : CV} {u : Value} (h : flatR v = true) (hv : VR ι v u) : VR ι' v u := by
  by_cases ht : ∃ cs, v = .tup cs
  · obtain ⟨cs, rfl⟩ := ht
    obtain ⟨us, rfl, hus⟩ := vr_tup hv
    simp only [flatR, List.all_eq_true] at h
    exact VR.tup' ⟨hus.1, fun j hj => flatV_vr (h _ (List.getElem_mem hj)) (hus.2 j hj)⟩
  · refine flatV_vr ?_ hv
    cases v <;> first | exact h | exact absurd ⟨_, rfl⟩ ht

/-- Blocks that are only read. -/
structure Ro (N0 : Nat) (ι : Im) (h : Hp) (w : World) : Prop where
  sim : Sim N0 ι h w
  ro : ∀ k, (h.get k).wr = false
theorem Ro.push {N0 : Nat} {ι : Im} {h : Hp} {w : World} (Rh : Ro N0 ι h w) {vs : List CV} {i : Inf} (hib : i.b < w.heap.size) (hb : BR ι i w (.ro vs)) : Ro N0 (ι.set h.n i) (h.push (.ro vs)) w ∧ ι.le (ι.set h.n i) := by
  have hnn : ι h.n = Option.none := Rh.sim.none
  have hle : ι.le (ι.set h.n i) := Im.le_set hnn
  have S := Rh.sim.push (.ro vs)
  have hro : ∀ k, ((h.push (.ro vs)).get k).wr = false := fun k => by
    rw [Hp.get_push]
    split
    · rfl
    · exact Rh.ro k
  refine ⟨⟨⟨fun j i' e => ?_, fun j i' e hw => (by rw [hro j] at hw; cases hw), S.fresh, fun j i' e => ?_, fun j j' a a' e e' hjj h1 h2 => (by rw [hro j] at h1; cases h1)⟩, hro⟩, hle⟩
  · unfold Im.set at e; split at e
    · rename_i e'; subst e'; injection e with e; subst e; exact ⟨by simp, hib⟩
    · exact S.lt j i' e
  · unfold Im.set at e; split at e
    · rename_i e'; subst e'; injection e with e; subst e
      rw [Hp.get_push, if_pos rfl]
      exact hb.mono hle rfl
    · exact (S.blk j i' e).mono hle rfl
/-- The cells behind an address. -/
theorem br_cells {ι : Im} {i : Inf} {w : World} {b : HB} (h : BR ι i w b) {o : Nat} {cs : List CV} (hc : hbCells o b = some cs) : ∃ arr e f, w.heap[i.b]? = some (.cells arr e f) ∧ VRL ι cs ((arr.toList.drop (i.base + o)).take cs.length) := by
  have key : ∀ {cs : List CV} {arr : Array Value}, VRL ι cs ((arr.toList.drop i.base).take cs.length) → VRL ι (cs.drop o) ((arr.toList.drop (i.base + o)).take (cs.drop o).length) := by
    intro cs arr hv
    have h1 := hv.drop o
    rw [List.drop_take, List.drop_drop] at h1
    rw [List.length_drop]; exact h1
  cases b with
  | fz ds => obtain ⟨arr, e, fr, h1, h7⟩ := h; injection hc with hc; subst hc; exact ⟨arr, e, fr, h1, key h7⟩
  | cells ds more el => obtain ⟨arr, e, h1, _, _, _, _, _, h7, _⟩ := h; injection hc with hc; subst hc; exact ⟨arr, e, _, h1, key h7⟩
  | ro ds => obtain ⟨arr, e, fr, h1, _, _, h4⟩ := h; injection hc with hc; subst hc; exact ⟨arr, e, fr, h1, key h4⟩
  | kp ds ys more => obtain ⟨arr, e, h1, _, _, _, _, _, h7, _, _⟩ := h; injection hc with hc; subst hc; exact ⟨arr, e, _, h1, key h7⟩
  | mp es => cases hc
  | df => cases hc
  | lp r => cases hc
  | dead => cases hc
theorem take_pre {ι : Im} {vs : List CV} {L : List Value} {m : Nat} (h : VRL ι vs ((L.take m).take vs.length)) : VRL ι vs (L.take vs.length) := by
  have h1 := h.1
  rw [List.take_take] at h
  have h2 : min vs.length m = vs.length ∨ (L.take (min vs.length m)) = L.take vs.length := by
    simp only [List.length_take] at h1
    by_cases h3 : vs.length ≤ m
    · exact .inl (by omega)
    · right
      rw [List.take_of_length_le (by omega), List.take_of_length_le (by omega)]
  rcases h2 with h2 | h2
  · rw [h2] at h; exact h
  · rw [h2] at h; exact h

section
variable {N0 Nb : Nat} {ιb : Im} {hb : Hp} {w : World}
theorem vrl_pre {ι : Im} {c : CV} {cs : List CV} {us : List Value} (h : VRL ι (c :: cs) us) : ∃ u l, us = u :: l ∧ VR ι c u ∧ VRL ι cs l := by
  cases us with
  | nil => have := h.1; simp at this
  | cons u l => exact ⟨u, l, rfl, (VRL.tail h).1, (VRL.tail h).2⟩
mutual
theorem lay_spec (Sb : Sim Nb ιb hb w) : ∀ (d : DV) (x : CV) (u : Value) (ι : Im) (h : Hp), Ro N0 ι h w → dm hb d x = true → VR ιb x u → ∃ ι', Ro N0 ι' (lay d h).2 w ∧ ι.le ι' ∧ VR ι' (lay d h).1 u
  | .c v, x, u, ι, h, Rh, hd, hv => by
    simp only [dm, Bool.and_eq_true] at hd
    have := ceq_spec hd.2
    subst this
    exact ⟨ι, Rh, Im.le_refl ι, flatV_vr hd.1 hv⟩
  | .sl n l, x, u, ι, h, Rh, hd, hv => by
    cases x <;> simp only [dm, Bool.and_eq_true, Bool.false_eq_true] at hd
    rename_i k o n' c
    obtain ⟨⟨h1, h2⟩, h3⟩ := hd
    have h1 := beq1 h1
    have h2 := ble1 h2
    subst h1
    split at h3
    case h_2 => cases h3
    rename_i cells hcl
    cases hv with
    | @sl _ _ _ _ c' i hi hcc =>
      have hcle : c ≤ c' := hcc.elim (fun e => Nat.le_of_eq e.1) fun h => h.2.1
      have hB := Sb.blk k i hi
      have hlt := (Sb.lt k i hi).2
      obtain ⟨arr, e, f, hg, hvc⟩ := br_cells hB hcl
      obtain ⟨ι', R', hle, hvl⟩ := layL_spec Sb l cells _ ι h Rh h3 hvc
      have hvl := take_pre hvl
      generalize hla : layL l h = r at R' hvl
      obtain ⟨vs, h'⟩ := r
      simp only at R' hvl
      have hbr : BR ι' ⟨i.b, i.base + o, 0, 0, 0, true⟩ w (.ro vs) := ⟨arr, e, f, hg, rfl, rfl, hvl⟩
      obtain ⟨R2, hle2⟩ := R'.push (i := ⟨i.b, i.base + o, 0, 0, 0, true⟩) hlt hbr
      refine ⟨_, ?_, hle.trans hle2, ?_⟩
      · simp only [lay, hla]; exact R2
      · simp only [lay, hla]
        have hk : (ι'.set h'.n ⟨i.b, i.base + o, 0, 0, 0, true⟩) h'.n = some ⟨i.b, i.base + o, 0, 0, 0, true⟩ := by unfold Im.set; rw [if_pos rfl]
        have := VR.sl (o := 0) (n := n) (c := n) (c' := c') hk (.inr ⟨rfl, by omega, fun hz => absurd rfl hz⟩)
        simpa using this
  | .p l, x, u, ι, h, Rh, hd, hv => by
    cases x <;> simp only [dm, Bool.false_eq_true] at hd
    rename_i k o
    split at hd
    case h_2 => cases hd
    rename_i cells hcl
    obtain ⟨i, hi, rfl⟩ := vr_ptr hv
    have hB := Sb.blk k i hi
    have hlt := (Sb.lt k i hi).2
    obtain ⟨arr, e, f, hg, hvc⟩ := br_cells hB hcl
    obtain ⟨ι', R', hle, hvl⟩ := layL_spec Sb l cells _ ι h Rh hd hvc
    have hvl := take_pre hvl
    generalize hla : layL l h = r at R' hvl
    obtain ⟨vs, h'⟩ := r
    simp only at R' hvl
    have hbr : BR ι' ⟨i.b, i.base + o, 0, 0, 0, true⟩ w (.ro vs) := ⟨arr, e, f, hg, rfl, rfl, hvl⟩
    obtain ⟨R2, hle2⟩ := R'.push (i := ⟨i.b, i.base + o, 0, 0, 0, true⟩) hlt hbr
    refine ⟨_, ?_, hle.trans hle2, ?_⟩
    · simp only [lay, hla]; exact R2
    · simp only [lay, hla]
      have hk : (ι'.set h'.n ⟨i.b, i.base + o, 0, 0, 0, true⟩) h'.n = some ⟨i.b, i.base + o, 0, 0, 0, true⟩ := by unfold Im.set; rw [if_pos rfl]
      simpa using VR.ptr (o := 0) hk
  | .agg l, x, u, ι, h, Rh, hd, hv => by
    cases x <;> simp only [dm, Bool.false_eq_true] at hd
    rename_i cs
    obtain ⟨us, rfl, hus⟩ := vr_agg hv
    obtain ⟨ι', R', hle, hvl⟩ := layX_spec Sb l cs us.toList ι h Rh hd hus
    refine ⟨ι', ?_, hle, ?_⟩
    · simp only [lay]; exact R'
    · simp only [lay]; exact VR.agg' hvl
  | .e, x, u, ι, h, Rh, hd, hv => by
    simp only [dm] at hd
    split at hd
    · cases hv; exact ⟨ι, Rh, Im.le_refl ι, .sle _ _⟩
    · rename_i n c
      have h0 := beq1 hd
      subst h0
      cases hv
      exact ⟨ι, Rh, Im.le_refl ι, .sle _ _⟩
    · cases hd
theorem layL_spec (Sb : Sim Nb ιb hb w) : ∀ (l : DL) (xs : List CV) (us : List Value) (ι : Im) (h : Hp), Ro N0 ι h w → dml hb l xs = true → VRL ιb xs us → ∃ ι', Ro N0 ι' (layL l h).2 w ∧ ι.le ι' ∧ VRL ι' (layL l h).1 (us.take (layL l h).1.length)
  | .nil, xs, us, ι, h, Rh, hd, hv => ⟨ι, Rh, Im.le_refl ι, by simpa [layL] using VRL.nil ι⟩
  | .cons d l, xs, us, ι, h, Rh, hd, hv => by
    cases xs with
    | nil => simp [dml] at hd
    | cons x xs =>
      simp only [dml, Bool.and_eq_true] at hd
      obtain ⟨u, us', rfl, h1, h2⟩ := vrl_pre hv
      obtain ⟨ι1, R1, hle1, hv1⟩ := lay_spec Sb d x u ι h Rh hd.1 h1
      obtain ⟨ι2, R2, hle2, hv2⟩ := layL_spec Sb l xs us' ι1 _ R1 hd.2 h2
      refine ⟨ι2, ?_, hle1.trans hle2, ?_⟩
      · simp only [layL]; exact R2
      · simp only [layL, List.length_cons, List.take_succ_cons]
        exact VRL.cons (hv1.mono hle2) hv2
theorem layX_spec (Sb : Sim Nb ιb hb w) : ∀ (l : DL) (xs : List CV) (us : List Value) (ι : Im) (h : Hp), Ro N0 ι h w → dmx hb l xs = true → VRL ιb xs us → ∃ ι', Ro N0 ι' (layL l h).2 w ∧ ι.le ι' ∧ VRL ι' (layL l h).1 us
  | .nil, xs, us, ι, h, Rh, hd, hv => by
    cases xs with
    | nil =>
      have : us = [] := List.eq_nil_of_length_eq_zero hv.1
      subst this
      exact ⟨ι, Rh, Im.le_refl ι, VRL.nil ι⟩
    | cons => simp [dmx] at hd
  | .cons d l, xs, us, ι, h, Rh, hd, hv => by
    cases xs with
    | nil => simp [dmx] at hd
    | cons x xs =>
      simp only [dmx, Bool.and_eq_true] at hd
      obtain ⟨u, us', rfl, h1, h2⟩ := vrl_pre hv
      obtain ⟨ι1, R1, hle1, hv1⟩ := lay_spec Sb d x u ι h Rh hd.1 h1
      obtain ⟨ι2, R2, hle2, hv2⟩ := layX_spec Sb l xs us' ι1 _ R1 hd.2 h2
      refine ⟨ι2, ?_, hle1.trans hle2, ?_⟩
      · simp only [layL]; exact R2
      · simp only [layL]
        exact VRL.cons (hv1.mono hle2) hv2
end
end

/-- The call's result is known. -/
def Known (P : Program) (f : FuncId) (ds : DL) (r : CV) : Prop := flatR r = true ∧ ∃ h', FCall P f (layL ds h0).1 (layL ds h0).2 r h'
theorem Known.call {P : Program} {f : FuncId} {ds : DL} {r : CV} (hk : Known P f ds r) {args : List CV} {h : Hp} (hd : dmx h ds args = true) : FCall P f args h r h := by
  obtain ⟨hf, h', hg, _, hc⟩ := hk
  refine ⟨hg, Nat.le_refl _, fun N0 ι w vals hN S hv => ?_⟩
  have hat : ∀ p : Ix, T.at p (T.lf : T HB) = none := by
    intro p; induction p with
    | e => rfl
    | l p ih => exact ih
    | r p ih => exact ih
  have hget : ∀ k, h0.get k = .dead := fun k => by simp only [Hp.get, h0, T.get, hat]
  have R0 : Ro w.heap.size (fun _ => none) h0 w := ⟨⟨fun k i e => (by cases e), fun k i e => (by cases e), fun k _ => hget k, fun k i e => (by cases e), fun k k' i i' e => (by cases e)⟩, fun k => by rw [hget k]; rfl⟩
  obtain ⟨ιs, Rs, _, hvs⟩ := layX_spec S ds args vals (fun _ => none) h0 R0 hd hv
  refine Calls.mono (hc w.heap.size ιs w vals (Nat.le_refl _) Rs.sim hvs) ?_
  rintro e w' ⟨rv, ι', rfl, _, _, _, hr, hE⟩
  exact ⟨rv, ι, rfl, Im.le_refl ι, fun _ _ hk => hk, S.world hE, flatR_vr hf hr, ⟨hE.os, hE.tape, hE.output, hE.size, fun b hb => hE.block b (by omega)⟩⟩
theorem memoX_spec {P : Program} {f : FuncId} {h : Hp} {args : List CV} {r : CV} : ∀ {l : List (DL × CV)}, (∀ x ∈ l, Known P f x.1 x.2) → memoX h args l = some r → FCall P f args h r h
  | [], _, hm => by simp [memoX] at hm
  | (ds, r') :: l, hl, hm => by
    simp only [memoX] at hm
    split at hm
    · rename_i hd
      injection hm with hm; subst hm
      exact (hl _ List.mem_cons_self).call hd
    · exact memoX_spec (fun x hx => hl x (List.mem_cons_of_mem _ hx)) hm
/-- What is given with a program is sound. -/
structure EnvOk (P : Program) (E : Env) : Prop where
  goods : Goods E.plan
  orders : P.follows .mixedOrders = true
  prim : ∀ f args r, E.prim f args = some r → PrimW P f args r
  func : ∀ f, funcOk P E f = true
  memo : ∀ f, ∀ x ∈ E.memo f, Known P f x.1 x.2
theorem bodyX_spec {P : Program} {E : Env} (hE : EnvOk P E) {call : CallX} (hcall : ∀ f args h r h', call f args h = some (r, h') → CCall P f args h r h') {f : FuncId} {args : List CV} {h h' : Hp} {r : CV} (hx : bodyX P E call f args h = some (r, h')) : FCall P f args h r h' := by
  unfold bodyX at hx
  split at hx
  · cases hx
  · rename_i fn hf
    split at hx
    · rename_i c hb
      split at hx
      · rename_i hlen
        have hlen := ble1 hlen
        unfold endsX at hx
        split at hx
        · rename_i e s h1 hc
          have fin : (e = .normal ∨ e = .ret) → (match Nat.ble h.n h1.n with
              | true => match shutX (marks (s.at slot)) h1 with
                | some h2 => match resX P s h2 fn.results.toList with
                  | some vs => some (packR vs, h2)
                  | none => none
                | none => none
              | false => none) = some (r, h') → FCall P f args h r h' := by
            intro he hx
            split at hx
            · rename_i hn
              split at hx
              · rename_i h2 hsh
                split at hx
                · rename_i vs hr
                  injection hx with hx
                  simp only [Prod.mk.injEq] at hx
                  obtain ⟨rfl, rfl⟩ := hx
                  exact body_call hE.goods hE.orders hE.prim hcall (hE.func f) hf hb hlen he (ble1 hn) hc hsh hr
                · cases hx
              · cases hx
            · cases hx
          cases e <;> first | exact fin (.inl rfl) hx | exact fin (.inr rfl) hx | cases hx
        · cases hx
      · cases hx
    · cases hx
theorem callX_spec {P : Program} {E : Env} (hE : EnvOk P E) : ∀ (d : Nat) (t : Tg) (args : List CV) (h : Hp) (r : CV) (h' : Hp), callX P E d t args h = some (r, h') → CCall P t args h r h' := by
  intro d
  induction d with
  | zero => intro t args h r h' hx; simp [callX] at hx
  | succ d ih =>
    intro t args h r h' hx
    cases t with
    | fn f =>
      simp only [callX] at hx
      show FCall P f args h r h'
      split at hx
      · rename_i r' hm
        injection hx with hx
        simp only [Prod.mk.injEq] at hx
        obtain ⟨rfl, rfl⟩ := hx
        exact memoX_spec (hE.memo f) hm
      · exact bodyX_spec hE ih hx
    | yl k =>
      simp only [callX] at hx
      exact round_call hE.goods hE.orders hE.prim ih hx
theorem runX_spec {P : Program} {E : Env} (hE : EnvOk P E) {d : Nat} {f : FuncId} {ds : DL} {r : CV} (hx : runX P E d f ds = some r) : Known P f ds r := by
  unfold runX at hx
  split at hx
  · rename_i args h hl
    split at hx
    · rename_i r' h' hb
      split at hx
      · rename_i hf
        injection hx with hx; subst hx
        refine ⟨hf, h', ?_⟩
        rw [hl]
        exact bodyX_spec hE (callX_spec hE d) hb
      · cases hx
    · cases hx
end Go.CO
