import Derived.Test.YtadagifjonbmjaaGreatDoorKx0
import Derived.Test.YtadagifjonbmjaaGreatDoorKl2
import Derived.KernelRfl
import Derived.Test.YtadagifjonbmjaaGreatDoorKl0
import Derived.Test.YtadagifjonbmjaaGreatDoorKp4
import Derived.Deep.Matrix
import Derived.WalkKit
import Derived.ProofKit
import Derived.Carry
import Derived.Test.YtadagifjonbmjaaGreatDoorKw3
import Derived.Test.YtadagifjonbmjaaGreatDoorKl4
import Derived.Test.YtadagifjonbmjaaGreatDoorKw4
set_option linter.all false
set_option maxRecDepth 1000000
/- Complex: the two contexts: of the sorting that the reckoner is told, and of the law. -/
namespace Go.CP.Ax
open Go.Proofs
noncomputable def M14 : Memo := [(14, [(.nil, .one (.c (.bo true)))])]
noncomputable def K0 : Ctx := ⟨Tryz.prog, planOf planT, fun _ _ => none, memoOf [], fun _ _ _ => none⟩
noncomputable def K1 : Ctx := ⟨Tryz.prog, planOf planT, fun _ _ => none, memoOf M14, fun _ _ _ => none⟩
theorem base0 : Base Tryz.prog (planOf planT) (fun _ _ => none) (fun _ _ _ => none) := Base.mk' (fun _ _ _ _ _ => Iff.rfl) (by kernel_rfl) (fun _ _ _ h => by cases h) (by kernel_rfl) (fun _ _ _ _ _ h => by cases h)
theorem kok0 : KOk K0 := fun fu => base0.ok (KnownAll.nil _)
theorem plans {K : Ctx} (h : K.plan = planOf planT) : Plans K := by
  constructor <;> (rw [h]; kernel_rfl)
theorem plansD {K : Ctx} (h : K.plan = planOf planT) : PlansD K := by
  constructor <;> (rw [h]; kernel_rfl)
theorem plansE {K : Ctx} (h : K.plan = planOf planT) : PlansE K := by
  constructor <;> (rw [h]; kernel_rfl)
theorem memo0 (f : FuncId) : memoOf [] f = [] := by
  unfold memoOf
  split
  · rename_i l hl
    exact absurd (mkT_get hl) (by simp)
  · rfl
theorem std0 : Std K0 := ⟨fun _ => rfl, rfl, fun f _ => memo0 f, fun _ _ _ => rfl, fun _ _ => rfl, plans rfl⟩
theorem spec72_k : ∀ f args h r h', spec72 f args h = some (r, h') → FCall Tryz.prog f args h r h' := spec72_ok std0 kok0 (plansE rfl) (plansD rfl) (base0.func 72)
theorem base : Base Tryz.prog (planOf planT) (primOr (primB 193) (primE 136)) spec72 := Base.mk' (fun _ _ _ _ _ => Iff.rfl) (by kernel_rfl) (primOr_spec (primB_spec Tryz.func193 rfl rfl (by rfl) (by rfl)) (primE_spec Tryz.func136 (by kernel_rfl) rfl (by rfl) (by rfl))) (by kernel_rfl) spec72_k
theorem known14 : KnownAll Tryz.prog M14 := KnownAll.cons (fun y hy => by
  rcases List.mem_singleton.1 hy with rfl
  exact root base) (KnownAll.nil _)
theorem kok1 : KOk K1 := fun fu => base0.ok known14
theorem memo1 (f : FuncId) (hf : f ≠ 14) : memoOf M14 f = [] := by
  unfold memoOf
  split
  · rename_i l hl
    have := mkT_get hl
    simp only [M14, List.mem_singleton, Prod.mk.injEq] at this
    exact absurd this.1 hf
  · rfl
theorem std1 : Std K1 := ⟨fun _ => rfl, rfl, fun f hf => memo1 f hf, fun _ _ _ => rfl, fun _ _ => rfl, plans rfl⟩
theorem awake1 : Awake K1 := by
  show memoOf M14 14 = _
  rfl
end Go.CP.Ax
/- Arguments: what the caller's memory holds, as blocks of the reckoner that are only read. -/
namespace Go.CP
open Go.Proofs Go.ChangeShapes Go.WideShapes
variable [LG] [HK]
section
variable {N0 : Nat} {ι : Im} {h : Hp} {W : World}
/-- The reckoner's blocks, all of them only read, and the memory. -/
structure Held (N0 : Nat) (ι : Im) (h : Hp) (W : World) : Prop where
  ro : Ro N0 ι h W
  ok : HpOk h
theorem get_h0 (k : Nat) : h0.get k = .dead := by
  have hat : ∀ p : Ix, T.at p (T.lf : T HB) = none := by
    intro p; induction p with
    | e => rfl
    | l p ih => exact ih
    | r p ih => exact ih
  simp only [Hp.get, h0, T.get, hat]
theorem Held.start (W : World) : Held W.heap.size (fun _ => none) h0 W :=
  ⟨⟨⟨fun k i e => (by cases e), fun k i e => (by cases e), fun k _ => get_h0 k, fun k i e => (by cases e), fun k k' i i' e => (by cases e)⟩, fun k => by rw [get_h0]; rfl⟩, fun k _ => get_h0 k⟩
theorem cell_some {a : Addr} {v : Value} (h : W.cell? a = some v) : a.spot = none ∧ ∃ arr e f, W.heap[a.block]? = some (.cells arr e f) ∧ arr[a.off]? = some v := by
  unfold World.cell? at h
  split at h
  · rename_i c e f hc
    split at h
    · cases h
    · rename_i hs
      refine ⟨?_, c, e, f, hc, h⟩
      cases hsp : a.spot with
      | none => rfl
      | some x => rw [hsp] at hs; simp at hs
  · cases h
theorem Held.row (R : Held N0 ι h W) {A : Option Addr} {L C : Nat} {cs : List CV} {vs : Nat → Value} (hl : cs.length = L) (hLC : L ≤ C) (hA : A = none → C = 0)
    (hc : ∀ a, A = some a → ∀ c, c < L → W.cell? (a.add c) = some (vs c)) (hv : ∀ c (hc : c < cs.length), VR ι cs[c] (vs c)) :
    ∃ ι' h' x, Held N0 ι' h' W ∧ ι.le ι' ∧ Same h.n h h' ∧ VR ι' x (.slice A L C) ∧ Row h' x cs := by
  cases hA' : A with
  | none =>
    have := hA hA'
    obtain rfl : C = 0 := this
    obtain rfl : L = 0 := by omega
    obtain rfl : cs = [] := List.eq_nil_of_length_eq_zero hl
    exact ⟨ι, h, .nils, R, Im.le_refl ι, Same.refl _ _, .nils, .nils⟩
  | some a =>
    by_cases h0 : L = 0
    · subst h0
      obtain rfl : cs = [] := List.eq_nil_of_length_eq_zero hl
      exact ⟨ι, h, .sle, R, Im.le_refl ι, Same.refl _ _, .sle a C, .sle⟩
    have hcell := hc a hA'
    obtain ⟨hsp, arr, e, f, hb, h0'⟩ := cell_some (hcell 0 (by omega))
    have ha0 : a.add 0 = a := by simp [Addr.add]
    rw [ha0] at hsp hb h0'
    have hall : ∀ c, c < L → arr[a.off + c]? = some (vs c) := by
      intro c hc'
      obtain ⟨_, arr', e', f', hb', hx⟩ := cell_some (hcell c hc')
      have hblk : (a.add c).block = a.block := by unfold Addr.add; split <;> rfl
      have hoff : (a.add c).off = a.off + c := by
        unfold Addr.add; split
        · rename_i hz; rw [hz]; rfl
        · rfl
      rw [hblk, hb] at hb'
      injection hb' with hb'; injection hb' with hb' _ _
      rw [hoff, ← hb'] at hx
      exact hx
    have hlt : a.block < W.heap.size := by
      rcases Nat.lt_or_ge a.block W.heap.size with hlt | hge
      · exact hlt
      · rw [Array.getElem?_eq_none hge] at hb; cases hb
    have hVL : VRL ι cs ((arr.toList.drop a.off).take cs.length) := by
      have hsz : a.off + (L - 1) < arr.size := by
        have := hall (L - 1) (by omega)
        rcases Nat.lt_or_ge (a.off + (L - 1)) arr.size with hlt | hge
        · exact hlt
        · rw [Array.getElem?_eq_none hge] at this; cases this
      refine ⟨by simp; omega, fun j hj => ?_⟩
      have hj' : j < L := by omega
      have := hall j hj'
      have he : ((arr.toList.drop a.off).take cs.length).getD j Go.undef = vs j := by
        rw [List.getD_eq_getElem?_getD, List.getElem?_take_of_lt hj, List.getElem?_drop, Array.getElem?_toList, this]; rfl
      rw [he]; exact hv j hj
    obtain ⟨R', hle⟩ := R.ro.push (vs := cs) (i := ⟨a.block, a.off, 0, 0, 0, true⟩) hlt ⟨arr, e, f, hb, rfl, rfl, hVL⟩
    refine ⟨_, _, .sl h.n 0 L C, ⟨R', R.ok.push _⟩, hle, Same.push (Nat.le_refl _) _, ?_, ?_⟩
    · have := VR.sl (ι := ι.set h.n ⟨a.block, a.off, 0, 0, 0, true⟩) (k := h.n) (o := 0) (n := L) (c := C) (c' := C) (i := ⟨a.block, a.off, 0, 0, 0, true⟩) (by simp [Im.set]) (.inl ⟨rfl, fun hne => absurd rfl hne⟩)
      have ea : (⟨a.block, a.off + 0, none⟩ : Addr) = a := by
        cases a; simp at hsp ⊢; exact hsp.symm
      rw [ea] at this
      exact this
    · subst hl
      refine Row.some (by intro e; rw [e] at h0; exact h0 rfl) ?_ hLC ?_
      · rw [Hp.get_push, if_pos rfl]
        simp only [hbSub, sub, Nat.zero_add, Nat.ble_eq_true_of_le (Nat.le_refl cs.length), List.drop_zero, List.take_length]
      · rw [Hp.get_push, if_pos rfl]; rfl
theorem Held.rows (R : Held N0 ι h W) {A : Nat → Option Addr} {L C : Nat → Nat} {Z : Nat → List Int} (n : Nat)
    (hr : ∀ r, r < n → L r ≤ C r ∧ (Z r).length = C r ∧ (A r = none → C r = 0) ∧ ∀ a, A r = some a → ∀ c, c < C r → W.cell? (a.add c) = some (.int .i64 ((Z r).getD c 0))) :
    ∃ ι' h' xs, Held N0 ι' h' W ∧ ι.le ι' ∧ Same h.n h h' ∧ xs.length = n ∧ (∀ r (hr : r < xs.length), VR ι' xs[r] (.slice (A r) (L r) (C r))) ∧ Rows h' xs ((List.range n).map fun r => (Z r).take (L r)) := by
  induction n with
  | zero => exact ⟨ι, h, [], R, Im.le_refl ι, Same.refl _ _, rfl, fun r hr => absurd hr (Nat.not_lt_zero _), .nil⟩
  | succ n ih =>
    obtain ⟨ι1, h1, xs, R1, le1, S1, hx1, hv1, hR1⟩ := ih fun r hr' => hr r (by omega)
    obtain ⟨k1, k2, k3, k4⟩ := hr n (by omega)
    obtain ⟨ι2, h2, x, R2, le2, S2, hv2, hR2⟩ := R1.row (A := A n) (L := L n) (C := C n) (cs := Ints ((Z n).take (L n))) (vs := fun c => .int .i64 ((Z n).getD c 0)) (by simp [Ints]; omega) k1 k3
      (fun a ha c hc => k4 a ha c (by omega)) (fun c hc => by
        simp only [Ints, List.length_map, List.length_take] at hc
        have : (Z n).getD c 0 = (Z n)[c]'(by omega) := by rw [List.getD_eq_getElem?_getD, List.getElem?_eq_getElem (by omega)]; rfl
        simp only [Ints, List.getElem_map, List.getElem_take, this]
        exact .nu _ _)
    refine ⟨ι2, h2, xs ++ [x], R2, le1.trans le2, S1.trans ⟨S2.n, fun k hk => S2.get k (Nat.lt_of_lt_of_le hk S1.n)⟩, by simp [hx1], fun r hr' => ?_, ?_⟩
    · rw [List.getElem_append]
      split
      · rename_i hlt; exact (hv1 r hlt).mono le2
      · rename_i hge
        have : r = n := by simp at hr'; omega
        subst this
        simp [hx1]; exact hv2
    · rw [List.range_succ, List.map_append]
      exact (hR1.mono S2 R1.ok (Nat.le_refl _)).snoc hR2
/-- A slice of slices of whole numbers. -/
theorem Held.matrix (R : Held N0 ι h W) {H : Type} {enc : TypeId × Value → H} {P : Program} {base : Nat} {held : Bool} {t e q : TypeId} {fuel : Nat} {v : Value} {x : DataW H × List MemPlace} (ht : P.underlying t = some (.slice e)) (he : P.underlying e = some (.slice q)) (hq : P.underlying q = some (.int .i64))
    (ce : P.cellsOf e = 1) (cq : P.cellsOf q = 1) (hd : DataW.trod enc P W base (fun _ => true) held fuel t [v] = some x) :
    ∃ ι' h' y xs l, Held N0 ι' h' W ∧ ι.le ι' ∧ Same h.n h h' ∧ VR ι' y v ∧ Row h' y xs ∧ Rows h' xs l ∧ ∀ a ∈ l, a.length ≤ maxLen ∧ ∀ z ∈ a, (Lit.int .i64 z).wf = true := by
  rcases Go.Deep.open_int_rows ht he hq ce cq hd with ⟨hv, _⟩ | ⟨a, len, cap, A, L, C, Z, hv, _, hlc, hcm, _, hr⟩
  · obtain rfl : v = .slice none 0 0 := by simpa using hv
    exact ⟨ι, h, .nils, [], [], R, Im.le_refl ι, Same.refl _ _, .nils, .nils, .nil, by simp⟩
  · obtain rfl : v = .slice (some a) len cap := by simpa using hv
    obtain ⟨ι1, h1, xs, R1, le1, S1, hx1, hv1, hR1⟩ := R.rows (A := A) (L := L) (C := C) (Z := Z) len fun r hlt => by
      obtain ⟨_, h1, _, h3, _, h5, h6⟩ := hr r (by omega)
      exact ⟨h1, h3, h5, fun a ha => (h6 a ha).2⟩
    obtain ⟨ι2, h2, y, R2, le2, S2, hv2, hR2⟩ := R1.row (A := some a) (L := len) (C := cap) (cs := xs) (vs := fun r => .slice (A r) (L r) (C r)) hx1 hlc (fun hh => by cases hh) (fun a' ha c hc => by
      cases ha; exact (hr c (by omega)).1) hv1
    refine ⟨ι2, h2, y, xs, _, R2, le1.trans le2, S1.trans ⟨S2.n, fun k hk => S2.get k (Nat.lt_of_lt_of_le hk S1.n)⟩, hv2, hR2, hR1.mono S2 R1.ok (Nat.le_refl _), fun b hb => ?_⟩
    obtain ⟨r, hr', rfl⟩ := List.mem_map.1 hb
    obtain ⟨_, h1, h2', h3, h4, _⟩ := hr r (by have := List.mem_range.1 hr'; omega)
    exact ⟨by simp; omega, fun z hz => h4 z (List.mem_of_mem_take hz)⟩
end
end Go.CP
/- From what the reckoner comes to, to the calls at the model. -/
namespace Go.CP.Ax
open Go.Proofs Go.RowKit
/-- What a call comes to, at the model. -/
theorem Comes.fcall {K : Ctx} (KO : KOk K) {f : FuncId} {args : List CV} {h h' : Hp} {r : CV} (c : Comes K f args h r h') : FCall K.P f args h r h' := by
  obtain ⟨N, hN⟩ := c
  exact callX_spec (KO N) N (.fn f) args h r h' (hN N N (Nat.le_refl _) (Nat.le_refl _))
theorem FCall.calls {f : FuncId} {args : List CV} {h h' : Hp} {b : Bool} (c : FCall Tryz.prog f args h (.bo b) h') {W : World} {ι : Im} {vals : List Value} (S : Sim W.heap.size ι h W) (hv : VRL ι args vals) :
    Calls Tryz.prog f vals.toArray W fun e W' => e = .returned (.bool b) ∧ Below W.heap.size W W' := by
  refine Calls.mono (c.2.2 W.heap.size ι W vals (Nat.le_refl _) S hv) ?_
  rintro e w' ⟨rv, ι', rfl, _, _, _, hr, hE⟩
  refine ⟨?_, ⟨hE.os, hE.tape, hE.output, hE.size, hE.block⟩⟩
  cases hr
  rfl
/-- A byte's number. -/
theorem byte_nat {i : Int} (hi : (Lit.int .u8 i).wf = true) : ∃ n : Nat, i = Int.ofNat n ∧ n < 256 := by
  have e1 : IntKind.u8.min = 0 := rfl
  have e2 : IntKind.u8.max = 255 := rfl
  simp [Lit.wf, e1, e2] at hi
  exact ⟨i.toNat, by simp; omega, by omega⟩
theorem laidOut : laidOutB Tryz.prog = true := by kernel_rfl
theorem own : ownKnob Tryz.prog.godebug = none := by kernel_rfl
end Go.CP.Ax
/- More arguments: one slice of whole numbers; the plans of bundle b. -/
namespace Go.CP
open Go.Proofs Go.ChangeShapes Go.WideShapes
variable [LG] [HK]
section
variable {N0 : Nat} {ι : Im} {h : Hp} {W : World}
theorem Held.val (R : Held N0 ι h W) {H : Type} {enc : TypeId × Value → H} {P : Program} {base : Nat} {held : Bool} {t e q : TypeId} {fuel : Nat} {v : Value} {x : DataW H × List MemPlace} (ht : P.underlying t = some (.slice e)) (he : P.underlying e = some (.slice q)) (hq : P.underlying q = some (.int .i64))
    (ce : P.cellsOf e = 1) (cq : P.cellsOf q = 1) (hd : DataW.trod enc P W base (fun _ => true) held fuel t [v] = some x) :
    ∃ ι' h' y l, Held N0 ι' h' W ∧ ι.le ι' ∧ Same h.n h h' ∧ VR ι' y v ∧ Val h' y l ∧ ∀ a ∈ l, a.length ≤ maxLen ∧ ∀ z ∈ a, (Lit.int .i64 z).wf = true := by
  obtain ⟨ι', h', y, xs, l, R', le', S', hv, hx, hxs, hl⟩ := R.matrix ht he hq ce cq hd
  exact ⟨ι', h', y, l, R', le', S', hv, ⟨xs, hx, hxs⟩, hl⟩
end
end Go.CP
namespace Go.CP.Ax
open Go.Proofs
theorem plansB {K : Ctx} (h : K.plan = planOf planT) : PlansB K := by
  constructor <;> (rw [h]; kernel_rfl)
end Go.CP.Ax
/- The plans of bundles c and n. -/
namespace Go.CP.Ax
open Go.Proofs
theorem plansC {K : Ctx} (h : K.plan = planOf planT) : PlansC K := by
  constructor <;> (rw [h]; kernel_rfl)
theorem plansN {K : Ctx} (h : K.plan = planOf planT) : PlansN K := by
  constructor <;> (rw [h]; kernel_rfl)
end Go.CP.Ax
