import Derived.Test.YtadagifjonbmjaaGreatDoorKx0
import Derived.Test.YtadagifjonbmjaaGreatDoorKl2
import Derived.KernelRfl
import Derived.Test.YtadagifjonbmjaaGreatDoorKs0
import Derived.WalkKit
import Derived.ProofKit
import Derived.Carry
import Derived.Test.YtadagifjonbmjaaGreatDoorKw3
import Derived.Test.YtadagifjonbmjaaGreatDoorKl4
import Derived.Test.YtadagifjonbmjaaGreatDoorKw4
import Derived.Test.YtadagifjonbmjaaGreatDoorKv3
set_option linter.all false
set_option maxRecDepth 1000000
/- Complex: the two contexts: of the sorting that the reckoner is told, and of the law. -/
namespace Go.CP.Ax
open Go.Proofs
noncomputable def M14 : Memo := [(14, [(.nil, .one (.c (.bo true)))])]
noncomputable def K0 : Ctx := ⟨Tryz.prog, planOf planT, fun _ _ => none, memoOf [], fun _ _ _ => none⟩
noncomputable def K1 : Ctx := ⟨Tryz.prog, planOf planT, fun _ _ => none, memoOf M14, spec72⟩
theorem base0 : Base Tryz.prog (planOf planT) (fun _ _ => none) (fun _ _ _ => none) := Base.mk' (fun _ _ _ _ _ => Iff.rfl) (by kernel_rfl) (fun _ _ _ h => by cases h) (by kernel_rfl) (fun _ _ _ _ _ h => by cases h)
theorem kok0 : KOk K0 := fun fu => base0.ok (KnownAll.nil _)
theorem plans {K : Ctx} (h : K.plan = planOf planT) : Plans K := by
  constructor <;> (rw [h]; kernel_rfl)
theorem plansD {K : Ctx} (h : K.plan = planOf planT) : PlansD K := by
  constructor <;> (rw [h]; kernel_rfl)
theorem plansE {K : Ctx} (h : K.plan = planOf planT) : PlansE K := by
  constructor <;> (rw [h]; kernel_rfl)
theorem memo0 (f : FuncId) : memoOf [] f = [] := by
  unfold memoOf
  split
  · rename_i l hl
    exact absurd (mkT_get hl) (by simp)
  · rfl
theorem std0 : Std K0 := ⟨fun _ => rfl, rfl, fun f _ => memo0 f, fun _ _ _ _ => rfl, fun _ _ => rfl, plans rfl⟩
theorem spec72_k : ∀ f args h r h', spec72 f args h = some (r, h') → FCall Tryz.prog f args h r h' := spec72_ok std0 kok0 (base0.func 72)
theorem base : Base Tryz.prog (planOf planT) (primOr (primB 193) (primE 136)) spec72 := Base.mk' (fun _ _ _ _ _ => Iff.rfl) (by kernel_rfl) (primOr_spec (primB_spec Tryz.func193 rfl rfl (by rfl) (by rfl)) (primE_spec Tryz.func136 (by kernel_rfl) rfl (by rfl) (by rfl))) (by kernel_rfl) spec72_k
theorem known14 : KnownAll Tryz.prog M14 := KnownAll.cons (fun y hy => by
  rcases List.mem_singleton.1 hy with rfl
  exact root base) (KnownAll.nil _)
theorem base1 : Base Tryz.prog (planOf planT) (fun _ _ => none) spec72 := Base.mk' (fun _ _ _ _ _ => Iff.rfl) (by kernel_rfl) (fun _ _ _ h => by cases h) (by kernel_rfl) spec72_k
theorem kok1 : KOk K1 := fun fu => base1.ok known14
theorem memo1 (f : FuncId) (hf : f ≠ 14) : memoOf M14 f = [] := by
  unfold memoOf
  split
  · rename_i l hl
    have := mkT_get hl
    simp only [M14, List.mem_singleton, Prod.mk.injEq] at this
    exact absurd this.1 hf
  · rfl
theorem spec72_none {f : Nat} (hf : toldB f = false) (args : List CV) (h : Hp) : spec72 f args h = none := by
  unfold toldB at hf
  simp only [Bool.or_eq_false_iff] at hf
  unfold spec72
  rw [hf.1.1]
theorem std1 : Std K1 := ⟨fun _ => rfl, rfl, fun f hf => memo1 f hf, fun _ hf args h => spec72_none hf args h, fun _ _ => rfl, plans rfl⟩
theorem awake1 : Awake K1 := by
  show memoOf M14 14 = _
  rfl
end Go.CP.Ax
namespace Go.CP.Ax
open Go.Proofs Go.RowKit
theorem Comes.fcall {K : Ctx} (KO : KOk K) {f : FuncId} {args : List CV} {h h' : Hp} {r : CV} (c : Comes K f args h r h') : FCall K.P f args h r h' := by
  obtain ⟨N, hN⟩ := c
  exact callX_spec (KO N) N (.fn f) args h r h' (hN N N (Nat.le_refl _) (Nat.le_refl _))
theorem FCall.calls {f : FuncId} {args : List CV} {h h' : Hp} {b : Bool} (c : FCall Tryz.prog f args h (.bo b) h') {W : World} {ι : Im} {vals : List Value} (S : Sim W.heap.size ι h W) (hv : VRL ι args vals) :
    Calls Tryz.prog f vals.toArray W fun e W' => e = .returned (.bool b) ∧ Below W.heap.size W W' := by
  refine Calls.mono (c.2.2 W.heap.size ι W vals (Nat.le_refl _) S hv) ?_
  rintro e w' ⟨rv, ι', rfl, _, _, _, hr, hE⟩
  refine ⟨?_, ⟨hE.os, hE.tape, hE.output, hE.size, hE.block⟩⟩
  cases hr
  rfl
theorem byte_nat {i : Int} (hi : (Lit.int .u8 i).wf = true) : ∃ n : Nat, i = Int.ofNat n ∧ n < 256 := by
  have e1 : IntKind.u8.min = 0 := rfl
  have e2 : IntKind.u8.max = 255 := rfl
  simp [Lit.wf, e1, e2] at hi
  exact ⟨i.toNat, by simp; omega, by omega⟩
theorem laidOut : laidOutB Tryz.prog = true := by kernel_rfl
theorem own : ownKnob Tryz.prog.godebug = none := by kernel_rfl
end Go.CP.Ax
namespace Go.CP
open Go.Proofs Go.ChangeShapes Go.WideShapes
variable [LG] [HK]
section
variable {N0 : Nat} {ι : Im} {h : Hp} {W : World}
theorem Held.val (R : Held N0 ι h W) {H : Type} {enc : TypeId × Value → H} {P : Program} {base : Nat} {held : Bool} {t e q : TypeId} {fuel : Nat} {v : Value} {x : DataW H × List MemPlace} (ht : P.underlying t = some (.slice e)) (he : P.underlying e = some (.slice q)) (hq : P.underlying q = some (.int .i64))
    (ce : P.cellsOf e = 1) (cq : P.cellsOf q = 1) (hd : DataW.trod enc P W base (fun _ => true) held fuel t [v] = some x) :
    ∃ ι' h' y l, Held N0 ι' h' W ∧ ι.le ι' ∧ Same h.n h h' ∧ VR ι' y v ∧ Val h' y l ∧ ∀ a ∈ l, a.length ≤ maxLen ∧ ∀ z ∈ a, (Lit.int .i64 z).wf = true := by
  obtain ⟨ι', h', y, xs, l, R', le', S', hv, hx, hxs, hl⟩ := R.matrix ht he hq ce cq hd
  exact ⟨ι', h', y, l, R', le', S', hv, ⟨xs, hx, hxs⟩, hl⟩
end
end Go.CP
namespace Go.CP.Ax
open Go.Proofs
theorem plansB {K : Ctx} (h : K.plan = planOf planT) : PlansB K := by
  constructor <;> (rw [h]; kernel_rfl)
theorem cells1 (t : TypeId) (ht : t = 3 ∨ t = 22 ∨ t = 26 ∨ t = 45 ∨ t = 46) : Tryz.prog.cellsOf t = 1 := by
  rcases ht with rfl | rfl | rfl | rfl | rfl <;> kernel_rfl
end Go.CP.Ax
namespace Go.CP.Ax
open Go.Proofs
theorem plansC {K : Ctx} (h : K.plan = planOf planT) : PlansC K := by
  constructor <;> (rw [h]; kernel_rfl)
end Go.CP.Ax
namespace Go.CP.Ax
open Go.Proofs
theorem plansY {K : Ctx} (h : K.plan = planOf planT) : PlansY K := by
  constructor <;> (rw [h]; kernel_rfl)
theorem told72 : Told72 K1 := fun _ _ => rfl
end Go.CP.Ax
