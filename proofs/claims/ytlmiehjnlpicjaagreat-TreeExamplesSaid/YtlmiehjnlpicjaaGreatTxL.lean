/- TreeExamples returns true: the base of the reckoning, and the row. -/
import Derived.Test.YtlmiehjnlpicjaaGreatRows
import Derived.Test.YtlmiehjnlpicjaaGreatTx10
import Derived.Test.YtlmiehjnlpicjaaGreatCn18
import Derived.WalkKit
import Derived.ProofKit
import Derived.OpenShut
import Derived.ChangeOld
import Derived.SizedLaws
import Derived.KernelRfl
set_option linter.unusedVariables false
set_option maxRecDepth 1000000
namespace Go.CN.Tx
open Go.Proofs
theorem base : Base Tryz.prog (planOf planT) (primB 133) := Base.mk' (fun _ _ _ _ _ => Iff.rfl) (by kernel_rfl) (primB_spec Tryz.func133 rfl rfl (by rfl) (by rfl)) (by kernel_rfl)
theorem calls (W : World) : Calls Tryz.prog 3 #[] W fun e W' => e = .returned (.bool true) ∧ RowKit.Below W.heap.size W W' := Known.start (root base) W
end Go.CN.Tx
namespace Go.Proofs.YtlmiehjnlpicjaaGreat.treeExamples
open Go.ChangeShapes Go.WideShapes Go.ChangeAt Go.RowKit
theorem own : ownKnob Tryz.prog.godebug = none := by kernel_rfl
theorem lifted (os : Os) (started : os.Started) (H : Type) (enc : TypeId × Value → H) :
    ReturnsInHanded {} Tryz.checked os 3 .any (Rows.treeExamplesSpec.pre6 enc Tryz.prog Tryz.f3 Rows.treeExamplesRow.domain false) (Rows.treeExamplesSpec.post enc Tryz.prog Tryz.f3 false true false false) := by
  refine returnsInHanded_of_change_sized (C := Tryz.checked) own started (by kernel_rfl) Tryz.func3
    (ChangeSpec.witness6 (enc := enc) (C := Tryz.checked) false ⟨#[], #[], []⟩ 8 (by kernel_rfl) (by kernel_rfl) (by kernel_rfl) (by kernel_rfl)) ?_
  intro W base args ds gs before hval0 hW hcnd hsz0 _
  have hW' := hW
  obtain ⟨p, q, hA0, hV, rfl, hfz, hnd⟩ := hW
  have hA : DataW.TrodAll enc Tryz.prog W 0 (fun _ => true) true Tryz.f3.params.toList args.toList ds p := hA0
  rw [Tryz.params3] at hA
  obtain ⟨rfl, rfl, rfl⟩ := trodAll_none hA
  obtain ⟨rfl, rfl⟩ := trodVars_none hV
  clear hA0 hval0
  refine (Go.CN.Tx.calls W).mono fun e W' ⟨he, bel⟩ => ?_
  subst he
  exact ⟨_, rfl, _, _, _, [], _, [], hW', trodAll_mk1 (shut_bool Tryz.underlying4 _), trodAll_mk0, rfl, bel.frame _, fun h => by cases h⟩
theorem over : Rows.treeExamplesRow.holds Tryz.pinned (OpenSpec.ofChange Rows.treeExamplesSpec) :=
  OpenClaim.holds_of_wide 3 Tryz.f3 rfl rfl rfl rfl rfl rfl rfl ⟨rfl, rfl, rfl, rfl, rfl⟩ rfl rfl rfl rfl rfl (by kernel_rfl) Tryz.func3 (by kernel_rfl)
    (of_decide_eq_true (by kernel_rfl)) (by unfold Func.isWrapper; first | (rw [if_pos (by decide +kernel)]; kernel_rfl) | (rw [if_neg (by decide +kernel)]; exact ⟨rfl, rfl⟩))
    (fun os started H enc _ => lifted os started H enc)
end Go.Proofs.YtlmiehjnlpicjaaGreat.treeExamples
namespace Go.Proofs.YtlmiehjnlpicjaaGreat
theorem treeExamples_holds : Rows.TreeExamplesSaid := treeExamples.over
end Go.Proofs.YtlmiehjnlpicjaaGreat
