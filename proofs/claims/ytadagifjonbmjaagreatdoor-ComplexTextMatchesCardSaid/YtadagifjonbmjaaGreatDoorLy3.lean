import Derived.Test.YtadagifjonbmjaaGreatDoorKx1
import Derived.Test.YtadagifjonbmjaaGreatDoorCards
import Derived.Test.YtadagifjonbmjaaGreatDoorTie
import Derived.LaidMore
import Derived.OpenShut
/- ComplexTextMatches: the row, and the tied card; no conditions. -/
set_option linter.all false
set_option maxRecDepth 1000000
namespace Go.CP.Ax
open Go.Proofs Go.RowKit
theorem text_calls {H : Type} {enc : TypeId × Value → H} {W : World} {v w : Value} {d e : DataW H} {p q : List MemPlace} {b1 b2 : Nat} (hv : Value.okWide Tryz.prog W .any b1 22 v) (hw : Value.okWide Tryz.prog W .any b2 9 w) (hd : DataW.Trod enc Tryz.prog W 0 (fun _ => true) true 22 v d p) (he : DataW.Trod enc Tryz.prog W 0 (fun _ => true) true 9 w e q) :
  Calls Tryz.prog 3 #[v, w] W fun e W' => e = .returned (.bool true) ∧ Below W.heap.size W W' := by
 obtain ⟨fuel, hd⟩ := hd
 obtain ⟨a, len, cap, rfl⟩ := Go.WideShapes.okWide_slice Tryz.underlying22 hv
 obtain ⟨t, rfl⟩ := Go.WideShapes.okWide_string Tryz.underlying9 hw
 simp only [Value.cells] at hd
 obtain ⟨ι, h, y, l, R, _, _, hy, vx, hl⟩ := (Held.start W).val Tryz.underlying22 Tryz.underlying46 Tryz.underlying3 (cells1 46 (by simp)) (cells1 3 (by simp)) hd
 obtain ⟨h', c, _⟩ := Ai std3 awake3 told72_3 told108 (plansB rfl) (plansD rfl) (plansY rfl) (plansT rfl) told70_3 R.ok vx (t.data.toList.map (·.toNat))
 exact FCall.calls (Comes.fcall kok3 c) R.ro.sim (VRL.cons hy (VRL.cons (.st rfl) (VRL.nil _)))
end Go.CP.Ax
namespace Go.Proofs.YtadagifjonbmjaaGreatDoor.complexTextMatches
open Go.ChangeShapes Go.WideShapes Go.ChangeAt Go.RowKit
theorem door_met (os : Os) (args : Array Value) : laidMetH Tryz.prog Rows.complexTextMatchesRow.laid ((World.doorLaid Tryz.prog 400 os).forCall (fun _ _ => 0) ⟨#[], args, []⟩).memory :=
 laidMetH_of_parts3 (fuel := 8) (laidMet_of_run' 8 (by kernel_rfl) (by kernel_rfl)) (by kernel_rfl) (by kernel_rfl)
theorem lifted (os : Os) (started : os.Started) (H : Type) (enc : TypeId × Value → H) :
  ReturnsInHanded {} Tryz.checked os 3 .any (fun w args => (Rows.complexTextMatchesSpec.pre enc Tryz.prog Tryz.f3 [] false w args ∧ laidMetH Tryz.prog Rows.complexTextMatchesRow.laid w) ∧ sizedMet enc Tryz.prog Tryz.f3 (OpenSpec.ofChange Rows.complexTextMatchesSpec) false w args)
   (Rows.complexTextMatchesSpec.post enc Tryz.prog Tryz.f3 false true false false) := by
 refine returnsInHanded_of_change_and (C := Tryz.checked) (X := fun w _ => laidMetH Tryz.prog Rows.complexTextMatchesRow.laid w) (fun _ _ _ hh h => h.of_heap hh) Go.CP.Ax.own started (by kernel_rfl) Tryz.func3
  (ChangeSpec.witness_shaped (enc := enc) (C := Tryz.checked) (os := os) (X := fun w _ => laidMetH Tryz.prog Rows.complexTextMatchesRow.laid w) false (World.doorLaid Tryz.prog 400 os) #[.slice none 0 0, .string ⟨#[]⟩] 8 rfl (World.shaped_of_RefB (by kernel_rfl) (by kernel_rfl)) (by kernel_rfl) (by kernel_rfl) (by kernel_rfl) (door_met os _)) ?_
 intro W base args ds gs before hval0 hW _ _ hL _
 have hval : ∀ (j : Nat) t v, Tryz.f3.params[j]? = some t → args[j]? = some v → Value.okWide Tryz.prog W .any base t v := hval0
 have hW' := hW
 obtain ⟨p, q, hA0, hV, rfl, hfz, hnd⟩ := hW
 have hA : DataW.TrodAll enc Tryz.prog W 0 (fun _ => true) true Tryz.f3.params.toList args.toList ds p := hA0
 rw [Tryz.params3] at hA hval
 obtain ⟨v0, v1, d0, d1, p0, p1, rfl, rfl, rfl, h0, h1⟩ := trodAll_two hA
 obtain ⟨rfl, rfl⟩ := trodVars_none hV
 clear hA0 hval0
 have hlt : ∀ x ∈ p0, x.block < W.heap.size := fun x hx => hW'.lt x (by simp [hx])
 have hlt1 : ∀ x ∈ p1, x.block < W.heap.size := fun x hx => hW'.lt x (by simp [hx])
 refine (Go.CP.Ax.text_calls (hval 0 22 v0 rfl rfl) (hval 1 9 v1 rfl rfl) h0 h1).mono fun e W' ⟨he, bel⟩ => ?_
 subst he
 exact ⟨_, rfl, _, _, _, [], _, [], hW', trodAll_mk1 (shut_bool Tryz.underlying4 _), trodAll_mk2 (Below.trod Go.CP.Ax.laidOut (by kernel_rfl) (of_decide_eq_true (by kernel_rfl)) h0 bel hlt) (Below.trod Go.CP.Ax.laidOut (by kernel_rfl) (of_decide_eq_true (by kernel_rfl)) h1 bel hlt1), rfl, bel.frame _, fun h => by cases h⟩
theorem over : Rows.ComplexTextMatchesSaid :=
 OpenClaim.holds_of_wide 3 Tryz.f3 rfl rfl rfl rfl rfl rfl rfl ⟨rfl, rfl, rfl, rfl, rfl⟩ rfl rfl rfl rfl rfl (by kernel_rfl) Tryz.func3 (by kernel_rfl)
  (of_decide_eq_true (by kernel_rfl)) (by unfold Func.isWrapper; first | (rw [if_pos (by decide +kernel)]; kernel_rfl) | (rw [if_neg (by decide +kernel)]; exact ⟨rfl, rfl⟩))
  (fun os started H enc _ => lifted os started H enc)
end Go.Proofs.YtadagifjonbmjaaGreatDoor.complexTextMatches
namespace Go.Proofs.YtadagifjonbmjaaGreatDoor
theorem complexTextMatches_card_holds : Rows.ComplexTextMatchesCardSaid :=
 Claim7.holds_tied_plain_at .later [] [.data, .data, .data] true (true, "e462f5216ce3709846ad0f891b861f8bb7babfd79b73df8de8e423f4e9f3cdd6") false
  complexTextMatches.over (fun _ h => by cases h) (by kernel_rfl) (fun _ h => by cases h) complexTextMatches_row_tie rfl ⟨rfl, rfl⟩ (by kernel_rfl) rfl
  (fun f fn hf hfn => by
    obtain rfl : f = 3 := Option.some.inj ((show Tryz.prog.funcNamed "torus/toruslaw08.ComplexTextMatches" = some 3 by kernel_rfl).symm.trans hf) |>.symm
    obtain rfl : fn = Tryz.f3 := (Option.some.inj (Tryz.func3.symm.trans hfn)).symm
    exact ⟨by kernel_rfl, fun j t ht => by
     rw [Tryz.params3] at ht
     have hm : t ∈ [22, 9] := by
      have := Array.mem_of_getElem? ht
      simp at this ⊢; omega
     have hall : ([22, 9].all fun u => !Tryz.prog.wantsStandIn u) = true := by kernel_rfl
     exact (show Tryz.prog.wantsStandIn t = false by simpa using List.all_eq_true.1 hall t hm)⟩)
  (by kernel_rfl)
end Go.Proofs.YtadagifjonbmjaaGreatDoor
