import Derived.Test.YtadagifjonbmjaaGreatDoorKx1
import Derived.Test.YtadagifjonbmjaaGreatDoorRows
import Derived.Test.YtadagifjonbmjaaGreatDoorCards
import Derived.Test.YtadagifjonbmjaaGreatDoorTie
import Derived.WalkKit
import Derived.ProofKit
import Derived.Carry
import Derived.LaidMore
import Derived.Lay
import Derived.OpenShut
import Derived.Stop.Joined
import Derived.SevenTiedAt
import Derived.KernelRfl
/- ComplexRoundTrip: the row, and the tied card; no conditions. -/
set_option linter.all false
set_option maxRecDepth 1000000
namespace Go.CP.Ax
open Go.Proofs Go.RowKit
theorem rtrip_calls {H : Type} {enc : TypeId × Value → H} {W : World} {v : Value} {d : DataW H} {p : List MemPlace} {base : Nat} (hval : Value.okWide Tryz.prog W .any base 26 v) (hd : DataW.Trod enc Tryz.prog W 0 (fun _ => true) true 26 v d p) :
  Calls Tryz.prog 12 #[v] W fun e W' => e = .returned (.bool true) ∧ Below W.heap.size W W' := by
 obtain ⟨fuel, hd⟩ := hd
 obtain ⟨a, len, cap, rfl⟩ := Go.WideShapes.okWide_slice Tryz.underlying26 hval
 simp only [Value.cells] at hd
 obtain ⟨ι, h, y, xs, l, R, _, _, hy, hx, hxs, hl⟩ := (Held.start W).matrix Tryz.underlying26 Tryz.underlying45 Tryz.underlying3 (by kernel_rfl) (by kernel_rfl) hd
 obtain ⟨h', c, _⟩ := yv std4 awake4 told72_4 told108_4 toldB_4 (plansB rfl) (plansD rfl) (plansY rfl) (plansT' rfl) ⟨⟩ (plansX rfl) told70_4 R.ok (m := l) (fun a ha => (hl a ha).1) ⟨xs, hx, hxs⟩
 exact FCall.calls (Comes.fcall kok4 c) R.ro.sim (VRL.cons hy (VRL.nil _))
end Go.CP.Ax
namespace Go.Proofs.YtadagifjonbmjaaGreatDoor.complexRoundTrip
open Go.ChangeShapes Go.WideShapes Go.ChangeAt Go.RowKit
theorem lifted (os : Os) (started : os.Started) (H : Type) (enc : TypeId × Value → H) :
  ReturnsInHanded {} Tryz.checked os 12 .any (fun w args => (Rows.complexRoundTripSpec.pre enc Tryz.prog Tryz.f12 [] false w args ∧ laidMetH Tryz.prog Rows.complexRoundTripRow.laid w) ∧ sizedMet enc Tryz.prog Tryz.f12 (OpenSpec.ofChange Rows.complexRoundTripSpec) false w args)
   (Rows.complexRoundTripSpec.post enc Tryz.prog Tryz.f12 false true false false) := by
 refine returnsInHanded_of_change_and (C := Tryz.checked) (X := fun w _ => laidMetH Tryz.prog Rows.complexRoundTripRow.laid w) (fun _ _ _ hh h => h.of_heap hh) Go.CP.Ax.own started (by kernel_rfl) Tryz.func12
  (ChangeSpec.witness_shaped (enc := enc) (C := Tryz.checked) (os := os) (X := fun w _ => laidMetH Tryz.prog Rows.complexRoundTripRow.laid w) false (World.laidAll Tryz.prog os Rows.complexRoundTripRow.laid) #[.slice none 0 0] 8 (World.laidAll_os _ _ _) (World.shaped_of_ZipB (by kernel_rfl) (by kernel_rfl)) (by kernel_rfl) (by kernel_rfl) (by kernel_rfl) (by rw [MakeChecks.laidMetH_plain _ _ _ (by kernel_rfl)]; exact laidMet_laidAll _ (by kernel_rfl) (by kernel_rfl))) ?_
 intro W base args ds gs before hval0 hW _ _ hL _
 have hval : ∀ (j : Nat) t v, Tryz.f12.params[j]? = some t → args[j]? = some v → Value.okWide Tryz.prog W .any base t v := hval0
 have hW' := hW
 obtain ⟨p, q, hA0, hV, rfl, hfz, hnd⟩ := hW
 have hA : DataW.TrodAll enc Tryz.prog W 0 (fun _ => true) true Tryz.f12.params.toList args.toList ds p := hA0
 rw [Tryz.params12] at hA hval
 obtain ⟨v0, d0, rfl, rfl, h0⟩ := trodAll_one hA
 obtain ⟨rfl, rfl⟩ := trodVars_none hV
 clear hA0 hval0
 have hlt : ∀ x ∈ p, x.block < W.heap.size := fun x hx => hW'.lt x (by simp [hx])
 refine (Go.CP.Ax.rtrip_calls (hval 0 26 v0 rfl rfl) h0).mono fun e W' ⟨he, bel⟩ => ?_
 subst he
 exact ⟨_, rfl, _, _, _, [], _, [], hW', trodAll_mk1 (shut_bool Tryz.underlying4 _), trodAll_mk1 (Below.trod Go.CP.Ax.laidOut (by kernel_rfl) (of_decide_eq_true (by kernel_rfl)) h0 bel hlt), rfl, bel.frame _, fun h => by cases h⟩
theorem over : Rows.ComplexRoundTripSaid :=
 OpenClaim.holds_of_wide 12 Tryz.f12 rfl rfl rfl rfl rfl rfl rfl ⟨rfl, rfl, rfl, rfl, rfl⟩ rfl rfl rfl rfl rfl (by kernel_rfl) Tryz.func12 (by kernel_rfl)
  (of_decide_eq_true (by kernel_rfl)) (by unfold Func.isWrapper; first | (rw [if_pos (by decide +kernel)]; kernel_rfl) | (rw [if_neg (by decide +kernel)]; exact ⟨rfl, rfl⟩))
  (fun os started H enc _ => lifted os started H enc)
end Go.Proofs.YtadagifjonbmjaaGreatDoor.complexRoundTrip
namespace Go.Proofs.YtadagifjonbmjaaGreatDoor
theorem complexRoundTrip_card_holds : Rows.ComplexRoundTripCardSaid :=
 Claim7.holds_tied_plain_at .later [] [.data, .data, .data, .data, .pinned] true (true, "e462f5216ce3709846ad0f891b861f8bb7babfd79b73df8de8e423f4e9f3cdd6") false
  complexRoundTrip.over (fun _ h => by cases h) (by kernel_rfl) (fun _ h => by cases h) complexRoundTrip_row_tie rfl ⟨rfl, rfl⟩ (by kernel_rfl) rfl
  (fun f fn hf hfn => by
    obtain rfl : f = 12 := Option.some.inj ((show Tryz.prog.funcNamed "torus/toruslaw08.ComplexRoundTrip" = some 12 by kernel_rfl).symm.trans hf) |>.symm
    obtain rfl : fn = Tryz.f12 := (Option.some.inj (Tryz.func12.symm.trans hfn)).symm
    exact ⟨by kernel_rfl, fun j t ht => by
     rw [Tryz.params12] at ht
     have hm : t ∈ [26] := by
      have := Array.mem_of_getElem? ht
      simp at this ⊢; omega
     have hall : ([26].all fun u => !Tryz.prog.wantsStandIn u) = true := by kernel_rfl
     exact (show Tryz.prog.wantsStandIn t = false by simpa using List.all_eq_true.1 hall t hm)⟩)
  (by kernel_rfl)
end Go.Proofs.YtadagifjonbmjaaGreatDoor
