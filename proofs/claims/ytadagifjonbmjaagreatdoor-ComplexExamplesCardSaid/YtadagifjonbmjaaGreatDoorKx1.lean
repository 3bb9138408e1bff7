import Derived.Test.YtadagifjonbmjaaGreatDoorKx0
import Derived.Test.YtadagifjonbmjaaGreatDoorKl2
import Derived.KernelRfl
import Derived.Test.YtadagifjonbmjaaGreatDoorKs0
import Derived.WalkKit
import Derived.ProofKit
import Derived.Carry
import Derived.Test.YtadagifjonbmjaaGreatDoorKe0
set_option linter.all false
set_option maxRecDepth 1000000
namespace Go.CP.Ax
open Go.Proofs
noncomputable def M14 : iS := [(14, [(.nil, .one (.c (.bo true)))])]
noncomputable def K0 : Ctx := ⟨Tryz.prog, bj bG, fun _ _ => none, cw [], fun _ _ _ => none⟩
noncomputable def K1 : Ctx := ⟨Tryz.prog, bj bG, fun _ _ => none, cw M14, bM⟩
theorem base0 : Base Tryz.prog (bj bG) (fun _ _ => none) (fun _ _ _ => none) := mb (fun _ _ _ _ _ => Iff.rfl) (by kernel_rfl) (fun _ _ _ h => by cases h) (by kernel_rfl) (fun _ _ _ _ _ h => by cases h)
theorem kok0 : lw K0 := fun fu => base0.ok (KnownAll.nil _)
theorem plans {K : Ctx} (h : K.plan = bj bG) : uH K := by
 constructor <;> (rw [h]; kernel_rfl)
theorem plansD {K : Ctx} (h : K.plan = bj bG) : cj K := by
 constructor <;> (rw [h]; kernel_rfl)
theorem plansE {K : Ctx} (h : K.plan = bj bG) : Bp K := by
 constructor <;> (rw [h]; kernel_rfl)
theorem memo0 (f : FuncId) : cw [] f = [] := by
 unfold cw
 split
 · rename_i l hl
   exact absurd (ov hl) (by simp)
 · rfl
theorem std0 : Std K0 := ⟨fun _ => rfl, rfl, fun f _ => memo0 f, fun _ _ _ _ => rfl, fun _ _ => rfl, plans rfl⟩
theorem spec72_k : ∀ f args h r h', bM f args h = some (r, h') → FCall Tryz.prog f args h r h' := CA std0 kok0 (base0.func 72)
theorem base : Base Tryz.prog (bj bG) (ci (cU 193) (cV 136)) bM := mb (fun _ _ _ _ _ => Iff.rfl) (by kernel_rfl) (wQ (yQ Tryz.func193 rfl rfl (by rfl) (by rfl)) (yR Tryz.func136 (by kernel_rfl) rfl (by rfl) (by rfl))) (by kernel_rfl) spec72_k
theorem known14 : KnownAll Tryz.prog M14 := KnownAll.cons (fun y hy => by
 rcases List.mem_singleton.1 hy with rfl
 exact Mz base) (KnownAll.nil _)
theorem base1 : Base Tryz.prog (bj bG) (fun _ _ => none) bM := mb (fun _ _ _ _ _ => Iff.rfl) (by kernel_rfl) (fun _ _ _ h => by cases h) (by kernel_rfl) spec72_k
theorem kok1 : lw K1 := fun fu => base1.ok known14
theorem memo1 (f : FuncId) (hf : f ≠ 14) : cw M14 f = [] := by
 unfold cw
 split
 · rename_i l hl
   have := ov hl
   simp only [M14, List.mem_singleton, Prod.mk.injEq] at this
   exact absurd this.1 hf
 · rfl
theorem spec72_none {f : Nat} (hf : uI f = false) (args : List CV) (h : Hp) : bM f args h = none := by
 unfold uI at hf
 simp only [Bool.or_eq_false_iff] at hf
 unfold bM
 rw [hf.1.1.1.1.1.1.1.1.1]
theorem std1 : Std K1 := ⟨fun _ => rfl, rfl, fun f hf => memo1 f hf, fun _ hf args h => spec72_none hf args h, fun _ _ => rfl, plans rfl⟩
theorem awake1 : Awake K1 := by
 show cw M14 14 = _
 rfl
end Go.CP.Ax
namespace Go.CP.Ax
open Go.Proofs Go.RowKit
theorem Comes.fcall {K : Ctx} (KO : lw K) {f : FuncId} {args : List CV} {h h' : Hp} {r : CV} (c : Comes K f args h r h') : FCall K.P f args h r h' := by
 obtain ⟨N, hN⟩ := c
 exact fD (KO N) N (.fn f) args h r h' (hN N N (Nat.le_refl _) (Nat.le_refl _))
theorem FCall.calls {f : FuncId} {args : List CV} {h h' : Hp} {b : Bool} (c : FCall Tryz.prog f args h (.bo b) h') {W : World} {ι : Im} {vals : List Value} (S : Sim W.heap.size ι h W) (hv : VRL ι args vals) :
  Calls Tryz.prog f vals.toArray W fun e W' => e = .returned (.bool b) ∧ Below W.heap.size W W' := by
 refine Calls.mono (c.2.2 W.heap.size ι W vals (Nat.le_refl _) S hv) ?_
 rintro e w' ⟨rv, ι', rfl, _, _, _, hr, hE⟩
 refine ⟨?_, ⟨hE.os, hE.tape, hE.output, hE.size, hE.block⟩⟩
 cases hr
 rfl
theorem byte_nat {i : Int} (hi : (Lit.int .u8 i).wf = true) : ∃ n : Nat, i = Int.ofNat n ∧ n < 256 := by
 have e1 : IntKind.u8.min = 0 := rfl
 have e2 : IntKind.u8.max = 255 := rfl
 simp [Lit.wf, e1, e2] at hi
 exact ⟨i.toNat, by simp; omega, by omega⟩
theorem laidOut : laidOutB Tryz.prog = true := by kernel_rfl
theorem own : ownKnob Tryz.prog.godebug = none := by kernel_rfl
end Go.CP.Ax
namespace Go.CP
open Go.Proofs
namespace Ax
theorem k34_run : dR Tryz.prog E0 100 34 [(eN [[0], [1], [2], [3], [0, 1], [0, 2], [1, 2], [2, 3], [0, 1, 2]], eO (n4 [4, 4, 1]))] = true := by kernel_rfl
theorem k36_run : dR Tryz.prog E0 100 36 [(eN [[0], [1], [5], [0, 5]], eO (fW [[0, 5], [1]]))] = true := by kernel_rfl
theorem k37_run : dR Tryz.prog E0 100 37 [(eN [[0], [1], [2], [0, 1], [0, 2], [1, 2]], eO (fW [[0], [1], [2], [0, 1], [0, 2], [1, 2]]))] = true := by kernel_rfl
theorem k41_run : dR Tryz.prog E0 100 41 [(n7 [[0, 5], [1]] [[0, 5], [1]], .one (.c (.bo true)))] = true := by kernel_rfl
end Ax
end Go.CP
namespace Go.CP.Ax
open Go.Proofs Go.RowKit
noncomputable def spec5 (f : FuncId) (args : List CV) (h : Hp) : Option (CV × Hp) := if f = 53 then nW args h else if f = 34 then tm (eN fg) (eO (n4 [4, 4, 1])) args h else if f = 36 then tm (eN nY) (eO (fW [[0, 5], [1]])) args h else if f = 37 then tm (eN jp) (eO (fW jp)) args h else if f = 41 then tm (n7 [[0, 5], [1]] [[0, 5], [1]]) (.one (.c (.bo true))) args h else bM f args h
noncomputable def K5 : Ctx := ⟨Tryz.prog, bj bG, fun _ _ => none, cw M14, spec5⟩
theorem plan14_5 : bj bG 11 14 = some FE := by kernel_rfl
theorem plan17_5 : bj bG 11 17 = some [.t 0,.t 1,.t 3,.t 4,.o 2 [4, 3],.o 5 []] := by kernel_rfl
abbrev hkF : HK := ⟨fun _ => false, fun _ => 0, fun _ => Nat.le_refl 0⟩
theorem ndF : @ND hkF := @ND.mk hkF (fun _ => rfl)
theorem FCall.weak {f : FuncId} {args : List CV} {h h' : Hp} {r : CV} (F : FCall Tryz.prog f args h r h') : @FCall _ hkF Tryz.prog f args h r h' :=
 ⟨F.1, F.2.1, fun N0 ι w vals hN S hv => (F.2.2 N0 ι w vals hN S hv).mono fun e w' ⟨rv, ι', h1, h2, h3, h4, h5, E⟩ => ⟨rv, ι', h1, h2, h3, h4, h5, @Ext.mk hkF _ _ _ E.os E.tape E.output E.size E.block (Nat.le_refl 0)⟩⟩
theorem tm_ok {f : FuncId} {d : DL} {rd : RV} (k : Known Tryz.prog f d rd) {args : List CV} {h h' : Hp} {r : CV} (hs : tm d rd args h = some (r, h')) : @FCall _ hkF Tryz.prog f args h r h' := by
 unfold tm at hs
 split at hs
 · rename_i hd
   injection hs with hs
   have := FCall.weak (k args h hd)
   rw [hs] at this
   exact this
 · cases hs
theorem run_k {f : FuncId} {d : DL} {rd : RV} (hr : dR Tryz.prog E0 100 f [(d, rd)] = true) : Known Tryz.prog f d rd := dy (bX base) hr _ List.mem_cons_self
theorem spec5_k : ∀ f args h r h', spec5 f args h = some (r, h') → @FCall _ hkF Tryz.prog f args h r h' := by
 intro f args h r h' hs
 unfold spec5 at hs
 split at hs
 · rename_i e; subst e
   exact @CL _ hkF ndF _ _ _ _ hs
 split at hs
 · rename_i e; subst e
   exact tm_ok (run_k k34_run) hs
 split at hs
 · rename_i e; subst e
   exact tm_ok (run_k k36_run) hs
 split at hs
 · rename_i e; subst e
   exact tm_ok (run_k k37_run) hs
 split at hs
 · rename_i e; subst e
   exact tm_ok (run_k k41_run) hs
 · exact FCall.weak (spec72_k f args h r h' hs)
theorem plansF [HK] {K : Ctx} (h : K.plan = bj bG) : uH K := by
 constructor <;> (rw [h]; kernel_rfl)
theorem plansBF [HK] {K : Ctx} (h : K.plan = bj bG) : eo K := by
 constructor <;> (rw [h]; kernel_rfl)
theorem plansDF [HK] {K : Ctx} (h : K.plan = bj bG) : cj K := by
 constructor <;> (rw [h]; kernel_rfl)
theorem plansYF [HK] {K : Ctx} (h : K.plan = bj bG) : da K := by
 constructor <;> (rw [h]; kernel_rfl)
theorem plansTF [HK] {K : Ctx} (h : K.plan = bj bG) : fU K := by
 constructor <;> (rw [h]; kernel_rfl)
theorem known14_weak : @KnownAll _ hkF Tryz.prog M14 := fun x hx y hy args h hd => FCall.weak (known14 x hx y hy args h hd)
theorem ex_gen [HK] (nd : ND) (hk : ∀ o, HK.keep o = false) (hs : ∀ f args h r h', spec5 f args h = some (r, h') → FCall Tryz.prog f args h r h') (hM : KnownAll Tryz.prog M14) (W : World) : Calls Tryz.prog 11 #[] W fun e W' => e = .returned (.bool true) ∧ Below W.heap.size W W' := by
 have base5 : Base Tryz.prog (bj bG) (fun _ _ => none) spec5 := mb (fun _ _ _ _ _ => Iff.rfl) (by kernel_rfl) (fun _ _ _ h => by cases h) (by kernel_rfl) hs
 have kok5 : lw K5 := fun fu => base5.ok hM
 have std5 : Std K5 := ⟨hk, rfl, fun f hf => memo1 f hf, fun f hf args h => by
  show spec5 f args h = none
  unfold spec5
  rw [if_neg (by rintro rfl; cases hf), if_neg (by rintro rfl; cases hf), if_neg (by rintro rfl; cases hf), if_neg (by rintro rfl; cases hf), if_neg (by rintro rfl; cases hf)]
  exact spec72_none hf args h, fun _ _ => rfl, plansF rfl⟩
 have awake5 : Awake K5 := by
  show cw M14 14 = _
  rfl
 have t72 : fx K5 := fun args h => by
  show spec5 72 args h = _
  unfold spec5
  rw [if_neg (by decide), if_neg (by decide), if_neg (by decide), if_neg (by decide), if_neg (by decide)]
  rfl
 have t53 : Told53 K5 := fun args h => by
  show spec5 53 args h = _
  unfold spec5
  rw [if_pos rfl]
 have t34 : Tells K5 34 (eN fg) (eO (n4 [4, 4, 1])) := fun args h => by
  show spec5 34 args h = _
  unfold spec5
  rw [if_neg (by decide), if_pos rfl]
 have t36 : Tells K5 36 (eN nY) (eO (fW [[0, 5], [1]])) := fun args h => by
  show spec5 36 args h = _
  unfold spec5
  rw [if_neg (by decide), if_neg (by decide), if_pos rfl]
 have t37 : Tells K5 37 (eN jp) (eO (fW jp)) := fun args h => by
  show spec5 37 args h = _
  unfold spec5
  rw [if_neg (by decide), if_neg (by decide), if_neg (by decide), if_pos rfl]
 have t41 : Tells K5 41 (n7 [[0, 5], [1]] [[0, 5], [1]]) (.one (.c (.bo true))) := fun args h => by
  show spec5 41 args h = _
  unfold spec5
  rw [if_neg (by decide), if_neg (by decide), if_neg (by decide), if_neg (by decide), if_pos rfl]
 have t70 : ∀ args h, K5.spec 70 args h = none := fun args h => by
  show spec5 70 args h = _
  unfold spec5
  rw [if_neg (by decide), if_neg (by decide), if_neg (by decide), if_neg (by decide), if_neg (by decide)]
  rfl
 have R := Held.start W
 obtain ⟨h', c⟩ := E6 std5 awake5 t72 t34 t36 t37 t41 t53 (plansBF rfl) (plansDF rfl) (plansYF rfl) (plansTF rfl) t70 plan14_5 plan17_5 R.ok
 obtain ⟨N, hN⟩ := c
 have F : FCall Tryz.prog 11 [] _ (.bo true) h' := fD (kok5 N) N (.fn 11) [] _ _ h' (hN N N (Nat.le_refl _) (Nat.le_refl _))
 refine Calls.mono (F.2.2 W.heap.size _ W [] (Nat.le_refl _) R.ro.sim (VRL.nil _)) ?_
 rintro e w' ⟨rv, ι', rfl, _, _, _, hr, hE⟩
 refine ⟨?_, ⟨hE.os, hE.tape, hE.output, hE.size, hE.block⟩⟩
 cases hr
 rfl
theorem ex_calls (W : World) : Calls Tryz.prog 11 #[] W fun e W' => e = .returned (.bool true) ∧ Below W.heap.size W W' := @ex_gen hkF ndF (fun _ => rfl) spec5_k known14_weak W
end Go.CP.Ax
