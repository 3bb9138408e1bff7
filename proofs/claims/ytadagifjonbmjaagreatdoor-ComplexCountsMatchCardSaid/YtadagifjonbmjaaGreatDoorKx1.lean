import Derived.Test.YtadagifjonbmjaaGreatDoorKx0
import Derived.Test.YtadagifjonbmjaaGreatDoorKl2
import Derived.KernelRfl
import Derived.Test.YtadagifjonbmjaaGreatDoorKs0
import Derived.WalkKit
import Derived.ProofKit
import Derived.Carry
import Derived.Test.YtadagifjonbmjaaGreatDoorKw3
import Derived.Test.YtadagifjonbmjaaGreatDoorKl4
import Derived.Test.YtadagifjonbmjaaGreatDoorKw4
import Derived.Test.YtadagifjonbmjaaGreatDoorKg0
set_option linter.all false
set_option maxRecDepth 1000000
namespace Go.CP.Ax
open Go.Proofs
noncomputable def M14 : iX := [(14, [(.nil, .one (.c (.bo true)))])]
noncomputable def K0 : Ctx := ⟨Tryz.prog, bB bV, fun _ _ => none, cU [], fun _ _ _ => none⟩
noncomputable def K1 : Ctx := ⟨Tryz.prog, bB bV, fun _ _ => none, cU M14, bU⟩
theorem base0 : Base Tryz.prog (bB bV) (fun _ _ => none) (fun _ _ _ => none) := ng (fun _ _ _ _ _ => Iff.rfl) (by kernel_rfl) (fun _ _ _ h => by cases h) (by kernel_rfl) (fun _ _ _ _ _ h => by cases h)
theorem kok0 : mf K0 := fun fu => base0.ok (KnownAll.nil _)
theorem plans {K : Ctx} (h : K.plan = bB bV) : Ci K := by
 constructor <;> (rw [h]; kernel_rfl)
theorem plansD {K : Ctx} (h : K.plan = bB bV) : Ez K := by
 constructor <;> (rw [h]; kernel_rfl)
theorem plansE {K : Ctx} (h : K.plan = bB bV) : EA K := by
 constructor <;> (rw [h]; kernel_rfl)
theorem memo0 (f : FuncId) : cU [] f = [] := by
 unfold cU
 split
 · rename_i l hl
   exact absurd (pB hl) (by simp)
 · rfl
theorem std0 : Std K0 := ⟨fun _ => rfl, rfl, fun f _ => memo0 f, fun _ _ _ _ => rfl, fun _ _ => rfl, plans rfl⟩
theorem spec72_k : ∀ f args h r h', bU f args h = some (r, h') → FCall Tryz.prog f args h r h' := Gc std0 kok0 (base0.func 72)
theorem base : Base Tryz.prog (bB bV) (cI (dA 193) (dB 136)) bU := ng (fun _ _ _ _ _ => Iff.rfl) (by kernel_rfl) (zA (Cf Tryz.func193 rfl rfl (by rfl) (by rfl)) (Cg Tryz.func136 (by kernel_rfl) rfl (by rfl) (by rfl))) (by kernel_rfl) spec72_k
theorem known14 : KnownAll Tryz.prog M14 := KnownAll.cons (fun y hy => by
 rcases List.mem_singleton.1 hy with rfl
 exact QW base) (KnownAll.nil _)
theorem base1 : Base Tryz.prog (bB bV) (fun _ _ => none) bU := ng (fun _ _ _ _ _ => Iff.rfl) (by kernel_rfl) (fun _ _ _ h => by cases h) (by kernel_rfl) spec72_k
theorem kok1 : mf K1 := fun fu => base1.ok known14
theorem memo1 (f : FuncId) (hf : f ≠ 14) : cU M14 f = [] := by
 unfold cU
 split
 · rename_i l hl
   have := pB hl
   simp only [M14, List.mem_singleton, Prod.mk.injEq] at this
   exact absurd this.1 hf
 · rfl
theorem spec72_none {f : Nat} (hf : xd f = false) (args : List CV) (h : Hp) : bU f args h = none := by
 unfold xd at hf
 simp only [Bool.or_eq_false_iff] at hf
 unfold bU
 rw [hf.1.1]
theorem std1 : Std K1 := ⟨fun _ => rfl, rfl, fun f hf => memo1 f hf, fun _ hf args h => spec72_none hf args h, fun _ _ => rfl, plans rfl⟩
theorem awake1 : Awake K1 := by
 show cU M14 14 = _
 rfl
end Go.CP.Ax
namespace Go.CP.Ax
open Go.Proofs Go.RowKit
theorem Comes.fcall {K : Ctx} (KO : mf K) {f : FuncId} {args : List CV} {h h' : Hp} {r : CV} (c : Comes K f args h r h') : FCall K.P f args h r h' := by
 obtain ⟨N, hN⟩ := c
 exact gP (KO N) N (.fn f) args h r h' (hN N N (Nat.le_refl _) (Nat.le_refl _))
theorem FCall.calls {f : FuncId} {args : List CV} {h h' : Hp} {b : Bool} (c : FCall Tryz.prog f args h (.bo b) h') {W : World} {ι : Im} {vals : List Value} (S : Sim W.heap.size ι h W) (hv : VRL ι args vals) :
  Calls Tryz.prog f vals.toArray W fun e W' => e = .returned (.bool b) ∧ Below W.heap.size W W' := by
 refine Calls.mono (c.2.2 W.heap.size ι W vals (Nat.le_refl _) S hv) ?_
 rintro e w' ⟨rv, ι', rfl, _, _, _, hr, hE⟩
 refine ⟨?_, ⟨hE.os, hE.tape, hE.output, hE.size, hE.block⟩⟩
 cases hr
 rfl
theorem byte_nat {i : Int} (hi : (Lit.int .u8 i).wf = true) : ∃ n : Nat, i = Int.ofNat n ∧ n < 256 := by
 have e1 : IntKind.u8.min = 0 := rfl
 have e2 : IntKind.u8.max = 255 := rfl
 simp [Lit.wf, e1, e2] at hi
 exact ⟨i.toNat, by simp; omega, by omega⟩
theorem laidOut : laidOutB Tryz.prog = true := by kernel_rfl
theorem own : ownKnob Tryz.prog.godebug = none := by kernel_rfl
end Go.CP.Ax
namespace Go.CP
open Go.Proofs Go.ChangeShapes Go.WideShapes
variable [LG] [HK]
section
variable {N0 : Nat} {ι : Im} {h : Hp} {W : World}
theorem Held.val (R : Held N0 ι h W) {H : Type} {enc : TypeId × Value → H} {P : Program} {base : Nat} {held : Bool} {t e q : TypeId} {fuel : Nat} {v : Value} {x : DataW H × List MemPlace} (ht : P.underlying t = some (.slice e)) (he : P.underlying e = some (.slice q)) (hq : P.underlying q = some (.int .i64))
  (ce : P.cellsOf e = 1) (cq : P.cellsOf q = 1) (hd : DataW.trod enc P W base (fun _ => true) held fuel t [v] = some x) :
  ∃ ι' h' y l, Held N0 ι' h' W ∧ ι.le ι' ∧ Same h.n h h' ∧ VR ι' y v ∧ Val h' y l ∧ ∀ a ∈ l, a.length ≤ maxLen ∧ ∀ z ∈ a, (Lit.int .i64 z).wf = true := by
 obtain ⟨ι', h', y, xs, l, R', le', S', hv, hx, hxs, hl⟩ := R.matrix ht he hq ce cq hd
 exact ⟨ι', h', y, l, R', le', S', hv, ⟨xs, hx, hxs⟩, hl⟩
end
end Go.CP
namespace Go.CP.Ax
open Go.Proofs
theorem plansB {K : Ctx} (h : K.plan = bB bV) : cw K := by
 constructor <;> (rw [h]; kernel_rfl)
theorem cells1 (t : TypeId) (ht : t = 3 ∨ t = 22 ∨ t = 26 ∨ t = 45 ∨ t = 46) : Tryz.prog.cellsOf t = 1 := by
 rcases ht with rfl | rfl | rfl | rfl | rfl <;> kernel_rfl
end Go.CP.Ax
namespace Go.CP.Ax
open Go.Proofs
theorem plansC {K : Ctx} (h : K.plan = bB bV) : bT K := by
 constructor <;> (rw [h]; kernel_rfl)
theorem plansN {K : Ctx} (h : K.plan = bB bV) : eF K := by
 constructor <;> (rw [h]; kernel_rfl)
end Go.CP.Ax
namespace Go.CP.Ax
open Go.Proofs
noncomputable def spec2 (f : FuncId) (args : List CV) (h : Hp) : Option (CV × Hp) := if f = 90 then mH h args else bU f args h
theorem spec2_k : ∀ f args h r h', spec2 f args h = some (r, h') → FCall Tryz.prog f args h r h' := by
 intro f args h r h' hs
 unfold spec2 at hs
 split at hs
 · rename_i e
   subst e
   exact Gm std0 hs
 · exact spec72_k f args h r h' hs
noncomputable def K2 : Ctx := ⟨Tryz.prog, bB bV, fun _ _ => none, cU M14, spec2⟩
theorem base2 : Base Tryz.prog (bB bV) (fun _ _ => none) spec2 := ng (fun _ _ _ _ _ => Iff.rfl) (by kernel_rfl) (fun _ _ _ h => by cases h) (by kernel_rfl) spec2_k
theorem kok2 : mf K2 := fun fu => base2.ok known14
theorem std2 : Std K2 := ⟨fun _ => rfl, rfl, fun f hf => memo1 f hf, fun f hf args h => by
 show spec2 f args h = none
 unfold spec2
 rw [if_neg (by rintro rfl; cases hf)]
 exact spec72_none hf args h, fun _ _ => rfl, plans rfl⟩
theorem awake2 : Awake K2 := by
 show cU M14 14 = _
 rfl
theorem told90 : pk K2 := fun _ _ => by
 show spec2 90 _ _ = _
 unfold spec2
 rw [if_pos rfl]
end Go.CP.Ax
