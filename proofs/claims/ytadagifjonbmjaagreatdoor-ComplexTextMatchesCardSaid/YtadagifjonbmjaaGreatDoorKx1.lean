import Derived.Test.YtadagifjonbmjaaGreatDoorKx0
import Derived.ProofKit
import Derived.Test.YtadagifjonbmjaaGreatDoorKt0
set_option linter.all false
set_option maxRecDepth 1000000
namespace Go.CP.Ax
open Go.Proofs
noncomputable def M14 : jj := [(14, [(.nil, .one (.c (.bo true)))])]
noncomputable def K0 : Ctx := ⟨Tryz.prog, bt bM, fun _ _ => none, cB [], fun _ _ _ => none⟩
noncomputable def K1 : Ctx := ⟨Tryz.prog, bt bM, fun _ _ => none, cB M14, bO⟩
theorem base0 : Base Tryz.prog (bt bM) (fun _ _ => none) (fun _ _ _ => none) := ko (fun _ _ _ _ _ => Iff.rfl) (by kernel_rfl) (fun _ _ _ h => by cases h) (by kernel_rfl) (fun _ _ _ _ _ h => by cases h)
theorem kok0 : lG K0 := fun fu => base0.ok (KnownAll.nil _)
theorem plans {K : Ctx} (h : K.plan = bt bM) : Co K := by
 constructor <;> (rw [h]; kernel_rfl)
theorem plansD {K : Ctx} (h : K.plan = bt bM) : db K := by
 constructor <;> (rw [h]; kernel_rfl)
theorem plansE {K : Ctx} (h : K.plan = bt bM) : EU K := by
 constructor <;> (rw [h]; kernel_rfl)
theorem memo0 (f : FuncId) : cB [] f = [] := by
 unfold cB
 split
 · rename_i l hl
   exact absurd (pX hl) (by simp)
 · rfl
theorem std0 : Std K0 := ⟨fun _ => rfl, rfl, fun f _ => memo0 f, fun _ _ _ _ => rfl, fun _ _ => rfl, plans rfl⟩
theorem spec72_k : ∀ f args h r h', bO f args h = some (r, h') → FCall Tryz.prog f args h r h' := GK std0 kok0 (base0.func 72)
theorem base : Base Tryz.prog (bt bM) (cC (di 193) (cU 136)) bO := ko (fun _ _ _ _ _ => Iff.rfl) (by kernel_rfl) (zC (Cl Tryz.func193 rfl rfl (by rfl) (by rfl)) (si Tryz.func136 (by kernel_rfl) rfl (by rfl) (by rfl))) (by kernel_rfl) spec72_k
theorem known14 : KnownAll Tryz.prog M14 := KnownAll.cons (fun y hy => by
 rcases List.mem_singleton.1 hy with rfl
 exact Rz base) (KnownAll.nil _)
theorem base1 : Base Tryz.prog (bt bM) (fun _ _ => none) bO := ko (fun _ _ _ _ _ => Iff.rfl) (by kernel_rfl) (fun _ _ _ h => by cases h) (by kernel_rfl) spec72_k
theorem kok1 : lG K1 := fun fu => base1.ok known14
theorem memo1 (f : FuncId) (hf : f ≠ 14) : cB M14 f = [] := by
 unfold cB
 split
 · rename_i l hl
   have := pX hl
   simp only [M14, List.mem_singleton, Prod.mk.injEq] at this
   exact absurd this.1 hf
 · rfl
theorem spec72_none {f : Nat} (hf : xm f = false) (args : List CV) (h : Hp) : bO f args h = none := by
 unfold xm at hf
 simp only [Bool.or_eq_false_iff] at hf
 unfold bO
 rw [hf.1.1.1.1]
theorem std1 : Std K1 := ⟨fun _ => rfl, rfl, fun f hf => memo1 f hf, fun _ hf args h => spec72_none hf args h, fun _ _ => rfl, plans rfl⟩
theorem awake1 : Awake K1 := by
 show cB M14 14 = _
 rfl
end Go.CP.Ax
namespace Go.CP.Ax
open Go.Proofs Go.RowKit
theorem Comes.fcall {K : Ctx} (KO : lG K) {f : FuncId} {args : List CV} {h h' : Hp} {r : CV} (c : Comes K f args h r h') : FCall K.P f args h r h' := by
 obtain ⟨N, hN⟩ := c
 exact gT (KO N) N (.fn f) args h r h' (hN N N (Nat.le_refl _) (Nat.le_refl _))
theorem FCall.calls {f : FuncId} {args : List CV} {h h' : Hp} {b : Bool} (c : FCall Tryz.prog f args h (.bo b) h') {W : World} {ι : Im} {vals : List Value} (S : Sim W.heap.size ι h W) (hv : VRL ι args vals) :
  Calls Tryz.prog f vals.toArray W fun e W' => e = .returned (.bool b) ∧ Below W.heap.size W W' := by
 refine Calls.mono (c.2.2 W.heap.size ι W vals (Nat.le_refl _) S hv) ?_
 rintro e w' ⟨rv, ι', rfl, _, _, _, hr, hE⟩
 refine ⟨?_, ⟨hE.os, hE.tape, hE.output, hE.size, hE.block⟩⟩
 cases hr
 rfl
theorem byte_nat {i : Int} (hi : (Lit.int .u8 i).wf = true) : ∃ n : Nat, i = Int.ofNat n ∧ n < 256 := by
 have e1 : IntKind.u8.min = 0 := rfl
 have e2 : IntKind.u8.max = 255 := rfl
 simp [Lit.wf, e1, e2] at hi
 exact ⟨i.toNat, by simp; omega, by omega⟩
theorem laidOut : laidOutB Tryz.prog = true := by kernel_rfl
theorem own : ownKnob Tryz.prog.godebug = none := by kernel_rfl
end Go.CP.Ax
namespace Go.CP
open Go.Proofs Go.ChangeShapes Go.WideShapes
variable [LG] [HK]
section
variable {N0 : Nat} {ι : Im} {h : Hp} {W : World}
theorem Held.val (R : Held N0 ι h W) {H : Type} {enc : TypeId × Value → H} {P : Program} {base : Nat} {held : Bool} {t e q : TypeId} {fuel : Nat} {v : Value} {x : DataW H × List MemPlace} (ht : P.underlying t = some (.slice e)) (he : P.underlying e = some (.slice q)) (hq : P.underlying q = some (.int .i64))
  (ce : P.cellsOf e = 1) (cq : P.cellsOf q = 1) (hd : DataW.trod enc P W base (fun _ => true) held fuel t [v] = some x) :
  ∃ ι' h' y l, Held N0 ι' h' W ∧ ι.le ι' ∧ Same h.n h h' ∧ VR ι' y v ∧ Val h' y l ∧ ∀ a ∈ l, a.length ≤ maxLen ∧ ∀ z ∈ a, (Lit.int .i64 z).wf = true := by
 obtain ⟨ι', h', y, xs, l, R', le', S', hv, hx, hxs, hl⟩ := R.matrix ht he hq ce cq hd
 exact ⟨ι', h', y, l, R', le', S', hv, ⟨xs, hx, hxs⟩, hl⟩
end
end Go.CP
namespace Go.CP.Ax
open Go.Proofs
theorem plansB {K : Ctx} (h : K.plan = bt bM) : cz K := by
 constructor <;> (rw [h]; kernel_rfl)
theorem cells1 (t : TypeId) (ht : t = 3 ∨ t = 22 ∨ t = 26 ∨ t = 45 ∨ t = 46) : Tryz.prog.cellsOf t = 1 := by
 rcases ht with rfl | rfl | rfl | rfl | rfl <;> kernel_rfl
theorem plansY {K : Ctx} (h : K.plan = bt bM) : eO K := by
 constructor <;> (rw [h]; kernel_rfl)
theorem plansT {K : Ctx} (h : K.plan = bt bM) : ck K := by
 constructor <;> (rw [h]; kernel_rfl)
noncomputable def KE : Ctx := ⟨Tryz.prog, bt bM, cU 136, cB [], fun _ _ _ => none⟩
theorem baseE : Base Tryz.prog (bt bM) (cU 136) (fun _ _ _ => none) := ko (fun _ _ _ _ _ => Iff.rfl) (by kernel_rfl) (si Tryz.func136 (by kernel_rfl) rfl (by rfl) (by rfl)) (by kernel_rfl) (fun _ _ _ _ _ h => by cases h)
theorem kokE : lG KE := fun fu => baseE.ok (KnownAll.nil _)
noncomputable def spec3 (f : FuncId) (args : List CV) (h : Hp) : Option (CV × Hp) := if f = 108 then j4 args h else bO f args h
theorem spec3_k : ∀ f args h r h', spec3 f args h = some (r, h') → FCall Tryz.prog f args h r h' := by
 intro f args h r h' hs
 unfold spec3 at hs
 split at hs
 · rename_i e
   subst e
   exact Comes.fcall kokE (w7 (fun _ => rfl) rfl (memo0 108) (fun _ _ => rfl) (fun _ => rfl) hs)
 · exact spec72_k f args h r h' hs
noncomputable def K3 : Ctx := ⟨Tryz.prog, bt bM, fun _ _ => none, cB M14, spec3⟩
theorem base3 : Base Tryz.prog (bt bM) (fun _ _ => none) spec3 := ko (fun _ _ _ _ _ => Iff.rfl) (by kernel_rfl) (fun _ _ _ h => by cases h) (by kernel_rfl) spec3_k
theorem kok3 : lG K3 := fun fu => base3.ok known14
theorem std3 : Std K3 := ⟨fun _ => rfl, rfl, fun f hf => memo1 f hf, fun f hf args h => by
 show spec3 f args h = none
 unfold spec3
 rw [if_neg (by rintro rfl; cases hf)]
 exact spec72_none hf args h, fun _ _ => rfl, plans rfl⟩
theorem awake3 : Awake K3 := by
 show cB M14 14 = _
 rfl
theorem told72_3 : kU K3 := fun _ _ => by
 show spec3 72 _ _ = _
 unfold spec3
 rw [if_neg (by decide)]
 rfl
theorem told108 : gM K3 := fun _ _ => by
 show spec3 108 _ _ = _
 unfold spec3
 rw [if_pos rfl]
theorem told70_3 : ∀ args h, K3.spec 70 args h = none := fun args h => by
 show spec3 70 args h = _
 unfold spec3
 rw [if_neg (by decide)]
 rfl
end Go.CP.Ax
