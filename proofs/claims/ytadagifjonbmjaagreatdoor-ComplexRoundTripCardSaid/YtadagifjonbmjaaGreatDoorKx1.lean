import Derived.Test.YtadagifjonbmjaaGreatDoorKx0
import Derived.Test.YtadagifjonbmjaaGreatDoorKl2
import Derived.KernelRfl
import Derived.Test.YtadagifjonbmjaaGreatDoorKs0
import Derived.WalkKit
import Derived.ProofKit
import Derived.Carry
import Derived.Test.YtadagifjonbmjaaGreatDoorKw3
import Derived.Test.YtadagifjonbmjaaGreatDoorKl4
import Derived.Test.YtadagifjonbmjaaGreatDoorKw4
import Derived.Test.YtadagifjonbmjaaGreatDoorKv3
import Derived.Test.YtadagifjonbmjaaGreatDoorKt0
import Derived.Lib.Bytealg
set_option linter.all false
set_option maxRecDepth 1000000
namespace Go.CP.Ax
open Go.Proofs
noncomputable def M14 : iT := [(14, [(.nil, .one (.c (.bo true)))])]
noncomputable def K0 : Ctx := ⟨Tryz.prog, be bu, fun _ _ => none, cg [], fun _ _ _ => none⟩
noncomputable def K1 : Ctx := ⟨Tryz.prog, be bu, fun _ _ => none, cg M14, bJ⟩
theorem base0 : Base Tryz.prog (be bu) (fun _ _ => none) (fun _ _ _ => none) := gZ (fun _ _ _ _ _ => Iff.rfl) (by kernel_rfl) (fun _ _ _ h => by cases h) (by kernel_rfl) (fun _ _ _ _ _ h => by cases h)
theorem kok0 : jX K0 := fun fu => base0.ok (KnownAll.nil _)
theorem plans {K : Ctx} (h : K.plan = be bu) : Al K := by
 constructor <;> (rw [h]; kernel_rfl)
theorem plansD {K : Ctx} (h : K.plan = be bu) : dG K := by
 constructor <;> (rw [h]; kernel_rfl)
theorem plansE {K : Ctx} (h : K.plan = be bu) : CH K := by
 constructor <;> (rw [h]; kernel_rfl)
theorem memo0 (f : FuncId) : cg [] f = [] := by
 unfold cg
 split
 · rename_i l hl
   exact absurd (oO hl) (by simp)
 · rfl
theorem std0 : Std K0 := ⟨fun _ => rfl, rfl, fun f _ => memo0 f, fun _ _ _ _ => rfl, fun _ _ => rfl, plans rfl⟩
theorem spec72_k : ∀ f args h r h', bJ f args h = some (r, h') → FCall Tryz.prog f args h r h' := DD std0 kok0 (base0.func 72)
theorem base : Base Tryz.prog (be bu) (bH (bY 193) (cN 136)) bJ := gZ (fun _ _ _ _ _ => Iff.rfl) (by kernel_rfl) (pC (qH Tryz.func193 rfl rfl (by rfl) (by rfl)) (qI Tryz.func136 (by kernel_rfl) rfl (by rfl) (by rfl))) (by kernel_rfl) spec72_k
theorem known14 : KnownAll Tryz.prog M14 := KnownAll.cons (fun y hy => by
 rcases List.mem_singleton.1 hy with rfl
 exact Nv base) (KnownAll.nil _)
theorem base1 : Base Tryz.prog (be bu) (fun _ _ => none) bJ := gZ (fun _ _ _ _ _ => Iff.rfl) (by kernel_rfl) (fun _ _ _ h => by cases h) (by kernel_rfl) spec72_k
theorem kok1 : jX K1 := fun fu => base1.ok known14
theorem memo1 (f : FuncId) (hf : f ≠ 14) : cg M14 f = [] := by
 unfold cg
 split
 · rename_i l hl
   have := oO hl
   simp only [M14, List.mem_singleton, Prod.mk.injEq] at this
   exact absurd this.1 hf
 · rfl
theorem spec72_none {f : Nat} (hf : vH f = false) (args : List CV) (h : Hp) : bJ f args h = none := by
 unfold vH at hf
 simp only [Bool.or_eq_false_iff] at hf
 unfold bJ
 rw [hf.1.1.1.1]
theorem std1 : Std K1 := ⟨fun _ => rfl, rfl, fun f hf => memo1 f hf, fun _ hf args h => spec72_none hf args h, fun _ _ => rfl, plans rfl⟩
theorem awake1 : Awake K1 := by
 show cg M14 14 = _
 rfl
end Go.CP.Ax
namespace Go.CP.Ax
open Go.Proofs Go.RowKit
theorem Comes.fcall {K : Ctx} (KO : jX K) {f : FuncId} {args : List CV} {h h' : Hp} {r : CV} (c : Comes K f args h r h') : FCall K.P f args h r h' := by
 obtain ⟨N, hN⟩ := c
 exact gC (KO N) N (.fn f) args h r h' (hN N N (Nat.le_refl _) (Nat.le_refl _))
theorem FCall.calls {f : FuncId} {args : List CV} {h h' : Hp} {b : Bool} (c : FCall Tryz.prog f args h (.bo b) h') {W : World} {ι : Im} {vals : List Value} (S : Sim W.heap.size ι h W) (hv : VRL ι args vals) :
  Calls Tryz.prog f vals.toArray W fun e W' => e = .returned (.bool b) ∧ Below W.heap.size W W' := by
 refine Calls.mono (c.2.2 W.heap.size ι W vals (Nat.le_refl _) S hv) ?_
 rintro e w' ⟨rv, ι', rfl, _, _, _, hr, hE⟩
 refine ⟨?_, ⟨hE.os, hE.tape, hE.output, hE.size, hE.block⟩⟩
 cases hr
 rfl
theorem byte_nat {i : Int} (hi : (Lit.int .u8 i).wf = true) : ∃ n : Nat, i = Int.ofNat n ∧ n < 256 := by
 have e1 : IntKind.u8.min = 0 := rfl
 have e2 : IntKind.u8.max = 255 := rfl
 simp [Lit.wf, e1, e2] at hi
 exact ⟨i.toNat, by simp; omega, by omega⟩
theorem laidOut : laidOutB Tryz.prog = true := by kernel_rfl
theorem own : ownKnob Tryz.prog.godebug = none := by kernel_rfl
end Go.CP.Ax
namespace Go.CP
open Go.Proofs Go.ChangeShapes Go.WideShapes
variable [LG] [HK]
end Go.CP
namespace Go.CP.Ax
open Go.Proofs
theorem plansB {K : Ctx} (h : K.plan = be bu) : fT K := by
 constructor <;> (rw [h]; kernel_rfl)
end Go.CP.Ax
namespace Go.CP.Ax
open Go.Proofs
end Go.CP.Ax
namespace Go.CP.Ax
open Go.Proofs
theorem plansY {K : Ctx} (h : K.plan = be bu) : eY K := by
 constructor <;> (rw [h]; kernel_rfl)
end Go.CP.Ax
namespace Go.CP
open Go.Proofs
variable [LG] [HK]
def primC (k : Nat) : cL := fun f args => match Nat.beq f k with
 | true => match args with
  | [.st s, .nu .u8 (.ofNat c)] => match Nat.blt c 256 with
   | true => some (.nu .i64 (.ofNat (fB c s)))
   | false => none
  | _ => none
 | false => none
theorem cntB_spec (b : ByteArray) {c : Nat} (hc : c < 256) : Go.Lib.countByte b.data.toList (c : Int).toNat.toUInt8 = fB c (bs b) := by
 unfold Go.Lib.countByte fB bs List.count
 rw [List.countP_map]
 refine List.countP_congr fun x _ => ?_
 have e : ((c : Int).toNat.toUInt8).toNat = c := by simp [Nat.mod_eq_of_lt hc]
 simp only [beq_iff_eq, Function.comp, Nat.beq_eq]
 exact ⟨fun h => by rw [h, e], fun h => UInt8.toNat_inj.1 (by rw [e, h])⟩
theorem primC_spec {P : Program} {k : Nat} {fn : Func} (hf : P.funcs[k]? = some fn) (hn : (fn.name == "runtime.NumGoroutine") = false) (hb : fn.body = none) (hx : Extern.findNext fn = none) (hr : Extern.find fn = some Extern.BytealgCount.count) :
  ∀ f args r, primC k f args = some r → eu P f args r := by
 intro f args r hp ι w vals hv
 unfold primC at hp
 split at hp
 · rename_i hfk
   have hfk := aX hfk
   subst hfk
   split at hp
   · rename_i s c
     split at hp
     · rename_i hc
       have hc := cR hc
       injection hp with hp; subst hp
       obtain ⟨v1, l1, rfl, h1, hv1⟩ := fE hv
       obtain ⟨v2, l2, rfl, h2, hv2⟩ := fE hv1
       have : l2 = [] := List.eq_nil_of_length_eq_zero hv2.1
       subst this
       obtain ⟨b, rfl, rfl⟩ := cM h1
       obtain rfl := bN h2
       have hrow : (Extern.BytealgCount.count #[.string b, .int .u8 (c : Int)]).run P w = .ok (.int .i64 (Int.ofNat (fB c (bs b)))) w := by
        rw [← cntB_spec b hc]; exact Go.Lib.run_countString b c w
       refine ⟨_, .nu _ _, ?_⟩
       rw [run_callFunc_extern hf hn (by rw [hb]; rfl) hx hr]
       have hrow' : (Extern.BytealgCount.count #[.string b, .int .u8 (Int.ofNat c)]).run P w = .ok (.int .i64 (Int.ofNat (fB c (bs b)))) w := hrow
       rw [hrow']; rfl
     · cases hp
   · cases hp
 · cases hp
end Go.CP
namespace Go.CP.Ax
open Go.Proofs
theorem plansT' {K : Ctx} (h : K.plan = be bu) : eX K := by
 constructor <;> (rw [h]; kernel_rfl)
theorem plansX {K : Ctx} (h : K.plan = be bu) : xR K := by
 constructor <;> (rw [h]; kernel_rfl)
noncomputable def KE' : Ctx := ⟨Tryz.prog, be bu, cN 136, cg [], fun _ _ _ => none⟩
theorem baseE' : Base Tryz.prog (be bu) (cN 136) (fun _ _ _ => none) := gZ (fun _ _ _ _ _ => Iff.rfl) (by kernel_rfl) (qI Tryz.func136 (by kernel_rfl) rfl (by rfl) (by rfl)) (by kernel_rfl) (fun _ _ _ _ _ h => by cases h)
theorem kokE' : jX KE' := fun fu => baseE'.ok (KnownAll.nil _)
noncomputable def KS : Ctx := ⟨Tryz.prog, be bu, bH (bY 193) (primC 160), cg [], fun _ _ _ => none⟩
theorem baseS : Base Tryz.prog (be bu) (bH (bY 193) (primC 160)) (fun _ _ _ => none) := gZ (fun _ _ _ _ _ => Iff.rfl) (by kernel_rfl) (pC (qH Tryz.func193 rfl rfl (by rfl) (by rfl)) (primC_spec Tryz.func160 (by kernel_rfl) rfl (by rfl) (by rfl))) (by kernel_rfl) (fun _ _ _ _ _ h => by cases h)
theorem kokS : jX KS := fun fu => baseS.ok (KnownAll.nil _)
theorem prS1 (s : List Nat) (c : Nat) (hc : c < 256) : KS.prim 193 [.st s, .nu .u8 (.ofNat c)] = some (.nu .i64 (dv c 0 s)) := by
 have h : Nat.blt c 256 = true := by simpa using hc
 show bH (bY 193) (primC 160) 193 [.st s, .nu .u8 (.ofNat c)] = some (.nu .i64 (dv c 0 s))
 simp only [bH, bY, Nat.beq_refl, h]
theorem prS2 (s : List Nat) (c : Nat) (hc : c < 256) : KS.prim 160 [.st s, .nu .u8 (.ofNat c)] = some (.nu .i64 (.ofNat (fB c s))) := by
 have h : Nat.blt c 256 = true := by simpa using hc
 have h2 : Nat.beq 160 193 = false := rfl
 show bH (bY 193) (primC 160) 160 [.st s, .nu .u8 (.ofNat c)] = some (.nu .i64 (.ofNat (fB c s)))
 simp only [bH, bY, primC, Nat.beq_refl, h, h2]
noncomputable def spec4 (f : FuncId) (args : List CV) (h : Hp) : Option (CV × Hp) := if f = 108 then jE args h else if f = 134 then oZ args h else if f = 181 then oY args h else bJ f args h
theorem spec4_k : ∀ f args h r h', spec4 f args h = some (r, h') → FCall Tryz.prog f args h r h' := by
 intro f args h r h' hs
 unfold spec4 at hs
 split at hs
 · rename_i e
   subst e
   exact Comes.fcall kokE' (vi (fun _ => rfl) rfl (memo0 108) (fun _ _ => rfl) (fun _ => rfl) hs)
 · split at hs
   · rename_i e
     subst e
     exact Comes.fcall kokS (vk (fun _ => rfl) rfl (memo0 134) (fun _ _ => rfl) prS2 hs)
   · split at hs
     · rename_i e
       subst e
       exact Comes.fcall kokS (vj (fun _ => rfl) rfl (memo0 181) (fun _ _ => rfl) prS1 hs)
     · exact spec72_k f args h r h' hs
noncomputable def K4 : Ctx := ⟨Tryz.prog, be bu, fun _ _ => none, cg M14, spec4⟩
theorem base4 : Base Tryz.prog (be bu) (fun _ _ => none) spec4 := gZ (fun _ _ _ _ _ => Iff.rfl) (by kernel_rfl) (fun _ _ _ h => by cases h) (by kernel_rfl) spec4_k
theorem kok4 : jX K4 := fun fu => base4.ok known14
theorem std4 : Std K4 := ⟨fun _ => rfl, rfl, fun f hf => memo1 f hf, fun f hf args h => by
 show spec4 f args h = none
 unfold spec4
 rw [if_neg (by rintro rfl; cases hf), if_neg (by rintro rfl; cases hf), if_neg (by rintro rfl; cases hf)]
 exact spec72_none hf args h, fun _ _ => rfl, plans rfl⟩
theorem awake4 : Awake K4 := by
 show cg M14 14 = _
 rfl
theorem told72_4 : lW K4 := fun args h => by
 show spec4 72 args h = _
 unfold spec4
 rw [if_neg (by decide), if_neg (by decide), if_neg (by decide)]
 rfl
theorem told108_4 : ig K4 := fun args h => by
 show spec4 108 args h = _
 unfold spec4
 rw [if_pos rfl]
theorem toldB_4 : vJ K4 := ⟨fun args h => by
 show spec4 181 args h = _
 unfold spec4
 rw [if_neg (by decide), if_neg (by decide), if_pos rfl], fun args h => by
 show spec4 134 args h = _
 unfold spec4
 rw [if_neg (by decide), if_pos rfl]⟩
theorem told70_4 : ∀ args h, K4.spec 70 args h = none := fun args h => by
 show spec4 70 args h = _
 unfold spec4
 rw [if_neg (by decide), if_neg (by decide), if_neg (by decide)]
 rfl
end Go.CP.Ax
