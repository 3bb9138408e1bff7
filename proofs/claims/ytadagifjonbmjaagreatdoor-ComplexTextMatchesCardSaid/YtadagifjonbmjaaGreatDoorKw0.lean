import Derived.Test.YtadagifjonbmjaaGreatDoorKq0
import Derived.Test.YtadagifjonbmjaaGreatDoorProg
set_option linter.all false
set_option maxHeartbeats 2000000
namespace Go.CP
open Go.Proofs
abbrev eN [LG] [HK] (K : Ctx) (p : List Nat) := Runs K 15 49 none (aG p (aq Tryz.f15))
abbrev qD [LG] [HK] (K : Ctx) (p : List Nat) := Runs K 16 21 none (aG p (aq Tryz.f16))
abbrev bH [LG] [HK] (K : Ctx) (p : List Nat) := Runs K 26 74 none (aG p (aq Tryz.f26))
abbrev mr [LG] [HK] (K : Ctx) (p : List Nat) := Runs K 28 20 none (aG p (aq Tryz.f28))
abbrev jx [LG] [HK] (K : Ctx) (p : List Nat) := Runs K 38 40 none (aG p (aq Tryz.f38))
abbrev fG [LG] [HK] (K : Ctx) (p : List Nat) := Runs K 55 52 none (aG p (aq Tryz.f55))
abbrev fV [LG] [HK] (K : Ctx) (p : List Nat) := Runs K 56 31 none (aG p (aq Tryz.f56))
abbrev fH [LG] [HK] (K : Ctx) (p : List Nat) := Runs K 66 26 none (aG p (aq Tryz.f66))
abbrev Jh [LG] [HK] (K : Ctx) (p : List Nat) := Runs K 69 8 none (aG p (aq Tryz.f69))
abbrev mt [LG] [HK] (K : Ctx) (p : List Nat) := Runs K 71 18 none (aG p (aq Tryz.f71))
abbrev gj [LG] [HK] (K : Ctx) (p : List Nat) := Runs K 73 28 none (aG p (aq Tryz.f73))
abbrev xT [LG] [HK] (K : Ctx) (p : List Nat) := Runs K 74 17 none (aG p (aq Tryz.f74))
abbrev eQ [LG] [HK] (K : Ctx) (p : List Nat) := Runs K 85 54 none (aG p (aq Tryz.f85))
abbrev eD [LG] [HK] (K : Ctx) (p : List Nat) := Runs K 98 48 none (aG p (aq Tryz.f98))
abbrev io [LG] [HK] (K : Ctx) (p : List Nat) := Runs K 104 18 none (aG p (aq Tryz.f104))
abbrev dv [LG] [HK] (K : Ctx) (p : List Nat) := Runs K 105 36 none (aG p (aq Tryz.f105))
abbrev jk [LG] [HK] (K : Ctx) (p : List Nat) := Runs K 110 14 none (aG p (aq Tryz.f110))
abbrev HC [LG] [HK] (K : Ctx) (p : List Nat) := Runs K 113 9 none (aG p (aq Tryz.f113))
abbrev MT [LG] [HK] (K : Ctx) (p : List Nat) := Runs K 117 15 none (aG p (aq Tryz.f117))
abbrev HD [LG] [HK] (K : Ctx) (p : List Nat) := Runs K 138 9 none (aG p (aq Tryz.f138))
abbrev fX [LG] [HK] (K : Ctx) (p : List Nat) := Runs K 166 19 none (aG p (aq Tryz.f166))
abbrev ip [LG] [HK] (K : Ctx) (p : List Nat) := Runs K 118 20 none (aG p (aq Tryz.f118))
abbrev fa [LG] [HK] (K : Ctx) (p : List Nat) := Runs K 119 36 none (aG p (aq Tryz.f119))
abbrev xU [LG] [HK] (K : Ctx) (p : List Nat) := Runs K 139 9 none (aG p (aq Tryz.f139))
abbrev gA [LG] [HK] (K : Ctx) (p : List Nat) := Runs K 141 19 none (aG p (aq Tryz.f141))
abbrev HE [LG] [HK] (K : Ctx) (p : List Nat) := Runs K 144 6 none (aG p (aq Tryz.f144))
variable [LG] [HK] {K : Ctx} {s : Fr} {h : Hp} (hk : ∀ o, HK.keep o = false)
include hk
theorem MU : eN K [0] s h .normal (W s 8 .nils) h :=
 rg (Ra (v := .nils) rfl rfl rfl (RunL.nil))
theorem MV : eN K [1, 0] s h .normal (W s 9 .nils) h :=
 rg (Ra (v := .nils) rfl rfl rfl (RunL.nil))
theorem MW : eN K [1, 1, 0, 0] s h .normal (W s 10 n0) h :=
 rg (Ra (v := n0) rfl rfl rfl (RunL.nil))
theorem xV {v10 v0 r16 v1 r21 r22 : CV} (i10 : s.at 10 = v10) (i0 : s.at 0 = v0) (i1 : s.at 1 = v1) (o16 : aj h v0 (ae K.P 26) = some r16) (o17 : ab K.P .lss 3 v10 r16 = some tt) (o21 : ab K.P .lss 3 v10 v1 = some r21) (o22 : ap r21 ff tt = some r22) : eN K [1, 1, 0, 1, 0, 0, 0, 0] s h .normal (W (W8 s 14 v10 15 v0 16 r16 17 tt 18 tt 19 v10 20 v1 21 r21) 22 r22) h :=
 rg (Rm rfl rfl i10 (Rm rfl rfl i0 (R1 (v := r16) rfl (aH rfl rfl rfl rfl rfl o16) (Rb rfl rfl rfl rfl o17 (Rm (v := tt) rfl rfl rfl (Rm rfl rfl i10 (Rm rfl rfl i1 (Rb rfl rfl rfl rfl o21 (R1 (v := r22) rfl (aL rfl rfl rfl rfl o22) (RunL.nil))))))))))
theorem HF {v10 v0 r16 r22 : CV} (i10 : s.at 10 = v10) (i0 : s.at 0 = v0) (o16 : aj h v0 (ae K.P 26) = some r16) (o17 : ab K.P .lss 3 v10 r16 = some ff) (o22 : ap .skp ff ff = some r22) : eN K [1, 1, 0, 1, 0, 0, 0, 0] s h .normal (W (W8 s 14 v10 15 v0 16 r16 17 ff 18 ff 19 .skp 20 .skp 21 .skp) 22 r22) h :=
 rg (Rm rfl rfl i10 (Rm rfl rfl i0 (R1 (v := r16) rfl (aH rfl rfl rfl rfl rfl o16) (Rb rfl rfl rfl rfl o17 (Rm (v := ff) rfl rfl rfl (RunL.pass rfl (RunL.pass rfl (RunL.pass rfl (R1 (v := r22) rfl (aL rfl rfl rfl rfl o22) (RunL.nil))))))))))
theorem MX {v9 v0 v10 r28 r29 v2 r31 v3 r33 r35 : CV} {F34 : Nat → CV} {B34 : HB} {g1 g2 : Hp} (i9 : s.at 9 = v9) (i0 : s.at 0 = v0) (i10 : s.at 10 = v10) (i2 : s.at 2 = v2) (i3 : s.at 3 = v3) (o28 : af v0 v10 (ae K.P 26) = some r28) (o29 : al h r28 (ar K.P 45) = some r29) (o31 : ab K.P .add 3 v2 (.nu .i64 1) = some r31) (pg1 : K.prim 55 [r29, r31, v3] = none) (wg1 : Comes K 55 [r29, r31, v3] h r33 g1) (o34 : aM 1 [(0, r33)] (ae K.P 26) = some (F34, B34)) (wg2 : aT (g1.push B34) v9 (F34 (g1).n) (ae K.P 26) (ae K.P 26) = some (r35, g2)) : eN K [1, 1, 0, 1, 0, 0, 1, 0, 0] s h .normal (W4 (W8 s 25 v9 26 v0 27 v10 28 r28 29 r29 30 v2 31 r31 32 v3) 33 r33 34 (F34 (g1).n) 35 r35 9 r35) g2 :=
 rg (Rm rfl rfl i9 (Rm rfl rfl i0 (Rm rfl rfl i10 (R1 (v := r28) rfl (ba rfl rfl rfl o28) (R1 (v := r29) rfl (aI rfl rfl o29) (Rm rfl rfl i2 (Rb rfl rfl rfl rfl o31 (Rm rfl rfl i3 (RunL.call (v := r33) rfl rfl rfl rfl rfl pg1 wg1 (RunL.op (v := (F34 (g1).n)) rfl (bE rfl rfl o34) (RunL.op (v := r35) rfl (cj hk rfl rfl rfl rfl rfl rfl wg2) (Ra (v := r35) rfl rfl rfl (RunL.nil)))))))))))))
theorem MY {v10 r24 : CV} (i10 : s.at 10 = v10) (o24 : ab K.P .add 3 v10 (.nu .i64 1) = some r24) : eN K [1, 1, 0, 1, 0, 0, 1, 1] s h .normal (W (W (W s 23 v10) 24 r24) 10 r24) h :=
 rg (Rm rfl rfl i10 (Rb rfl rfl rfl rfl o24 (Ra (v := r24) rfl rfl rfl (RunL.nil))))
theorem MZ : eN K [1, 1, 1, 0] s h .normal (W s 11 .nils) h :=
 rg (Ra (v := .nils) rfl rfl rfl (RunL.nil))
theorem M6 {v9 r37 r38 : CV} {g1 : Hp} (i9 : s.at 9 = v9) (pg1 : K.prim 56 [v9] = none) (wg1 : Comes K 56 [v9] h r37 g1) (o38 : aj g1 r37 (ae K.P 26) = some r38) : eN K [1, 1, 1, 1, 0, 0] s h .normal (W4 s 36 v9 37 r37 38 r38 39 n0) g1 :=
 rg (Rm rfl rfl i9 (RunL.call (v := r37) rfl rfl rfl rfl rfl pg1 wg1 (R1 (v := r38) rfl (aH rfl rfl rfl rfl rfl o38) (Rm (v := n0) rfl rfl rfl (RunL.nil)))))
theorem DX {v39 v38 r40 : CV} (i39 : s.at 39 = v39) (i38 : s.at 38 = v38) (o40 : ab K.P .lss 3 v39 v38 = some r40) : eN K [1, 1, 1, 1, 0, 1, 0, 0, 0] s h .normal (W s 40 r40) h :=
 rg (Rb rfl rfl i39 i38 o40 (RunL.nil))
theorem M7 {v37 v39 r41 r42 : CV} (i37 : s.at 37 = v37) (i39 : s.at 39 = v39) (o41 : af v37 v39 (ae K.P 26) = some r41) (o42 : al h r41 (ar K.P 45) = some r42) : eN K [1, 1, 1, 1, 0, 1, 0, 0, 1, 1, 0, 0, 0] s h .normal (W (W (W s 41 r41) 42 r42) 13 r42) h :=
 rg (R1 (v := r41) rfl (ba rfl i37 i39 o41) (R1 (v := r42) rfl (aI rfl rfl o42) (Ra (v := r42) rfl rfl rfl (RunL.nil))))
theorem JQ {v11 v13 r46 : CV} {F45 : Nat → CV} {B45 : HB} {g1 : Hp} (i11 : s.at 11 = v11) (i13 : s.at 13 = v13) (o45 : aM 1 [(0, v13)] (ae K.P 22) = some (F45, B45)) (wg1 : aT (h.push B45) v11 (F45 (h).n) (ae K.P 22) (ae K.P 22) = some (r46, g1)) : eN K [1, 1, 1, 1, 0, 1, 0, 0, 1, 1, 0, 0, 1] s h .normal (W (W4 s 43 v11 44 v13 45 (F45 (h).n) 46 r46) 11 r46) g1 :=
 rg (Rm rfl rfl i11 (Rm rfl rfl i13 (RunL.op (v := (F45 (h).n)) rfl (bE rfl rfl o45) (RunL.op (v := r46) rfl (cj hk rfl rfl rfl rfl rfl rfl wg1) (Ra (v := r46) rfl rfl rfl (RunL.nil))))))
theorem JR {v39 r47 : CV} (i39 : s.at 39 = v39) (o47 : ab K.P .add 3 v39 (.nu .i64 1) = some r47) : eN K [1, 1, 1, 1, 0, 1, 0, 0, 1, 1, 1] s h .normal (W (W s 47 r47) 39 r47) h :=
 rg (Rb rfl rfl i39 rfl o47 (Rm (v := r47) rfl rfl rfl (RunL.nil)))
theorem JS {v11 : CV} (i11 : s.at 11 = v11) : eN K [1, 1, 1, 1, 1, 0] s h .normal (W (W s 48 v11) 8 v11) h :=
 rg (Rm rfl rfl i11 (Ra (v := v11) rfl rfl rfl (RunL.nil)))
theorem M8 : qD K [0] s h .normal (W s 2 .nils) h :=
 rg (Ra (v := .nils) rfl rfl rfl (RunL.nil))
theorem M9 : qD K [1, 0] s h .normal (W s 3 .nils) h :=
 rg (Ra (v := .nils) rfl rfl rfl (RunL.nil))
theorem Na : qD K [1, 1, 0, 0] s h .normal (W s 4 n0) h :=
 rg (Ra (v := n0) rfl rfl rfl (RunL.nil))
theorem DY {v4 v0 r7 r8 : CV} (i4 : s.at 4 = v4) (i0 : s.at 0 = v0) (o7 : aj h v0 (ae K.P 22) = some r7) (o8 : ab K.P .lss 3 v4 r7 = some r8) : qD K [1, 1, 0, 1, 0, 0, 0, 0] s h .normal (W4 s 5 v4 6 v0 7 r7 8 r8) h :=
 rg (Rm rfl rfl i4 (Rm rfl rfl i0 (R1 (v := r7) rfl (aH rfl rfl rfl rfl rfl o7) (Rb rfl rfl rfl rfl o8 (RunL.nil)))))
theorem Nc {v3 v0 v4 r15 r16 r17 r19 : CV} {F12 F18 : Nat → CV} {B12 B18 : HB} {g1 g2 : Hp} (i3 : s.at 3 = v3) (i0 : s.at 0 = v0) (i4 : s.at 4 = v4) (o12 : aM 0 [] (ae K.P 45) = some (F12, B12)) (o15 : af v0 v4 (ae K.P 22) = some r15) (o16 : al (h.push B12) r15 (ar K.P 46) = some r16) (wg1 : aT (h.push B12) (F12 (h).n) r16 (ae K.P 45) (ae K.P 46) = some (r17, g1)) (o18 : aM 1 [(0, r17)] (ae K.P 26) = some (F18, B18)) (wg2 : aT (g1.push B18) v3 (F18 (g1).n) (ae K.P 26) (ae K.P 26) = some (r19, g2)) : qD K [1, 1, 0, 1, 0, 0, 1, 0, 0] s h .normal (W (W (W8 s 11 v3 12 (F12 (h).n) 13 v0 14 v4 15 r15 16 r16 17 r17 18 (F18 (g1).n)) 19 r19) 3 r19) g2 :=
 rg (Rm rfl rfl i3 (RunL.op (v := (F12 (h).n)) rfl (bE rfl rfl o12) (Rm rfl rfl i0 (Rm rfl rfl i4 (R1 (v := r15) rfl (ba rfl rfl rfl o15) (R1 (v := r16) rfl (aI rfl rfl o16) (RunL.op (v := r17) rfl (cj hk rfl rfl rfl rfl rfl rfl wg1) (RunL.op (v := (F18 (g1).n)) rfl (bE rfl rfl o18) (RunL.op (v := r19) rfl (cj hk rfl rfl rfl rfl rfl rfl wg2) (Ra (v := r19) rfl rfl rfl (RunL.nil)))))))))))
theorem Nd {v4 r10 : CV} (i4 : s.at 4 = v4) (o10 : ab K.P .add 3 v4 (.nu .i64 1) = some r10) : qD K [1, 1, 0, 1, 0, 0, 1, 1] s h .normal (W (W (W s 9 v4) 10 r10) 4 r10) h :=
 rg (Rm rfl rfl i4 (Rb rfl rfl rfl rfl o10 (Ra (v := r10) rfl rfl rfl (RunL.nil))))
theorem Ng {v3 : CV} (i3 : s.at 3 = v3) : qD K [1, 1, 1, 0] s h .normal (W (W s 20 v3) 2 v3) h :=
 rg (Rm rfl rfl i3 (Ra (v := v3) rfl rfl rfl (RunL.nil)))
theorem xW : bH K [0] s h .normal (W s 2 n0) h :=
 rg (Ra (v := n0) rfl rfl rfl (RunL.nil))
theorem DZ {v0 r14 r15 : CV} (i0 : s.at 0 = v0) (o14 : aj h v0 (ae K.P 22) = some r14) (o15 : ab K.P .gtr 3 r14 (.nu .i64 1024) = some r15) : bH K [1, 0, 0] s h .normal (W (W (W s 13 v0) 14 r14) 15 r15) h :=
 rg (Rm rfl rfl i0 (R1 (v := r14) rfl (aH rfl rfl rfl rfl rfl o14) (Rb rfl rfl rfl rfl o15 (RunL.nil))))
theorem Nh : bH K [1, 0, 1, 0, 0] s h .normal (W s 2 (.nu .i64 3)) h :=
 rg (Ra (v := (.nu .i64 3)) rfl rfl rfl (RunL.nil))
theorem D0 : bH K [1, 1, 0] s h .normal (W (W s 16 (.mp (h).n)) 3 (.mp (h).n)) (h.push (.mp [])) :=
 rg (RunL.op (v := (.mp (h).n)) rfl (Je rfl) (Ra (v := (.mp (h).n)) rfl rfl rfl (RunL.nil)))
theorem Ni {v0 r18 : CV} (i0 : s.at 0 = v0) (o18 : aj h v0 (ae K.P 22) = some r18) : bH K [1, 1, 1, 0, 0] s h .normal (W (W (W s 17 v0) 18 r18) 19 n0) h :=
 rg (Rm rfl rfl i0 (R1 (v := r18) rfl (aH rfl rfl rfl rfl rfl o18) (Rm (v := n0) rfl rfl rfl (RunL.nil))))
theorem xX {v19 v18 r20 : CV} (i19 : s.at 19 = v19) (i18 : s.at 18 = v18) (o20 : ab K.P .lss 3 v19 v18 = some r20) : bH K [1, 1, 1, 0, 1, 0, 0, 0] s h .normal (W s 20 r20) h :=
 rg (Rb rfl rfl i19 i18 o20 (RunL.nil))
theorem D1 {v17 v19 r21 r22 : CV} (i17 : s.at 17 = v17) (i19 : s.at 19 = v19) (o21 : af v17 v19 (ae K.P 22) = some r21) (o22 : al h r21 (ar K.P 46) = some r22) : bH K [1, 1, 1, 0, 1, 0, 0, 1, 1, 0, 0, 0] s h .normal (W (W (W s 21 r21) 22 r22) 5 r22) h :=
 rg (R1 (v := r21) rfl (ba rfl i17 i19 o21) (R1 (v := r22) rfl (aI rfl rfl o22) (Ra (v := r22) rfl rfl rfl (RunL.nil))))
theorem D2 {v5 r24 r25 : CV} {g1 : Hp} (i5 : s.at 5 = v5) (pg1 : K.prim 66 [v5] = none) (wg1 : Comes K 66 [v5] h r24 g1) (o25 : ab K.P .eql 29 r24 n0 = some r25) : bH K [1, 1, 1, 0, 1, 0, 0, 1, 1, 0, 0, 1, 0] s h .normal (W (W (W s 23 v5) 24 r24) 25 r25) g1 :=
 rg (Rm rfl rfl i5 (RunL.call (v := r24) rfl rfl rfl rfl rfl pg1 wg1 (Rb rfl rfl rfl rfl o25 (RunL.nil))))
theorem Nj {v3 v5 r28 : CV} {g1 g2 : Hp} (i3 : s.at 3 = v3) (i5 : s.at 5 = v5) (pg1 : K.prim 71 [v5] = none) (wg1 : Comes K 71 [v5] h r28 g1) (wg2 : jh K.P g1 v3 r28 v5 (ae K.P 100) = some (.undef, g2)) : bH K [1, 1, 1, 0, 1, 0, 0, 1, 1, 0, 0, 1, 1, 0] s h .normal (W4 s 26 v3 27 v5 28 r28 29 v5) g2 :=
 rg (Rm rfl rfl i3 (Rm rfl rfl i5 (RunL.call (v := r28) rfl rfl rfl rfl rfl pg1 wg1 (Rm rfl rfl i5 (RunL.op (v := .undef) rfl (Jf rfl rfl rfl rfl wg2) (RunL.nil))))))
theorem D3 {v19 r30 : CV} (i19 : s.at 19 = v19) (o30 : ab K.P .add 3 v19 (.nu .i64 1) = some r30) : bH K [1, 1, 1, 0, 1, 0, 0, 1, 1, 1] s h .normal (W (W s 30 r30) 19 r30) h :=
 rg (Rb rfl rfl i19 rfl o30 (Rm (v := r30) rfl rfl rfl (RunL.nil)))
theorem JT {v0 r32 : CV} (i0 : s.at 0 = v0) (o32 : aj h v0 (ae K.P 22) = some r32) : bH K [1, 1, 1, 1, 0, 0] s h .normal (W (W (W s 31 v0) 32 r32) 33 n0) h :=
 rg (Rm rfl rfl i0 (R1 (v := r32) rfl (aH rfl rfl rfl rfl rfl o32) (Rm (v := n0) rfl rfl rfl (RunL.nil))))
theorem Az {v33 v32 r34 : CV} (i33 : s.at 33 = v33) (i32 : s.at 32 = v32) (o34 : ab K.P .lss 3 v33 v32 = some r34) : bH K [1, 1, 1, 1, 0, 1, 0, 0, 0] s h .normal (W s 34 r34) h :=
 rg (Rb rfl rfl i33 i32 o34 (RunL.nil))
theorem JU {v33 v31 r36 r37 : CV} (i33 : s.at 33 = v33) (i31 : s.at 31 = v31) (o36 : af v31 v33 (ae K.P 22) = some r36) (o37 : al h r36 (ar K.P 46) = some r37) : bH K [1, 1, 1, 1, 0, 1, 0, 0, 1, 1, 0, 0, 0] s h .normal (W (W4 s 35 v33 36 r36 37 r37 6 v33) 7 r37) h :=
 rg (Rm rfl rfl i33 (R1 (v := r36) rfl (ba rfl i31 i33 o36) (R1 (v := r37) rfl (aI rfl rfl o37) (Ra (v := v33) rfl rfl rfl (Ra (v := r37) rfl rfl rfl (RunL.nil))))))
theorem AA {v7 r40 r41 r42 : CV} {g1 : Hp} (i7 : s.at 7 = v7) (pg1 : K.prim 73 [v7] = none) (wg1 : Comes K 73 [v7] h r40 g1) (o41 : aF 0 r40 = some r41) (o42 : aF 1 r40 = some r42) : bH K [1, 1, 1, 1, 0, 1, 0, 0, 1, 1, 0, 0, 1, 0] s h .normal (W (W (W (W4 s 39 v7 40 r40 38 r40 41 r41) 42 r42) 8 r41) 9 r42) g1 :=
 rg (Rm rfl rfl i7 (RunL.call (v := r40) rfl rfl rfl rfl rfl pg1 wg1 (Rm (v := r40) rfl rfl rfl (R1 (v := r41) rfl (bb rfl rfl o41) (R1 (v := r42) rfl (bb rfl rfl o42) (Ra (v := r41) rfl rfl rfl (Ra (v := r42) rfl rfl rfl (RunL.nil))))))))
theorem AB {v9 r44 : CV} (i9 : s.at 9 = v9) (o44 : ab K.P .neq 29 v9 n0 = some r44) : bH K [1, 1, 1, 1, 0, 1, 0, 0, 1, 1, 0, 0, 1, 1, 0, 0] s h .normal (W (W s 43 v9) 44 r44) h :=
 rg (Rm rfl rfl i9 (Rb rfl rfl rfl rfl o44 (RunL.nil)))
theorem JV {v9 : CV} (i9 : s.at 9 = v9) : bH K [1, 1, 1, 1, 0, 1, 0, 0, 1, 1, 0, 0, 1, 1, 0, 1, 0, 0] s h .normal (W (W s 45 v9) 2 v9) h :=
 rg (Rm rfl rfl i9 (Ra (v := v9) rfl rfl rfl (RunL.nil)))
theorem p2 {v6 r47 : CV} (i6 : s.at 6 = v6) (o47 : ab K.P .gtr 3 v6 n0 = some r47) : bH K [1, 1, 1, 1, 0, 1, 0, 0, 1, 1, 0, 0, 1, 1, 1, 0, 0] s h .normal (W (W s 46 v6) 47 r47) h :=
 rg (Rm rfl rfl i6 (Rb rfl rfl rfl rfl o47 (RunL.nil)))
theorem tM {v7 v0 v6 r51 r52 r53 r54 : CV} {g1 : Hp} (i7 : s.at 7 = v7) (i0 : s.at 0 = v0) (i6 : s.at 6 = v6) (o51 : ab K.P .sub 3 v6 (.nu .i64 1) = some r51) (o52 : af v0 r51 (ae K.P 22) = some r52) (o53 : al h r52 (ar K.P 46) = some r53) (pg1 : K.prim 74 [v7, r53] = none) (wg1 : Comes K 74 [v7, r53] h r54 g1) : bH K [1, 1, 1, 1, 0, 1, 0, 0, 1, 1, 0, 0, 1, 1, 1, 0, 1, 0, 0] s h .normal (W8 s 48 v7 49 v0 50 v6 51 r51 52 r52 53 r53 54 r54 10 r54) g1 :=
 rg (Rm rfl rfl i7 (Rm rfl rfl i0 (Rm rfl rfl i6 (Rb rfl rfl rfl rfl o51 (R1 (v := r52) rfl (ba rfl rfl rfl o52) (R1 (v := r53) rfl (aI rfl rfl o53) (RunL.call (v := r54) rfl rfl rfl rfl rfl pg1 wg1 (Ra (v := r54) rfl rfl rfl (RunL.nil)))))))))
theorem tN {v10 r57 : CV} (i10 : s.at 10 = v10) (o57 : ab K.P .eql 3 v10 n0 = some r57) : bH K [1, 1, 1, 1, 0, 1, 0, 0, 1, 1, 0, 0, 1, 1, 1, 0, 1, 0, 1, 0, 0] s h .normal (W (W (W s 56 v10) 57 r57) 55 r57) h :=
 rg (Rm rfl rfl i10 (Rb rfl rfl rfl rfl o57 (Ra (v := r57) rfl rfl rfl (RunL.nil))))
theorem JW : bH K [1, 1, 1, 1, 0, 1, 0, 0, 1, 1, 0, 0, 1, 1, 1, 0, 1, 0, 1, 0, 1, 0, 0] s h .normal (W s 2 (.nu .i64 5)) h :=
 rg (Ra (v := (.nu .i64 5)) rfl rfl rfl (RunL.nil))
theorem AC {v10 r60 : CV} (i10 : s.at 10 = v10) (o60 : ab K.P .lss 3 v10 n0 = some r60) : bH K [1, 1, 1, 1, 0, 1, 0, 0, 1, 1, 0, 0, 1, 1, 1, 0, 1, 0, 1, 0, 1, 1, 0] s h .normal (W (W (W s 59 v10) 60 r60) 58 r60) h :=
 rg (Rm rfl rfl i10 (Rb rfl rfl rfl rfl o60 (Ra (v := r60) rfl rfl rfl (RunL.nil))))
theorem JX : bH K [1, 1, 1, 1, 0, 1, 0, 0, 1, 1, 0, 0, 1, 1, 1, 0, 1, 0, 1, 0, 1, 1, 1, 0, 0] s h .normal (W s 2 (.nu .i64 6)) h :=
 rg (Ra (v := (.nu .i64 6)) rfl rfl rfl (RunL.nil))
theorem JY {v8 r62 : CV} (i8 : s.at 8 = v8) (o62 : aj h v8 (ae K.P 22) = some r62) : bH K [1, 1, 1, 1, 0, 1, 0, 0, 1, 1, 0, 0, 1, 1, 1, 1, 0] s h .normal (W (W (W s 61 v8) 62 r62) 63 n0) h :=
 rg (Rm rfl rfl i8 (R1 (v := r62) rfl (aH rfl rfl rfl rfl rfl o62) (Rm (v := n0) rfl rfl rfl (RunL.nil))))
theorem tO {v63 v62 r64 : CV} (i63 : s.at 63 = v63) (i62 : s.at 62 = v62) (o64 : ab K.P .lss 3 v63 v62 = some r64) : bH K [1, 1, 1, 1, 0, 1, 0, 0, 1, 1, 0, 0, 1, 1, 1, 1, 1, 0, 0, 0] s h .normal (W s 64 r64) h :=
 rg (Rb rfl rfl i63 i62 o64 (RunL.nil))
theorem AD {v61 v63 r65 r66 : CV} (i61 : s.at 61 = v61) (i63 : s.at 63 = v63) (o65 : af v61 v63 (ae K.P 22) = some r65) (o66 : al h r65 (ar K.P 46) = some r66) : bH K [1, 1, 1, 1, 0, 1, 0, 0, 1, 1, 0, 0, 1, 1, 1, 1, 1, 0, 0, 1, 1, 0, 0, 0] s h .normal (W (W (W s 65 r65) 66 r66) 12 r66) h :=
 rg (R1 (v := r65) rfl (ba rfl i61 i63 o65) (R1 (v := r66) rfl (aI rfl rfl o66) (Ra (v := r66) rfl rfl rfl (RunL.nil))))
theorem AE {v3 v12 r69 r70 r71 : CV} {g1 : Hp} (i3 : s.at 3 = v3) (i12 : s.at 12 = v12) (pg1 : K.prim 71 [v12] = none) (wg1 : Comes K 71 [v12] h r69 g1) (o70 : eI K.P g1 false r69 v3 (ae K.P 100) = some r70) (o71 : ab K.P .eql 46 r70 .nils = some r71) : bH K [1, 1, 1, 1, 0, 1, 0, 0, 1, 1, 0, 0, 1, 1, 1, 1, 1, 0, 0, 1, 1, 0, 0, 1, 0] s h .normal (W (W4 s 67 v3 68 v12 69 r69 70 r70) 71 r71) g1 :=
 rg (Rm rfl rfl i3 (Rm rfl rfl i12 (RunL.call (v := r69) rfl rfl rfl rfl rfl pg1 wg1 (R1 (v := r70) rfl (Hz rfl rfl rfl o70) (Rb rfl rfl rfl rfl o71 (RunL.nil))))))
theorem JZ : bH K [1, 1, 1, 1, 0, 1, 0, 0, 1, 1, 0, 0, 1, 1, 1, 1, 1, 0, 0, 1, 1, 0, 0, 1, 1, 0, 0] s h .normal (W s 2 (.nu .i64 7)) h :=
 rg (Ra (v := (.nu .i64 7)) rfl rfl rfl (RunL.nil))
theorem J0 {v63 r72 : CV} (i63 : s.at 63 = v63) (o72 : ab K.P .add 3 v63 (.nu .i64 1) = some r72) : bH K [1, 1, 1, 1, 0, 1, 0, 0, 1, 1, 0, 0, 1, 1, 1, 1, 1, 0, 0, 1, 1, 1] s h .normal (W (W s 72 r72) 63 r72) h :=
 rg (Rb rfl rfl i63 rfl o72 (Rm (v := r72) rfl rfl rfl (RunL.nil)))
theorem J1 {v33 r73 : CV} (i33 : s.at 33 = v33) (o73 : ab K.P .add 3 v33 (.nu .i64 1) = some r73) : bH K [1, 1, 1, 1, 0, 1, 0, 0, 1, 1, 1] s h .normal (W (W s 73 r73) 33 r73) h :=
 rg (Rb rfl rfl i33 rfl o73 (Rm (v := r73) rfl rfl rfl (RunL.nil)))
theorem J2 : bH K [1, 1, 1, 1, 1, 0] s h .normal (W s 2 n0) h :=
 rg (Ra (v := n0) rfl rfl rfl (RunL.nil))
theorem D4 : mr K [0] s h .normal (W s 4 n0) h :=
 rg (Ra (v := n0) rfl rfl rfl (RunL.nil))
theorem D5 : mr K [1, 0, 0] s h .normal (W s 5 n0) h :=
 rg (Ra (v := n0) rfl rfl rfl (RunL.nil))
theorem xY {v5 v0 r8 r9 : CV} (i5 : s.at 5 = v5) (i0 : s.at 0 = v0) (o8 : aj h v0 (ae K.P 26) = some r8) (o9 : ab K.P .lss 3 v5 r8 = some r9) : mr K [1, 0, 1, 0, 0, 0, 0] s h .normal (W4 s 6 v5 7 v0 8 r8 9 r9) h :=
 rg (Rm rfl rfl i5 (Rm rfl rfl i0 (R1 (v := r8) rfl (aH rfl rfl rfl rfl rfl o8) (Rb rfl rfl rfl rfl o9 (RunL.nil)))))
theorem D6 {v0 v5 r14 r15 v1 r17 r18 : CV} {g1 : Hp} (i0 : s.at 0 = v0) (i5 : s.at 5 = v5) (i1 : s.at 1 = v1) (o14 : af v0 v5 (ae K.P 26) = some r14) (o15 : al h r14 (ar K.P 45) = some r15) (pg1 : K.prim 38 [r15, v1] = none) (wg1 : Comes K 38 [r15, v1] h r17 g1) (o18 : ab K.P .eql 3 r17 n0 = some r18) : mr K [1, 0, 1, 0, 0, 1, 0, 0, 0] s h .normal (W (W (W (W4 s 12 v0 13 v5 14 r14 15 r15) 16 v1) 17 r17) 18 r18) g1 :=
 rg (Rm rfl rfl i0 (Rm rfl rfl i5 (R1 (v := r14) rfl (ba rfl rfl rfl o14) (R1 (v := r15) rfl (aI rfl rfl o15) (Rm rfl rfl i1 (RunL.call (v := r17) rfl rfl rfl rfl rfl pg1 wg1 (Rb rfl rfl rfl rfl o18 (RunL.nil))))))))
theorem Nk {v5 : CV} (i5 : s.at 5 = v5) : mr K [1, 0, 1, 0, 0, 1, 0, 0, 1, 0, 0] s h .normal (W (W s 19 v5) 4 v5) h :=
 rg (Rm rfl rfl i5 (Ra (v := v5) rfl rfl rfl (RunL.nil)))
theorem Nl {v5 r11 : CV} (i5 : s.at 5 = v5) (o11 : ab K.P .add 3 v5 (.nu .i64 1) = some r11) : mr K [1, 0, 1, 0, 0, 1, 1] s h .normal (W (W (W s 10 v5) 11 r11) 5 r11) h :=
 rg (Rm rfl rfl i5 (Rb rfl rfl rfl rfl o11 (Ra (v := r11) rfl rfl rfl (RunL.nil))))
theorem Nm : mr K [1, 1, 0] s h .normal (W s 4 (.nu .i64 (-1))) h :=
 rg (Ra (v := (.nu .i64 (-1))) rfl rfl rfl (RunL.nil))
theorem sr : jx K [0] s h .normal (W s 4 n0) h :=
 rg (Ra (v := n0) rfl rfl rfl (RunL.nil))
theorem xZ {v0 r7 v1 r9 r10 : CV} (i0 : s.at 0 = v0) (i1 : s.at 1 = v1) (o7 : aj h v0 (ae K.P 45) = some r7) (o9 : aj h v1 (ae K.P 45) = some r9) (o10 : ab K.P .neq 3 r7 r9 = some r10) : jx K [1, 0, 0] s h .normal (W (W4 s 6 v0 7 r7 8 v1 9 r9) 10 r10) h :=
 rg (Rm rfl rfl i0 (R1 (v := r7) rfl (aH rfl rfl rfl rfl rfl o7) (Rm rfl rfl i1 (R1 (v := r9) rfl (aH rfl rfl rfl rfl rfl o9) (Rb rfl rfl rfl rfl o10 (RunL.nil))))))
theorem D7 {v0 r12 v1 r14 r15 : CV} (i0 : s.at 0 = v0) (i1 : s.at 1 = v1) (o12 : aj h v0 (ae K.P 45) = some r12) (o14 : aj h v1 (ae K.P 45) = some r14) (o15 : ab K.P .lss 3 r12 r14 = some r15) : jx K [1, 0, 1, 0, 0, 0] s h .normal (W (W4 s 11 v0 12 r12 13 v1 14 r14) 15 r15) h :=
 rg (Rm rfl rfl i0 (R1 (v := r12) rfl (aH rfl rfl rfl rfl rfl o12) (Rm rfl rfl i1 (R1 (v := r14) rfl (aH rfl rfl rfl rfl rfl o14) (Rb rfl rfl rfl rfl o15 (RunL.nil))))))
theorem Nn : jx K [1, 0, 1, 0, 0, 1, 0, 0] s h .normal (W s 4 (.nu .i64 (-1))) h :=
 rg (Ra (v := (.nu .i64 (-1))) rfl rfl rfl (RunL.nil))
theorem No : jx K [1, 0, 1, 0, 1, 0] s h .normal (W s 4 (.nu .i64 1)) h :=
 rg (Ra (v := (.nu .i64 1)) rfl rfl rfl (RunL.nil))
theorem D8 : jx K [1, 1, 0, 0] s h .normal (W s 5 n0) h :=
 rg (Ra (v := n0) rfl rfl rfl (RunL.nil))
theorem D9 {v5 v0 r18 r19 : CV} (i5 : s.at 5 = v5) (i0 : s.at 0 = v0) (o18 : aj h v0 (ae K.P 45) = some r18) (o19 : ab K.P .lss 3 v5 r18 = some r19) : jx K [1, 1, 0, 1, 0, 0, 0, 0] s h .normal (W4 s 16 v5 17 v0 18 r18 19 r19) h :=
 rg (Rm rfl rfl i5 (Rm rfl rfl i0 (R1 (v := r18) rfl (aH rfl rfl rfl rfl rfl o18) (Rb rfl rfl rfl rfl o19 (RunL.nil)))))
theorem Np {v0 v5 r24 r25 v1 r28 r29 r30 : CV} (hp : K.plan 38 8 = some [.t 0,.t 1,.t 2,.t 3,.t 4,.o 5 [4, 3, 2, 1, 0],.o 6 [3, 2, 1, 0],.o 7 [3, 2, 1, 0],.o 8 []]) (i0 : s.at 0 = v0) (i5 : s.at 5 = v5) (i1 : s.at 1 = v1) (o24 : af v0 v5 (ae K.P 45) = some r24) (o25 : al h r24 (ar K.P 3) = some r25) (q25 : ceq r25 r25 = true) (o28 : af v1 v5 (ae K.P 45) = some r28) (o29 : al h r28 (ar K.P 3) = some r29) (o30 : ab K.P .lss 3 r25 r29 = some r30) : jx K [1, 1, 0, 1, 0, 0, 1, 0, 0, 0, 0] s h .normal (W (W8 s 22 v0 23 v5 24 r24 25 r25 26 v1 27 v5 28 r28 29 r29) 30 r30) h :=
 Runs.drawn hp (RunP.q (v := v0) rfl rfl (aQ rfl i0) (RunP.q (v := v5) rfl rfl (aQ rfl i5) (RunP.q (v := r24) rfl rfl (ba rfl rfl rfl o24) (RunP.q (v := r25) rfl rfl (aI rfl rfl o25) (RunP.q (v := v1) rfl rfl (aQ rfl i1) (RunP.only (v := v5) rfl rfl (Q1.e (aQ rfl i5)) (by simp (decide := true) only [bF, bA, qX, ev, Fr.putO, aK, reduceIte, Nat.reduceEqDiff, List.filter_cons, List.filter_nil, List.any_cons, List.any_nil, List.all_cons, List.all_nil, List.getElem_toArray, List.getElem_cons_succ, List.getElem_cons_zero, Option.map_some, Option.map_none, aP, aY, Bool.and_true, Bool.true_and, Bool.and_self, i0, i5, i1, o24, o25, q25]) (RunP.only (v := r28) rfl rfl (Q1.e (ba rfl rfl rfl o28)) (by simp (decide := true) only [bF, bA, qX, ev, Fr.putO, aK, reduceIte, Nat.reduceEqDiff, List.filter_cons, List.filter_nil, List.any_cons, List.any_nil, List.all_cons, List.all_nil, List.getElem_toArray, List.getElem_cons_succ, List.getElem_cons_zero, Option.map_some, Option.map_none, aP, aY, Bool.and_true, Bool.true_and, Bool.and_self, i0, i5, i1, o24, o25, q25, o28]) (RunP.only (v := r29) rfl rfl (Q1.e (aI rfl rfl o29)) (by simp (decide := true) only [bF, bA, qX, ev, Fr.putO, aK, reduceIte, Nat.reduceEqDiff, List.filter_cons, List.filter_nil, List.any_cons, List.any_nil, List.all_cons, List.all_nil, List.getElem_toArray, List.getElem_cons_succ, List.getElem_cons_zero, Option.map_some, Option.map_none, aP, aY, Bool.and_true, Bool.true_and, Bool.and_self, i0, i5, i1, o24, o25, q25, o28, o29]) (RunP.only (v := r30) rfl rfl (Q1.e (cn rfl rfl rfl o30)) rfl (RunP.nil))))))))))
theorem Nq : jx K [1, 1, 0, 1, 0, 0, 1, 0, 0, 0, 1, 0, 0] s h .normal (W s 4 (.nu .i64 (-1))) h :=
 rg (Ra (v := (.nu .i64 (-1))) rfl rfl rfl (RunL.nil))
theorem J3 {v0 v5 r33 r34 v1 r37 r38 r39 : CV} (hp : K.plan 38 10 = some [.t 0,.t 1,.t 2,.t 3,.t 4,.o 5 [4, 3, 2, 1, 0],.o 6 [3, 2, 1, 0],.o 7 [3, 2, 1, 0],.o 8 []]) (i0 : s.at 0 = v0) (i5 : s.at 5 = v5) (i1 : s.at 1 = v1) (o33 : af v0 v5 (ae K.P 45) = some r33) (o34 : al h r33 (ar K.P 3) = some r34) (q34 : ceq r34 r34 = true) (o37 : af v1 v5 (ae K.P 45) = some r37) (o38 : al h r37 (ar K.P 3) = some r38) (o39 : ab K.P .gtr 3 r34 r38 = some r39) : jx K [1, 1, 0, 1, 0, 0, 1, 0, 0, 1, 0] s h .normal (W (W8 s 31 v0 32 v5 33 r33 34 r34 35 v1 36 v5 37 r37 38 r38) 39 r39) h :=
 Runs.drawn hp (RunP.q (v := v0) rfl rfl (aQ rfl i0) (RunP.q (v := v5) rfl rfl (aQ rfl i5) (RunP.q (v := r33) rfl rfl (ba rfl rfl rfl o33) (RunP.q (v := r34) rfl rfl (aI rfl rfl o34) (RunP.q (v := v1) rfl rfl (aQ rfl i1) (RunP.only (v := v5) rfl rfl (Q1.e (aQ rfl i5)) (by simp (decide := true) only [bF, bA, qX, ev, Fr.putO, aK, reduceIte, Nat.reduceEqDiff, List.filter_cons, List.filter_nil, List.any_cons, List.any_nil, List.all_cons, List.all_nil, List.getElem_toArray, List.getElem_cons_succ, List.getElem_cons_zero, Option.map_some, Option.map_none, aP, aY, Bool.and_true, Bool.true_and, Bool.and_self, i0, i5, i1, o33, o34, q34]) (RunP.only (v := r37) rfl rfl (Q1.e (ba rfl rfl rfl o37)) (by simp (decide := true) only [bF, bA, qX, ev, Fr.putO, aK, reduceIte, Nat.reduceEqDiff, List.filter_cons, List.filter_nil, List.any_cons, List.any_nil, List.all_cons, List.all_nil, List.getElem_toArray, List.getElem_cons_succ, List.getElem_cons_zero, Option.map_some, Option.map_none, aP, aY, Bool.and_true, Bool.true_and, Bool.and_self, i0, i5, i1, o33, o34, q34, o37]) (RunP.only (v := r38) rfl rfl (Q1.e (aI rfl rfl o38)) (by simp (decide := true) only [bF, bA, qX, ev, Fr.putO, aK, reduceIte, Nat.reduceEqDiff, List.filter_cons, List.filter_nil, List.any_cons, List.any_nil, List.all_cons, List.all_nil, List.getElem_toArray, List.getElem_cons_succ, List.getElem_cons_zero, Option.map_some, Option.map_none, aP, aY, Bool.and_true, Bool.true_and, Bool.and_self, i0, i5, i1, o33, o34, q34, o37, o38]) (RunP.only (v := r39) rfl rfl (Q1.e (cn rfl rfl rfl o39)) rfl (RunP.nil))))))))))
theorem J4 : jx K [1, 1, 0, 1, 0, 0, 1, 0, 0, 1, 1, 0, 0] s h .normal (W s 4 (.nu .i64 1)) h :=
 rg (Ra (v := (.nu .i64 1)) rfl rfl rfl (RunL.nil))
theorem Nr {v5 r21 : CV} (i5 : s.at 5 = v5) (o21 : ab K.P .add 3 v5 (.nu .i64 1) = some r21) : jx K [1, 1, 0, 1, 0, 0, 1, 1] s h .normal (W (W (W s 20 v5) 21 r21) 5 r21) h :=
 rg (Rm rfl rfl i5 (Rb rfl rfl rfl rfl o21 (Ra (v := r21) rfl rfl rfl (RunL.nil))))
theorem J5 : jx K [1, 1, 1, 0] s h .normal (W s 4 n0) h :=
 rg (Ra (v := n0) rfl rfl rfl (RunL.nil))
theorem Ns : fG K [0] s h .normal (W s 6 .nils) h :=
 rg (Ra (v := .nils) rfl rfl rfl (RunL.nil))
theorem Nt : fG K [1, 0] s h .normal (W s 7 .nils) h :=
 rg (Ra (v := .nils) rfl rfl rfl (RunL.nil))
theorem Ea : fG K [1, 1, 0, 0] s h .normal (W s 8 n0) h :=
 rg (Ra (v := n0) rfl rfl rfl (RunL.nil))
theorem qZ {v8 v0 r12 v7 r16 v1 r18 r19 : CV} (i8 : s.at 8 = v8) (i0 : s.at 0 = v0) (i7 : s.at 7 = v7) (i1 : s.at 1 = v1) (o12 : aj h v0 (ae K.P 45) = some r12) (o13 : ab K.P .lss 3 v8 r12 = some tt) (o16 : aj h v7 (ae K.P 45) = some r16) (o18 : ab K.P .lss 3 r16 v1 = some r18) (o19 : ap r18 ff tt = some r19) : fG K [1, 1, 0, 1, 0, 0, 0, 0] s h .normal (W (W (W8 s 10 v8 11 v0 12 r12 13 tt 14 tt 15 v7 16 r16 17 v1) 18 r18) 19 r19) h :=
 rg (Rm rfl rfl i8 (Rm rfl rfl i0 (R1 (v := r12) rfl (aH rfl rfl rfl rfl rfl o12) (Rb rfl rfl rfl rfl o13 (Rm (v := tt) rfl rfl rfl (Rm rfl rfl i7 (R1 (v := r16) rfl (aH rfl rfl rfl rfl rfl o16) (Rm rfl rfl i1 (Rb rfl rfl rfl rfl o18 (R1 (v := r19) rfl (aL rfl rfl rfl rfl o19) (RunL.nil)))))))))))
theorem HG {v8 v0 r12 r19 : CV} (i8 : s.at 8 = v8) (i0 : s.at 0 = v0) (o12 : aj h v0 (ae K.P 45) = some r12) (o13 : ab K.P .lss 3 v8 r12 = some ff) (o19 : ap .skp ff ff = some r19) : fG K [1, 1, 0, 1, 0, 0, 0, 0] s h .normal (W (W (W8 s 10 v8 11 v0 12 r12 13 ff 14 ff 15 .skp 16 .skp 17 .skp) 18 .skp) 19 r19) h :=
 rg (Rm rfl rfl i8 (Rm rfl rfl i0 (R1 (v := r12) rfl (aH rfl rfl rfl rfl rfl o12) (Rb rfl rfl rfl rfl o13 (Rm (v := ff) rfl rfl rfl (RunL.pass rfl (RunL.pass rfl (RunL.pass rfl (RunL.pass rfl (R1 (v := r19) rfl (aL rfl rfl rfl rfl o19) (RunL.nil)))))))))))
theorem Eb {v0 v8 r24 r25 v2 r27 r29 r31 : CV} (i0 : s.at 0 = v0) (i8 : s.at 8 = v8) (i2 : s.at 2 = v2) (o24 : af v0 v8 (ae K.P 45) = some r24) (o25 : al h r24 (ar K.P 3) = some r25) (o27 : ab K.P .rem 3 r25 v2 = some r27) (o29 : ab K.P .add 3 r27 v2 = some r29) (o31 : ab K.P .rem 3 r29 v2 = some r31) : fG K [1, 1, 0, 1, 0, 0, 1, 0, 0, 0] s h .normal (W (W (W (W8 s 22 v0 23 v8 24 r24 25 r25 26 v2 27 r27 28 v2 29 r29) 30 v2) 31 r31) 9 r31) h :=
 rg (Rm rfl rfl i0 (Rm rfl rfl i8 (R1 (v := r24) rfl (ba rfl rfl rfl o24) (R1 (v := r25) rfl (aI rfl rfl o25) (Rm rfl rfl i2 (Rb rfl rfl rfl rfl o27 (Rm rfl rfl i2 (Rb rfl rfl rfl rfl o29 (Rm rfl rfl i2 (Rb rfl rfl rfl rfl o31 (Ra (v := r31) rfl rfl rfl (RunL.nil))))))))))))
theorem Ec {v7 v9 r34 r35 : CV} {g1 : Hp} (i7 : s.at 7 = v7) (i9 : s.at 9 = v9) (pg1 : K.prim 104 [v7, v9] = none) (wg1 : Comes K 104 [v7, v9] h r34 g1) (o35 : dA .not r34 = some r35) : fG K [1, 1, 0, 1, 0, 0, 1, 0, 0, 1, 0] s h .normal (W4 s 32 v7 33 v9 34 r34 35 r35) g1 :=
 rg (Rm rfl rfl i7 (Rm rfl rfl i9 (RunL.call (v := r34) rfl rfl rfl rfl rfl pg1 wg1 (R1 (v := r35) rfl (ku rfl rfl o35) (RunL.nil)))))
theorem Nu {v7 v9 r39 : CV} {F38 : Nat → CV} {B38 : HB} {g1 : Hp} (i7 : s.at 7 = v7) (i9 : s.at 9 = v9) (o38 : aM 1 [(0, v9)] (ae K.P 45) = some (F38, B38)) (wg1 : aT (h.push B38) v7 (F38 (h).n) (ae K.P 45) (ae K.P 45) = some (r39, g1)) : fG K [1, 1, 0, 1, 0, 0, 1, 0, 0, 1, 1, 0] s h .normal (W (W4 s 36 v7 37 v9 38 (F38 (h).n) 39 r39) 7 r39) g1 :=
 rg (Rm rfl rfl i7 (Rm rfl rfl i9 (RunL.op (v := (F38 (h).n)) rfl (bE rfl rfl o38) (RunL.op (v := r39) rfl (cj hk rfl rfl rfl rfl rfl rfl wg1) (Ra (v := r39) rfl rfl rfl (RunL.nil))))))
theorem Ed {v8 r21 : CV} (i8 : s.at 8 = v8) (o21 : ab K.P .add 3 v8 (.nu .i64 1) = some r21) : fG K [1, 1, 0, 1, 0, 0, 1, 1] s h .normal (W (W (W s 20 v8) 21 r21) 8 r21) h :=
 rg (Rm rfl rfl i8 (Rb rfl rfl rfl rfl o21 (Ra (v := r21) rfl rfl rfl (RunL.nil))))
theorem Ee {v7 r41 r42 : CV} (i7 : s.at 7 = v7) (o41 : aj h v7 (ae K.P 45) = some r41) (o42 : ab K.P .eql 3 r41 n0 = some r42) : fG K [1, 1, 1, 0, 0] s h .normal (W (W (W s 40 v7) 41 r41) 42 r42) h :=
 rg (Rm rfl rfl i7 (R1 (v := r41) rfl (aH rfl rfl rfl rfl rfl o41) (Rb rfl rfl rfl rfl o42 (RunL.nil))))
theorem Nv {v7 r45 : CV} {F44 : Nat → CV} {B44 : HB} {g1 : Hp} (i7 : s.at 7 = v7) (o44 : aM 1 [(0, n0)] (ae K.P 45) = some (F44, B44)) (wg1 : aT (h.push B44) v7 (F44 (h).n) (ae K.P 45) (ae K.P 45) = some (r45, g1)) : fG K [1, 1, 1, 0, 1, 0] s h .normal (W4 s 43 v7 44 (F44 (h).n) 45 r45 7 r45) g1 :=
 rg (Rm rfl rfl i7 (RunL.op (v := (F44 (h).n)) rfl (bE rfl rfl o44) (RunL.op (v := r45) rfl (cj hk rfl rfl rfl rfl rfl rfl wg1) (Ra (v := r45) rfl rfl rfl (RunL.nil)))))
theorem AF {v7 r48 r49 r50 : CV} {g1 : Hp} (i7 : s.at 7 = v7) (pg1 : K.prim 85 [v7] = none) (wg1 : Comes K 85 [v7] h r48 g1) (o49 : aF 0 r48 = some r49) (o50 : aF 1 r48 = some r50) : fG K [1, 1, 1, 1, 0] s h .normal (W (W (W4 s 47 v7 48 r48 46 r48 49 r49) 50 r50) 7 r49) g1 :=
 rg (Rm rfl rfl i7 (RunL.call (v := r48) rfl rfl rfl rfl rfl pg1 wg1 (Rm (v := r48) rfl rfl rfl (R1 (v := r49) rfl (bb rfl rfl o49) (R1 (v := r50) rfl (bb rfl rfl o50) (Ra (v := r49) rfl rfl rfl (RunL.nil)))))))
theorem AG {v7 : CV} (i7 : s.at 7 = v7) : fG K [1, 1, 1, 1, 1, 0] s h .normal (W (W s 51 v7) 6 v7) h :=
 rg (Rm rfl rfl i7 (Ra (v := v7) rfl rfl rfl (RunL.nil)))
theorem Nw : fV K [0] s h .normal (W s 2 .nils) h :=
 rg (Ra (v := .nils) rfl rfl rfl (RunL.nil))
theorem Nx : fV K [1, 0] s h .normal (W s 3 .nils) h :=
 rg (Ra (v := .nils) rfl rfl rfl (RunL.nil))
theorem Ny : fV K [1, 1, 0, 0] s h .normal (W s 4 n0) h :=
 rg (Ra (v := n0) rfl rfl rfl (RunL.nil))
theorem Ef {v4 v0 r9 r10 : CV} (i4 : s.at 4 = v4) (i0 : s.at 0 = v0) (o9 : aj h v0 (ae K.P 26) = some r9) (o10 : ab K.P .lss 3 v4 r9 = some r10) : fV K [1, 1, 0, 1, 0, 0, 0, 0] s h .normal (W4 s 7 v4 8 v0 9 r9 10 r10) h :=
 rg (Rm rfl rfl i4 (Rm rfl rfl i0 (R1 (v := r9) rfl (aH rfl rfl rfl rfl rfl o9) (Rb rfl rfl rfl rfl o10 (RunL.nil)))))
theorem Nz {v0 v4 r15 r16 r17 : CV} {g1 : Hp} (i0 : s.at 0 = v0) (i4 : s.at 4 = v4) (o15 : af v0 v4 (ae K.P 26) = some r15) (o16 : al h r15 (ar K.P 45) = some r16) (pg1 : K.prim 105 [r16] = none) (wg1 : Comes K 105 [r16] h r17 g1) : fV K [1, 1, 0, 1, 0, 0, 1, 0, 0, 0] s h .normal (W (W (W4 s 13 v0 14 v4 15 r15 16 r16) 17 r17) 5 r17) g1 :=
 rg (Rm rfl rfl i0 (Rm rfl rfl i4 (R1 (v := r15) rfl (ba rfl rfl rfl o15) (R1 (v := r16) rfl (aI rfl rfl o16) (RunL.call (v := r17) rfl rfl rfl rfl rfl pg1 wg1 (Ra (v := r17) rfl rfl rfl (RunL.nil)))))))
theorem NA : fV K [1, 1, 0, 1, 0, 0, 1, 0, 0, 1, 0] s h .normal (W s 6 n0) h :=
 rg (Ra (v := n0) rfl rfl rfl (RunL.nil))
theorem Eg {v6 v5 r20 r21 : CV} (i6 : s.at 6 = v6) (i5 : s.at 5 = v5) (o20 : aj h v5 (ae K.P 26) = some r20) (o21 : ab K.P .lss 3 v6 r20 = some r21) : fV K [1, 1, 0, 1, 0, 0, 1, 0, 0, 1, 1, 0, 0, 0, 0] s h .normal (W4 s 18 v6 19 v5 20 r20 21 r21) h :=
 rg (Rm rfl rfl i6 (Rm rfl rfl i5 (R1 (v := r20) rfl (aH rfl rfl rfl rfl rfl o20) (Rb rfl rfl rfl rfl o21 (RunL.nil)))))
theorem NB {v3 v5 v6 r27 r28 r29 : CV} {g1 : Hp} (i3 : s.at 3 = v3) (i5 : s.at 5 = v5) (i6 : s.at 6 = v6) (o27 : af v5 v6 (ae K.P 26) = some r27) (o28 : al h r27 (ar K.P 45) = some r28) (pg1 : K.prim 98 [v3, r28] = none) (wg1 : Comes K 98 [v3, r28] h r29 g1) : fV K [1, 1, 0, 1, 0, 0, 1, 0, 0, 1, 1, 0, 0, 1, 0, 0] s h .normal (W (W (W (W4 s 24 v3 25 v5 26 v6 27 r27) 28 r28) 29 r29) 3 r29) g1 :=
 rg (Rm rfl rfl i3 (Rm rfl rfl i5 (Rm rfl rfl i6 (R1 (v := r27) rfl (ba rfl rfl rfl o27) (R1 (v := r28) rfl (aI rfl rfl o28) (RunL.call (v := r29) rfl rfl rfl rfl rfl pg1 wg1 (Ra (v := r29) rfl rfl rfl (RunL.nil))))))))
theorem NC {v6 r23 : CV} (i6 : s.at 6 = v6) (o23 : ab K.P .add 3 v6 (.nu .i64 1) = some r23) : fV K [1, 1, 0, 1, 0, 0, 1, 0, 0, 1, 1, 0, 0, 1, 1] s h .normal (W (W (W s 22 v6) 23 r23) 6 r23) h :=
 rg (Rm rfl rfl i6 (Rb rfl rfl rfl rfl o23 (Ra (v := r23) rfl rfl rfl (RunL.nil))))
theorem ND {v4 r12 : CV} (i4 : s.at 4 = v4) (o12 : ab K.P .add 3 v4 (.nu .i64 1) = some r12) : fV K [1, 1, 0, 1, 0, 0, 1, 1] s h .normal (W (W (W s 11 v4) 12 r12) 4 r12) h :=
 rg (Rm rfl rfl i4 (Rb rfl rfl rfl rfl o12 (Ra (v := r12) rfl rfl rfl (RunL.nil))))
theorem J6 {v3 : CV} (i3 : s.at 3 = v3) : fV K [1, 1, 1, 0] s h .normal (W (W s 30 v3) 2 v3) h :=
 rg (Rm rfl rfl i3 (Ra (v := v3) rfl rfl rfl (RunL.nil)))
theorem ss : fH K [0] s h .normal (W s 2 n0) h :=
 rg (Ra (v := n0) rfl rfl rfl (RunL.nil))
theorem Eh {v0 r7 : CV} {g1 : Hp} (i0 : s.at 0 = v0) (pg1 : K.prim 110 [v0] = none) (wg1 : Comes K 110 [v0] h r7 g1) : fH K [1, 0, 0] s h .normal (W (W (W s 6 v0) 7 r7) 3 r7) g1 :=
 rg (Rm rfl rfl i0 (RunL.call (v := r7) rfl rfl rfl rfl rfl pg1 wg1 (Ra (v := r7) rfl rfl rfl (RunL.nil))))
theorem Ei {v3 r9 : CV} (i3 : s.at 3 = v3) (o9 : ab K.P .neq 29 v3 n0 = some r9) : fH K [1, 0, 1, 0] s h .normal (W (W s 8 v3) 9 r9) h :=
 rg (Rm rfl rfl i3 (Rb rfl rfl rfl rfl o9 (RunL.nil)))
theorem NE {v3 : CV} (i3 : s.at 3 = v3) : fH K [1, 0, 1, 1, 0, 0] s h .normal (W (W s 10 v3) 2 v3) h :=
 rg (Rm rfl rfl i3 (Ra (v := v3) rfl rfl rfl (RunL.nil)))
theorem Ej {v0 r12 r13 : CV} (i0 : s.at 0 = v0) (o12 : bj (some (.nu .i64 1)) none h v0 (ae K.P 46) = some r12) (o13 : aj h r12 (ae K.P 46) = some r13) : fH K [1, 1, 0, 0] s h .normal (W4 s 11 v0 12 r12 13 r13 14 n0) h :=
 rg (Rm rfl rfl i0 (R1 (v := r12) rfl (gK rfl rfl rfl rfl o12) (R1 (v := r13) rfl (aH rfl rfl rfl rfl rfl o13) (Rm (v := n0) rfl rfl rfl (RunL.nil)))))
theorem x0 {v14 v13 r15 : CV} (i14 : s.at 14 = v14) (i13 : s.at 13 = v13) (o15 : ab K.P .lss 3 v14 v13 = some r15) : fH K [1, 1, 0, 1, 0, 0, 0] s h .normal (W s 15 r15) h :=
 rg (Rb rfl rfl i14 i13 o15 (RunL.nil))
theorem Ek {v14 v12 r17 r18 : CV} (i14 : s.at 14 = v14) (i12 : s.at 12 = v12) (o17 : af v12 v14 (ae K.P 46) = some r17) (o18 : al h r17 (ar K.P 3) = some r18) : fH K [1, 1, 0, 1, 0, 0, 1, 1, 0, 0, 0] s h .normal (W (W4 s 16 v14 17 r17 18 r18 4 v14) 5 r18) h :=
 rg (Rm rfl rfl i14 (R1 (v := r17) rfl (ba rfl i12 i14 o17) (R1 (v := r18) rfl (aI rfl rfl o18) (Ra (v := v14) rfl rfl rfl (Ra (v := r18) rfl rfl rfl (RunL.nil))))))
theorem El {v5 v0 v4 r22 r23 r24 : CV} (i5 : s.at 5 = v5) (i0 : s.at 0 = v0) (i4 : s.at 4 = v4) (o22 : af v0 v4 (ae K.P 46) = some r22) (o23 : al h r22 (ar K.P 3) = some r23) (o24 : ab K.P .leq 3 v5 r23 = some r24) : fH K [1, 1, 0, 1, 0, 0, 1, 1, 0, 0, 1, 0] s h .normal (W (W (W4 s 19 v5 20 v0 21 v4 22 r22) 23 r23) 24 r24) h :=
 rg (Rm rfl rfl i5 (Rm rfl rfl i0 (Rm rfl rfl i4 (R1 (v := r22) rfl (ba rfl rfl rfl o22) (R1 (v := r23) rfl (aI rfl rfl o23) (Rb rfl rfl rfl rfl o24 (RunL.nil)))))))
theorem NF : fH K [1, 1, 0, 1, 0, 0, 1, 1, 0, 0, 1, 1, 0, 0] s h .normal (W s 2 (.nu .i64 6)) h :=
 rg (Ra (v := (.nu .i64 6)) rfl rfl rfl (RunL.nil))
theorem NG {v14 r25 : CV} (i14 : s.at 14 = v14) (o25 : ab K.P .add 3 v14 (.nu .i64 1) = some r25) : fH K [1, 1, 0, 1, 0, 0, 1, 1, 1] s h .normal (W (W s 25 r25) 14 r25) h :=
 rg (Rb rfl rfl i14 rfl o25 (Rm (v := r25) rfl rfl rfl (RunL.nil)))
theorem J7 : fH K [1, 1, 1, 0] s h .normal (W s 2 n0) h :=
 rg (Ra (v := n0) rfl rfl rfl (RunL.nil))
theorem NH : Jh K [0] s h .normal (W s 2 .nils) h :=
 rg (Ra (v := .nils) rfl rfl rfl (RunL.nil))
theorem NI {v0 r4 : CV} (i0 : s.at 0 = v0) (o4 : ab K.P .eql 46 v0 .nils = some r4) : Jh K [1, 0, 0] s h .normal (W (W s 3 v0) 4 r4) h :=
 rg (Rm rfl rfl i0 (Rb rfl rfl rfl rfl o4 (RunL.nil)))
theorem NJ {v0 r7 : CV} {F5 : Nat → CV} {B5 : HB} {g1 : Hp} (i0 : s.at 0 = v0) (o5 : aM 0 [] (ae K.P 46) = some (F5, B5)) (wg1 : aT (h.push B5) (F5 (h).n) v0 (ae K.P 46) (ae K.P 46) = some (r7, g1)) : Jh K [1, 1, 0] s h .normal (W4 s 5 (F5 (h).n) 6 v0 7 r7 2 r7) g1 :=
 rg (RunL.op (v := (F5 (h).n)) rfl (bE rfl rfl o5) (Rm rfl rfl i0 (RunL.op (v := r7) rfl (cj hk rfl rfl rfl rfl rfl rfl wg1) (Ra (v := r7) rfl rfl rfl (RunL.nil)))))
theorem NK {F2 : Nat → CV} {B2 : HB} (o2 : gd 103 (dx K.P 103) = some (F2, B2)) : mt K [0] s h .normal (W s 2 (F2 (h).n)) (h.push B2) :=
 rg (RunL.op (v := (F2 (h).n)) rfl (pZ rfl o2) (RunL.nil))
theorem NL {v0 r6 : CV} (i0 : s.at 0 = v0) (o6 : aj h v0 (ae K.P 46) = some r6) : mt K [1, 0, 0] s h .normal (W (W (W s 5 v0) 6 r6) 7 n0) h :=
 rg (Rm rfl rfl i0 (R1 (v := r6) rfl (aH rfl rfl rfl rfl rfl o6) (Rm (v := n0) rfl rfl rfl (RunL.nil))))
theorem Em {v7 v6 r8 : CV} (i7 : s.at 7 = v7) (i6 : s.at 6 = v6) (o8 : ab K.P .lss 3 v7 v6 = some r8) : mt K [1, 0, 1, 0, 0, 0] s h .normal (W s 8 r8) h :=
 rg (Rb rfl rfl i7 i6 o8 (RunL.nil))
theorem NM {v7 v5 r10 r11 : CV} (i7 : s.at 7 = v7) (i5 : s.at 5 = v5) (o10 : af v5 v7 (ae K.P 46) = some r10) (o11 : al h r10 (ar K.P 3) = some r11) : mt K [1, 0, 1, 0, 0, 1, 1, 0, 0, 0] s h .normal (W (W4 s 9 v7 10 r10 11 r11 3 v7) 4 r11) h :=
 rg (Rm rfl rfl i7 (R1 (v := r10) rfl (ba rfl i5 i7 o10) (R1 (v := r11) rfl (aI rfl rfl o11) (Ra (v := v7) rfl rfl rfl (Ra (v := r11) rfl rfl rfl (RunL.nil))))))
theorem NN {v3 v4 r14 v2 r15 : CV} {g1 : Hp} (i3 : s.at 3 = v3) (i4 : s.at 4 = v4) (i2 : s.at 2 = v2) (o14 : ab K.P .add 3 v4 (.nu .i64 1) = some r14) (o15 : af v2 v3 (ae K.P 103) = some r15) (wg1 : bC h r15 r14 (ar K.P 3) = some (.undef, g1)) : mt K [1, 0, 1, 0, 0, 1, 1, 0, 0, 1] s h .normal (W4 s 12 v3 13 v4 14 r14 15 r15) g1 :=
 rg (Rm rfl rfl i3 (Rm rfl rfl i4 (Rb rfl rfl rfl rfl o14 (R1 (v := r15) rfl (ba rfl i2 rfl o15) (RunL.op (v := .undef) rfl (eM rfl rfl rfl wg1) (RunL.nil))))))
theorem NO {v7 r16 : CV} (i7 : s.at 7 = v7) (o16 : ab K.P .add 3 v7 (.nu .i64 1) = some r16) : mt K [1, 0, 1, 0, 0, 1, 1, 1] s h .normal (W (W s 16 r16) 7 r16) h :=
 rg (Rb rfl rfl i7 rfl o16 (Rm (v := r16) rfl rfl rfl (RunL.nil)))
theorem NP {v2 r17 : CV} {g1 : Hp} (i2 : s.at 2 = v2) (o17 : al h v2 (ar K.P 103) = some r17) (wg1 : bC h v2 r17 (ar K.P 103) = some (.undef, g1)) : mt K [1, 1, 0] s h .normal (W s 17 r17) g1 :=
 rg (R1 (v := r17) rfl (aI rfl i2 o17) (RunL.op (v := .undef) rfl (eM rfl i2 rfl wg1) (RunL.nil)))
theorem x6 : gj K [0] s h .normal (W (W s 2 .nils) 3 n0) h :=
 rg (Ra (v := .nils) rfl rfl rfl (Ra (v := n0) rfl rfl rfl (RunL.nil)))
theorem x7 {v0 r6 : CV} {g1 : Hp} (i0 : s.at 0 = v0) (pg1 : K.prim 66 [v0] = none) (wg1 : Comes K 66 [v0] h r6 g1) : gj K [1, 0, 0] s h .normal (W (W (W s 5 v0) 6 r6) 3 r6) g1 :=
 rg (Rm rfl rfl i0 (RunL.call (v := r6) rfl rfl rfl rfl rfl pg1 wg1 (Ra (v := r6) rfl rfl rfl (RunL.nil))))
theorem HH {v3 r13 : CV} (i3 : s.at 3 = v3) (o8 : ab K.P .neq 29 v3 n0 = some tt) (o13 : ap tt .skp tt = some r13) : gj K [1, 0, 1, 0] s h .normal (W (W (W (W4 s 7 v3 8 tt 9 tt 10 .skp) 11 .skp) 12 .skp) 13 r13) h :=
 rg (Rm rfl rfl i3 (Rb rfl rfl rfl rfl o8 (Rm (v := tt) rfl rfl rfl (RunL.pass rfl (RunL.pass rfl (RunL.pass rfl (R1 (v := r13) rfl (aL rfl rfl rfl rfl o13) (RunL.nil))))))))
theorem x8 {v3 v0 r11 r12 r13 : CV} (i3 : s.at 3 = v3) (i0 : s.at 0 = v0) (o8 : ab K.P .neq 29 v3 n0 = some ff) (o11 : aj h v0 (ae K.P 46) = some r11) (o12 : ab K.P .eql 3 r11 (.nu .i64 1) = some r12) (o13 : ap tt r12 ff = some r13) : gj K [1, 0, 1, 0] s h .normal (W (W (W (W4 s 7 v3 8 ff 9 ff 10 v0) 11 r11) 12 r12) 13 r13) h :=
 rg (Rm rfl rfl i3 (Rb rfl rfl rfl rfl o8 (Rm (v := ff) rfl rfl rfl (Rm rfl rfl i0 (R1 (v := r11) rfl (aH rfl rfl rfl rfl rfl o11) (Rb rfl rfl rfl rfl o12 (R1 (v := r13) rfl (aL rfl rfl rfl rfl o13) (RunL.nil))))))))
theorem En {v3 : CV} (i3 : s.at 3 = v3) : gj K [1, 0, 1, 1, 0, 0] s h .normal (W (W (W s 14 v3) 2 .nils) 3 v3) h :=
 rg (Rm rfl rfl i3 (Ra (v := .nils) rfl rfl rfl (Ra (v := v3) rfl rfl rfl (RunL.nil))))
theorem NQ {v0 r16 : CV} (i0 : s.at 0 = v0) (o16 : aj h v0 (ae K.P 46) = some r16) : gj K [1, 1, 0, 0] s h .normal (W (W (W s 15 v0) 16 r16) 17 n0) h :=
 rg (Rm rfl rfl i0 (R1 (v := r16) rfl (aH rfl rfl rfl rfl rfl o16) (Rm (v := n0) rfl rfl rfl (RunL.nil))))
theorem Eo {v17 v16 r18 : CV} (i17 : s.at 17 = v17) (i16 : s.at 16 = v16) (o18 : ab K.P .lss 3 v17 v16 = some r18) : gj K [1, 1, 0, 1, 0, 0, 0] s h .normal (W s 18 r18) h :=
 rg (Rb rfl rfl i17 i16 o18 (RunL.nil))
theorem NR {v17 : CV} (i17 : s.at 17 = v17) : gj K [1, 1, 0, 1, 0, 0, 1, 1, 0, 0, 0] s h .normal (W (W s 19 v17) 4 v17) h :=
 rg (Rm rfl rfl i17 (Ra (v := v17) rfl rfl rfl (RunL.nil)))
theorem NS {v2 v0 v4 r23 r25 : CV} {F24 : Nat → CV} {B24 : HB} {g1 g2 : Hp} (i2 : s.at 2 = v2) (i0 : s.at 0 = v0) (i4 : s.at 4 = v4) (pg1 : K.prim 117 [v0, v4] = none) (wg1 : Comes K 117 [v0, v4] h r23 g1) (o24 : aM 1 [(0, r23)] (ae K.P 22) = some (F24, B24)) (wg2 : aT (g1.push B24) v2 (F24 (g1).n) (ae K.P 22) (ae K.P 22) = some (r25, g2)) : gj K [1, 1, 0, 1, 0, 0, 1, 1, 0, 0, 1] s h .normal (W (W (W (W4 s 20 v2 21 v0 22 v4 23 r23) 24 (F24 (g1).n)) 25 r25) 2 r25) g2 :=
 rg (Rm rfl rfl i2 (Rm rfl rfl i0 (Rm rfl rfl i4 (RunL.call (v := r23) rfl rfl rfl rfl rfl pg1 wg1 (RunL.op (v := (F24 (g1).n)) rfl (bE rfl rfl o24) (RunL.op (v := r25) rfl (cj hk rfl rfl rfl rfl rfl rfl wg2) (Ra (v := r25) rfl rfl rfl (RunL.nil))))))))
theorem NT {v17 r26 : CV} (i17 : s.at 17 = v17) (o26 : ab K.P .add 3 v17 (.nu .i64 1) = some r26) : gj K [1, 1, 0, 1, 0, 0, 1, 1, 1] s h .normal (W (W s 26 r26) 17 r26) h :=
 rg (Rb rfl rfl i17 rfl o26 (Rm (v := r26) rfl rfl rfl (RunL.nil)))
theorem NU {v2 : CV} (i2 : s.at 2 = v2) : gj K [1, 1, 1, 0] s h .normal (W (W (W s 27 v2) 2 v2) 3 n0) h :=
 rg (Rm rfl rfl i2 (Ra (v := v2) rfl rfl rfl (Ra (v := n0) rfl rfl rfl (RunL.nil))))
theorem Ep : xT K [0] s h .normal (W s 4 n0) h :=
 rg (Ra (v := n0) rfl rfl rfl (RunL.nil))
theorem Er {v0 r7 v1 r9 r10 : CV} {g1 : Hp} (i0 : s.at 0 = v0) (i1 : s.at 1 = v1) (o7 : aj h v0 (ae K.P 46) = some r7) (o9 : aj h v1 (ae K.P 46) = some r9) (pg1 : K.prim 118 [r7, r9] = none) (wg1 : Comes K 118 [r7, r9] h r10 g1) : xT K [1, 0, 0] s h .normal (W (W (W4 s 6 v0 7 r7 8 v1 9 r9) 10 r10) 5 r10) g1 :=
 rg (Rm rfl rfl i0 (R1 (v := r7) rfl (aH rfl rfl rfl rfl rfl o7) (Rm rfl rfl i1 (R1 (v := r9) rfl (aH rfl rfl rfl rfl rfl o9) (RunL.call (v := r10) rfl rfl rfl rfl rfl pg1 wg1 (Ra (v := r10) rfl rfl rfl (RunL.nil)))))))
theorem Es {v5 r12 : CV} (i5 : s.at 5 = v5) (o12 : ab K.P .neq 3 v5 n0 = some r12) : xT K [1, 0, 1, 0] s h .normal (W (W s 11 v5) 12 r12) h :=
 rg (Rm rfl rfl i5 (Rb rfl rfl rfl rfl o12 (RunL.nil)))
theorem NV {v5 : CV} (i5 : s.at 5 = v5) : xT K [1, 0, 1, 1, 0, 0] s h .normal (W (W s 13 v5) 4 v5) h :=
 rg (Rm rfl rfl i5 (Ra (v := v5) rfl rfl rfl (RunL.nil)))
theorem NW {v0 v1 r16 : CV} {g1 : Hp} (i0 : s.at 0 = v0) (i1 : s.at 1 = v1) (pg1 : K.prim 119 [v0, v1] = none) (wg1 : Comes K 119 [v0, v1] h r16 g1) : xT K [1, 1, 0] s h .normal (W4 s 14 v0 15 v1 16 r16 4 r16) g1 :=
 rg (Rm rfl rfl i0 (Rm rfl rfl i1 (RunL.call (v := r16) rfl rfl rfl rfl rfl pg1 wg1 (Ra (v := r16) rfl rfl rfl (RunL.nil)))))
theorem NX : eQ K [0] s h .normal (W (W s 2 .nils) 3 n0) h :=
 rg (Ra (v := .nils) rfl rfl rfl (Ra (v := n0) rfl rfl rfl (RunL.nil)))
theorem NY {v0 r10 : CV} {F8 : Nat → CV} {B8 : HB} {g1 : Hp} (i0 : s.at 0 = v0) (o8 : aM 0 [] (ae K.P 45) = some (F8, B8)) (wg1 : aT (h.push B8) (F8 (h).n) v0 (ae K.P 45) (ae K.P 45) = some (r10, g1)) : eQ K [1, 0] s h .normal (W4 s 8 (F8 (h).n) 9 v0 10 r10 4 r10) g1 :=
 rg (RunL.op (v := (F8 (h).n)) rfl (bE rfl rfl o8) (Rm rfl rfl i0 (RunL.op (v := r10) rfl (cj hk rfl rfl rfl rfl rfl rfl wg1) (Ra (v := r10) rfl rfl rfl (RunL.nil)))))
theorem NZ : eQ K [1, 1, 0] s h .normal (W s 5 n0) h :=
 rg (Ra (v := n0) rfl rfl rfl (RunL.nil))
theorem N2 : eQ K [1, 1, 1, 0, 0] s h .normal (W s 6 n0) h :=
 rg (Ra (v := n0) rfl rfl rfl (RunL.nil))
theorem Et {v6 v4 r13 r14 : CV} (i6 : s.at 6 = v6) (i4 : s.at 4 = v4) (o13 : aj h v4 (ae K.P 45) = some r13) (o14 : ab K.P .lss 3 v6 r13 = some r14) : eQ K [1, 1, 1, 0, 1, 0, 0, 0, 0] s h .normal (W4 s 11 v6 12 v4 13 r13 14 r14) h :=
 rg (Rm rfl rfl i6 (Rm rfl rfl i4 (R1 (v := r13) rfl (aH rfl rfl rfl rfl rfl o13) (Rb rfl rfl rfl rfl o14 (RunL.nil)))))
theorem N3 {v6 : CV} (i6 : s.at 6 = v6) : eQ K [1, 1, 1, 0, 1, 0, 0, 1, 0, 0, 0] s h .normal (W (W s 17 v6) 7 v6) h :=
 rg (Rm rfl rfl i6 (Ra (v := v6) rfl rfl rfl (RunL.nil)))
theorem x9 {v7 v4 r23 r24 r25 r28 r29 r30 r31 : CV} (hp : K.plan 85 7 = some [.o 0 [],.o 1 [],.o 2 [],.t 3,.t 4,.t 5,.t 6,.t 7,.t 8,.o 9 [8, 7, 6, 5, 4, 3],.o 10 [7, 6, 5, 4, 3],.o 11 [7, 6, 5, 4, 3],.o 12 [],.o 13 []]) (i7 : s.at 7 = v7) (i4 : s.at 4 = v4) (o19 : ab K.P .gtr 3 v7 n0 = some tt) (o23 : ab K.P .sub 3 v7 (.nu .i64 1) = some r23) (o24 : af v4 r23 (ae K.P 45) = some r24) (o25 : al h r24 (ar K.P 3) = some r25) (q25 : ceq r25 r25 = true) (o28 : af v4 v7 (ae K.P 45) = some r28) (o29 : al h r28 (ar K.P 3) = some r29) (o30 : ab K.P .gtr 3 r25 r29 = some r30) (o31 : ap r30 ff tt = some r31) : eQ K [1, 1, 1, 0, 1, 0, 0, 1, 0, 0, 1, 0, 0, 0, 0] s h .normal (W (W (W4 (W8 s 18 v7 19 tt 20 tt 21 v4 22 v7 23 r23 24 r24 25 r25) 26 v4 27 v7 28 r28 29 r29) 30 r30) 31 r31) h :=
 Runs.drawn hp (RunP.only (v := v7) rfl rfl (Q1.e (aQ rfl i7)) rfl (RunP.only (v := tt) rfl rfl (Q1.e (cn rfl rfl rfl o19)) rfl (RunP.only (v := tt) rfl rfl (Q1.e (aQ rfl rfl)) rfl (RunP.q (v := v4) rfl rfl (aQ rfl i4) (RunP.q (v := v7) rfl rfl (aQ rfl i7) (RunP.q (v := r23) rfl rfl (cn rfl rfl rfl o23) (RunP.q (v := r24) rfl rfl (ba rfl rfl rfl o24) (RunP.q (v := r25) rfl rfl (aI rfl rfl o25) (RunP.q (v := v4) rfl rfl (aQ rfl i4) (RunP.only (v := v7) rfl rfl (Q1.e (aQ rfl i7)) (by simp (decide := true) only [bF, bA, qX, ev, Fr.putO, aK, reduceIte, Nat.reduceEqDiff, List.filter_cons, List.filter_nil, List.any_cons, List.any_nil, List.all_cons, List.all_nil, List.getElem_toArray, List.getElem_cons_succ, List.getElem_cons_zero, Option.map_some, Option.map_none, aP, aY, Bool.and_true, Bool.true_and, Bool.and_self, i7, i4, o19, o23, o24, o25, q25]) (RunP.only (v := r28) rfl rfl (Q1.e (ba rfl rfl rfl o28)) (by simp (decide := true) only [bF, bA, qX, ev, Fr.putO, aK, reduceIte, Nat.reduceEqDiff, List.filter_cons, List.filter_nil, List.any_cons, List.any_nil, List.all_cons, List.all_nil, List.getElem_toArray, List.getElem_cons_succ, List.getElem_cons_zero, Option.map_some, Option.map_none, aP, aY, Bool.and_true, Bool.true_and, Bool.and_self, i7, i4, o19, o23, o24, o25, q25, o28]) (RunP.only (v := r29) rfl rfl (Q1.e (aI rfl rfl o29)) (by simp (decide := true) only [bF, bA, qX, ev, Fr.putO, aK, reduceIte, Nat.reduceEqDiff, List.filter_cons, List.filter_nil, List.any_cons, List.any_nil, List.all_cons, List.all_nil, List.getElem_toArray, List.getElem_cons_succ, List.getElem_cons_zero, Option.map_some, Option.map_none, aP, aY, Bool.and_true, Bool.true_and, Bool.and_self, i7, i4, o19, o23, o24, o25, q25, o28, o29]) (RunP.only (v := r30) rfl rfl (Q1.e (cn rfl rfl rfl o30)) rfl (RunP.only (v := r31) rfl rfl (Q1.e (aL rfl rfl rfl rfl o31)) rfl (RunP.nil)))))))))))))))
theorem HI {v7 r31 : CV} (hp : K.plan 85 7 = some [.o 0 [],.o 1 [],.o 2 [],.t 3,.t 4,.t 5,.t 6,.t 7,.t 8,.o 9 [8, 7, 6, 5, 4, 3],.o 10 [7, 6, 5, 4, 3],.o 11 [7, 6, 5, 4, 3],.o 12 [],.o 13 []]) (i7 : s.at 7 = v7) (o19 : ab K.P .gtr 3 v7 n0 = some ff) (o31 : ap .skp ff ff = some r31) : eQ K [1, 1, 1, 0, 1, 0, 0, 1, 0, 0, 1, 0, 0, 0, 0] s h .normal (W (W (W4 (W8 s 18 v7 19 ff 20 ff 21 .skp 22 .skp 23 .skp 24 .skp 25 .skp) 26 .skp 27 .skp 28 .skp 29 .skp) 30 .skp) 31 r31) h :=
 Runs.drawn hp (RunP.only (v := v7) rfl rfl (Q1.e (aQ rfl i7)) rfl (RunP.only (v := ff) rfl rfl (Q1.e (cn rfl rfl rfl o19)) rfl (RunP.only (v := ff) rfl rfl (Q1.e (aQ rfl rfl)) rfl (bu rfl rfl (bu rfl rfl (bu rfl rfl (bu rfl rfl (bu rfl rfl (bu rfl rfl (bv rfl rfl (bv rfl rfl (bv rfl rfl (bv rfl rfl (RunP.only (v := r31) rfl rfl (Q1.e (aL rfl rfl rfl rfl o31)) rfl (RunP.nil)))))))))))))))
theorem N4 {v4 v7 r36 r41 r42 r46 r47 : CV} {g1 g2 : Hp} (hp : K.plan 85 9 = some [.t 0,.t 1,.t 2,.t 3,.t 4,.t 5,.t 6,.t 7,.t 8,.t 9,.o 10 [9, 8, 7, 6, 5, 4, 3, 2, 1, 0],.o 11 [9, 8, 7, 6, 5, 4, 3, 2, 1, 0],.o 12 [8, 7, 6, 5, 4, 3, 2, 1, 0],.o 13 [8, 7, 6, 5, 4, 3, 2, 1, 0],.o 14 [4, 3],.o 15 [4, 3],.o 16 [],.o 17 []]) (i4 : s.at 4 = v4) (i7 : s.at 7 = v7) (o36 : ab K.P .sub 3 v7 (.nu .i64 1) = some r36) (o41 : af v4 v7 (ae K.P 45) = some r41) (o42 : al h r41 (ar K.P 3) = some r42) (q42 : ceq r42 r42 = true) (o46 : af v4 r36 (ae K.P 45) = some r46) (o47 : al h r46 (ar K.P 3) = some r47) (wg1 : bC h r46 r42 (ar K.P 3) = some (.undef, g1)) (wg2 : bC g1 r41 r47 (ar K.P 3) = some (.undef, g2)) : eQ K [1, 1, 1, 0, 1, 0, 0, 1, 0, 0, 1, 0, 0, 1, 0, 0, 0] s h .normal (W8 (W8 s 34 v4 35 v7 36 r36 37 v4 38 v7 39 v4 40 v7 41 r41) 42 r42 43 v4 44 v7 45 r36 46 r46 47 r47 48 r46 49 r41) g2 :=
 Runs.drawn hp (RunP.q (v := v4) rfl rfl (aQ rfl i4) (RunP.q (v := v7) rfl rfl (aQ rfl i7) (RunP.q (v := r36) rfl rfl (cn rfl rfl rfl o36) (RunP.q (v := v4) rfl rfl (aQ rfl i4) (RunP.q (v := v7) rfl rfl (aQ rfl i7) (RunP.q (v := v4) rfl rfl (aQ rfl i4) (RunP.q (v := v7) rfl rfl (aQ rfl i7) (RunP.q (v := r41) rfl rfl (ba rfl rfl rfl o41) (RunP.q (v := r42) rfl rfl (aI rfl rfl o42) (RunP.q (v := v4) rfl rfl (aQ rfl i4) (RunP.only (v := v7) rfl rfl (Q1.e (aQ rfl i7)) (by simp (decide := true) only [bF, bA, qX, ev, Fr.putO, aK, reduceIte, Nat.reduceEqDiff, List.filter_cons, List.filter_nil, List.any_cons, List.any_nil, List.all_cons, List.all_nil, List.getElem_toArray, List.getElem_cons_succ, List.getElem_cons_zero, Option.map_some, Option.map_none, aP, aY, Bool.and_true, Bool.true_and, Bool.and_self, i4, i7, o36, o41, o42, q42]) (RunP.only (v := r36) rfl rfl (Q1.e (cn rfl rfl rfl o36)) (by simp (decide := true) only [bF, bA, qX, ev, Fr.putO, aK, reduceIte, Nat.reduceEqDiff, List.filter_cons, List.filter_nil, List.any_cons, List.any_nil, List.all_cons, List.all_nil, List.getElem_toArray, List.getElem_cons_succ, List.getElem_cons_zero, Option.map_some, Option.map_none, aP, aY, Bool.and_true, Bool.true_and, Bool.and_self, i4, i7, o36, o41, o42, q42]) (RunP.only (v := r46) rfl rfl (Q1.e (ba rfl rfl rfl o46)) (by simp (decide := true) only [bF, bA, qX, ev, Fr.putO, aK, reduceIte, Nat.reduceEqDiff, List.filter_cons, List.filter_nil, List.any_cons, List.any_nil, List.all_cons, List.all_nil, List.getElem_toArray, List.getElem_cons_succ, List.getElem_cons_zero, Option.map_some, Option.map_none, aP, aY, Bool.and_true, Bool.true_and, Bool.and_self, i4, i7, o36, o41, o42, q42, o46]) (RunP.only (v := r47) rfl rfl (Q1.e (aI rfl rfl o47)) (by simp (decide := true) only [bF, bA, qX, ev, Fr.putO, aK, reduceIte, Nat.reduceEqDiff, List.filter_cons, List.filter_nil, List.any_cons, List.any_nil, List.all_cons, List.all_nil, List.getElem_toArray, List.getElem_cons_succ, List.getElem_cons_zero, Option.map_some, Option.map_none, aP, aY, Bool.and_true, Bool.true_and, Bool.and_self, i4, i7, o36, o41, o42, q42, o46, o47]) (RunP.only (v := r46) rfl rfl (Q1.e (ba rfl rfl rfl o46)) rfl (RunP.only (v := .undef) rfl rfl (eM rfl rfl rfl wg1) rfl (RunP.only (v := r41) rfl rfl (Q1.e (ba rfl rfl rfl o41)) rfl (RunP.only (v := .undef) rfl rfl (eM rfl rfl rfl wg2) rfl (RunP.nil)))))))))))))))))))
theorem J8 {v5 r51 : CV} (i5 : s.at 5 = v5) (o51 : ab K.P .sub 3 (.nu .i64 1) v5 = some r51) : eQ K [1, 1, 1, 0, 1, 0, 0, 1, 0, 0, 1, 0, 0, 1, 0, 0, 1] s h .normal (W (W (W s 50 v5) 51 r51) 5 r51) h :=
 rg (Rm rfl rfl i5 (Rb rfl rfl rfl rfl o51 (Ra (v := r51) rfl rfl rfl (RunL.nil))))
theorem N5 {v7 r33 : CV} (i7 : s.at 7 = v7) (o33 : ab K.P .sub 3 v7 (.nu .i64 1) = some r33) : eQ K [1, 1, 1, 0, 1, 0, 0, 1, 0, 0, 1, 0, 0, 1, 1] s h .normal (W (W (W s 32 v7) 33 r33) 7 r33) h :=
 rg (Rm rfl rfl i7 (Rb rfl rfl rfl rfl o33 (Ra (v := r33) rfl rfl rfl (RunL.nil))))
theorem N6 {v6 r16 : CV} (i6 : s.at 6 = v6) (o16 : ab K.P .add 3 v6 (.nu .i64 1) = some r16) : eQ K [1, 1, 1, 0, 1, 0, 0, 1, 1] s h .normal (W (W (W s 15 v6) 16 r16) 6 r16) h :=
 rg (Rm rfl rfl i6 (Rb rfl rfl rfl rfl o16 (Ra (v := r16) rfl rfl rfl (RunL.nil))))
theorem J9 {v4 v5 : CV} (i4 : s.at 4 = v4) (i5 : s.at 5 = v5) : eQ K [1, 1, 1, 1, 0] s h .normal (W4 s 52 v4 53 v5 2 v4 3 v5) h :=
 rg (Rm rfl rfl i4 (Rm rfl rfl i5 (Ra (v := v4) rfl rfl rfl (Ra (v := v5) rfl rfl rfl (RunL.nil)))))
theorem ya : eD K [0] s h .normal (W s 4 .nils) h :=
 rg (Ra (v := .nils) rfl rfl rfl (RunL.nil))
theorem yb : eD K [1, 0] s h .normal (W s 5 .nils) h :=
 rg (Ra (v := .nils) rfl rfl rfl (RunL.nil))
theorem yc : eD K [1, 1, 0] s h .normal (W s 6 ff) h :=
 rg (Ra (v := ff) rfl rfl rfl (RunL.nil))
theorem yd : eD K [1, 1, 1, 0, 0] s h .normal (W s 7 n0) h :=
 rg (Ra (v := n0) rfl rfl rfl (RunL.nil))
theorem oV {v7 v0 r11 r12 : CV} (i7 : s.at 7 = v7) (i0 : s.at 0 = v0) (o11 : aj h v0 (ae K.P 26) = some r11) (o12 : ab K.P .lss 3 v7 r11 = some r12) : eD K [1, 1, 1, 0, 1, 0, 0, 0, 0] s h .normal (W4 s 9 v7 10 v0 11 r11 12 r12) h :=
 rg (Rm rfl rfl i7 (Rm rfl rfl i0 (R1 (v := r11) rfl (aH rfl rfl rfl rfl rfl o11) (Rb rfl rfl rfl rfl o12 (RunL.nil)))))
theorem su {v1 v0 v7 r18 r19 r20 : CV} {g1 : Hp} (i1 : s.at 1 = v1) (i0 : s.at 0 = v0) (i7 : s.at 7 = v7) (o18 : af v0 v7 (ae K.P 26) = some r18) (o19 : al h r18 (ar K.P 45) = some r19) (pg1 : K.prim 38 [v1, r19] = none) (wg1 : Comes K 38 [v1, r19] h r20 g1) : eD K [1, 1, 1, 0, 1, 0, 0, 1, 0, 0, 0] s h .normal (W (W (W (W4 s 15 v1 16 v0 17 v7 18 r18) 19 r19) 20 r20) 8 r20) g1 :=
 rg (Rm rfl rfl i1 (Rm rfl rfl i0 (Rm rfl rfl i7 (R1 (v := r18) rfl (ba rfl rfl rfl o18) (R1 (v := r19) rfl (aI rfl rfl o19) (RunL.call (v := r20) rfl rfl rfl rfl rfl pg1 wg1 (Ra (v := r20) rfl rfl rfl (RunL.nil))))))))
theorem sv {v8 r22 : CV} (i8 : s.at 8 = v8) (o22 : ab K.P .eql 3 v8 n0 = some r22) : eD K [1, 1, 1, 0, 1, 0, 0, 1, 0, 0, 1, 0, 0] s h .normal (W (W s 21 v8) 22 r22) h :=
 rg (Rm rfl rfl i8 (Rb rfl rfl rfl rfl o22 (RunL.nil)))
theorem N7 {v0 : CV} (i0 : s.at 0 = v0) : eD K [1, 1, 1, 0, 1, 0, 0, 1, 0, 0, 1, 0, 1, 0, 0] s h .normal (W (W s 23 v0) 4 v0) h :=
 rg (Rm rfl rfl i0 (Ra (v := v0) rfl rfl rfl (RunL.nil)))
theorem ye {v8 v6 r28 r29 : CV} (i8 : s.at 8 = v8) (i6 : s.at 6 = v6) (o25 : ab K.P .lss 3 v8 n0 = some tt) (o28 : dA .not v6 = some r28) (o29 : ap r28 ff tt = some r29) : eD K [1, 1, 1, 0, 1, 0, 0, 1, 0, 0, 1, 1, 0, 0] s h .normal (W (W (W4 s 24 v8 25 tt 26 tt 27 v6) 28 r28) 29 r29) h :=
 rg (Rm rfl rfl i8 (Rb rfl rfl rfl rfl o25 (Rm (v := tt) rfl rfl rfl (Rm rfl rfl i6 (R1 (v := r28) rfl (ku rfl rfl o28) (R1 (v := r29) rfl (aL rfl rfl rfl rfl o29) (RunL.nil)))))))
theorem HJ {v8 r29 : CV} (i8 : s.at 8 = v8) (o25 : ab K.P .lss 3 v8 n0 = some ff) (o29 : ap .skp ff ff = some r29) : eD K [1, 1, 1, 0, 1, 0, 0, 1, 0, 0, 1, 1, 0, 0] s h .normal (W (W (W4 s 24 v8 25 ff 26 ff 27 .skp) 28 .skp) 29 r29) h :=
 rg (Rm rfl rfl i8 (Rb rfl rfl rfl rfl o25 (Rm (v := ff) rfl rfl rfl (RunL.pass rfl (RunL.pass rfl (R1 (v := r29) rfl (aL rfl rfl rfl rfl o29) (RunL.nil)))))))
theorem Ka {v5 v1 r33 : CV} {F32 : Nat → CV} {B32 : HB} {g1 : Hp} (i5 : s.at 5 = v5) (i1 : s.at 1 = v1) (o32 : aM 1 [(0, v1)] (ae K.P 26) = some (F32, B32)) (wg1 : aT (h.push B32) v5 (F32 (h).n) (ae K.P 26) (ae K.P 26) = some (r33, g1)) : eD K [1, 1, 1, 0, 1, 0, 0, 1, 0, 0, 1, 1, 0, 1, 0, 0] s h .normal (W (W4 s 30 v5 31 v1 32 (F32 (h).n) 33 r33) 5 r33) g1 :=
 rg (Rm rfl rfl i5 (Rm rfl rfl i1 (RunL.op (v := (F32 (h).n)) rfl (bE rfl rfl o32) (RunL.op (v := r33) rfl (cj hk rfl rfl rfl rfl rfl rfl wg1) (Ra (v := r33) rfl rfl rfl (RunL.nil))))))
theorem Kb : eD K [1, 1, 1, 0, 1, 0, 0, 1, 0, 0, 1, 1, 0, 1, 0, 1] s h .normal (W s 6 tt) h :=
 rg (Ra (v := tt) rfl rfl rfl (RunL.nil))
theorem tP {v5 v0 v7 r37 r38 r40 : CV} {F39 : Nat → CV} {B39 : HB} {g1 : Hp} (i5 : s.at 5 = v5) (i0 : s.at 0 = v0) (i7 : s.at 7 = v7) (o37 : af v0 v7 (ae K.P 26) = some r37) (o38 : al h r37 (ar K.P 45) = some r38) (o39 : aM 1 [(0, r38)] (ae K.P 26) = some (F39, B39)) (wg1 : aT (h.push B39) v5 (F39 (h).n) (ae K.P 26) (ae K.P 26) = some (r40, g1)) : eD K [1, 1, 1, 0, 1, 0, 0, 1, 0, 0, 1, 1, 1] s h .normal (W8 s 34 v5 35 v0 36 v7 37 r37 38 r38 39 (F39 (h).n) 40 r40 5 r40) g1 :=
 rg (Rm rfl rfl i5 (Rm rfl rfl i0 (Rm rfl rfl i7 (R1 (v := r37) rfl (ba rfl rfl rfl o37) (R1 (v := r38) rfl (aI rfl rfl o38) (RunL.op (v := (F39 (h).n)) rfl (bE rfl rfl o39) (RunL.op (v := r40) rfl (cj hk rfl rfl rfl rfl rfl rfl wg1) (Ra (v := r40) rfl rfl rfl (RunL.nil)))))))))
theorem yf {v7 r14 : CV} (i7 : s.at 7 = v7) (o14 : ab K.P .add 3 v7 (.nu .i64 1) = some r14) : eD K [1, 1, 1, 0, 1, 0, 0, 1, 1] s h .normal (W (W (W s 13 v7) 14 r14) 7 r14) h :=
 rg (Rm rfl rfl i7 (Rb rfl rfl rfl rfl o14 (Ra (v := r14) rfl rfl rfl (RunL.nil))))
theorem AH {v6 r42 : CV} (i6 : s.at 6 = v6) (o42 : dA .not v6 = some r42) : eD K [1, 1, 1, 1, 0, 0] s h .normal (W (W s 41 v6) 42 r42) h :=
 rg (Rm rfl rfl i6 (R1 (v := r42) rfl (ku rfl rfl o42) (RunL.nil)))
theorem Kc {v5 v1 r46 : CV} {F45 : Nat → CV} {B45 : HB} {g1 : Hp} (i5 : s.at 5 = v5) (i1 : s.at 1 = v1) (o45 : aM 1 [(0, v1)] (ae K.P 26) = some (F45, B45)) (wg1 : aT (h.push B45) v5 (F45 (h).n) (ae K.P 26) (ae K.P 26) = some (r46, g1)) : eD K [1, 1, 1, 1, 0, 1, 0] s h .normal (W (W4 s 43 v5 44 v1 45 (F45 (h).n) 46 r46) 5 r46) g1 :=
 rg (Rm rfl rfl i5 (Rm rfl rfl i1 (RunL.op (v := (F45 (h).n)) rfl (bE rfl rfl o45) (RunL.op (v := r46) rfl (cj hk rfl rfl rfl rfl rfl rfl wg1) (Ra (v := r46) rfl rfl rfl (RunL.nil))))))
theorem AI {v5 : CV} (i5 : s.at 5 = v5) : eD K [1, 1, 1, 1, 1, 0] s h .normal (W (W s 47 v5) 4 v5) h :=
 rg (Rm rfl rfl i5 (Ra (v := v5) rfl rfl rfl (RunL.nil)))
theorem AJ : io K [0] s h .normal (W s 4 ff) h :=
 rg (Ra (v := ff) rfl rfl rfl (RunL.nil))
theorem AK : io K [1, 0, 0] s h .normal (W s 5 n0) h :=
 rg (Ra (v := n0) rfl rfl rfl (RunL.nil))
theorem tQ {v5 v0 r8 r9 : CV} (i5 : s.at 5 = v5) (i0 : s.at 0 = v0) (o8 : aj h v0 (ae K.P 45) = some r8) (o9 : ab K.P .lss 3 v5 r8 = some r9) : io K [1, 0, 1, 0, 0, 0, 0] s h .normal (W4 s 6 v5 7 v0 8 r8 9 r9) h :=
 rg (Rm rfl rfl i5 (Rm rfl rfl i0 (R1 (v := r8) rfl (aH rfl rfl rfl rfl rfl o8) (Rb rfl rfl rfl rfl o9 (RunL.nil)))))
theorem AM {v0 v5 r14 r15 v1 r17 : CV} (i0 : s.at 0 = v0) (i5 : s.at 5 = v5) (i1 : s.at 1 = v1) (o14 : af v0 v5 (ae K.P 45) = some r14) (o15 : al h r14 (ar K.P 3) = some r15) (o17 : ab K.P .eql 3 r15 v1 = some r17) : io K [1, 0, 1, 0, 0, 1, 0, 0, 0] s h .normal (W (W (W4 s 12 v0 13 v5 14 r14 15 r15) 16 v1) 17 r17) h :=
 rg (Rm rfl rfl i0 (Rm rfl rfl i5 (R1 (v := r14) rfl (ba rfl rfl rfl o14) (R1 (v := r15) rfl (aI rfl rfl o15) (Rm rfl rfl i1 (Rb rfl rfl rfl rfl o17 (RunL.nil)))))))
theorem Kd : io K [1, 0, 1, 0, 0, 1, 0, 0, 1, 0, 0] s h .normal (W s 4 tt) h :=
 rg (Ra (v := tt) rfl rfl rfl (RunL.nil))
theorem Ke {v5 r11 : CV} (i5 : s.at 5 = v5) (o11 : ab K.P .add 3 v5 (.nu .i64 1) = some r11) : io K [1, 0, 1, 0, 0, 1, 1] s h .normal (W (W (W s 10 v5) 11 r11) 5 r11) h :=
 rg (Rm rfl rfl i5 (Rb rfl rfl rfl rfl o11 (Ra (v := r11) rfl rfl rfl (RunL.nil))))
theorem Kf : io K [1, 1, 0] s h .normal (W s 4 ff) h :=
 rg (Ra (v := ff) rfl rfl rfl (RunL.nil))
theorem Kg : dv K [0] s h .normal (W s 2 .nils) h :=
 rg (Ra (v := .nils) rfl rfl rfl (RunL.nil))
theorem Kh : dv K [1, 0] s h .normal (W s 3 .nils) h :=
 rg (Ra (v := .nils) rfl rfl rfl (RunL.nil))
theorem Ki : dv K [1, 1, 0, 0] s h .normal (W s 4 (.nu .i64 1)) h :=
 rg (Ra (v := (.nu .i64 1)) rfl rfl rfl (RunL.nil))
theorem AN {v4 v0 r9 r10 r11 : CV} (i4 : s.at 4 = v4) (i0 : s.at 0 = v0) (o9 : aj h v0 (ae K.P 45) = some r9) (o10 : ab K.P .shl 3 (.nu .i64 1) r9 = some r10) (o11 : ab K.P .lss 3 v4 r10 = some r11) : dv K [1, 1, 0, 1, 0, 0, 0, 0] s h .normal (W (W4 s 7 v4 8 v0 9 r9 10 r10) 11 r11) h :=
 rg (Rm rfl rfl i4 (Rm rfl rfl i0 (R1 (v := r9) rfl (aH rfl rfl rfl rfl rfl o9) (Rb rfl rfl rfl rfl o10 (Rb rfl rfl rfl rfl o11 (RunL.nil))))))
theorem Kj : dv K [1, 1, 0, 1, 0, 0, 1, 0, 0, 0] s h .normal (W s 5 .nils) h :=
 rg (Ra (v := .nils) rfl rfl rfl (RunL.nil))
theorem Kk : dv K [1, 1, 0, 1, 0, 0, 1, 0, 0, 1, 0, 0] s h .normal (W s 6 n0) h :=
 rg (Ra (v := n0) rfl rfl rfl (RunL.nil))
theorem tR {v6 v0 r16 r17 : CV} (i6 : s.at 6 = v6) (i0 : s.at 0 = v0) (o16 : aj h v0 (ae K.P 45) = some r16) (o17 : ab K.P .lss 3 v6 r16 = some r17) : dv K [1, 1, 0, 1, 0, 0, 1, 0, 0, 1, 0, 1, 0, 0, 0, 0] s h .normal (W4 s 14 v6 15 v0 16 r16 17 r17) h :=
 rg (Rm rfl rfl i6 (Rm rfl rfl i0 (R1 (v := r16) rfl (aH rfl rfl rfl rfl rfl o16) (Rb rfl rfl rfl rfl o17 (RunL.nil)))))
theorem AO {v4 v6 r22 r23 r24 : CV} (i4 : s.at 4 = v4) (i6 : s.at 6 = v6) (o22 : ab K.P .shr 3 v4 v6 = some r22) (o23 : ab K.P .rem 3 r22 (.nu .i64 2) = some r23) (o24 : ab K.P .eql 3 r23 (.nu .i64 1) = some r24) : dv K [1, 1, 0, 1, 0, 0, 1, 0, 0, 1, 0, 1, 0, 0, 1, 0, 0, 0] s h .normal (W (W4 s 20 v4 21 v6 22 r22 23 r23) 24 r24) h :=
 rg (Rm rfl rfl i4 (Rm rfl rfl i6 (Rb rfl rfl rfl rfl o22 (Rb rfl rfl rfl rfl o23 (Rb rfl rfl rfl rfl o24 (RunL.nil))))))
theorem HL {v5 v0 v6 r28 r29 r31 : CV} {F30 : Nat → CV} {B30 : HB} {g1 : Hp} (i5 : s.at 5 = v5) (i0 : s.at 0 = v0) (i6 : s.at 6 = v6) (o28 : af v0 v6 (ae K.P 45) = some r28) (o29 : al h r28 (ar K.P 3) = some r29) (o30 : aM 1 [(0, r29)] (ae K.P 45) = some (F30, B30)) (wg1 : aT (h.push B30) v5 (F30 (h).n) (ae K.P 45) (ae K.P 45) = some (r31, g1)) : dv K [1, 1, 0, 1, 0, 0, 1, 0, 0, 1, 0, 1, 0, 0, 1, 0, 0, 1, 0] s h .normal (W8 s 25 v5 26 v0 27 v6 28 r28 29 r29 30 (F30 (h).n) 31 r31 5 r31) g1 :=
 rg (Rm rfl rfl i5 (Rm rfl rfl i0 (Rm rfl rfl i6 (R1 (v := r28) rfl (ba rfl rfl rfl o28) (R1 (v := r29) rfl (aI rfl rfl o29) (RunL.op (v := (F30 (h).n)) rfl (bE rfl rfl o30) (RunL.op (v := r31) rfl (cj hk rfl rfl rfl rfl rfl rfl wg1) (Ra (v := r31) rfl rfl rfl (RunL.nil)))))))))
theorem AP {v6 r19 : CV} (i6 : s.at 6 = v6) (o19 : ab K.P .add 3 v6 (.nu .i64 1) = some r19) : dv K [1, 1, 0, 1, 0, 0, 1, 0, 0, 1, 0, 1, 0, 0, 1, 1] s h .normal (W (W (W s 18 v6) 19 r19) 6 r19) h :=
 rg (Rm rfl rfl i6 (Rb rfl rfl rfl rfl o19 (Ra (v := r19) rfl rfl rfl (RunL.nil))))
theorem HM {v3 v5 r34 : CV} {g1 : Hp} (i3 : s.at 3 = v3) (i5 : s.at 5 = v5) (pg1 : K.prim 98 [v3, v5] = none) (wg1 : Comes K 98 [v3, v5] h r34 g1) : dv K [1, 1, 0, 1, 0, 0, 1, 0, 0, 1, 1] s h .normal (W4 s 32 v3 33 v5 34 r34 3 r34) g1 :=
 rg (Rm rfl rfl i3 (Rm rfl rfl i5 (RunL.call (v := r34) rfl rfl rfl rfl rfl pg1 wg1 (Ra (v := r34) rfl rfl rfl (RunL.nil)))))
theorem Kl {v4 r13 : CV} (i4 : s.at 4 = v4) (o13 : ab K.P .add 3 v4 (.nu .i64 1) = some r13) : dv K [1, 1, 0, 1, 0, 0, 1, 1] s h .normal (W (W (W s 12 v4) 13 r13) 4 r13) h :=
 rg (Rm rfl rfl i4 (Rb rfl rfl rfl rfl o13 (Ra (v := r13) rfl rfl rfl (RunL.nil))))
theorem HN {v3 : CV} (i3 : s.at 3 = v3) : dv K [1, 1, 1, 0] s h .normal (W (W s 35 v3) 2 v3) h :=
 rg (Rm rfl rfl i3 (Ra (v := v3) rfl rfl rfl (RunL.nil)))
theorem p7 : jk K [0] s h .normal (W s 2 n0) h :=
 rg (Ra (v := n0) rfl rfl rfl (RunL.nil))
theorem p8 {v0 r5 r6 : CV} (i0 : s.at 0 = v0) (o5 : aj h v0 (ae K.P 45) = some r5) (o6 : ab K.P .eql 3 r5 n0 = some r6) : jk K [1, 0, 0, 0] s h .normal (W4 s 4 v0 5 r5 6 r6 3 r6) h :=
 rg (Rm rfl rfl i0 (R1 (v := r5) rfl (aH rfl rfl rfl rfl rfl o5) (Rb rfl rfl rfl rfl o6 (Ra (v := r6) rfl rfl rfl (RunL.nil)))))
theorem Km : jk K [1, 0, 0, 1, 0, 0] s h .normal (W s 2 (.nu .i64 1)) h :=
 rg (Ra (v := (.nu .i64 1)) rfl rfl rfl (RunL.nil))
theorem tS {v0 r9 r10 : CV} (i0 : s.at 0 = v0) (o9 : aj h v0 (ae K.P 45) = some r9) (o10 : ab K.P .gtr 3 r9 (.nu .i64 5) = some r10) : jk K [1, 0, 0, 1, 1, 0] s h .normal (W4 s 8 v0 9 r9 10 r10 7 r10) h :=
 rg (Rm rfl rfl i0 (R1 (v := r9) rfl (aH rfl rfl rfl rfl rfl o9) (Rb rfl rfl rfl rfl o10 (Ra (v := r10) rfl rfl rfl (RunL.nil)))))
theorem Kn : jk K [1, 0, 0, 1, 1, 1, 0, 0] s h .normal (W s 2 (.nu .i64 3)) h :=
 rg (Ra (v := (.nu .i64 3)) rfl rfl rfl (RunL.nil))
theorem AQ {v0 r13 : CV} {g1 : Hp} (i0 : s.at 0 = v0) (pg1 : K.prim 138 [v0, (.fn 139 [])] = none) (wg1 : Comes K 138 [v0, (.fn 139 [])] h r13 g1) : jk K [1, 0, 0, 1, 1, 1, 1, 0] s h .normal (W (W (W s 12 v0) 13 r13) 11 r13) g1 :=
 rg (Rm rfl rfl i0 (RunL.call (v := r13) rfl rfl rfl rfl rfl pg1 wg1 (Ra (v := r13) rfl rfl rfl (RunL.nil))))
theorem Ko : jk K [1, 0, 0, 1, 1, 1, 1, 1, 0, 0] s h .normal (W s 2 (.nu .i64 1)) h :=
 rg (Ra (v := (.nu .i64 1)) rfl rfl rfl (RunL.nil))
theorem Kp : jk K [1, 1, 0] s h .normal (W s 2 n0) h :=
 rg (Ra (v := n0) rfl rfl rfl (RunL.nil))
theorem Kq : HC K [0] s h .normal (W s 4 ff) h :=
 rg (Ra (v := ff) rfl rfl rfl (RunL.nil))
theorem Kr {v0 v1 r7 r8 : CV} {g1 : Hp} (i0 : s.at 0 = v0) (i1 : s.at 1 = v1) (pg1 : K.prim 141 [v0, v1] = none) (wg1 : Comes K 141 [v0, v1] h r7 g1) (o8 : ab K.P .geq 3 r7 n0 = some r8) : HC K [1, 0] s h .normal (W (W4 s 5 v0 6 v1 7 r7 8 r8) 4 r8) g1 :=
 rg (Rm rfl rfl i0 (Rm rfl rfl i1 (RunL.call (v := r7) rfl rfl rfl rfl rfl pg1 wg1 (Rb rfl rfl rfl rfl o8 (Ra (v := r8) rfl rfl rfl (RunL.nil))))))
theorem Ks : MT K [0] s h .normal (W s 4 .nils) h :=
 rg (Ra (v := .nils) rfl rfl rfl (RunL.nil))
theorem Kt : HD K [0] s h .normal (W s 4 ff) h :=
 rg (Ra (v := ff) rfl rfl rfl (RunL.nil))
theorem Ku {v0 v1 r7 r8 : CV} {g1 : Hp} (i0 : s.at 0 = v0) (i1 : s.at 1 = v1) (pg1 : K.prim 166 [v0, v1] = none) (wg1 : Comes K 166 [v0, v1] h r7 g1) (o8 : ab K.P .geq 3 r7 n0 = some r8) : HD K [1, 0] s h .normal (W (W4 s 5 v0 6 v1 7 r7 8 r8) 4 r8) g1 :=
 rg (Rm rfl rfl i0 (Rm rfl rfl i1 (RunL.call (v := r7) rfl rfl rfl rfl rfl pg1 wg1 (Rb rfl rfl rfl rfl o8 (Ra (v := r8) rfl rfl rfl (RunL.nil))))))
theorem tT : fX K [0] s h .normal (W s 4 n0) h :=
 rg (Ra (v := n0) rfl rfl rfl (RunL.nil))
theorem AR {v0 r7 : CV} (i0 : s.at 0 = v0) (o7 : aj h v0 (ae K.P 45) = some r7) : fX K [1, 0, 0] s h .normal (W (W (W s 6 v0) 7 r7) 8 n0) h :=
 rg (Rm rfl rfl i0 (R1 (v := r7) rfl (aH rfl rfl rfl rfl rfl o7) (Rm (v := n0) rfl rfl rfl (RunL.nil))))
theorem tU {v8 v7 r9 : CV} (i8 : s.at 8 = v8) (i7 : s.at 7 = v7) (o9 : ab K.P .lss 3 v8 v7 = some r9) : fX K [1, 0, 1, 0, 0, 0] s h .normal (W s 9 r9) h :=
 rg (Rb rfl rfl i8 i7 o9 (RunL.nil))
theorem AS {v8 : CV} (i8 : s.at 8 = v8) : fX K [1, 0, 1, 0, 0, 1, 1, 0, 0, 0] s h .normal (W (W s 10 v8) 5 v8) h :=
 rg (Rm rfl rfl i8 (Ra (v := v8) rfl rfl rfl (RunL.nil)))
theorem AT {v1 v0 v5 r14 r15 r16 : CV} {g1 : Hp} {G16 : FuncId} {C16 : List CV} (i1 : s.at 1 = v1) (i0 : s.at 0 = v0) (i5 : s.at 5 = v5) (o14 : af v0 v5 (ae K.P 45) = some r14) (o15 : al h r14 (ar K.P 3) = some r15) (e16 : (v1 : CV) = .fn G16 C16) (pg1 : K.prim G16 ([r15] ++ C16) = none) (wg1 : Comes K G16 ([r15] ++ C16) h r16 g1) : fX K [1, 0, 1, 0, 0, 1, 1, 0, 0, 1, 0] s h .normal (W (W (W4 s 11 v1 12 v0 13 v5 14 r14) 15 r15) 16 r16) g1 :=
 rg (Rm rfl rfl i1 (Rm rfl rfl i0 (Rm rfl rfl i5 (R1 (v := r14) rfl (ba rfl rfl rfl o14) (R1 (v := r15) rfl (aI rfl rfl o15) (RunL.call (v := r16) rfl rfl rfl e16 rfl pg1 wg1 (RunL.nil)))))))
theorem Kv {v5 : CV} (i5 : s.at 5 = v5) : fX K [1, 0, 1, 0, 0, 1, 1, 0, 0, 1, 1, 0, 0] s h .normal (W (W s 17 v5) 4 v5) h :=
 rg (Rm rfl rfl i5 (Ra (v := v5) rfl rfl rfl (RunL.nil)))
theorem Kw {v8 r18 : CV} (i8 : s.at 8 = v8) (o18 : ab K.P .add 3 v8 (.nu .i64 1) = some r18) : fX K [1, 0, 1, 0, 0, 1, 1, 1] s h .normal (W (W s 18 r18) 8 r18) h :=
 rg (Rb rfl rfl i8 rfl o18 (Rm (v := r18) rfl rfl rfl (RunL.nil)))
theorem Kx : fX K [1, 1, 0] s h .normal (W s 4 (.nu .i64 (-1))) h :=
 rg (Ra (v := (.nu .i64 (-1))) rfl rfl rfl (RunL.nil))
theorem tV : ip K [0] s h .normal (W s 4 n0) h :=
 rg (Ra (v := n0) rfl rfl rfl (RunL.nil))
theorem tW {v0 r8 : CV} {g1 : Hp} (i0 : s.at 0 = v0) (pg1 : K.prim 144 [v0] = none) (wg1 : Comes K 144 [v0] h r8 g1) : ip K [1, 0] s h .normal (W (W (W s 7 v0) 8 r8) 5 r8) g1 :=
 rg (Rm rfl rfl i0 (RunL.call (v := r8) rfl rfl rfl rfl rfl pg1 wg1 (Ra (v := r8) rfl rfl rfl (RunL.nil))))
theorem tX {v1 r10 : CV} {g1 : Hp} (i1 : s.at 1 = v1) (pg1 : K.prim 144 [v1] = none) (wg1 : Comes K 144 [v1] h r10 g1) : ip K [1, 1, 0] s h .normal (W (W (W s 9 v1) 10 r10) 6 r10) g1 :=
 rg (Rm rfl rfl i1 (RunL.call (v := r10) rfl rfl rfl rfl rfl pg1 wg1 (Ra (v := r10) rfl rfl rfl (RunL.nil))))
theorem tY {v5 : CV} (i5 : s.at 5 = v5) : ip K [1, 1, 1, 0, 0] s h .normal (W s 11 v5) h :=
 rg (Rm rfl rfl i5 (RunL.nil))
theorem tZ {v6 : CV} (i6 : s.at 6 = v6) : ip K [1, 1, 1, 1, 0, 0] s h .normal (W s 13 v6) h :=
 rg (Rm rfl rfl i6 (RunL.nil))
theorem ua {v0 v1 r16 : CV} (i0 : s.at 0 = v0) (i1 : s.at 1 = v1) (o16 : ab K.P .lss 3 v0 v1 = some r16) : ip K [1, 1, 1, 1, 1, 0, 0] s h .normal (W (W (W s 14 v0) 15 v1) 16 r16) h :=
 rg (Rm rfl rfl i0 (Rm rfl rfl i1 (Rb rfl rfl rfl rfl o16 (RunL.nil))))
theorem HO : ip K [1, 1, 1, 1, 1, 0, 1, 0, 0] s h .normal (W s 4 (.nu .i64 (-1))) h :=
 rg (Ra (v := (.nu .i64 (-1))) rfl rfl rfl (RunL.nil))
theorem yg {v0 v1 r19 : CV} (i0 : s.at 0 = v0) (i1 : s.at 1 = v1) (o19 : ab K.P .gtr 3 v0 v1 = some r19) : ip K [1, 1, 1, 1, 1, 1, 0, 0] s h .normal (W (W (W s 17 v0) 18 v1) 19 r19) h :=
 rg (Rm rfl rfl i0 (Rm rfl rfl i1 (Rb rfl rfl rfl rfl o19 (RunL.nil))))
theorem HP : ip K [1, 1, 1, 1, 1, 1, 0, 1, 0, 0] s h .normal (W s 4 (.nu .i64 1)) h :=
 rg (Ra (v := (.nu .i64 1)) rfl rfl rfl (RunL.nil))
theorem HQ : ip K [1, 1, 1, 1, 1, 1, 1, 0] s h .normal (W s 4 n0) h :=
 rg (Ra (v := n0) rfl rfl rfl (RunL.nil))
theorem AU : fa K [0] s h .normal (W s 4 n0) h :=
 rg (Ra (v := n0) rfl rfl rfl (RunL.nil))
theorem Ky {v0 r10 : CV} (i0 : s.at 0 = v0) (o10 : aj h v0 (ae K.P 46) = some r10) : fa K [1, 0, 0] s h .normal (W (W (W s 9 v0) 10 r10) 11 n0) h :=
 rg (Rm rfl rfl i0 (R1 (v := r10) rfl (aH rfl rfl rfl rfl rfl o10) (Rm (v := n0) rfl rfl rfl (RunL.nil))))
theorem ub {v11 v10 r12 : CV} (i11 : s.at 11 = v11) (i10 : s.at 10 = v10) (o12 : ab K.P .lss 3 v11 v10 = some r12) : fa K [1, 0, 1, 0, 0, 0] s h .normal (W s 12 r12) h :=
 rg (Rb rfl rfl i11 i10 o12 (RunL.nil))
theorem AV {v11 v9 r14 r15 : CV} (i11 : s.at 11 = v11) (i9 : s.at 9 = v9) (o14 : af v9 v11 (ae K.P 46) = some r14) (o15 : al h r14 (ar K.P 3) = some r15) : fa K [1, 0, 1, 0, 0, 1, 1, 0, 0, 0] s h .normal (W (W4 s 13 v11 14 r14 15 r15 5 v11) 6 r15) h :=
 rg (Rm rfl rfl i11 (R1 (v := r14) rfl (ba rfl i9 i11 o14) (R1 (v := r15) rfl (aI rfl rfl o15) (Ra (v := v11) rfl rfl rfl (Ra (v := r15) rfl rfl rfl (RunL.nil))))))
theorem AW {v5 v1 r18 r19 : CV} (i5 : s.at 5 = v5) (i1 : s.at 1 = v1) (o18 : aj h v1 (ae K.P 46) = some r18) (o19 : ab K.P .geq 3 v5 r18 = some r19) : fa K [1, 0, 1, 0, 0, 1, 1, 0, 0, 1, 0, 0] s h .normal (W4 s 16 v5 17 v1 18 r18 19 r19) h :=
 rg (Rm rfl rfl i5 (Rm rfl rfl i1 (R1 (v := r18) rfl (aH rfl rfl rfl rfl rfl o18) (Rb rfl rfl rfl rfl o19 (RunL.nil)))))
theorem AX {v1 v5 r22 r23 : CV} (i1 : s.at 1 = v1) (i5 : s.at 5 = v5) (o22 : af v1 v5 (ae K.P 46) = some r22) (o23 : al h r22 (ar K.P 3) = some r23) : fa K [1, 0, 1, 0, 0, 1, 1, 0, 0, 1, 1, 0] s h .normal (W (W4 s 20 v1 21 v5 22 r22 23 r23) 7 r23) h :=
 rg (Rm rfl rfl i1 (Rm rfl rfl i5 (R1 (v := r22) rfl (ba rfl rfl rfl o22) (R1 (v := r23) rfl (aI rfl rfl o23) (Ra (v := r23) rfl rfl rfl (RunL.nil))))))
theorem AY {v6 v7 r26 : CV} {g1 : Hp} (i6 : s.at 6 = v6) (i7 : s.at 7 = v7) (pg1 : K.prim 118 [v6, v7] = none) (wg1 : Comes K 118 [v6, v7] h r26 g1) : fa K [1, 0, 1, 0, 0, 1, 1, 0, 0, 1, 1, 1, 0] s h .normal (W4 s 24 v6 25 v7 26 r26 8 r26) g1 :=
 rg (Rm rfl rfl i6 (Rm rfl rfl i7 (RunL.call (v := r26) rfl rfl rfl rfl rfl pg1 wg1 (Ra (v := r26) rfl rfl rfl (RunL.nil)))))
theorem AZ {v8 r28 : CV} (i8 : s.at 8 = v8) (o28 : ab K.P .neq 3 v8 n0 = some r28) : fa K [1, 0, 1, 0, 0, 1, 1, 0, 0, 1, 1, 1, 1, 0] s h .normal (W (W s 27 v8) 28 r28) h :=
 rg (Rm rfl rfl i8 (Rb rfl rfl rfl rfl o28 (RunL.nil)))
theorem Kz {v8 : CV} (i8 : s.at 8 = v8) : fa K [1, 0, 1, 0, 0, 1, 1, 0, 0, 1, 1, 1, 1, 1, 0, 0] s h .normal (W (W s 29 v8) 4 v8) h :=
 rg (Rm rfl rfl i8 (Ra (v := v8) rfl rfl rfl (RunL.nil)))
theorem HR {v11 r30 : CV} (i11 : s.at 11 = v11) (o30 : ab K.P .add 3 v11 (.nu .i64 1) = some r30) : fa K [1, 0, 1, 0, 0, 1, 1, 1] s h .normal (W (W s 30 r30) 11 r30) h :=
 rg (Rb rfl rfl i11 rfl o30 (Rm (v := r30) rfl rfl rfl (RunL.nil)))
theorem HS {v0 r32 v1 r34 r35 : CV} (i0 : s.at 0 = v0) (i1 : s.at 1 = v1) (o32 : aj h v0 (ae K.P 46) = some r32) (o34 : aj h v1 (ae K.P 46) = some r34) (o35 : ab K.P .lss 3 r32 r34 = some r35) : fa K [1, 1, 0, 0] s h .normal (W (W4 s 31 v0 32 r32 33 v1 34 r34) 35 r35) h :=
 rg (Rm rfl rfl i0 (R1 (v := r32) rfl (aH rfl rfl rfl rfl rfl o32) (Rm rfl rfl i1 (R1 (v := r34) rfl (aH rfl rfl rfl rfl rfl o34) (Rb rfl rfl rfl rfl o35 (RunL.nil))))))
theorem HT : fa K [1, 1, 1, 0] s h .normal (W s 4 n0) h :=
 rg (Ra (v := n0) rfl rfl rfl (RunL.nil))
theorem A0 : xU K [0] s h .normal (W s 2 ff) h :=
 rg (Ra (v := ff) rfl rfl rfl (RunL.nil))
theorem Eu {v0 r8 : CV} (i0 : s.at 0 = v0) (o4 : ab K.P .lss 3 v0 n0 = some tt) (o8 : ap tt .skp tt = some r8) : xU K [1, 0] s h .normal (W (W (W (W4 s 3 v0 4 tt 5 tt 6 .skp) 7 .skp) 8 r8) 2 r8) h :=
 rg (Rm rfl rfl i0 (Rb rfl rfl rfl rfl o4 (Rm (v := tt) rfl rfl rfl (RunL.pass rfl (RunL.pass rfl (R1 (v := r8) rfl (aL rfl rfl rfl rfl o8) (Ra (v := r8) rfl rfl rfl (RunL.nil))))))))
theorem Ev {v0 r7 r8 : CV} (i0 : s.at 0 = v0) (o4 : ab K.P .lss 3 v0 n0 = some ff) (o7 : ab K.P .geq 3 v0 (.nu .i64 64) = some r7) (o8 : ap tt r7 ff = some r8) : xU K [1, 0] s h .normal (W (W (W (W4 s 3 v0 4 ff 5 ff 6 v0) 7 r7) 8 r8) 2 r8) h :=
 rg (Rm rfl rfl i0 (Rb rfl rfl rfl rfl o4 (Rm (v := ff) rfl rfl rfl (Rm rfl rfl i0 (Rb rfl rfl rfl rfl o7 (R1 (v := r8) rfl (aL rfl rfl rfl rfl o8) (Ra (v := r8) rfl rfl rfl (RunL.nil))))))))
theorem A1 : gA K [0] s h .normal (W s 4 n0) h :=
 rg (Ra (v := n0) rfl rfl rfl (RunL.nil))
theorem KA {v0 r7 : CV} (i0 : s.at 0 = v0) (o7 : aj h v0 (ae K.P 46) = some r7) : gA K [1, 0, 0] s h .normal (W (W (W s 6 v0) 7 r7) 8 n0) h :=
 rg (Rm rfl rfl i0 (R1 (v := r7) rfl (aH rfl rfl rfl rfl rfl o7) (Rm (v := n0) rfl rfl rfl (RunL.nil))))
theorem uc {v8 v7 r9 : CV} (i8 : s.at 8 = v8) (i7 : s.at 7 = v7) (o9 : ab K.P .lss 3 v8 v7 = some r9) : gA K [1, 0, 1, 0, 0, 0] s h .normal (W s 9 r9) h :=
 rg (Rb rfl rfl i8 i7 o9 (RunL.nil))
theorem A2 {v8 : CV} (i8 : s.at 8 = v8) : gA K [1, 0, 1, 0, 0, 1, 1, 0, 0, 0] s h .normal (W (W s 10 v8) 5 v8) h :=
 rg (Rm rfl rfl i8 (Ra (v := v8) rfl rfl rfl (RunL.nil)))
theorem A3 {v1 v0 v5 r14 r15 r16 : CV} (i1 : s.at 1 = v1) (i0 : s.at 0 = v0) (i5 : s.at 5 = v5) (o14 : af v0 v5 (ae K.P 46) = some r14) (o15 : al h r14 (ar K.P 3) = some r15) (o16 : ab K.P .eql 3 v1 r15 = some r16) : gA K [1, 0, 1, 0, 0, 1, 1, 0, 0, 1, 0] s h .normal (W (W (W4 s 11 v1 12 v0 13 v5 14 r14) 15 r15) 16 r16) h :=
 rg (Rm rfl rfl i1 (Rm rfl rfl i0 (Rm rfl rfl i5 (R1 (v := r14) rfl (ba rfl rfl rfl o14) (R1 (v := r15) rfl (aI rfl rfl o15) (Rb rfl rfl rfl rfl o16 (RunL.nil)))))))
theorem KB {v5 : CV} (i5 : s.at 5 = v5) : gA K [1, 0, 1, 0, 0, 1, 1, 0, 0, 1, 1, 0, 0] s h .normal (W (W s 17 v5) 4 v5) h :=
 rg (Rm rfl rfl i5 (Ra (v := v5) rfl rfl rfl (RunL.nil)))
theorem KC {v8 r18 : CV} (i8 : s.at 8 = v8) (o18 : ab K.P .add 3 v8 (.nu .i64 1) = some r18) : gA K [1, 0, 1, 0, 0, 1, 1, 1] s h .normal (W (W s 18 r18) 8 r18) h :=
 rg (Rb rfl rfl i8 rfl o18 (Rm (v := r18) rfl rfl rfl (RunL.nil)))
theorem KD : gA K [1, 1, 0] s h .normal (W s 4 (.nu .i64 (-1))) h :=
 rg (Ra (v := (.nu .i64 (-1))) rfl rfl rfl (RunL.nil))
theorem KF : HE K [0] s h .normal (W s 2 ff) h :=
 rg (Ra (v := ff) rfl rfl rfl (RunL.nil))
theorem KG {v0 r5 : CV} (i0 : s.at 0 = v0) (o5 : ab K.P .neq 3 v0 v0 = some r5) : HE K [1, 0] s h .normal (W4 s 3 v0 4 v0 5 r5 2 r5) h :=
 rg (Rm rfl rfl i0 (Rm rfl rfl i0 (Rb rfl rfl rfl rfl o5 (Ra (v := r5) rfl rfl rfl (RunL.nil)))))
end Go.CP
