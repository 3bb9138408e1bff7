import Derived.Test.YtadagifjonbmjaaGreatDoorKq0
import Derived.Test.YtadagifjonbmjaaGreatDoorProg
set_option linter.all false
set_option maxHeartbeats 2000000
namespace Go.CP
open Go.Proofs
abbrev eE [LG] [HK] (K : Ctx) (p : List Nat) := Runs K 15 49 none (aD p (am Tryz.f15))
abbrev pE [LG] [HK] (K : Ctx) (p : List Nat) := Runs K 16 21 none (aD p (am Tryz.f16))
abbrev bB [LG] [HK] (K : Ctx) (p : List Nat) := Runs K 26 74 none (aD p (am Tryz.f26))
abbrev jc [LG] [HK] (K : Ctx) (p : List Nat) := Runs K 38 40 none (aD p (am Tryz.f38))
abbrev fw [LG] [HK] (K : Ctx) (p : List Nat) := Runs K 55 52 none (aD p (am Tryz.f55))
abbrev fJ [LG] [HK] (K : Ctx) (p : List Nat) := Runs K 56 31 none (aD p (am Tryz.f56))
abbrev fx [LG] [HK] (K : Ctx) (p : List Nat) := Runs K 66 26 none (aD p (am Tryz.f66))
abbrev Gm [LG] [HK] (K : Ctx) (p : List Nat) := Runs K 69 8 none (aD p (am Tryz.f69))
abbrev lH [LG] [HK] (K : Ctx) (p : List Nat) := Runs K 71 18 none (aD p (am Tryz.f71))
abbrev fR [LG] [HK] (K : Ctx) (p : List Nat) := Runs K 73 28 none (aD p (am Tryz.f73))
abbrev wo [LG] [HK] (K : Ctx) (p : List Nat) := Runs K 74 17 none (aD p (am Tryz.f74))
abbrev eH [LG] [HK] (K : Ctx) (p : List Nat) := Runs K 85 54 none (aD p (am Tryz.f85))
abbrev ef [LG] [HK] (K : Ctx) (p : List Nat) := Runs K 98 48 none (aD p (am Tryz.f98))
abbrev hF [LG] [HK] (K : Ctx) (p : List Nat) := Runs K 104 18 none (aD p (am Tryz.f104))
abbrev dc [LG] [HK] (K : Ctx) (p : List Nat) := Runs K 105 36 none (aD p (am Tryz.f105))
abbrev iU [LG] [HK] (K : Ctx) (p : List Nat) := Runs K 110 14 none (aD p (am Tryz.f110))
abbrev Ev [LG] [HK] (K : Ctx) (p : List Nat) := Runs K 113 9 none (aD p (am Tryz.f113))
abbrev JL [LG] [HK] (K : Ctx) (p : List Nat) := Runs K 117 15 none (aD p (am Tryz.f117))
abbrev Ew [LG] [HK] (K : Ctx) (p : List Nat) := Runs K 138 9 none (aD p (am Tryz.f138))
abbrev fL [LG] [HK] (K : Ctx) (p : List Nat) := Runs K 166 19 none (aD p (am Tryz.f166))
abbrev hK [LG] [HK] (K : Ctx) (p : List Nat) := Runs K 118 20 none (aD p (am Tryz.f118))
abbrev eR [LG] [HK] (K : Ctx) (p : List Nat) := Runs K 119 36 none (aD p (am Tryz.f119))
abbrev wp [LG] [HK] (K : Ctx) (p : List Nat) := Runs K 139 9 none (aD p (am Tryz.f139))
abbrev gd [LG] [HK] (K : Ctx) (p : List Nat) := Runs K 141 19 none (aD p (am Tryz.f141))
abbrev Ex [LG] [HK] (K : Ctx) (p : List Nat) := Runs K 144 6 none (aD p (am Tryz.f144))
variable [LG] [HK] {K : Ctx} {s : Fr} {h : Hp} (hk : ∀ o, HK.keep o = false)
include hk
theorem JM : eE K [0] s h .normal (W s 8 .nils) h :=
 rg (Ra (v := .nils) rfl rfl rfl (RunL.nil))
theorem JN : eE K [1, 0] s h .normal (W s 9 .nils) h :=
 rg (Ra (v := .nils) rfl rfl rfl (RunL.nil))
theorem JO : eE K [1, 1, 0, 0] s h .normal (W s 10 n0) h :=
 rg (Ra (v := n0) rfl rfl rfl (RunL.nil))
theorem wq {v10 v0 r16 v1 r21 r22 : CV} (i10 : s.at 10 = v10) (i0 : s.at 0 = v0) (i1 : s.at 1 = v1) (o16 : an h v0 (ae K.P 26) = some r16) (o17 : ab K.P .lss 3 v10 r16 = some tt) (o21 : ab K.P .lss 3 v10 v1 = some r21) (o22 : aA r21 ff tt = some r22) : eE K [1, 1, 0, 1, 0, 0, 0, 0] s h .normal (W (W8 s 14 v10 15 v0 16 r16 17 tt 18 tt 19 v10 20 v1 21 r21) 22 r22) h :=
 rg (Rm rfl rfl i10 (Rm rfl rfl i0 (R1 (v := r16) rfl (aK rfl rfl rfl rfl rfl o16) (Rb rfl rfl rfl rfl o17 (Rm (v := tt) rfl rfl rfl (Rm rfl rfl i10 (Rm rfl rfl i1 (Rb rfl rfl rfl rfl o21 (R1 (v := r22) rfl (aU rfl rfl rfl rfl o22) (RunL.nil))))))))))
theorem Ey {v10 v0 r16 r22 : CV} (i10 : s.at 10 = v10) (i0 : s.at 0 = v0) (o16 : an h v0 (ae K.P 26) = some r16) (o17 : ab K.P .lss 3 v10 r16 = some ff) (o22 : aA .skp ff ff = some r22) : eE K [1, 1, 0, 1, 0, 0, 0, 0] s h .normal (W (W8 s 14 v10 15 v0 16 r16 17 ff 18 ff 19 .skp 20 .skp 21 .skp) 22 r22) h :=
 rg (Rm rfl rfl i10 (Rm rfl rfl i0 (R1 (v := r16) rfl (aK rfl rfl rfl rfl rfl o16) (Rb rfl rfl rfl rfl o17 (Rm (v := ff) rfl rfl rfl (RunL.pass rfl (RunL.pass rfl (RunL.pass rfl (R1 (v := r22) rfl (aU rfl rfl rfl rfl o22) (RunL.nil))))))))))
theorem JP {v9 v0 v10 r28 r29 v2 r31 v3 r33 r35 : CV} {F34 : Nat → CV} {B34 : HB} {g1 g2 : Hp} (i9 : s.at 9 = v9) (i0 : s.at 0 = v0) (i10 : s.at 10 = v10) (i2 : s.at 2 = v2) (i3 : s.at 3 = v3) (o28 : ai v0 v10 (ae K.P 26) = some r28) (o29 : ap h r28 (ar K.P 45) = some r29) (o31 : ab K.P .add 3 v2 (.nu .i64 1) = some r31) (pg1 : K.prim 55 [r29, r31, v3] = none) (wg1 : Comes K 55 [r29, r31, v3] h r33 g1) (o34 : aL 1 [(0, r33)] (ae K.P 26) = some (F34, B34)) (wg2 : aQ (g1.push B34) v9 (F34 (g1).n) (ae K.P 26) (ae K.P 26) = some (r35, g2)) : eE K [1, 1, 0, 1, 0, 0, 1, 0, 0] s h .normal (W4 (W8 s 25 v9 26 v0 27 v10 28 r28 29 r29 30 v2 31 r31 32 v3) 33 r33 34 (F34 (g1).n) 35 r35 9 r35) g2 :=
 rg (Rm rfl rfl i9 (Rm rfl rfl i0 (Rm rfl rfl i10 (R1 (v := r28) rfl (bw rfl rfl rfl o28) (R1 (v := r29) rfl (aJ rfl rfl o29) (Rm rfl rfl i2 (Rb rfl rfl rfl rfl o31 (Rm rfl rfl i3 (RunL.call (v := r33) rfl rfl rfl rfl rfl pg1 wg1 (RunL.op (v := (F34 (g1).n)) rfl (bZ rfl rfl o34) (RunL.op (v := r35) rfl (cO hk rfl rfl rfl rfl rfl rfl wg2) (Ra (v := r35) rfl rfl rfl (RunL.nil)))))))))))))
theorem JQ {v10 r24 : CV} (i10 : s.at 10 = v10) (o24 : ab K.P .add 3 v10 (.nu .i64 1) = some r24) : eE K [1, 1, 0, 1, 0, 0, 1, 1] s h .normal (W (W (W s 23 v10) 24 r24) 10 r24) h :=
 rg (Rm rfl rfl i10 (Rb rfl rfl rfl rfl o24 (Ra (v := r24) rfl rfl rfl (RunL.nil))))
theorem JR : eE K [1, 1, 1, 0] s h .normal (W s 11 .nils) h :=
 rg (Ra (v := .nils) rfl rfl rfl (RunL.nil))
theorem JS {v9 r37 r38 : CV} {g1 : Hp} (i9 : s.at 9 = v9) (pg1 : K.prim 56 [v9] = none) (wg1 : Comes K 56 [v9] h r37 g1) (o38 : an g1 r37 (ae K.P 26) = some r38) : eE K [1, 1, 1, 1, 0, 0] s h .normal (W4 s 36 v9 37 r37 38 r38 39 n0) g1 :=
 rg (Rm rfl rfl i9 (RunL.call (v := r37) rfl rfl rfl rfl rfl pg1 wg1 (R1 (v := r38) rfl (aK rfl rfl rfl rfl rfl o38) (Rm (v := n0) rfl rfl rfl (RunL.nil)))))
theorem BJ {v39 v38 r40 : CV} (i39 : s.at 39 = v39) (i38 : s.at 38 = v38) (o40 : ab K.P .lss 3 v39 v38 = some r40) : eE K [1, 1, 1, 1, 0, 1, 0, 0, 0] s h .normal (W s 40 r40) h :=
 rg (Rb rfl rfl i39 i38 o40 (RunL.nil))
theorem JT {v37 v39 r41 r42 : CV} (i37 : s.at 37 = v37) (i39 : s.at 39 = v39) (o41 : ai v37 v39 (ae K.P 26) = some r41) (o42 : ap h r41 (ar K.P 45) = some r42) : eE K [1, 1, 1, 1, 0, 1, 0, 0, 1, 1, 0, 0, 0] s h .normal (W (W (W s 41 r41) 42 r42) 13 r42) h :=
 rg (R1 (v := r41) rfl (bw rfl i37 i39 o41) (R1 (v := r42) rfl (aJ rfl rfl o42) (Ra (v := r42) rfl rfl rfl (RunL.nil))))
theorem GQ {v11 v13 r46 : CV} {F45 : Nat → CV} {B45 : HB} {g1 : Hp} (i11 : s.at 11 = v11) (i13 : s.at 13 = v13) (o45 : aL 1 [(0, v13)] (ae K.P 22) = some (F45, B45)) (wg1 : aQ (h.push B45) v11 (F45 (h).n) (ae K.P 22) (ae K.P 22) = some (r46, g1)) : eE K [1, 1, 1, 1, 0, 1, 0, 0, 1, 1, 0, 0, 1] s h .normal (W (W4 s 43 v11 44 v13 45 (F45 (h).n) 46 r46) 11 r46) g1 :=
 rg (Rm rfl rfl i11 (Rm rfl rfl i13 (RunL.op (v := (F45 (h).n)) rfl (bZ rfl rfl o45) (RunL.op (v := r46) rfl (cO hk rfl rfl rfl rfl rfl rfl wg1) (Ra (v := r46) rfl rfl rfl (RunL.nil))))))
theorem GR {v39 r47 : CV} (i39 : s.at 39 = v39) (o47 : ab K.P .add 3 v39 (.nu .i64 1) = some r47) : eE K [1, 1, 1, 1, 0, 1, 0, 0, 1, 1, 1] s h .normal (W (W s 47 r47) 39 r47) h :=
 rg (Rb rfl rfl i39 rfl o47 (Rm (v := r47) rfl rfl rfl (RunL.nil)))
theorem GS {v11 : CV} (i11 : s.at 11 = v11) : eE K [1, 1, 1, 1, 1, 0] s h .normal (W (W s 48 v11) 8 v11) h :=
 rg (Rm rfl rfl i11 (Ra (v := v11) rfl rfl rfl (RunL.nil)))
theorem JU : pE K [0] s h .normal (W s 2 .nils) h :=
 rg (Ra (v := .nils) rfl rfl rfl (RunL.nil))
theorem JV : pE K [1, 0] s h .normal (W s 3 .nils) h :=
 rg (Ra (v := .nils) rfl rfl rfl (RunL.nil))
theorem JW : pE K [1, 1, 0, 0] s h .normal (W s 4 n0) h :=
 rg (Ra (v := n0) rfl rfl rfl (RunL.nil))
theorem BK {v4 v0 r7 r8 : CV} (i4 : s.at 4 = v4) (i0 : s.at 0 = v0) (o7 : an h v0 (ae K.P 22) = some r7) (o8 : ab K.P .lss 3 v4 r7 = some r8) : pE K [1, 1, 0, 1, 0, 0, 0, 0] s h .normal (W4 s 5 v4 6 v0 7 r7 8 r8) h :=
 rg (Rm rfl rfl i4 (Rm rfl rfl i0 (R1 (v := r7) rfl (aK rfl rfl rfl rfl rfl o7) (Rb rfl rfl rfl rfl o8 (RunL.nil)))))
theorem JX {v3 v0 v4 r15 r16 r17 r19 : CV} {F12 F18 : Nat → CV} {B12 B18 : HB} {g1 g2 : Hp} (i3 : s.at 3 = v3) (i0 : s.at 0 = v0) (i4 : s.at 4 = v4) (o12 : aL 0 [] (ae K.P 45) = some (F12, B12)) (o15 : ai v0 v4 (ae K.P 22) = some r15) (o16 : ap (h.push B12) r15 (ar K.P 46) = some r16) (wg1 : aQ (h.push B12) (F12 (h).n) r16 (ae K.P 45) (ae K.P 46) = some (r17, g1)) (o18 : aL 1 [(0, r17)] (ae K.P 26) = some (F18, B18)) (wg2 : aQ (g1.push B18) v3 (F18 (g1).n) (ae K.P 26) (ae K.P 26) = some (r19, g2)) : pE K [1, 1, 0, 1, 0, 0, 1, 0, 0] s h .normal (W (W (W8 s 11 v3 12 (F12 (h).n) 13 v0 14 v4 15 r15 16 r16 17 r17 18 (F18 (g1).n)) 19 r19) 3 r19) g2 :=
 rg (Rm rfl rfl i3 (RunL.op (v := (F12 (h).n)) rfl (bZ rfl rfl o12) (Rm rfl rfl i0 (Rm rfl rfl i4 (R1 (v := r15) rfl (bw rfl rfl rfl o15) (R1 (v := r16) rfl (aJ rfl rfl o16) (RunL.op (v := r17) rfl (cO hk rfl rfl rfl rfl rfl rfl wg1) (RunL.op (v := (F18 (g1).n)) rfl (bZ rfl rfl o18) (RunL.op (v := r19) rfl (cO hk rfl rfl rfl rfl rfl rfl wg2) (Ra (v := r19) rfl rfl rfl (RunL.nil)))))))))))
theorem JY {v4 r10 : CV} (i4 : s.at 4 = v4) (o10 : ab K.P .add 3 v4 (.nu .i64 1) = some r10) : pE K [1, 1, 0, 1, 0, 0, 1, 1] s h .normal (W (W (W s 9 v4) 10 r10) 4 r10) h :=
 rg (Rm rfl rfl i4 (Rb rfl rfl rfl rfl o10 (Ra (v := r10) rfl rfl rfl (RunL.nil))))
theorem JZ {v3 : CV} (i3 : s.at 3 = v3) : pE K [1, 1, 1, 0] s h .normal (W (W s 20 v3) 2 v3) h :=
 rg (Rm rfl rfl i3 (Ra (v := v3) rfl rfl rfl (RunL.nil)))
theorem wt : bB K [0] s h .normal (W s 2 n0) h :=
 rg (Ra (v := n0) rfl rfl rfl (RunL.nil))
theorem BL {v0 r14 r15 : CV} (i0 : s.at 0 = v0) (o14 : an h v0 (ae K.P 22) = some r14) (o15 : ab K.P .gtr 3 r14 (.nu .i64 1024) = some r15) : bB K [1, 0, 0] s h .normal (W (W (W s 13 v0) 14 r14) 15 r15) h :=
 rg (Rm rfl rfl i0 (R1 (v := r14) rfl (aK rfl rfl rfl rfl rfl o14) (Rb rfl rfl rfl rfl o15 (RunL.nil))))
theorem J0 : bB K [1, 0, 1, 0, 0] s h .normal (W s 2 (.nu .i64 3)) h :=
 rg (Ra (v := (.nu .i64 3)) rfl rfl rfl (RunL.nil))
theorem BM : bB K [1, 1, 0] s h .normal (W (W s 16 (.mp (h).n)) 3 (.mp (h).n)) (h.push (.mp [])) :=
 rg (RunL.op (v := (.mp (h).n)) rfl (Gj rfl) (Ra (v := (.mp (h).n)) rfl rfl rfl (RunL.nil)))
theorem J1 {v0 r18 : CV} (i0 : s.at 0 = v0) (o18 : an h v0 (ae K.P 22) = some r18) : bB K [1, 1, 1, 0, 0] s h .normal (W (W (W s 17 v0) 18 r18) 19 n0) h :=
 rg (Rm rfl rfl i0 (R1 (v := r18) rfl (aK rfl rfl rfl rfl rfl o18) (Rm (v := n0) rfl rfl rfl (RunL.nil))))
theorem wu {v19 v18 r20 : CV} (i19 : s.at 19 = v19) (i18 : s.at 18 = v18) (o20 : ab K.P .lss 3 v19 v18 = some r20) : bB K [1, 1, 1, 0, 1, 0, 0, 0] s h .normal (W s 20 r20) h :=
 rg (Rb rfl rfl i19 i18 o20 (RunL.nil))
theorem BN {v17 v19 r21 r22 : CV} (i17 : s.at 17 = v17) (i19 : s.at 19 = v19) (o21 : ai v17 v19 (ae K.P 22) = some r21) (o22 : ap h r21 (ar K.P 46) = some r22) : bB K [1, 1, 1, 0, 1, 0, 0, 1, 1, 0, 0, 0] s h .normal (W (W (W s 21 r21) 22 r22) 5 r22) h :=
 rg (R1 (v := r21) rfl (bw rfl i17 i19 o21) (R1 (v := r22) rfl (aJ rfl rfl o22) (Ra (v := r22) rfl rfl rfl (RunL.nil))))
theorem BO {v5 r24 r25 : CV} {g1 : Hp} (i5 : s.at 5 = v5) (pg1 : K.prim 66 [v5] = none) (wg1 : Comes K 66 [v5] h r24 g1) (o25 : ab K.P .eql 29 r24 n0 = some r25) : bB K [1, 1, 1, 0, 1, 0, 0, 1, 1, 0, 0, 1, 0] s h .normal (W (W (W s 23 v5) 24 r24) 25 r25) g1 :=
 rg (Rm rfl rfl i5 (RunL.call (v := r24) rfl rfl rfl rfl rfl pg1 wg1 (Rb rfl rfl rfl rfl o25 (RunL.nil))))
theorem J2 {v3 v5 r28 : CV} {g1 g2 : Hp} (i3 : s.at 3 = v3) (i5 : s.at 5 = v5) (pg1 : K.prim 71 [v5] = none) (wg1 : Comes K 71 [v5] h r28 g1) (wg2 : iR K.P g1 v3 r28 v5 (ae K.P 100) = some (.undef, g2)) : bB K [1, 1, 1, 0, 1, 0, 0, 1, 1, 0, 0, 1, 1, 0] s h .normal (W4 s 26 v3 27 v5 28 r28 29 v5) g2 :=
 rg (Rm rfl rfl i3 (Rm rfl rfl i5 (RunL.call (v := r28) rfl rfl rfl rfl rfl pg1 wg1 (Rm rfl rfl i5 (RunL.op (v := .undef) rfl (Gk rfl rfl rfl rfl wg2) (RunL.nil))))))
theorem BP {v19 r30 : CV} (i19 : s.at 19 = v19) (o30 : ab K.P .add 3 v19 (.nu .i64 1) = some r30) : bB K [1, 1, 1, 0, 1, 0, 0, 1, 1, 1] s h .normal (W (W s 30 r30) 19 r30) h :=
 rg (Rb rfl rfl i19 rfl o30 (Rm (v := r30) rfl rfl rfl (RunL.nil)))
theorem GU {v0 r32 : CV} (i0 : s.at 0 = v0) (o32 : an h v0 (ae K.P 22) = some r32) : bB K [1, 1, 1, 1, 0, 0] s h .normal (W (W (W s 31 v0) 32 r32) 33 n0) h :=
 rg (Rm rfl rfl i0 (R1 (v := r32) rfl (aK rfl rfl rfl rfl rfl o32) (Rm (v := n0) rfl rfl rfl (RunL.nil))))
theorem yL {v33 v32 r34 : CV} (i33 : s.at 33 = v33) (i32 : s.at 32 = v32) (o34 : ab K.P .lss 3 v33 v32 = some r34) : bB K [1, 1, 1, 1, 0, 1, 0, 0, 0] s h .normal (W s 34 r34) h :=
 rg (Rb rfl rfl i33 i32 o34 (RunL.nil))
theorem GV {v33 v31 r36 r37 : CV} (i33 : s.at 33 = v33) (i31 : s.at 31 = v31) (o36 : ai v31 v33 (ae K.P 22) = some r36) (o37 : ap h r36 (ar K.P 46) = some r37) : bB K [1, 1, 1, 1, 0, 1, 0, 0, 1, 1, 0, 0, 0] s h .normal (W (W4 s 35 v33 36 r36 37 r37 6 v33) 7 r37) h :=
 rg (Rm rfl rfl i33 (R1 (v := r36) rfl (bw rfl i31 i33 o36) (R1 (v := r37) rfl (aJ rfl rfl o37) (Ra (v := v33) rfl rfl rfl (Ra (v := r37) rfl rfl rfl (RunL.nil))))))
theorem yM {v7 r40 r41 r42 : CV} {g1 : Hp} (i7 : s.at 7 = v7) (pg1 : K.prim 73 [v7] = none) (wg1 : Comes K 73 [v7] h r40 g1) (o41 : aG 0 r40 = some r41) (o42 : aG 1 r40 = some r42) : bB K [1, 1, 1, 1, 0, 1, 0, 0, 1, 1, 0, 0, 1, 0] s h .normal (W (W (W (W4 s 39 v7 40 r40 38 r40 41 r41) 42 r42) 8 r41) 9 r42) g1 :=
 rg (Rm rfl rfl i7 (RunL.call (v := r40) rfl rfl rfl rfl rfl pg1 wg1 (Rm (v := r40) rfl rfl rfl (R1 (v := r41) rfl (bg rfl rfl o41) (R1 (v := r42) rfl (bg rfl rfl o42) (Ra (v := r41) rfl rfl rfl (Ra (v := r42) rfl rfl rfl (RunL.nil))))))))
theorem yN {v9 r44 : CV} (i9 : s.at 9 = v9) (o44 : ab K.P .neq 29 v9 n0 = some r44) : bB K [1, 1, 1, 1, 0, 1, 0, 0, 1, 1, 0, 0, 1, 1, 0, 0] s h .normal (W (W s 43 v9) 44 r44) h :=
 rg (Rm rfl rfl i9 (Rb rfl rfl rfl rfl o44 (RunL.nil)))
theorem GW {v9 : CV} (i9 : s.at 9 = v9) : bB K [1, 1, 1, 1, 0, 1, 0, 0, 1, 1, 0, 0, 1, 1, 0, 1, 0, 0] s h .normal (W (W s 45 v9) 2 v9) h :=
 rg (Rm rfl rfl i9 (Ra (v := v9) rfl rfl rfl (RunL.nil)))
theorem oQ {v6 r47 : CV} (i6 : s.at 6 = v6) (o47 : ab K.P .gtr 3 v6 n0 = some r47) : bB K [1, 1, 1, 1, 0, 1, 0, 0, 1, 1, 0, 0, 1, 1, 1, 0, 0] s h .normal (W (W s 46 v6) 47 r47) h :=
 rg (Rm rfl rfl i6 (Rb rfl rfl rfl rfl o47 (RunL.nil)))
theorem sj {v7 v0 v6 r51 r52 r53 r54 : CV} {g1 : Hp} (i7 : s.at 7 = v7) (i0 : s.at 0 = v0) (i6 : s.at 6 = v6) (o51 : ab K.P .sub 3 v6 (.nu .i64 1) = some r51) (o52 : ai v0 r51 (ae K.P 22) = some r52) (o53 : ap h r52 (ar K.P 46) = some r53) (pg1 : K.prim 74 [v7, r53] = none) (wg1 : Comes K 74 [v7, r53] h r54 g1) : bB K [1, 1, 1, 1, 0, 1, 0, 0, 1, 1, 0, 0, 1, 1, 1, 0, 1, 0, 0] s h .normal (W8 s 48 v7 49 v0 50 v6 51 r51 52 r52 53 r53 54 r54 10 r54) g1 :=
 rg (Rm rfl rfl i7 (Rm rfl rfl i0 (Rm rfl rfl i6 (Rb rfl rfl rfl rfl o51 (R1 (v := r52) rfl (bw rfl rfl rfl o52) (R1 (v := r53) rfl (aJ rfl rfl o53) (RunL.call (v := r54) rfl rfl rfl rfl rfl pg1 wg1 (Ra (v := r54) rfl rfl rfl (RunL.nil)))))))))
theorem sm {v10 r57 : CV} (i10 : s.at 10 = v10) (o57 : ab K.P .eql 3 v10 n0 = some r57) : bB K [1, 1, 1, 1, 0, 1, 0, 0, 1, 1, 0, 0, 1, 1, 1, 0, 1, 0, 1, 0, 0] s h .normal (W (W (W s 56 v10) 57 r57) 55 r57) h :=
 rg (Rm rfl rfl i10 (Rb rfl rfl rfl rfl o57 (Ra (v := r57) rfl rfl rfl (RunL.nil))))
theorem GX : bB K [1, 1, 1, 1, 0, 1, 0, 0, 1, 1, 0, 0, 1, 1, 1, 0, 1, 0, 1, 0, 1, 0, 0] s h .normal (W s 2 (.nu .i64 5)) h :=
 rg (Ra (v := (.nu .i64 5)) rfl rfl rfl (RunL.nil))
theorem yO {v10 r60 : CV} (i10 : s.at 10 = v10) (o60 : ab K.P .lss 3 v10 n0 = some r60) : bB K [1, 1, 1, 1, 0, 1, 0, 0, 1, 1, 0, 0, 1, 1, 1, 0, 1, 0, 1, 0, 1, 1, 0] s h .normal (W (W (W s 59 v10) 60 r60) 58 r60) h :=
 rg (Rm rfl rfl i10 (Rb rfl rfl rfl rfl o60 (Ra (v := r60) rfl rfl rfl (RunL.nil))))
theorem GY : bB K [1, 1, 1, 1, 0, 1, 0, 0, 1, 1, 0, 0, 1, 1, 1, 0, 1, 0, 1, 0, 1, 1, 1, 0, 0] s h .normal (W s 2 (.nu .i64 6)) h :=
 rg (Ra (v := (.nu .i64 6)) rfl rfl rfl (RunL.nil))
theorem GZ {v8 r62 : CV} (i8 : s.at 8 = v8) (o62 : an h v8 (ae K.P 22) = some r62) : bB K [1, 1, 1, 1, 0, 1, 0, 0, 1, 1, 0, 0, 1, 1, 1, 1, 0] s h .normal (W (W (W s 61 v8) 62 r62) 63 n0) h :=
 rg (Rm rfl rfl i8 (R1 (v := r62) rfl (aK rfl rfl rfl rfl rfl o62) (Rm (v := n0) rfl rfl rfl (RunL.nil))))
theorem sn {v63 v62 r64 : CV} (i63 : s.at 63 = v63) (i62 : s.at 62 = v62) (o64 : ab K.P .lss 3 v63 v62 = some r64) : bB K [1, 1, 1, 1, 0, 1, 0, 0, 1, 1, 0, 0, 1, 1, 1, 1, 1, 0, 0, 0] s h .normal (W s 64 r64) h :=
 rg (Rb rfl rfl i63 i62 o64 (RunL.nil))
theorem yP {v61 v63 r65 r66 : CV} (i61 : s.at 61 = v61) (i63 : s.at 63 = v63) (o65 : ai v61 v63 (ae K.P 22) = some r65) (o66 : ap h r65 (ar K.P 46) = some r66) : bB K [1, 1, 1, 1, 0, 1, 0, 0, 1, 1, 0, 0, 1, 1, 1, 1, 1, 0, 0, 1, 1, 0, 0, 0] s h .normal (W (W (W s 65 r65) 66 r66) 12 r66) h :=
 rg (R1 (v := r65) rfl (bw rfl i61 i63 o65) (R1 (v := r66) rfl (aJ rfl rfl o66) (Ra (v := r66) rfl rfl rfl (RunL.nil))))
theorem yQ {v3 v12 r69 r70 r71 : CV} {g1 : Hp} (i3 : s.at 3 = v3) (i12 : s.at 12 = v12) (pg1 : K.prim 71 [v12] = none) (wg1 : Comes K 71 [v12] h r69 g1) (o70 : ew K.P g1 false r69 v3 (ae K.P 100) = some r70) (o71 : ab K.P .eql 46 r70 .nils = some r71) : bB K [1, 1, 1, 1, 0, 1, 0, 0, 1, 1, 0, 0, 1, 1, 1, 1, 1, 0, 0, 1, 1, 0, 0, 1, 0] s h .normal (W (W4 s 67 v3 68 v12 69 r69 70 r70) 71 r71) g1 :=
 rg (Rm rfl rfl i3 (Rm rfl rfl i12 (RunL.call (v := r69) rfl rfl rfl rfl rfl pg1 wg1 (R1 (v := r70) rfl (Et rfl rfl rfl o70) (Rb rfl rfl rfl rfl o71 (RunL.nil))))))
theorem G0 : bB K [1, 1, 1, 1, 0, 1, 0, 0, 1, 1, 0, 0, 1, 1, 1, 1, 1, 0, 0, 1, 1, 0, 0, 1, 1, 0, 0] s h .normal (W s 2 (.nu .i64 7)) h :=
 rg (Ra (v := (.nu .i64 7)) rfl rfl rfl (RunL.nil))
theorem G1 {v63 r72 : CV} (i63 : s.at 63 = v63) (o72 : ab K.P .add 3 v63 (.nu .i64 1) = some r72) : bB K [1, 1, 1, 1, 0, 1, 0, 0, 1, 1, 0, 0, 1, 1, 1, 1, 1, 0, 0, 1, 1, 1] s h .normal (W (W s 72 r72) 63 r72) h :=
 rg (Rb rfl rfl i63 rfl o72 (Rm (v := r72) rfl rfl rfl (RunL.nil)))
theorem G2 {v33 r73 : CV} (i33 : s.at 33 = v33) (o73 : ab K.P .add 3 v33 (.nu .i64 1) = some r73) : bB K [1, 1, 1, 1, 0, 1, 0, 0, 1, 1, 1] s h .normal (W (W s 73 r73) 33 r73) h :=
 rg (Rb rfl rfl i33 rfl o73 (Rm (v := r73) rfl rfl rfl (RunL.nil)))
theorem G3 : bB K [1, 1, 1, 1, 1, 0] s h .normal (W s 2 n0) h :=
 rg (Ra (v := n0) rfl rfl rfl (RunL.nil))
theorem qM : jc K [0] s h .normal (W s 4 n0) h :=
 rg (Ra (v := n0) rfl rfl rfl (RunL.nil))
theorem wv {v0 r7 v1 r9 r10 : CV} (i0 : s.at 0 = v0) (i1 : s.at 1 = v1) (o7 : an h v0 (ae K.P 45) = some r7) (o9 : an h v1 (ae K.P 45) = some r9) (o10 : ab K.P .neq 3 r7 r9 = some r10) : jc K [1, 0, 0] s h .normal (W (W4 s 6 v0 7 r7 8 v1 9 r9) 10 r10) h :=
 rg (Rm rfl rfl i0 (R1 (v := r7) rfl (aK rfl rfl rfl rfl rfl o7) (Rm rfl rfl i1 (R1 (v := r9) rfl (aK rfl rfl rfl rfl rfl o9) (Rb rfl rfl rfl rfl o10 (RunL.nil))))))
theorem BQ {v0 r12 v1 r14 r15 : CV} (i0 : s.at 0 = v0) (i1 : s.at 1 = v1) (o12 : an h v0 (ae K.P 45) = some r12) (o14 : an h v1 (ae K.P 45) = some r14) (o15 : ab K.P .lss 3 r12 r14 = some r15) : jc K [1, 0, 1, 0, 0, 0] s h .normal (W (W4 s 11 v0 12 r12 13 v1 14 r14) 15 r15) h :=
 rg (Rm rfl rfl i0 (R1 (v := r12) rfl (aK rfl rfl rfl rfl rfl o12) (Rm rfl rfl i1 (R1 (v := r14) rfl (aK rfl rfl rfl rfl rfl o14) (Rb rfl rfl rfl rfl o15 (RunL.nil))))))
theorem J3 : jc K [1, 0, 1, 0, 0, 1, 0, 0] s h .normal (W s 4 (.nu .i64 (-1))) h :=
 rg (Ra (v := (.nu .i64 (-1))) rfl rfl rfl (RunL.nil))
theorem J4 : jc K [1, 0, 1, 0, 1, 0] s h .normal (W s 4 (.nu .i64 1)) h :=
 rg (Ra (v := (.nu .i64 1)) rfl rfl rfl (RunL.nil))
theorem BS : jc K [1, 1, 0, 0] s h .normal (W s 5 n0) h :=
 rg (Ra (v := n0) rfl rfl rfl (RunL.nil))
theorem BT {v5 v0 r18 r19 : CV} (i5 : s.at 5 = v5) (i0 : s.at 0 = v0) (o18 : an h v0 (ae K.P 45) = some r18) (o19 : ab K.P .lss 3 v5 r18 = some r19) : jc K [1, 1, 0, 1, 0, 0, 0, 0] s h .normal (W4 s 16 v5 17 v0 18 r18 19 r19) h :=
 rg (Rm rfl rfl i5 (Rm rfl rfl i0 (R1 (v := r18) rfl (aK rfl rfl rfl rfl rfl o18) (Rb rfl rfl rfl rfl o19 (RunL.nil)))))
theorem J5 {v0 v5 r24 r25 v1 r28 r29 r30 : CV} (hp : K.plan 38 8 = some [.t 0,.t 1,.t 2,.t 3,.t 4,.o 5 [4, 3, 2, 1, 0],.o 6 [3, 2, 1, 0],.o 7 [3, 2, 1, 0],.o 8 []]) (i0 : s.at 0 = v0) (i5 : s.at 5 = v5) (i1 : s.at 1 = v1) (o24 : ai v0 v5 (ae K.P 45) = some r24) (o25 : ap h r24 (ar K.P 3) = some r25) (q25 : ceq r25 r25 = true) (o28 : ai v1 v5 (ae K.P 45) = some r28) (o29 : ap h r28 (ar K.P 3) = some r29) (o30 : ab K.P .lss 3 r25 r29 = some r30) : jc K [1, 1, 0, 1, 0, 0, 1, 0, 0, 0, 0] s h .normal (W (W8 s 22 v0 23 v5 24 r24 25 r25 26 v1 27 v5 28 r28 29 r29) 30 r30) h :=
 Runs.drawn hp (RunP.q (v := v0) rfl rfl (aS rfl i0) (RunP.q (v := v5) rfl rfl (aS rfl i5) (RunP.q (v := r24) rfl rfl (bw rfl rfl rfl o24) (RunP.q (v := r25) rfl rfl (aJ rfl rfl o25) (RunP.q (v := v1) rfl rfl (aS rfl i1) (RunP.only (v := v5) rfl rfl (Q1.e (aS rfl i5)) (by simp (decide := true) only [bV, bS, qX, ev, Fr.putO, aI, reduceIte, Nat.reduceEqDiff, List.filter_cons, List.filter_nil, List.any_cons, List.any_nil, List.all_cons, List.all_nil, List.getElem_toArray, List.getElem_cons_succ, List.getElem_cons_zero, Option.map_some, Option.map_none, aV, bj, Bool.and_true, Bool.true_and, Bool.and_self, i0, i5, i1, o24, o25, q25]) (RunP.only (v := r28) rfl rfl (Q1.e (bw rfl rfl rfl o28)) (by simp (decide := true) only [bV, bS, qX, ev, Fr.putO, aI, reduceIte, Nat.reduceEqDiff, List.filter_cons, List.filter_nil, List.any_cons, List.any_nil, List.all_cons, List.all_nil, List.getElem_toArray, List.getElem_cons_succ, List.getElem_cons_zero, Option.map_some, Option.map_none, aV, bj, Bool.and_true, Bool.true_and, Bool.and_self, i0, i5, i1, o24, o25, q25, o28]) (RunP.only (v := r29) rfl rfl (Q1.e (aJ rfl rfl o29)) (by simp (decide := true) only [bV, bS, qX, ev, Fr.putO, aI, reduceIte, Nat.reduceEqDiff, List.filter_cons, List.filter_nil, List.any_cons, List.any_nil, List.all_cons, List.all_nil, List.getElem_toArray, List.getElem_cons_succ, List.getElem_cons_zero, Option.map_some, Option.map_none, aV, bj, Bool.and_true, Bool.true_and, Bool.and_self, i0, i5, i1, o24, o25, q25, o28, o29]) (RunP.only (v := r30) rfl rfl (Q1.e (eQ rfl rfl rfl o30)) rfl (RunP.nil))))))))))
theorem J6 : jc K [1, 1, 0, 1, 0, 0, 1, 0, 0, 0, 1, 0, 0] s h .normal (W s 4 (.nu .i64 (-1))) h :=
 rg (Ra (v := (.nu .i64 (-1))) rfl rfl rfl (RunL.nil))
theorem G4 {v0 v5 r33 r34 v1 r37 r38 r39 : CV} (hp : K.plan 38 10 = some [.t 0,.t 1,.t 2,.t 3,.t 4,.o 5 [4, 3, 2, 1, 0],.o 6 [3, 2, 1, 0],.o 7 [3, 2, 1, 0],.o 8 []]) (i0 : s.at 0 = v0) (i5 : s.at 5 = v5) (i1 : s.at 1 = v1) (o33 : ai v0 v5 (ae K.P 45) = some r33) (o34 : ap h r33 (ar K.P 3) = some r34) (q34 : ceq r34 r34 = true) (o37 : ai v1 v5 (ae K.P 45) = some r37) (o38 : ap h r37 (ar K.P 3) = some r38) (o39 : ab K.P .gtr 3 r34 r38 = some r39) : jc K [1, 1, 0, 1, 0, 0, 1, 0, 0, 1, 0] s h .normal (W (W8 s 31 v0 32 v5 33 r33 34 r34 35 v1 36 v5 37 r37 38 r38) 39 r39) h :=
 Runs.drawn hp (RunP.q (v := v0) rfl rfl (aS rfl i0) (RunP.q (v := v5) rfl rfl (aS rfl i5) (RunP.q (v := r33) rfl rfl (bw rfl rfl rfl o33) (RunP.q (v := r34) rfl rfl (aJ rfl rfl o34) (RunP.q (v := v1) rfl rfl (aS rfl i1) (RunP.only (v := v5) rfl rfl (Q1.e (aS rfl i5)) (by simp (decide := true) only [bV, bS, qX, ev, Fr.putO, aI, reduceIte, Nat.reduceEqDiff, List.filter_cons, List.filter_nil, List.any_cons, List.any_nil, List.all_cons, List.all_nil, List.getElem_toArray, List.getElem_cons_succ, List.getElem_cons_zero, Option.map_some, Option.map_none, aV, bj, Bool.and_true, Bool.true_and, Bool.and_self, i0, i5, i1, o33, o34, q34]) (RunP.only (v := r37) rfl rfl (Q1.e (bw rfl rfl rfl o37)) (by simp (decide := true) only [bV, bS, qX, ev, Fr.putO, aI, reduceIte, Nat.reduceEqDiff, List.filter_cons, List.filter_nil, List.any_cons, List.any_nil, List.all_cons, List.all_nil, List.getElem_toArray, List.getElem_cons_succ, List.getElem_cons_zero, Option.map_some, Option.map_none, aV, bj, Bool.and_true, Bool.true_and, Bool.and_self, i0, i5, i1, o33, o34, q34, o37]) (RunP.only (v := r38) rfl rfl (Q1.e (aJ rfl rfl o38)) (by simp (decide := true) only [bV, bS, qX, ev, Fr.putO, aI, reduceIte, Nat.reduceEqDiff, List.filter_cons, List.filter_nil, List.any_cons, List.any_nil, List.all_cons, List.all_nil, List.getElem_toArray, List.getElem_cons_succ, List.getElem_cons_zero, Option.map_some, Option.map_none, aV, bj, Bool.and_true, Bool.true_and, Bool.and_self, i0, i5, i1, o33, o34, q34, o37, o38]) (RunP.only (v := r39) rfl rfl (Q1.e (eQ rfl rfl rfl o39)) rfl (RunP.nil))))))))))
theorem G5 : jc K [1, 1, 0, 1, 0, 0, 1, 0, 0, 1, 1, 0, 0] s h .normal (W s 4 (.nu .i64 1)) h :=
 rg (Ra (v := (.nu .i64 1)) rfl rfl rfl (RunL.nil))
theorem J7 {v5 r21 : CV} (i5 : s.at 5 = v5) (o21 : ab K.P .add 3 v5 (.nu .i64 1) = some r21) : jc K [1, 1, 0, 1, 0, 0, 1, 1] s h .normal (W (W (W s 20 v5) 21 r21) 5 r21) h :=
 rg (Rm rfl rfl i5 (Rb rfl rfl rfl rfl o21 (Ra (v := r21) rfl rfl rfl (RunL.nil))))
theorem G6 : jc K [1, 1, 1, 0] s h .normal (W s 4 n0) h :=
 rg (Ra (v := n0) rfl rfl rfl (RunL.nil))
theorem J8 : fw K [0] s h .normal (W s 6 .nils) h :=
 rg (Ra (v := .nils) rfl rfl rfl (RunL.nil))
theorem J9 : fw K [1, 0] s h .normal (W s 7 .nils) h :=
 rg (Ra (v := .nils) rfl rfl rfl (RunL.nil))
theorem BU : fw K [1, 1, 0, 0] s h .normal (W s 8 n0) h :=
 rg (Ra (v := n0) rfl rfl rfl (RunL.nil))
theorem p7 {v8 v0 r12 v7 r16 v1 r18 r19 : CV} (i8 : s.at 8 = v8) (i0 : s.at 0 = v0) (i7 : s.at 7 = v7) (i1 : s.at 1 = v1) (o12 : an h v0 (ae K.P 45) = some r12) (o13 : ab K.P .lss 3 v8 r12 = some tt) (o16 : an h v7 (ae K.P 45) = some r16) (o18 : ab K.P .lss 3 r16 v1 = some r18) (o19 : aA r18 ff tt = some r19) : fw K [1, 1, 0, 1, 0, 0, 0, 0] s h .normal (W (W (W8 s 10 v8 11 v0 12 r12 13 tt 14 tt 15 v7 16 r16 17 v1) 18 r18) 19 r19) h :=
 rg (Rm rfl rfl i8 (Rm rfl rfl i0 (R1 (v := r12) rfl (aK rfl rfl rfl rfl rfl o12) (Rb rfl rfl rfl rfl o13 (Rm (v := tt) rfl rfl rfl (Rm rfl rfl i7 (R1 (v := r16) rfl (aK rfl rfl rfl rfl rfl o16) (Rm rfl rfl i1 (Rb rfl rfl rfl rfl o18 (R1 (v := r19) rfl (aU rfl rfl rfl rfl o19) (RunL.nil)))))))))))
theorem Ez {v8 v0 r12 r19 : CV} (i8 : s.at 8 = v8) (i0 : s.at 0 = v0) (o12 : an h v0 (ae K.P 45) = some r12) (o13 : ab K.P .lss 3 v8 r12 = some ff) (o19 : aA .skp ff ff = some r19) : fw K [1, 1, 0, 1, 0, 0, 0, 0] s h .normal (W (W (W8 s 10 v8 11 v0 12 r12 13 ff 14 ff 15 .skp 16 .skp 17 .skp) 18 .skp) 19 r19) h :=
 rg (Rm rfl rfl i8 (Rm rfl rfl i0 (R1 (v := r12) rfl (aK rfl rfl rfl rfl rfl o12) (Rb rfl rfl rfl rfl o13 (Rm (v := ff) rfl rfl rfl (RunL.pass rfl (RunL.pass rfl (RunL.pass rfl (RunL.pass rfl (R1 (v := r19) rfl (aU rfl rfl rfl rfl o19) (RunL.nil)))))))))))
theorem BV {v0 v8 r24 r25 v2 r27 r29 r31 : CV} (i0 : s.at 0 = v0) (i8 : s.at 8 = v8) (i2 : s.at 2 = v2) (o24 : ai v0 v8 (ae K.P 45) = some r24) (o25 : ap h r24 (ar K.P 3) = some r25) (o27 : ab K.P .rem 3 r25 v2 = some r27) (o29 : ab K.P .add 3 r27 v2 = some r29) (o31 : ab K.P .rem 3 r29 v2 = some r31) : fw K [1, 1, 0, 1, 0, 0, 1, 0, 0, 0] s h .normal (W (W (W (W8 s 22 v0 23 v8 24 r24 25 r25 26 v2 27 r27 28 v2 29 r29) 30 v2) 31 r31) 9 r31) h :=
 rg (Rm rfl rfl i0 (Rm rfl rfl i8 (R1 (v := r24) rfl (bw rfl rfl rfl o24) (R1 (v := r25) rfl (aJ rfl rfl o25) (Rm rfl rfl i2 (Rb rfl rfl rfl rfl o27 (Rm rfl rfl i2 (Rb rfl rfl rfl rfl o29 (Rm rfl rfl i2 (Rb rfl rfl rfl rfl o31 (Ra (v := r31) rfl rfl rfl (RunL.nil))))))))))))
theorem BW {v7 v9 r34 r35 : CV} {g1 : Hp} (i7 : s.at 7 = v7) (i9 : s.at 9 = v9) (pg1 : K.prim 104 [v7, v9] = none) (wg1 : Comes K 104 [v7, v9] h r34 g1) (o35 : dC .not r34 = some r35) : fw K [1, 1, 0, 1, 0, 0, 1, 0, 0, 1, 0] s h .normal (W4 s 32 v7 33 v9 34 r34 35 r35) g1 :=
 rg (Rm rfl rfl i7 (Rm rfl rfl i9 (RunL.call (v := r34) rfl rfl rfl rfl rfl pg1 wg1 (R1 (v := r35) rfl (jV rfl rfl o35) (RunL.nil)))))
theorem Ka {v7 v9 r39 : CV} {F38 : Nat → CV} {B38 : HB} {g1 : Hp} (i7 : s.at 7 = v7) (i9 : s.at 9 = v9) (o38 : aL 1 [(0, v9)] (ae K.P 45) = some (F38, B38)) (wg1 : aQ (h.push B38) v7 (F38 (h).n) (ae K.P 45) (ae K.P 45) = some (r39, g1)) : fw K [1, 1, 0, 1, 0, 0, 1, 0, 0, 1, 1, 0] s h .normal (W (W4 s 36 v7 37 v9 38 (F38 (h).n) 39 r39) 7 r39) g1 :=
 rg (Rm rfl rfl i7 (Rm rfl rfl i9 (RunL.op (v := (F38 (h).n)) rfl (bZ rfl rfl o38) (RunL.op (v := r39) rfl (cO hk rfl rfl rfl rfl rfl rfl wg1) (Ra (v := r39) rfl rfl rfl (RunL.nil))))))
theorem BX {v8 r21 : CV} (i8 : s.at 8 = v8) (o21 : ab K.P .add 3 v8 (.nu .i64 1) = some r21) : fw K [1, 1, 0, 1, 0, 0, 1, 1] s h .normal (W (W (W s 20 v8) 21 r21) 8 r21) h :=
 rg (Rm rfl rfl i8 (Rb rfl rfl rfl rfl o21 (Ra (v := r21) rfl rfl rfl (RunL.nil))))
theorem BY {v7 r41 r42 : CV} (i7 : s.at 7 = v7) (o41 : an h v7 (ae K.P 45) = some r41) (o42 : ab K.P .eql 3 r41 n0 = some r42) : fw K [1, 1, 1, 0, 0] s h .normal (W (W (W s 40 v7) 41 r41) 42 r42) h :=
 rg (Rm rfl rfl i7 (R1 (v := r41) rfl (aK rfl rfl rfl rfl rfl o41) (Rb rfl rfl rfl rfl o42 (RunL.nil))))
theorem Kb {v7 r45 : CV} {F44 : Nat → CV} {B44 : HB} {g1 : Hp} (i7 : s.at 7 = v7) (o44 : aL 1 [(0, n0)] (ae K.P 45) = some (F44, B44)) (wg1 : aQ (h.push B44) v7 (F44 (h).n) (ae K.P 45) (ae K.P 45) = some (r45, g1)) : fw K [1, 1, 1, 0, 1, 0] s h .normal (W4 s 43 v7 44 (F44 (h).n) 45 r45 7 r45) g1 :=
 rg (Rm rfl rfl i7 (RunL.op (v := (F44 (h).n)) rfl (bZ rfl rfl o44) (RunL.op (v := r45) rfl (cO hk rfl rfl rfl rfl rfl rfl wg1) (Ra (v := r45) rfl rfl rfl (RunL.nil)))))
theorem yR {v7 r48 r49 r50 : CV} {g1 : Hp} (i7 : s.at 7 = v7) (pg1 : K.prim 85 [v7] = none) (wg1 : Comes K 85 [v7] h r48 g1) (o49 : aG 0 r48 = some r49) (o50 : aG 1 r48 = some r50) : fw K [1, 1, 1, 1, 0] s h .normal (W (W (W4 s 47 v7 48 r48 46 r48 49 r49) 50 r50) 7 r49) g1 :=
 rg (Rm rfl rfl i7 (RunL.call (v := r48) rfl rfl rfl rfl rfl pg1 wg1 (Rm (v := r48) rfl rfl rfl (R1 (v := r49) rfl (bg rfl rfl o49) (R1 (v := r50) rfl (bg rfl rfl o50) (Ra (v := r49) rfl rfl rfl (RunL.nil)))))))
theorem yS {v7 : CV} (i7 : s.at 7 = v7) : fw K [1, 1, 1, 1, 1, 0] s h .normal (W (W s 51 v7) 6 v7) h :=
 rg (Rm rfl rfl i7 (Ra (v := v7) rfl rfl rfl (RunL.nil)))
theorem Kc : fJ K [0] s h .normal (W s 2 .nils) h :=
 rg (Ra (v := .nils) rfl rfl rfl (RunL.nil))
theorem Kd : fJ K [1, 0] s h .normal (W s 3 .nils) h :=
 rg (Ra (v := .nils) rfl rfl rfl (RunL.nil))
theorem Ke : fJ K [1, 1, 0, 0] s h .normal (W s 4 n0) h :=
 rg (Ra (v := n0) rfl rfl rfl (RunL.nil))
theorem BZ {v4 v0 r9 r10 : CV} (i4 : s.at 4 = v4) (i0 : s.at 0 = v0) (o9 : an h v0 (ae K.P 26) = some r9) (o10 : ab K.P .lss 3 v4 r9 = some r10) : fJ K [1, 1, 0, 1, 0, 0, 0, 0] s h .normal (W4 s 7 v4 8 v0 9 r9 10 r10) h :=
 rg (Rm rfl rfl i4 (Rm rfl rfl i0 (R1 (v := r9) rfl (aK rfl rfl rfl rfl rfl o9) (Rb rfl rfl rfl rfl o10 (RunL.nil)))))
theorem Kf {v0 v4 r15 r16 r17 : CV} {g1 : Hp} (i0 : s.at 0 = v0) (i4 : s.at 4 = v4) (o15 : ai v0 v4 (ae K.P 26) = some r15) (o16 : ap h r15 (ar K.P 45) = some r16) (pg1 : K.prim 105 [r16] = none) (wg1 : Comes K 105 [r16] h r17 g1) : fJ K [1, 1, 0, 1, 0, 0, 1, 0, 0, 0] s h .normal (W (W (W4 s 13 v0 14 v4 15 r15 16 r16) 17 r17) 5 r17) g1 :=
 rg (Rm rfl rfl i0 (Rm rfl rfl i4 (R1 (v := r15) rfl (bw rfl rfl rfl o15) (R1 (v := r16) rfl (aJ rfl rfl o16) (RunL.call (v := r17) rfl rfl rfl rfl rfl pg1 wg1 (Ra (v := r17) rfl rfl rfl (RunL.nil)))))))
theorem Kg : fJ K [1, 1, 0, 1, 0, 0, 1, 0, 0, 1, 0] s h .normal (W s 6 n0) h :=
 rg (Ra (v := n0) rfl rfl rfl (RunL.nil))
theorem B0 {v6 v5 r20 r21 : CV} (i6 : s.at 6 = v6) (i5 : s.at 5 = v5) (o20 : an h v5 (ae K.P 26) = some r20) (o21 : ab K.P .lss 3 v6 r20 = some r21) : fJ K [1, 1, 0, 1, 0, 0, 1, 0, 0, 1, 1, 0, 0, 0, 0] s h .normal (W4 s 18 v6 19 v5 20 r20 21 r21) h :=
 rg (Rm rfl rfl i6 (Rm rfl rfl i5 (R1 (v := r20) rfl (aK rfl rfl rfl rfl rfl o20) (Rb rfl rfl rfl rfl o21 (RunL.nil)))))
theorem Kh {v3 v5 v6 r27 r28 r29 : CV} {g1 : Hp} (i3 : s.at 3 = v3) (i5 : s.at 5 = v5) (i6 : s.at 6 = v6) (o27 : ai v5 v6 (ae K.P 26) = some r27) (o28 : ap h r27 (ar K.P 45) = some r28) (pg1 : K.prim 98 [v3, r28] = none) (wg1 : Comes K 98 [v3, r28] h r29 g1) : fJ K [1, 1, 0, 1, 0, 0, 1, 0, 0, 1, 1, 0, 0, 1, 0, 0] s h .normal (W (W (W (W4 s 24 v3 25 v5 26 v6 27 r27) 28 r28) 29 r29) 3 r29) g1 :=
 rg (Rm rfl rfl i3 (Rm rfl rfl i5 (Rm rfl rfl i6 (R1 (v := r27) rfl (bw rfl rfl rfl o27) (R1 (v := r28) rfl (aJ rfl rfl o28) (RunL.call (v := r29) rfl rfl rfl rfl rfl pg1 wg1 (Ra (v := r29) rfl rfl rfl (RunL.nil))))))))
theorem Ki {v6 r23 : CV} (i6 : s.at 6 = v6) (o23 : ab K.P .add 3 v6 (.nu .i64 1) = some r23) : fJ K [1, 1, 0, 1, 0, 0, 1, 0, 0, 1, 1, 0, 0, 1, 1] s h .normal (W (W (W s 22 v6) 23 r23) 6 r23) h :=
 rg (Rm rfl rfl i6 (Rb rfl rfl rfl rfl o23 (Ra (v := r23) rfl rfl rfl (RunL.nil))))
theorem Kj {v4 r12 : CV} (i4 : s.at 4 = v4) (o12 : ab K.P .add 3 v4 (.nu .i64 1) = some r12) : fJ K [1, 1, 0, 1, 0, 0, 1, 1] s h .normal (W (W (W s 11 v4) 12 r12) 4 r12) h :=
 rg (Rm rfl rfl i4 (Rb rfl rfl rfl rfl o12 (Ra (v := r12) rfl rfl rfl (RunL.nil))))
theorem G7 {v3 : CV} (i3 : s.at 3 = v3) : fJ K [1, 1, 1, 0] s h .normal (W (W s 30 v3) 2 v3) h :=
 rg (Rm rfl rfl i3 (Ra (v := v3) rfl rfl rfl (RunL.nil)))
theorem qN : fx K [0] s h .normal (W s 2 n0) h :=
 rg (Ra (v := n0) rfl rfl rfl (RunL.nil))
theorem B7 {v0 r7 : CV} {g1 : Hp} (i0 : s.at 0 = v0) (pg1 : K.prim 110 [v0] = none) (wg1 : Comes K 110 [v0] h r7 g1) : fx K [1, 0, 0] s h .normal (W (W (W s 6 v0) 7 r7) 3 r7) g1 :=
 rg (Rm rfl rfl i0 (RunL.call (v := r7) rfl rfl rfl rfl rfl pg1 wg1 (Ra (v := r7) rfl rfl rfl (RunL.nil))))
theorem B9 {v3 r9 : CV} (i3 : s.at 3 = v3) (o9 : ab K.P .neq 29 v3 n0 = some r9) : fx K [1, 0, 1, 0] s h .normal (W (W s 8 v3) 9 r9) h :=
 rg (Rm rfl rfl i3 (Rb rfl rfl rfl rfl o9 (RunL.nil)))
theorem Kk {v3 : CV} (i3 : s.at 3 = v3) : fx K [1, 0, 1, 1, 0, 0] s h .normal (W (W s 10 v3) 2 v3) h :=
 rg (Rm rfl rfl i3 (Ra (v := v3) rfl rfl rfl (RunL.nil)))
theorem Ca {v0 r12 r13 : CV} (i0 : s.at 0 = v0) (o12 : ba (some (.nu .i64 1)) none h v0 (ae K.P 46) = some r12) (o13 : an h r12 (ae K.P 46) = some r13) : fx K [1, 1, 0, 0] s h .normal (W4 s 11 v0 12 r12 13 r13 14 n0) h :=
 rg (Rm rfl rfl i0 (R1 (v := r12) rfl (fF rfl rfl rfl rfl o12) (R1 (v := r13) rfl (aK rfl rfl rfl rfl rfl o13) (Rm (v := n0) rfl rfl rfl (RunL.nil)))))
theorem ww {v14 v13 r15 : CV} (i14 : s.at 14 = v14) (i13 : s.at 13 = v13) (o15 : ab K.P .lss 3 v14 v13 = some r15) : fx K [1, 1, 0, 1, 0, 0, 0] s h .normal (W s 15 r15) h :=
 rg (Rb rfl rfl i14 i13 o15 (RunL.nil))
theorem Cb {v14 v12 r17 r18 : CV} (i14 : s.at 14 = v14) (i12 : s.at 12 = v12) (o17 : ai v12 v14 (ae K.P 46) = some r17) (o18 : ap h r17 (ar K.P 3) = some r18) : fx K [1, 1, 0, 1, 0, 0, 1, 1, 0, 0, 0] s h .normal (W (W4 s 16 v14 17 r17 18 r18 4 v14) 5 r18) h :=
 rg (Rm rfl rfl i14 (R1 (v := r17) rfl (bw rfl i12 i14 o17) (R1 (v := r18) rfl (aJ rfl rfl o18) (Ra (v := v14) rfl rfl rfl (Ra (v := r18) rfl rfl rfl (RunL.nil))))))
theorem Cc {v5 v0 v4 r22 r23 r24 : CV} (i5 : s.at 5 = v5) (i0 : s.at 0 = v0) (i4 : s.at 4 = v4) (o22 : ai v0 v4 (ae K.P 46) = some r22) (o23 : ap h r22 (ar K.P 3) = some r23) (o24 : ab K.P .leq 3 v5 r23 = some r24) : fx K [1, 1, 0, 1, 0, 0, 1, 1, 0, 0, 1, 0] s h .normal (W (W (W4 s 19 v5 20 v0 21 v4 22 r22) 23 r23) 24 r24) h :=
 rg (Rm rfl rfl i5 (Rm rfl rfl i0 (Rm rfl rfl i4 (R1 (v := r22) rfl (bw rfl rfl rfl o22) (R1 (v := r23) rfl (aJ rfl rfl o23) (Rb rfl rfl rfl rfl o24 (RunL.nil)))))))
theorem Kl : fx K [1, 1, 0, 1, 0, 0, 1, 1, 0, 0, 1, 1, 0, 0] s h .normal (W s 2 (.nu .i64 6)) h :=
 rg (Ra (v := (.nu .i64 6)) rfl rfl rfl (RunL.nil))
theorem Km {v14 r25 : CV} (i14 : s.at 14 = v14) (o25 : ab K.P .add 3 v14 (.nu .i64 1) = some r25) : fx K [1, 1, 0, 1, 0, 0, 1, 1, 1] s h .normal (W (W s 25 r25) 14 r25) h :=
 rg (Rb rfl rfl i14 rfl o25 (Rm (v := r25) rfl rfl rfl (RunL.nil)))
theorem G8 : fx K [1, 1, 1, 0] s h .normal (W s 2 n0) h :=
 rg (Ra (v := n0) rfl rfl rfl (RunL.nil))
theorem Kn : Gm K [0] s h .normal (W s 2 .nils) h :=
 rg (Ra (v := .nils) rfl rfl rfl (RunL.nil))
theorem Ko {v0 r4 : CV} (i0 : s.at 0 = v0) (o4 : ab K.P .eql 46 v0 .nils = some r4) : Gm K [1, 0, 0] s h .normal (W (W s 3 v0) 4 r4) h :=
 rg (Rm rfl rfl i0 (Rb rfl rfl rfl rfl o4 (RunL.nil)))
theorem Kp {v0 r7 : CV} {F5 : Nat → CV} {B5 : HB} {g1 : Hp} (i0 : s.at 0 = v0) (o5 : aL 0 [] (ae K.P 46) = some (F5, B5)) (wg1 : aQ (h.push B5) (F5 (h).n) v0 (ae K.P 46) (ae K.P 46) = some (r7, g1)) : Gm K [1, 1, 0] s h .normal (W4 s 5 (F5 (h).n) 6 v0 7 r7 2 r7) g1 :=
 rg (RunL.op (v := (F5 (h).n)) rfl (bZ rfl rfl o5) (Rm rfl rfl i0 (RunL.op (v := r7) rfl (cO hk rfl rfl rfl rfl rfl rfl wg1) (Ra (v := r7) rfl rfl rfl (RunL.nil)))))
theorem Kq {F2 : Nat → CV} {B2 : HB} (o2 : fN 103 (dh K.P 103) = some (F2, B2)) : lH K [0] s h .normal (W s 2 (F2 (h).n)) (h.push B2) :=
 rg (RunL.op (v := (F2 (h).n)) rfl (oP rfl o2) (RunL.nil))
theorem Kr {v0 r6 : CV} (i0 : s.at 0 = v0) (o6 : an h v0 (ae K.P 46) = some r6) : lH K [1, 0, 0] s h .normal (W (W (W s 5 v0) 6 r6) 7 n0) h :=
 rg (Rm rfl rfl i0 (R1 (v := r6) rfl (aK rfl rfl rfl rfl rfl o6) (Rm (v := n0) rfl rfl rfl (RunL.nil))))
theorem Cd {v7 v6 r8 : CV} (i7 : s.at 7 = v7) (i6 : s.at 6 = v6) (o8 : ab K.P .lss 3 v7 v6 = some r8) : lH K [1, 0, 1, 0, 0, 0] s h .normal (W s 8 r8) h :=
 rg (Rb rfl rfl i7 i6 o8 (RunL.nil))
theorem Ks {v7 v5 r10 r11 : CV} (i7 : s.at 7 = v7) (i5 : s.at 5 = v5) (o10 : ai v5 v7 (ae K.P 46) = some r10) (o11 : ap h r10 (ar K.P 3) = some r11) : lH K [1, 0, 1, 0, 0, 1, 1, 0, 0, 0] s h .normal (W (W4 s 9 v7 10 r10 11 r11 3 v7) 4 r11) h :=
 rg (Rm rfl rfl i7 (R1 (v := r10) rfl (bw rfl i5 i7 o10) (R1 (v := r11) rfl (aJ rfl rfl o11) (Ra (v := v7) rfl rfl rfl (Ra (v := r11) rfl rfl rfl (RunL.nil))))))
theorem Kt {v3 v4 r14 v2 r15 : CV} {g1 : Hp} (i3 : s.at 3 = v3) (i4 : s.at 4 = v4) (i2 : s.at 2 = v2) (o14 : ab K.P .add 3 v4 (.nu .i64 1) = some r14) (o15 : ai v2 v3 (ae K.P 103) = some r15) (wg1 : bc h r15 r14 (ar K.P 3) = some (.undef, g1)) : lH K [1, 0, 1, 0, 0, 1, 1, 0, 0, 1] s h .normal (W4 s 12 v3 13 v4 14 r14 15 r15) g1 :=
 rg (Rm rfl rfl i3 (Rm rfl rfl i4 (Rb rfl rfl rfl rfl o14 (R1 (v := r15) rfl (bw rfl i2 rfl o15) (RunL.op (v := .undef) rfl (dA rfl rfl rfl wg1) (RunL.nil))))))
theorem Ku {v7 r16 : CV} (i7 : s.at 7 = v7) (o16 : ab K.P .add 3 v7 (.nu .i64 1) = some r16) : lH K [1, 0, 1, 0, 0, 1, 1, 1] s h .normal (W (W s 16 r16) 7 r16) h :=
 rg (Rb rfl rfl i7 rfl o16 (Rm (v := r16) rfl rfl rfl (RunL.nil)))
theorem Kv {v2 r17 : CV} {g1 : Hp} (i2 : s.at 2 = v2) (o17 : ap h v2 (ar K.P 103) = some r17) (wg1 : bc h v2 r17 (ar K.P 103) = some (.undef, g1)) : lH K [1, 1, 0] s h .normal (W s 17 r17) g1 :=
 rg (R1 (v := r17) rfl (aJ rfl i2 o17) (RunL.op (v := .undef) rfl (dA rfl i2 rfl wg1) (RunL.nil)))
theorem wx : fR K [0] s h .normal (W (W s 2 .nils) 3 n0) h :=
 rg (Ra (v := .nils) rfl rfl rfl (Ra (v := n0) rfl rfl rfl (RunL.nil)))
theorem wy {v0 r6 : CV} {g1 : Hp} (i0 : s.at 0 = v0) (pg1 : K.prim 66 [v0] = none) (wg1 : Comes K 66 [v0] h r6 g1) : fR K [1, 0, 0] s h .normal (W (W (W s 5 v0) 6 r6) 3 r6) g1 :=
 rg (Rm rfl rfl i0 (RunL.call (v := r6) rfl rfl rfl rfl rfl pg1 wg1 (Ra (v := r6) rfl rfl rfl (RunL.nil))))
theorem EA {v3 r13 : CV} (i3 : s.at 3 = v3) (o8 : ab K.P .neq 29 v3 n0 = some tt) (o13 : aA tt .skp tt = some r13) : fR K [1, 0, 1, 0] s h .normal (W (W (W (W4 s 7 v3 8 tt 9 tt 10 .skp) 11 .skp) 12 .skp) 13 r13) h :=
 rg (Rm rfl rfl i3 (Rb rfl rfl rfl rfl o8 (Rm (v := tt) rfl rfl rfl (RunL.pass rfl (RunL.pass rfl (RunL.pass rfl (R1 (v := r13) rfl (aU rfl rfl rfl rfl o13) (RunL.nil))))))))
theorem wz {v3 v0 r11 r12 r13 : CV} (i3 : s.at 3 = v3) (i0 : s.at 0 = v0) (o8 : ab K.P .neq 29 v3 n0 = some ff) (o11 : an h v0 (ae K.P 46) = some r11) (o12 : ab K.P .eql 3 r11 (.nu .i64 1) = some r12) (o13 : aA tt r12 ff = some r13) : fR K [1, 0, 1, 0] s h .normal (W (W (W (W4 s 7 v3 8 ff 9 ff 10 v0) 11 r11) 12 r12) 13 r13) h :=
 rg (Rm rfl rfl i3 (Rb rfl rfl rfl rfl o8 (Rm (v := ff) rfl rfl rfl (Rm rfl rfl i0 (R1 (v := r11) rfl (aK rfl rfl rfl rfl rfl o11) (Rb rfl rfl rfl rfl o12 (R1 (v := r13) rfl (aU rfl rfl rfl rfl o13) (RunL.nil))))))))
theorem Ce {v3 : CV} (i3 : s.at 3 = v3) : fR K [1, 0, 1, 1, 0, 0] s h .normal (W (W (W s 14 v3) 2 .nils) 3 v3) h :=
 rg (Rm rfl rfl i3 (Ra (v := .nils) rfl rfl rfl (Ra (v := v3) rfl rfl rfl (RunL.nil))))
theorem Kw {v0 r16 : CV} (i0 : s.at 0 = v0) (o16 : an h v0 (ae K.P 46) = some r16) : fR K [1, 1, 0, 0] s h .normal (W (W (W s 15 v0) 16 r16) 17 n0) h :=
 rg (Rm rfl rfl i0 (R1 (v := r16) rfl (aK rfl rfl rfl rfl rfl o16) (Rm (v := n0) rfl rfl rfl (RunL.nil))))
theorem Cf {v17 v16 r18 : CV} (i17 : s.at 17 = v17) (i16 : s.at 16 = v16) (o18 : ab K.P .lss 3 v17 v16 = some r18) : fR K [1, 1, 0, 1, 0, 0, 0] s h .normal (W s 18 r18) h :=
 rg (Rb rfl rfl i17 i16 o18 (RunL.nil))
theorem Kx {v17 : CV} (i17 : s.at 17 = v17) : fR K [1, 1, 0, 1, 0, 0, 1, 1, 0, 0, 0] s h .normal (W (W s 19 v17) 4 v17) h :=
 rg (Rm rfl rfl i17 (Ra (v := v17) rfl rfl rfl (RunL.nil)))
theorem Ky {v2 v0 v4 r23 r25 : CV} {F24 : Nat → CV} {B24 : HB} {g1 g2 : Hp} (i2 : s.at 2 = v2) (i0 : s.at 0 = v0) (i4 : s.at 4 = v4) (pg1 : K.prim 117 [v0, v4] = none) (wg1 : Comes K 117 [v0, v4] h r23 g1) (o24 : aL 1 [(0, r23)] (ae K.P 22) = some (F24, B24)) (wg2 : aQ (g1.push B24) v2 (F24 (g1).n) (ae K.P 22) (ae K.P 22) = some (r25, g2)) : fR K [1, 1, 0, 1, 0, 0, 1, 1, 0, 0, 1] s h .normal (W (W (W (W4 s 20 v2 21 v0 22 v4 23 r23) 24 (F24 (g1).n)) 25 r25) 2 r25) g2 :=
 rg (Rm rfl rfl i2 (Rm rfl rfl i0 (Rm rfl rfl i4 (RunL.call (v := r23) rfl rfl rfl rfl rfl pg1 wg1 (RunL.op (v := (F24 (g1).n)) rfl (bZ rfl rfl o24) (RunL.op (v := r25) rfl (cO hk rfl rfl rfl rfl rfl rfl wg2) (Ra (v := r25) rfl rfl rfl (RunL.nil))))))))
theorem Kz {v17 r26 : CV} (i17 : s.at 17 = v17) (o26 : ab K.P .add 3 v17 (.nu .i64 1) = some r26) : fR K [1, 1, 0, 1, 0, 0, 1, 1, 1] s h .normal (W (W s 26 r26) 17 r26) h :=
 rg (Rb rfl rfl i17 rfl o26 (Rm (v := r26) rfl rfl rfl (RunL.nil)))
theorem KA {v2 : CV} (i2 : s.at 2 = v2) : fR K [1, 1, 1, 0] s h .normal (W (W (W s 27 v2) 2 v2) 3 n0) h :=
 rg (Rm rfl rfl i2 (Ra (v := v2) rfl rfl rfl (Ra (v := n0) rfl rfl rfl (RunL.nil))))
theorem Cg : wo K [0] s h .normal (W s 4 n0) h :=
 rg (Ra (v := n0) rfl rfl rfl (RunL.nil))
theorem Ch {v0 r7 v1 r9 r10 : CV} {g1 : Hp} (i0 : s.at 0 = v0) (i1 : s.at 1 = v1) (o7 : an h v0 (ae K.P 46) = some r7) (o9 : an h v1 (ae K.P 46) = some r9) (pg1 : K.prim 118 [r7, r9] = none) (wg1 : Comes K 118 [r7, r9] h r10 g1) : wo K [1, 0, 0] s h .normal (W (W (W4 s 6 v0 7 r7 8 v1 9 r9) 10 r10) 5 r10) g1 :=
 rg (Rm rfl rfl i0 (R1 (v := r7) rfl (aK rfl rfl rfl rfl rfl o7) (Rm rfl rfl i1 (R1 (v := r9) rfl (aK rfl rfl rfl rfl rfl o9) (RunL.call (v := r10) rfl rfl rfl rfl rfl pg1 wg1 (Ra (v := r10) rfl rfl rfl (RunL.nil)))))))
theorem Ci {v5 r12 : CV} (i5 : s.at 5 = v5) (o12 : ab K.P .neq 3 v5 n0 = some r12) : wo K [1, 0, 1, 0] s h .normal (W (W s 11 v5) 12 r12) h :=
 rg (Rm rfl rfl i5 (Rb rfl rfl rfl rfl o12 (RunL.nil)))
theorem KB {v5 : CV} (i5 : s.at 5 = v5) : wo K [1, 0, 1, 1, 0, 0] s h .normal (W (W s 13 v5) 4 v5) h :=
 rg (Rm rfl rfl i5 (Ra (v := v5) rfl rfl rfl (RunL.nil)))
theorem KC {v0 v1 r16 : CV} {g1 : Hp} (i0 : s.at 0 = v0) (i1 : s.at 1 = v1) (pg1 : K.prim 119 [v0, v1] = none) (wg1 : Comes K 119 [v0, v1] h r16 g1) : wo K [1, 1, 0] s h .normal (W4 s 14 v0 15 v1 16 r16 4 r16) g1 :=
 rg (Rm rfl rfl i0 (Rm rfl rfl i1 (RunL.call (v := r16) rfl rfl rfl rfl rfl pg1 wg1 (Ra (v := r16) rfl rfl rfl (RunL.nil)))))
theorem KD : eH K [0] s h .normal (W (W s 2 .nils) 3 n0) h :=
 rg (Ra (v := .nils) rfl rfl rfl (Ra (v := n0) rfl rfl rfl (RunL.nil)))
theorem KE {v0 r10 : CV} {F8 : Nat → CV} {B8 : HB} {g1 : Hp} (i0 : s.at 0 = v0) (o8 : aL 0 [] (ae K.P 45) = some (F8, B8)) (wg1 : aQ (h.push B8) (F8 (h).n) v0 (ae K.P 45) (ae K.P 45) = some (r10, g1)) : eH K [1, 0] s h .normal (W4 s 8 (F8 (h).n) 9 v0 10 r10 4 r10) g1 :=
 rg (RunL.op (v := (F8 (h).n)) rfl (bZ rfl rfl o8) (Rm rfl rfl i0 (RunL.op (v := r10) rfl (cO hk rfl rfl rfl rfl rfl rfl wg1) (Ra (v := r10) rfl rfl rfl (RunL.nil)))))
theorem KF : eH K [1, 1, 0] s h .normal (W s 5 n0) h :=
 rg (Ra (v := n0) rfl rfl rfl (RunL.nil))
theorem KG : eH K [1, 1, 1, 0, 0] s h .normal (W s 6 n0) h :=
 rg (Ra (v := n0) rfl rfl rfl (RunL.nil))
theorem Cj {v6 v4 r13 r14 : CV} (i6 : s.at 6 = v6) (i4 : s.at 4 = v4) (o13 : an h v4 (ae K.P 45) = some r13) (o14 : ab K.P .lss 3 v6 r13 = some r14) : eH K [1, 1, 1, 0, 1, 0, 0, 0, 0] s h .normal (W4 s 11 v6 12 v4 13 r13 14 r14) h :=
 rg (Rm rfl rfl i6 (Rm rfl rfl i4 (R1 (v := r13) rfl (aK rfl rfl rfl rfl rfl o13) (Rb rfl rfl rfl rfl o14 (RunL.nil)))))
theorem KH {v6 : CV} (i6 : s.at 6 = v6) : eH K [1, 1, 1, 0, 1, 0, 0, 1, 0, 0, 0] s h .normal (W (W s 17 v6) 7 v6) h :=
 rg (Rm rfl rfl i6 (Ra (v := v6) rfl rfl rfl (RunL.nil)))
theorem wA {v7 v4 r23 r24 r25 r28 r29 r30 r31 : CV} (hp : K.plan 85 7 = some [.o 0 [],.o 1 [],.o 2 [],.t 3,.t 4,.t 5,.t 6,.t 7,.t 8,.o 9 [8, 7, 6, 5, 4, 3],.o 10 [7, 6, 5, 4, 3],.o 11 [7, 6, 5, 4, 3],.o 12 [],.o 13 []]) (i7 : s.at 7 = v7) (i4 : s.at 4 = v4) (o19 : ab K.P .gtr 3 v7 n0 = some tt) (o23 : ab K.P .sub 3 v7 (.nu .i64 1) = some r23) (o24 : ai v4 r23 (ae K.P 45) = some r24) (o25 : ap h r24 (ar K.P 3) = some r25) (q25 : ceq r25 r25 = true) (o28 : ai v4 v7 (ae K.P 45) = some r28) (o29 : ap h r28 (ar K.P 3) = some r29) (o30 : ab K.P .gtr 3 r25 r29 = some r30) (o31 : aA r30 ff tt = some r31) : eH K [1, 1, 1, 0, 1, 0, 0, 1, 0, 0, 1, 0, 0, 0, 0] s h .normal (W (W (W4 (W8 s 18 v7 19 tt 20 tt 21 v4 22 v7 23 r23 24 r24 25 r25) 26 v4 27 v7 28 r28 29 r29) 30 r30) 31 r31) h :=
 Runs.drawn hp (RunP.only (v := v7) rfl rfl (Q1.e (aS rfl i7)) rfl (RunP.only (v := tt) rfl rfl (Q1.e (eQ rfl rfl rfl o19)) rfl (RunP.only (v := tt) rfl rfl (Q1.e (aS rfl rfl)) rfl (RunP.q (v := v4) rfl rfl (aS rfl i4) (RunP.q (v := v7) rfl rfl (aS rfl i7) (RunP.q (v := r23) rfl rfl (eQ rfl rfl rfl o23) (RunP.q (v := r24) rfl rfl (bw rfl rfl rfl o24) (RunP.q (v := r25) rfl rfl (aJ rfl rfl o25) (RunP.q (v := v4) rfl rfl (aS rfl i4) (RunP.only (v := v7) rfl rfl (Q1.e (aS rfl i7)) (by simp (decide := true) only [bV, bS, qX, ev, Fr.putO, aI, reduceIte, Nat.reduceEqDiff, List.filter_cons, List.filter_nil, List.any_cons, List.any_nil, List.all_cons, List.all_nil, List.getElem_toArray, List.getElem_cons_succ, List.getElem_cons_zero, Option.map_some, Option.map_none, aV, bj, Bool.and_true, Bool.true_and, Bool.and_self, i7, i4, o19, o23, o24, o25, q25]) (RunP.only (v := r28) rfl rfl (Q1.e (bw rfl rfl rfl o28)) (by simp (decide := true) only [bV, bS, qX, ev, Fr.putO, aI, reduceIte, Nat.reduceEqDiff, List.filter_cons, List.filter_nil, List.any_cons, List.any_nil, List.all_cons, List.all_nil, List.getElem_toArray, List.getElem_cons_succ, List.getElem_cons_zero, Option.map_some, Option.map_none, aV, bj, Bool.and_true, Bool.true_and, Bool.and_self, i7, i4, o19, o23, o24, o25, q25, o28]) (RunP.only (v := r29) rfl rfl (Q1.e (aJ rfl rfl o29)) (by simp (decide := true) only [bV, bS, qX, ev, Fr.putO, aI, reduceIte, Nat.reduceEqDiff, List.filter_cons, List.filter_nil, List.any_cons, List.any_nil, List.all_cons, List.all_nil, List.getElem_toArray, List.getElem_cons_succ, List.getElem_cons_zero, Option.map_some, Option.map_none, aV, bj, Bool.and_true, Bool.true_and, Bool.and_self, i7, i4, o19, o23, o24, o25, q25, o28, o29]) (RunP.only (v := r30) rfl rfl (Q1.e (eQ rfl rfl rfl o30)) rfl (RunP.only (v := r31) rfl rfl (Q1.e (aU rfl rfl rfl rfl o31)) rfl (RunP.nil)))))))))))))))
theorem EB {v7 r31 : CV} (hp : K.plan 85 7 = some [.o 0 [],.o 1 [],.o 2 [],.t 3,.t 4,.t 5,.t 6,.t 7,.t 8,.o 9 [8, 7, 6, 5, 4, 3],.o 10 [7, 6, 5, 4, 3],.o 11 [7, 6, 5, 4, 3],.o 12 [],.o 13 []]) (i7 : s.at 7 = v7) (o19 : ab K.P .gtr 3 v7 n0 = some ff) (o31 : aA .skp ff ff = some r31) : eH K [1, 1, 1, 0, 1, 0, 0, 1, 0, 0, 1, 0, 0, 0, 0] s h .normal (W (W (W4 (W8 s 18 v7 19 ff 20 ff 21 .skp 22 .skp 23 .skp 24 .skp 25 .skp) 26 .skp 27 .skp 28 .skp 29 .skp) 30 .skp) 31 r31) h :=
 Runs.drawn hp (RunP.only (v := v7) rfl rfl (Q1.e (aS rfl i7)) rfl (RunP.only (v := ff) rfl rfl (Q1.e (eQ rfl rfl rfl o19)) rfl (RunP.only (v := ff) rfl rfl (Q1.e (aS rfl rfl)) rfl (eC rfl rfl (eC rfl rfl (eC rfl rfl (eC rfl rfl (eC rfl rfl (eC rfl rfl (gH rfl rfl (gH rfl rfl (gH rfl rfl (gH rfl rfl (RunP.only (v := r31) rfl rfl (Q1.e (aU rfl rfl rfl rfl o31)) rfl (RunP.nil)))))))))))))))
theorem KI {v4 v7 r36 r41 r42 r46 r47 : CV} {g1 g2 : Hp} (hp : K.plan 85 9 = some [.t 0,.t 1,.t 2,.t 3,.t 4,.t 5,.t 6,.t 7,.t 8,.t 9,.o 10 [9, 8, 7, 6, 5, 4, 3, 2, 1, 0],.o 11 [9, 8, 7, 6, 5, 4, 3, 2, 1, 0],.o 12 [8, 7, 6, 5, 4, 3, 2, 1, 0],.o 13 [8, 7, 6, 5, 4, 3, 2, 1, 0],.o 14 [4, 3],.o 15 [4, 3],.o 16 [],.o 17 []]) (i4 : s.at 4 = v4) (i7 : s.at 7 = v7) (o36 : ab K.P .sub 3 v7 (.nu .i64 1) = some r36) (o41 : ai v4 v7 (ae K.P 45) = some r41) (o42 : ap h r41 (ar K.P 3) = some r42) (q42 : ceq r42 r42 = true) (o46 : ai v4 r36 (ae K.P 45) = some r46) (o47 : ap h r46 (ar K.P 3) = some r47) (wg1 : bc h r46 r42 (ar K.P 3) = some (.undef, g1)) (wg2 : bc g1 r41 r47 (ar K.P 3) = some (.undef, g2)) : eH K [1, 1, 1, 0, 1, 0, 0, 1, 0, 0, 1, 0, 0, 1, 0, 0, 0] s h .normal (W8 (W8 s 34 v4 35 v7 36 r36 37 v4 38 v7 39 v4 40 v7 41 r41) 42 r42 43 v4 44 v7 45 r36 46 r46 47 r47 48 r46 49 r41) g2 :=
 Runs.drawn hp (RunP.q (v := v4) rfl rfl (aS rfl i4) (RunP.q (v := v7) rfl rfl (aS rfl i7) (RunP.q (v := r36) rfl rfl (eQ rfl rfl rfl o36) (RunP.q (v := v4) rfl rfl (aS rfl i4) (RunP.q (v := v7) rfl rfl (aS rfl i7) (RunP.q (v := v4) rfl rfl (aS rfl i4) (RunP.q (v := v7) rfl rfl (aS rfl i7) (RunP.q (v := r41) rfl rfl (bw rfl rfl rfl o41) (RunP.q (v := r42) rfl rfl (aJ rfl rfl o42) (RunP.q (v := v4) rfl rfl (aS rfl i4) (RunP.only (v := v7) rfl rfl (Q1.e (aS rfl i7)) (by simp (decide := true) only [bV, bS, qX, ev, Fr.putO, aI, reduceIte, Nat.reduceEqDiff, List.filter_cons, List.filter_nil, List.any_cons, List.any_nil, List.all_cons, List.all_nil, List.getElem_toArray, List.getElem_cons_succ, List.getElem_cons_zero, Option.map_some, Option.map_none, aV, bj, Bool.and_true, Bool.true_and, Bool.and_self, i4, i7, o36, o41, o42, q42]) (RunP.only (v := r36) rfl rfl (Q1.e (eQ rfl rfl rfl o36)) (by simp (decide := true) only [bV, bS, qX, ev, Fr.putO, aI, reduceIte, Nat.reduceEqDiff, List.filter_cons, List.filter_nil, List.any_cons, List.any_nil, List.all_cons, List.all_nil, List.getElem_toArray, List.getElem_cons_succ, List.getElem_cons_zero, Option.map_some, Option.map_none, aV, bj, Bool.and_true, Bool.true_and, Bool.and_self, i4, i7, o36, o41, o42, q42]) (RunP.only (v := r46) rfl rfl (Q1.e (bw rfl rfl rfl o46)) (by simp (decide := true) only [bV, bS, qX, ev, Fr.putO, aI, reduceIte, Nat.reduceEqDiff, List.filter_cons, List.filter_nil, List.any_cons, List.any_nil, List.all_cons, List.all_nil, List.getElem_toArray, List.getElem_cons_succ, List.getElem_cons_zero, Option.map_some, Option.map_none, aV, bj, Bool.and_true, Bool.true_and, Bool.and_self, i4, i7, o36, o41, o42, q42, o46]) (RunP.only (v := r47) rfl rfl (Q1.e (aJ rfl rfl o47)) (by simp (decide := true) only [bV, bS, qX, ev, Fr.putO, aI, reduceIte, Nat.reduceEqDiff, List.filter_cons, List.filter_nil, List.any_cons, List.any_nil, List.all_cons, List.all_nil, List.getElem_toArray, List.getElem_cons_succ, List.getElem_cons_zero, Option.map_some, Option.map_none, aV, bj, Bool.and_true, Bool.true_and, Bool.and_self, i4, i7, o36, o41, o42, q42, o46, o47]) (RunP.only (v := r46) rfl rfl (Q1.e (bw rfl rfl rfl o46)) rfl (RunP.only (v := .undef) rfl rfl (dA rfl rfl rfl wg1) rfl (RunP.only (v := r41) rfl rfl (Q1.e (bw rfl rfl rfl o41)) rfl (RunP.only (v := .undef) rfl rfl (dA rfl rfl rfl wg2) rfl (RunP.nil)))))))))))))))))))
theorem G9 {v5 r51 : CV} (i5 : s.at 5 = v5) (o51 : ab K.P .sub 3 (.nu .i64 1) v5 = some r51) : eH K [1, 1, 1, 0, 1, 0, 0, 1, 0, 0, 1, 0, 0, 1, 0, 0, 1] s h .normal (W (W (W s 50 v5) 51 r51) 5 r51) h :=
 rg (Rm rfl rfl i5 (Rb rfl rfl rfl rfl o51 (Ra (v := r51) rfl rfl rfl (RunL.nil))))
theorem KJ {v7 r33 : CV} (i7 : s.at 7 = v7) (o33 : ab K.P .sub 3 v7 (.nu .i64 1) = some r33) : eH K [1, 1, 1, 0, 1, 0, 0, 1, 0, 0, 1, 0, 0, 1, 1] s h .normal (W (W (W s 32 v7) 33 r33) 7 r33) h :=
 rg (Rm rfl rfl i7 (Rb rfl rfl rfl rfl o33 (Ra (v := r33) rfl rfl rfl (RunL.nil))))
theorem KK {v6 r16 : CV} (i6 : s.at 6 = v6) (o16 : ab K.P .add 3 v6 (.nu .i64 1) = some r16) : eH K [1, 1, 1, 0, 1, 0, 0, 1, 1] s h .normal (W (W (W s 15 v6) 16 r16) 6 r16) h :=
 rg (Rm rfl rfl i6 (Rb rfl rfl rfl rfl o16 (Ra (v := r16) rfl rfl rfl (RunL.nil))))
theorem Ha {v4 v5 : CV} (i4 : s.at 4 = v4) (i5 : s.at 5 = v5) : eH K [1, 1, 1, 1, 0] s h .normal (W4 s 52 v4 53 v5 2 v4 3 v5) h :=
 rg (Rm rfl rfl i4 (Rm rfl rfl i5 (Ra (v := v4) rfl rfl rfl (Ra (v := v5) rfl rfl rfl (RunL.nil)))))
theorem wB : ef K [0] s h .normal (W s 4 .nils) h :=
 rg (Ra (v := .nils) rfl rfl rfl (RunL.nil))
theorem wC : ef K [1, 0] s h .normal (W s 5 .nils) h :=
 rg (Ra (v := .nils) rfl rfl rfl (RunL.nil))
theorem wD : ef K [1, 1, 0] s h .normal (W s 6 ff) h :=
 rg (Ra (v := ff) rfl rfl rfl (RunL.nil))
theorem wE : ef K [1, 1, 1, 0, 0] s h .normal (W s 7 n0) h :=
 rg (Ra (v := n0) rfl rfl rfl (RunL.nil))
theorem nQ {v7 v0 r11 r12 : CV} (i7 : s.at 7 = v7) (i0 : s.at 0 = v0) (o11 : an h v0 (ae K.P 26) = some r11) (o12 : ab K.P .lss 3 v7 r11 = some r12) : ef K [1, 1, 1, 0, 1, 0, 0, 0, 0] s h .normal (W4 s 9 v7 10 v0 11 r11 12 r12) h :=
 rg (Rm rfl rfl i7 (Rm rfl rfl i0 (R1 (v := r11) rfl (aK rfl rfl rfl rfl rfl o11) (Rb rfl rfl rfl rfl o12 (RunL.nil)))))
theorem qO {v1 v0 v7 r18 r19 r20 : CV} {g1 : Hp} (i1 : s.at 1 = v1) (i0 : s.at 0 = v0) (i7 : s.at 7 = v7) (o18 : ai v0 v7 (ae K.P 26) = some r18) (o19 : ap h r18 (ar K.P 45) = some r19) (pg1 : K.prim 38 [v1, r19] = none) (wg1 : Comes K 38 [v1, r19] h r20 g1) : ef K [1, 1, 1, 0, 1, 0, 0, 1, 0, 0, 0] s h .normal (W (W (W (W4 s 15 v1 16 v0 17 v7 18 r18) 19 r19) 20 r20) 8 r20) g1 :=
 rg (Rm rfl rfl i1 (Rm rfl rfl i0 (Rm rfl rfl i7 (R1 (v := r18) rfl (bw rfl rfl rfl o18) (R1 (v := r19) rfl (aJ rfl rfl o19) (RunL.call (v := r20) rfl rfl rfl rfl rfl pg1 wg1 (Ra (v := r20) rfl rfl rfl (RunL.nil))))))))
theorem qP {v8 r22 : CV} (i8 : s.at 8 = v8) (o22 : ab K.P .eql 3 v8 n0 = some r22) : ef K [1, 1, 1, 0, 1, 0, 0, 1, 0, 0, 1, 0, 0] s h .normal (W (W s 21 v8) 22 r22) h :=
 rg (Rm rfl rfl i8 (Rb rfl rfl rfl rfl o22 (RunL.nil)))
theorem KL {v0 : CV} (i0 : s.at 0 = v0) : ef K [1, 1, 1, 0, 1, 0, 0, 1, 0, 0, 1, 0, 1, 0, 0] s h .normal (W (W s 23 v0) 4 v0) h :=
 rg (Rm rfl rfl i0 (Ra (v := v0) rfl rfl rfl (RunL.nil)))
theorem wF {v8 v6 r28 r29 : CV} (i8 : s.at 8 = v8) (i6 : s.at 6 = v6) (o25 : ab K.P .lss 3 v8 n0 = some tt) (o28 : dC .not v6 = some r28) (o29 : aA r28 ff tt = some r29) : ef K [1, 1, 1, 0, 1, 0, 0, 1, 0, 0, 1, 1, 0, 0] s h .normal (W (W (W4 s 24 v8 25 tt 26 tt 27 v6) 28 r28) 29 r29) h :=
 rg (Rm rfl rfl i8 (Rb rfl rfl rfl rfl o25 (Rm (v := tt) rfl rfl rfl (Rm rfl rfl i6 (R1 (v := r28) rfl (jV rfl rfl o28) (R1 (v := r29) rfl (aU rfl rfl rfl rfl o29) (RunL.nil)))))))
theorem EC {v8 r29 : CV} (i8 : s.at 8 = v8) (o25 : ab K.P .lss 3 v8 n0 = some ff) (o29 : aA .skp ff ff = some r29) : ef K [1, 1, 1, 0, 1, 0, 0, 1, 0, 0, 1, 1, 0, 0] s h .normal (W (W (W4 s 24 v8 25 ff 26 ff 27 .skp) 28 .skp) 29 r29) h :=
 rg (Rm rfl rfl i8 (Rb rfl rfl rfl rfl o25 (Rm (v := ff) rfl rfl rfl (RunL.pass rfl (RunL.pass rfl (R1 (v := r29) rfl (aU rfl rfl rfl rfl o29) (RunL.nil)))))))
theorem Hb {v5 v1 r33 : CV} {F32 : Nat → CV} {B32 : HB} {g1 : Hp} (i5 : s.at 5 = v5) (i1 : s.at 1 = v1) (o32 : aL 1 [(0, v1)] (ae K.P 26) = some (F32, B32)) (wg1 : aQ (h.push B32) v5 (F32 (h).n) (ae K.P 26) (ae K.P 26) = some (r33, g1)) : ef K [1, 1, 1, 0, 1, 0, 0, 1, 0, 0, 1, 1, 0, 1, 0, 0] s h .normal (W (W4 s 30 v5 31 v1 32 (F32 (h).n) 33 r33) 5 r33) g1 :=
 rg (Rm rfl rfl i5 (Rm rfl rfl i1 (RunL.op (v := (F32 (h).n)) rfl (bZ rfl rfl o32) (RunL.op (v := r33) rfl (cO hk rfl rfl rfl rfl rfl rfl wg1) (Ra (v := r33) rfl rfl rfl (RunL.nil))))))
theorem Hc : ef K [1, 1, 1, 0, 1, 0, 0, 1, 0, 0, 1, 1, 0, 1, 0, 1] s h .normal (W s 6 tt) h :=
 rg (Ra (v := tt) rfl rfl rfl (RunL.nil))
theorem so {v5 v0 v7 r37 r38 r40 : CV} {F39 : Nat → CV} {B39 : HB} {g1 : Hp} (i5 : s.at 5 = v5) (i0 : s.at 0 = v0) (i7 : s.at 7 = v7) (o37 : ai v0 v7 (ae K.P 26) = some r37) (o38 : ap h r37 (ar K.P 45) = some r38) (o39 : aL 1 [(0, r38)] (ae K.P 26) = some (F39, B39)) (wg1 : aQ (h.push B39) v5 (F39 (h).n) (ae K.P 26) (ae K.P 26) = some (r40, g1)) : ef K [1, 1, 1, 0, 1, 0, 0, 1, 0, 0, 1, 1, 1] s h .normal (W8 s 34 v5 35 v0 36 v7 37 r37 38 r38 39 (F39 (h).n) 40 r40 5 r40) g1 :=
 rg (Rm rfl rfl i5 (Rm rfl rfl i0 (Rm rfl rfl i7 (R1 (v := r37) rfl (bw rfl rfl rfl o37) (R1 (v := r38) rfl (aJ rfl rfl o38) (RunL.op (v := (F39 (h).n)) rfl (bZ rfl rfl o39) (RunL.op (v := r40) rfl (cO hk rfl rfl rfl rfl rfl rfl wg1) (Ra (v := r40) rfl rfl rfl (RunL.nil)))))))))
theorem wG {v7 r14 : CV} (i7 : s.at 7 = v7) (o14 : ab K.P .add 3 v7 (.nu .i64 1) = some r14) : ef K [1, 1, 1, 0, 1, 0, 0, 1, 1] s h .normal (W (W (W s 13 v7) 14 r14) 7 r14) h :=
 rg (Rm rfl rfl i7 (Rb rfl rfl rfl rfl o14 (Ra (v := r14) rfl rfl rfl (RunL.nil))))
theorem yT {v6 r42 : CV} (i6 : s.at 6 = v6) (o42 : dC .not v6 = some r42) : ef K [1, 1, 1, 1, 0, 0] s h .normal (W (W s 41 v6) 42 r42) h :=
 rg (Rm rfl rfl i6 (R1 (v := r42) rfl (jV rfl rfl o42) (RunL.nil)))
theorem Hd {v5 v1 r46 : CV} {F45 : Nat → CV} {B45 : HB} {g1 : Hp} (i5 : s.at 5 = v5) (i1 : s.at 1 = v1) (o45 : aL 1 [(0, v1)] (ae K.P 26) = some (F45, B45)) (wg1 : aQ (h.push B45) v5 (F45 (h).n) (ae K.P 26) (ae K.P 26) = some (r46, g1)) : ef K [1, 1, 1, 1, 0, 1, 0] s h .normal (W (W4 s 43 v5 44 v1 45 (F45 (h).n) 46 r46) 5 r46) g1 :=
 rg (Rm rfl rfl i5 (Rm rfl rfl i1 (RunL.op (v := (F45 (h).n)) rfl (bZ rfl rfl o45) (RunL.op (v := r46) rfl (cO hk rfl rfl rfl rfl rfl rfl wg1) (Ra (v := r46) rfl rfl rfl (RunL.nil))))))
theorem yU {v5 : CV} (i5 : s.at 5 = v5) : ef K [1, 1, 1, 1, 1, 0] s h .normal (W (W s 47 v5) 4 v5) h :=
 rg (Rm rfl rfl i5 (Ra (v := v5) rfl rfl rfl (RunL.nil)))
theorem yV : hF K [0] s h .normal (W s 4 ff) h :=
 rg (Ra (v := ff) rfl rfl rfl (RunL.nil))
theorem yW : hF K [1, 0, 0] s h .normal (W s 5 n0) h :=
 rg (Ra (v := n0) rfl rfl rfl (RunL.nil))
theorem sr {v5 v0 r8 r9 : CV} (i5 : s.at 5 = v5) (i0 : s.at 0 = v0) (o8 : an h v0 (ae K.P 45) = some r8) (o9 : ab K.P .lss 3 v5 r8 = some r9) : hF K [1, 0, 1, 0, 0, 0, 0] s h .normal (W4 s 6 v5 7 v0 8 r8 9 r9) h :=
 rg (Rm rfl rfl i5 (Rm rfl rfl i0 (R1 (v := r8) rfl (aK rfl rfl rfl rfl rfl o8) (Rb rfl rfl rfl rfl o9 (RunL.nil)))))
theorem yX {v0 v5 r14 r15 v1 r17 : CV} (i0 : s.at 0 = v0) (i5 : s.at 5 = v5) (i1 : s.at 1 = v1) (o14 : ai v0 v5 (ae K.P 45) = some r14) (o15 : ap h r14 (ar K.P 3) = some r15) (o17 : ab K.P .eql 3 r15 v1 = some r17) : hF K [1, 0, 1, 0, 0, 1, 0, 0, 0] s h .normal (W (W (W4 s 12 v0 13 v5 14 r14 15 r15) 16 v1) 17 r17) h :=
 rg (Rm rfl rfl i0 (Rm rfl rfl i5 (R1 (v := r14) rfl (bw rfl rfl rfl o14) (R1 (v := r15) rfl (aJ rfl rfl o15) (Rm rfl rfl i1 (Rb rfl rfl rfl rfl o17 (RunL.nil)))))))
theorem He : hF K [1, 0, 1, 0, 0, 1, 0, 0, 1, 0, 0] s h .normal (W s 4 tt) h :=
 rg (Ra (v := tt) rfl rfl rfl (RunL.nil))
theorem Hf {v5 r11 : CV} (i5 : s.at 5 = v5) (o11 : ab K.P .add 3 v5 (.nu .i64 1) = some r11) : hF K [1, 0, 1, 0, 0, 1, 1] s h .normal (W (W (W s 10 v5) 11 r11) 5 r11) h :=
 rg (Rm rfl rfl i5 (Rb rfl rfl rfl rfl o11 (Ra (v := r11) rfl rfl rfl (RunL.nil))))
theorem Hg : hF K [1, 1, 0] s h .normal (W s 4 ff) h :=
 rg (Ra (v := ff) rfl rfl rfl (RunL.nil))
theorem Hh : dc K [0] s h .normal (W s 2 .nils) h :=
 rg (Ra (v := .nils) rfl rfl rfl (RunL.nil))
theorem Hi : dc K [1, 0] s h .normal (W s 3 .nils) h :=
 rg (Ra (v := .nils) rfl rfl rfl (RunL.nil))
theorem Hj : dc K [1, 1, 0, 0] s h .normal (W s 4 (.nu .i64 1)) h :=
 rg (Ra (v := (.nu .i64 1)) rfl rfl rfl (RunL.nil))
theorem yY {v4 v0 r9 r10 r11 : CV} (i4 : s.at 4 = v4) (i0 : s.at 0 = v0) (o9 : an h v0 (ae K.P 45) = some r9) (o10 : ab K.P .shl 3 (.nu .i64 1) r9 = some r10) (o11 : ab K.P .lss 3 v4 r10 = some r11) : dc K [1, 1, 0, 1, 0, 0, 0, 0] s h .normal (W (W4 s 7 v4 8 v0 9 r9 10 r10) 11 r11) h :=
 rg (Rm rfl rfl i4 (Rm rfl rfl i0 (R1 (v := r9) rfl (aK rfl rfl rfl rfl rfl o9) (Rb rfl rfl rfl rfl o10 (Rb rfl rfl rfl rfl o11 (RunL.nil))))))
theorem Hk : dc K [1, 1, 0, 1, 0, 0, 1, 0, 0, 0] s h .normal (W s 5 .nils) h :=
 rg (Ra (v := .nils) rfl rfl rfl (RunL.nil))
theorem Hl : dc K [1, 1, 0, 1, 0, 0, 1, 0, 0, 1, 0, 0] s h .normal (W s 6 n0) h :=
 rg (Ra (v := n0) rfl rfl rfl (RunL.nil))
theorem ss {v6 v0 r16 r17 : CV} (i6 : s.at 6 = v6) (i0 : s.at 0 = v0) (o16 : an h v0 (ae K.P 45) = some r16) (o17 : ab K.P .lss 3 v6 r16 = some r17) : dc K [1, 1, 0, 1, 0, 0, 1, 0, 0, 1, 0, 1, 0, 0, 0, 0] s h .normal (W4 s 14 v6 15 v0 16 r16 17 r17) h :=
 rg (Rm rfl rfl i6 (Rm rfl rfl i0 (R1 (v := r16) rfl (aK rfl rfl rfl rfl rfl o16) (Rb rfl rfl rfl rfl o17 (RunL.nil)))))
theorem yZ {v4 v6 r22 r23 r24 : CV} (i4 : s.at 4 = v4) (i6 : s.at 6 = v6) (o22 : ab K.P .shr 3 v4 v6 = some r22) (o23 : ab K.P .rem 3 r22 (.nu .i64 2) = some r23) (o24 : ab K.P .eql 3 r23 (.nu .i64 1) = some r24) : dc K [1, 1, 0, 1, 0, 0, 1, 0, 0, 1, 0, 1, 0, 0, 1, 0, 0, 0] s h .normal (W (W4 s 20 v4 21 v6 22 r22 23 r23) 24 r24) h :=
 rg (Rm rfl rfl i4 (Rm rfl rfl i6 (Rb rfl rfl rfl rfl o22 (Rb rfl rfl rfl rfl o23 (Rb rfl rfl rfl rfl o24 (RunL.nil))))))
theorem ED {v5 v0 v6 r28 r29 r31 : CV} {F30 : Nat → CV} {B30 : HB} {g1 : Hp} (i5 : s.at 5 = v5) (i0 : s.at 0 = v0) (i6 : s.at 6 = v6) (o28 : ai v0 v6 (ae K.P 45) = some r28) (o29 : ap h r28 (ar K.P 3) = some r29) (o30 : aL 1 [(0, r29)] (ae K.P 45) = some (F30, B30)) (wg1 : aQ (h.push B30) v5 (F30 (h).n) (ae K.P 45) (ae K.P 45) = some (r31, g1)) : dc K [1, 1, 0, 1, 0, 0, 1, 0, 0, 1, 0, 1, 0, 0, 1, 0, 0, 1, 0] s h .normal (W8 s 25 v5 26 v0 27 v6 28 r28 29 r29 30 (F30 (h).n) 31 r31 5 r31) g1 :=
 rg (Rm rfl rfl i5 (Rm rfl rfl i0 (Rm rfl rfl i6 (R1 (v := r28) rfl (bw rfl rfl rfl o28) (R1 (v := r29) rfl (aJ rfl rfl o29) (RunL.op (v := (F30 (h).n)) rfl (bZ rfl rfl o30) (RunL.op (v := r31) rfl (cO hk rfl rfl rfl rfl rfl rfl wg1) (Ra (v := r31) rfl rfl rfl (RunL.nil)))))))))
theorem y0 {v6 r19 : CV} (i6 : s.at 6 = v6) (o19 : ab K.P .add 3 v6 (.nu .i64 1) = some r19) : dc K [1, 1, 0, 1, 0, 0, 1, 0, 0, 1, 0, 1, 0, 0, 1, 1] s h .normal (W (W (W s 18 v6) 19 r19) 6 r19) h :=
 rg (Rm rfl rfl i6 (Rb rfl rfl rfl rfl o19 (Ra (v := r19) rfl rfl rfl (RunL.nil))))
theorem EE {v3 v5 r34 : CV} {g1 : Hp} (i3 : s.at 3 = v3) (i5 : s.at 5 = v5) (pg1 : K.prim 98 [v3, v5] = none) (wg1 : Comes K 98 [v3, v5] h r34 g1) : dc K [1, 1, 0, 1, 0, 0, 1, 0, 0, 1, 1] s h .normal (W4 s 32 v3 33 v5 34 r34 3 r34) g1 :=
 rg (Rm rfl rfl i3 (Rm rfl rfl i5 (RunL.call (v := r34) rfl rfl rfl rfl rfl pg1 wg1 (Ra (v := r34) rfl rfl rfl (RunL.nil)))))
theorem Hm {v4 r13 : CV} (i4 : s.at 4 = v4) (o13 : ab K.P .add 3 v4 (.nu .i64 1) = some r13) : dc K [1, 1, 0, 1, 0, 0, 1, 1] s h .normal (W (W (W s 12 v4) 13 r13) 4 r13) h :=
 rg (Rm rfl rfl i4 (Rb rfl rfl rfl rfl o13 (Ra (v := r13) rfl rfl rfl (RunL.nil))))
theorem EF {v3 : CV} (i3 : s.at 3 = v3) : dc K [1, 1, 1, 0] s h .normal (W (W s 35 v3) 2 v3) h :=
 rg (Rm rfl rfl i3 (Ra (v := v3) rfl rfl rfl (RunL.nil)))
theorem oR : iU K [0] s h .normal (W s 2 n0) h :=
 rg (Ra (v := n0) rfl rfl rfl (RunL.nil))
theorem oS {v0 r5 r6 : CV} (i0 : s.at 0 = v0) (o5 : an h v0 (ae K.P 45) = some r5) (o6 : ab K.P .eql 3 r5 n0 = some r6) : iU K [1, 0, 0, 0] s h .normal (W4 s 4 v0 5 r5 6 r6 3 r6) h :=
 rg (Rm rfl rfl i0 (R1 (v := r5) rfl (aK rfl rfl rfl rfl rfl o5) (Rb rfl rfl rfl rfl o6 (Ra (v := r6) rfl rfl rfl (RunL.nil)))))
theorem Hn : iU K [1, 0, 0, 1, 0, 0] s h .normal (W s 2 (.nu .i64 1)) h :=
 rg (Ra (v := (.nu .i64 1)) rfl rfl rfl (RunL.nil))
theorem su {v0 r9 r10 : CV} (i0 : s.at 0 = v0) (o9 : an h v0 (ae K.P 45) = some r9) (o10 : ab K.P .gtr 3 r9 (.nu .i64 5) = some r10) : iU K [1, 0, 0, 1, 1, 0] s h .normal (W4 s 8 v0 9 r9 10 r10 7 r10) h :=
 rg (Rm rfl rfl i0 (R1 (v := r9) rfl (aK rfl rfl rfl rfl rfl o9) (Rb rfl rfl rfl rfl o10 (Ra (v := r10) rfl rfl rfl (RunL.nil)))))
theorem Ho : iU K [1, 0, 0, 1, 1, 1, 0, 0] s h .normal (W s 2 (.nu .i64 3)) h :=
 rg (Ra (v := (.nu .i64 3)) rfl rfl rfl (RunL.nil))
theorem y8 {v0 r13 : CV} {g1 : Hp} (i0 : s.at 0 = v0) (pg1 : K.prim 138 [v0, (.fn 139 [])] = none) (wg1 : Comes K 138 [v0, (.fn 139 [])] h r13 g1) : iU K [1, 0, 0, 1, 1, 1, 1, 0] s h .normal (W (W (W s 12 v0) 13 r13) 11 r13) g1 :=
 rg (Rm rfl rfl i0 (RunL.call (v := r13) rfl rfl rfl rfl rfl pg1 wg1 (Ra (v := r13) rfl rfl rfl (RunL.nil))))
theorem Hr : iU K [1, 0, 0, 1, 1, 1, 1, 1, 0, 0] s h .normal (W s 2 (.nu .i64 1)) h :=
 rg (Ra (v := (.nu .i64 1)) rfl rfl rfl (RunL.nil))
theorem Hs : iU K [1, 1, 0] s h .normal (W s 2 n0) h :=
 rg (Ra (v := n0) rfl rfl rfl (RunL.nil))
theorem Ht : Ev K [0] s h .normal (W s 4 ff) h :=
 rg (Ra (v := ff) rfl rfl rfl (RunL.nil))
theorem Hu {v0 v1 r7 r8 : CV} {g1 : Hp} (i0 : s.at 0 = v0) (i1 : s.at 1 = v1) (pg1 : K.prim 141 [v0, v1] = none) (wg1 : Comes K 141 [v0, v1] h r7 g1) (o8 : ab K.P .geq 3 r7 n0 = some r8) : Ev K [1, 0] s h .normal (W (W4 s 5 v0 6 v1 7 r7 8 r8) 4 r8) g1 :=
 rg (Rm rfl rfl i0 (Rm rfl rfl i1 (RunL.call (v := r7) rfl rfl rfl rfl rfl pg1 wg1 (Rb rfl rfl rfl rfl o8 (Ra (v := r8) rfl rfl rfl (RunL.nil))))))
theorem Hv : JL K [0] s h .normal (W s 4 .nils) h :=
 rg (Ra (v := .nils) rfl rfl rfl (RunL.nil))
theorem Hw : Ew K [0] s h .normal (W s 4 ff) h :=
 rg (Ra (v := ff) rfl rfl rfl (RunL.nil))
theorem Hx {v0 v1 r7 r8 : CV} {g1 : Hp} (i0 : s.at 0 = v0) (i1 : s.at 1 = v1) (pg1 : K.prim 166 [v0, v1] = none) (wg1 : Comes K 166 [v0, v1] h r7 g1) (o8 : ab K.P .geq 3 r7 n0 = some r8) : Ew K [1, 0] s h .normal (W (W4 s 5 v0 6 v1 7 r7 8 r8) 4 r8) g1 :=
 rg (Rm rfl rfl i0 (Rm rfl rfl i1 (RunL.call (v := r7) rfl rfl rfl rfl rfl pg1 wg1 (Rb rfl rfl rfl rfl o8 (Ra (v := r8) rfl rfl rfl (RunL.nil))))))
theorem sv : fL K [0] s h .normal (W s 4 n0) h :=
 rg (Ra (v := n0) rfl rfl rfl (RunL.nil))
theorem y9 {v0 r7 : CV} (i0 : s.at 0 = v0) (o7 : an h v0 (ae K.P 45) = some r7) : fL K [1, 0, 0] s h .normal (W (W (W s 6 v0) 7 r7) 8 n0) h :=
 rg (Rm rfl rfl i0 (R1 (v := r7) rfl (aK rfl rfl rfl rfl rfl o7) (Rm (v := n0) rfl rfl rfl (RunL.nil))))
theorem sw {v8 v7 r9 : CV} (i8 : s.at 8 = v8) (i7 : s.at 7 = v7) (o9 : ab K.P .lss 3 v8 v7 = some r9) : fL K [1, 0, 1, 0, 0, 0] s h .normal (W s 9 r9) h :=
 rg (Rb rfl rfl i8 i7 o9 (RunL.nil))
theorem za {v8 : CV} (i8 : s.at 8 = v8) : fL K [1, 0, 1, 0, 0, 1, 1, 0, 0, 0] s h .normal (W (W s 10 v8) 5 v8) h :=
 rg (Rm rfl rfl i8 (Ra (v := v8) rfl rfl rfl (RunL.nil)))
theorem zb {v1 v0 v5 r14 r15 r16 : CV} {g1 : Hp} {G16 : FuncId} {C16 : List CV} (i1 : s.at 1 = v1) (i0 : s.at 0 = v0) (i5 : s.at 5 = v5) (o14 : ai v0 v5 (ae K.P 45) = some r14) (o15 : ap h r14 (ar K.P 3) = some r15) (e16 : (v1 : CV) = .fn G16 C16) (pg1 : K.prim G16 ([r15] ++ C16) = none) (wg1 : Comes K G16 ([r15] ++ C16) h r16 g1) : fL K [1, 0, 1, 0, 0, 1, 1, 0, 0, 1, 0] s h .normal (W (W (W4 s 11 v1 12 v0 13 v5 14 r14) 15 r15) 16 r16) g1 :=
 rg (Rm rfl rfl i1 (Rm rfl rfl i0 (Rm rfl rfl i5 (R1 (v := r14) rfl (bw rfl rfl rfl o14) (R1 (v := r15) rfl (aJ rfl rfl o15) (RunL.call (v := r16) rfl rfl rfl e16 rfl pg1 wg1 (RunL.nil)))))))
theorem Hy {v5 : CV} (i5 : s.at 5 = v5) : fL K [1, 0, 1, 0, 0, 1, 1, 0, 0, 1, 1, 0, 0] s h .normal (W (W s 17 v5) 4 v5) h :=
 rg (Rm rfl rfl i5 (Ra (v := v5) rfl rfl rfl (RunL.nil)))
theorem Hz {v8 r18 : CV} (i8 : s.at 8 = v8) (o18 : ab K.P .add 3 v8 (.nu .i64 1) = some r18) : fL K [1, 0, 1, 0, 0, 1, 1, 1] s h .normal (W (W s 18 r18) 8 r18) h :=
 rg (Rb rfl rfl i8 rfl o18 (Rm (v := r18) rfl rfl rfl (RunL.nil)))
theorem HA : fL K [1, 1, 0] s h .normal (W s 4 (.nu .i64 (-1))) h :=
 rg (Ra (v := (.nu .i64 (-1))) rfl rfl rfl (RunL.nil))
theorem sy : hK K [0] s h .normal (W s 4 n0) h :=
 rg (Ra (v := n0) rfl rfl rfl (RunL.nil))
theorem sF {v0 r8 : CV} {g1 : Hp} (i0 : s.at 0 = v0) (pg1 : K.prim 144 [v0] = none) (wg1 : Comes K 144 [v0] h r8 g1) : hK K [1, 0] s h .normal (W (W (W s 7 v0) 8 r8) 5 r8) g1 :=
 rg (Rm rfl rfl i0 (RunL.call (v := r8) rfl rfl rfl rfl rfl pg1 wg1 (Ra (v := r8) rfl rfl rfl (RunL.nil))))
theorem sG {v1 r10 : CV} {g1 : Hp} (i1 : s.at 1 = v1) (pg1 : K.prim 144 [v1] = none) (wg1 : Comes K 144 [v1] h r10 g1) : hK K [1, 1, 0] s h .normal (W (W (W s 9 v1) 10 r10) 6 r10) g1 :=
 rg (Rm rfl rfl i1 (RunL.call (v := r10) rfl rfl rfl rfl rfl pg1 wg1 (Ra (v := r10) rfl rfl rfl (RunL.nil))))
theorem sH {v5 : CV} (i5 : s.at 5 = v5) : hK K [1, 1, 1, 0, 0] s h .normal (W s 11 v5) h :=
 rg (Rm rfl rfl i5 (RunL.nil))
theorem sI {v6 : CV} (i6 : s.at 6 = v6) : hK K [1, 1, 1, 1, 0, 0] s h .normal (W s 13 v6) h :=
 rg (Rm rfl rfl i6 (RunL.nil))
theorem sJ {v0 v1 r16 : CV} (i0 : s.at 0 = v0) (i1 : s.at 1 = v1) (o16 : ab K.P .lss 3 v0 v1 = some r16) : hK K [1, 1, 1, 1, 1, 0, 0] s h .normal (W (W (W s 14 v0) 15 v1) 16 r16) h :=
 rg (Rm rfl rfl i0 (Rm rfl rfl i1 (Rb rfl rfl rfl rfl o16 (RunL.nil))))
theorem EG : hK K [1, 1, 1, 1, 1, 0, 1, 0, 0] s h .normal (W s 4 (.nu .i64 (-1))) h :=
 rg (Ra (v := (.nu .i64 (-1))) rfl rfl rfl (RunL.nil))
theorem wH {v0 v1 r19 : CV} (i0 : s.at 0 = v0) (i1 : s.at 1 = v1) (o19 : ab K.P .gtr 3 v0 v1 = some r19) : hK K [1, 1, 1, 1, 1, 1, 0, 0] s h .normal (W (W (W s 17 v0) 18 v1) 19 r19) h :=
 rg (Rm rfl rfl i0 (Rm rfl rfl i1 (Rb rfl rfl rfl rfl o19 (RunL.nil))))
theorem EH : hK K [1, 1, 1, 1, 1, 1, 0, 1, 0, 0] s h .normal (W s 4 (.nu .i64 1)) h :=
 rg (Ra (v := (.nu .i64 1)) rfl rfl rfl (RunL.nil))
theorem EI : hK K [1, 1, 1, 1, 1, 1, 1, 0] s h .normal (W s 4 n0) h :=
 rg (Ra (v := n0) rfl rfl rfl (RunL.nil))
theorem zc : eR K [0] s h .normal (W s 4 n0) h :=
 rg (Ra (v := n0) rfl rfl rfl (RunL.nil))
theorem HC {v0 r10 : CV} (i0 : s.at 0 = v0) (o10 : an h v0 (ae K.P 46) = some r10) : eR K [1, 0, 0] s h .normal (W (W (W s 9 v0) 10 r10) 11 n0) h :=
 rg (Rm rfl rfl i0 (R1 (v := r10) rfl (aK rfl rfl rfl rfl rfl o10) (Rm (v := n0) rfl rfl rfl (RunL.nil))))
theorem sK {v11 v10 r12 : CV} (i11 : s.at 11 = v11) (i10 : s.at 10 = v10) (o12 : ab K.P .lss 3 v11 v10 = some r12) : eR K [1, 0, 1, 0, 0, 0] s h .normal (W s 12 r12) h :=
 rg (Rb rfl rfl i11 i10 o12 (RunL.nil))
theorem zd {v11 v9 r14 r15 : CV} (i11 : s.at 11 = v11) (i9 : s.at 9 = v9) (o14 : ai v9 v11 (ae K.P 46) = some r14) (o15 : ap h r14 (ar K.P 3) = some r15) : eR K [1, 0, 1, 0, 0, 1, 1, 0, 0, 0] s h .normal (W (W4 s 13 v11 14 r14 15 r15 5 v11) 6 r15) h :=
 rg (Rm rfl rfl i11 (R1 (v := r14) rfl (bw rfl i9 i11 o14) (R1 (v := r15) rfl (aJ rfl rfl o15) (Ra (v := v11) rfl rfl rfl (Ra (v := r15) rfl rfl rfl (RunL.nil))))))
theorem ze {v5 v1 r18 r19 : CV} (i5 : s.at 5 = v5) (i1 : s.at 1 = v1) (o18 : an h v1 (ae K.P 46) = some r18) (o19 : ab K.P .geq 3 v5 r18 = some r19) : eR K [1, 0, 1, 0, 0, 1, 1, 0, 0, 1, 0, 0] s h .normal (W4 s 16 v5 17 v1 18 r18 19 r19) h :=
 rg (Rm rfl rfl i5 (Rm rfl rfl i1 (R1 (v := r18) rfl (aK rfl rfl rfl rfl rfl o18) (Rb rfl rfl rfl rfl o19 (RunL.nil)))))
theorem zf {v1 v5 r22 r23 : CV} (i1 : s.at 1 = v1) (i5 : s.at 5 = v5) (o22 : ai v1 v5 (ae K.P 46) = some r22) (o23 : ap h r22 (ar K.P 3) = some r23) : eR K [1, 0, 1, 0, 0, 1, 1, 0, 0, 1, 1, 0] s h .normal (W (W4 s 20 v1 21 v5 22 r22 23 r23) 7 r23) h :=
 rg (Rm rfl rfl i1 (Rm rfl rfl i5 (R1 (v := r22) rfl (bw rfl rfl rfl o22) (R1 (v := r23) rfl (aJ rfl rfl o23) (Ra (v := r23) rfl rfl rfl (RunL.nil))))))
theorem zg {v6 v7 r26 : CV} {g1 : Hp} (i6 : s.at 6 = v6) (i7 : s.at 7 = v7) (pg1 : K.prim 118 [v6, v7] = none) (wg1 : Comes K 118 [v6, v7] h r26 g1) : eR K [1, 0, 1, 0, 0, 1, 1, 0, 0, 1, 1, 1, 0] s h .normal (W4 s 24 v6 25 v7 26 r26 8 r26) g1 :=
 rg (Rm rfl rfl i6 (Rm rfl rfl i7 (RunL.call (v := r26) rfl rfl rfl rfl rfl pg1 wg1 (Ra (v := r26) rfl rfl rfl (RunL.nil)))))
theorem zh {v8 r28 : CV} (i8 : s.at 8 = v8) (o28 : ab K.P .neq 3 v8 n0 = some r28) : eR K [1, 0, 1, 0, 0, 1, 1, 0, 0, 1, 1, 1, 1, 0] s h .normal (W (W s 27 v8) 28 r28) h :=
 rg (Rm rfl rfl i8 (Rb rfl rfl rfl rfl o28 (RunL.nil)))
theorem HD {v8 : CV} (i8 : s.at 8 = v8) : eR K [1, 0, 1, 0, 0, 1, 1, 0, 0, 1, 1, 1, 1, 1, 0, 0] s h .normal (W (W s 29 v8) 4 v8) h :=
 rg (Rm rfl rfl i8 (Ra (v := v8) rfl rfl rfl (RunL.nil)))
theorem EJ {v11 r30 : CV} (i11 : s.at 11 = v11) (o30 : ab K.P .add 3 v11 (.nu .i64 1) = some r30) : eR K [1, 0, 1, 0, 0, 1, 1, 1] s h .normal (W (W s 30 r30) 11 r30) h :=
 rg (Rb rfl rfl i11 rfl o30 (Rm (v := r30) rfl rfl rfl (RunL.nil)))
theorem EK {v0 r32 v1 r34 r35 : CV} (i0 : s.at 0 = v0) (i1 : s.at 1 = v1) (o32 : an h v0 (ae K.P 46) = some r32) (o34 : an h v1 (ae K.P 46) = some r34) (o35 : ab K.P .lss 3 r32 r34 = some r35) : eR K [1, 1, 0, 0] s h .normal (W (W4 s 31 v0 32 r32 33 v1 34 r34) 35 r35) h :=
 rg (Rm rfl rfl i0 (R1 (v := r32) rfl (aK rfl rfl rfl rfl rfl o32) (Rm rfl rfl i1 (R1 (v := r34) rfl (aK rfl rfl rfl rfl rfl o34) (Rb rfl rfl rfl rfl o35 (RunL.nil))))))
theorem EL : eR K [1, 1, 1, 0] s h .normal (W s 4 n0) h :=
 rg (Ra (v := n0) rfl rfl rfl (RunL.nil))
theorem zi : wp K [0] s h .normal (W s 2 ff) h :=
 rg (Ra (v := ff) rfl rfl rfl (RunL.nil))
theorem Ck {v0 r8 : CV} (i0 : s.at 0 = v0) (o4 : ab K.P .lss 3 v0 n0 = some tt) (o8 : aA tt .skp tt = some r8) : wp K [1, 0] s h .normal (W (W (W (W4 s 3 v0 4 tt 5 tt 6 .skp) 7 .skp) 8 r8) 2 r8) h :=
 rg (Rm rfl rfl i0 (Rb rfl rfl rfl rfl o4 (Rm (v := tt) rfl rfl rfl (RunL.pass rfl (RunL.pass rfl (R1 (v := r8) rfl (aU rfl rfl rfl rfl o8) (Ra (v := r8) rfl rfl rfl (RunL.nil))))))))
theorem Cl {v0 r7 r8 : CV} (i0 : s.at 0 = v0) (o4 : ab K.P .lss 3 v0 n0 = some ff) (o7 : ab K.P .geq 3 v0 (.nu .i64 64) = some r7) (o8 : aA tt r7 ff = some r8) : wp K [1, 0] s h .normal (W (W (W (W4 s 3 v0 4 ff 5 ff 6 v0) 7 r7) 8 r8) 2 r8) h :=
 rg (Rm rfl rfl i0 (Rb rfl rfl rfl rfl o4 (Rm (v := ff) rfl rfl rfl (Rm rfl rfl i0 (Rb rfl rfl rfl rfl o7 (R1 (v := r8) rfl (aU rfl rfl rfl rfl o8) (Ra (v := r8) rfl rfl rfl (RunL.nil))))))))
theorem zj : gd K [0] s h .normal (W s 4 n0) h :=
 rg (Ra (v := n0) rfl rfl rfl (RunL.nil))
theorem HE {v0 r7 : CV} (i0 : s.at 0 = v0) (o7 : an h v0 (ae K.P 46) = some r7) : gd K [1, 0, 0] s h .normal (W (W (W s 6 v0) 7 r7) 8 n0) h :=
 rg (Rm rfl rfl i0 (R1 (v := r7) rfl (aK rfl rfl rfl rfl rfl o7) (Rm (v := n0) rfl rfl rfl (RunL.nil))))
theorem sL {v8 v7 r9 : CV} (i8 : s.at 8 = v8) (i7 : s.at 7 = v7) (o9 : ab K.P .lss 3 v8 v7 = some r9) : gd K [1, 0, 1, 0, 0, 0] s h .normal (W s 9 r9) h :=
 rg (Rb rfl rfl i8 i7 o9 (RunL.nil))
theorem zk {v8 : CV} (i8 : s.at 8 = v8) : gd K [1, 0, 1, 0, 0, 1, 1, 0, 0, 0] s h .normal (W (W s 10 v8) 5 v8) h :=
 rg (Rm rfl rfl i8 (Ra (v := v8) rfl rfl rfl (RunL.nil)))
theorem zl {v1 v0 v5 r14 r15 r16 : CV} (i1 : s.at 1 = v1) (i0 : s.at 0 = v0) (i5 : s.at 5 = v5) (o14 : ai v0 v5 (ae K.P 46) = some r14) (o15 : ap h r14 (ar K.P 3) = some r15) (o16 : ab K.P .eql 3 v1 r15 = some r16) : gd K [1, 0, 1, 0, 0, 1, 1, 0, 0, 1, 0] s h .normal (W (W (W4 s 11 v1 12 v0 13 v5 14 r14) 15 r15) 16 r16) h :=
 rg (Rm rfl rfl i1 (Rm rfl rfl i0 (Rm rfl rfl i5 (R1 (v := r14) rfl (bw rfl rfl rfl o14) (R1 (v := r15) rfl (aJ rfl rfl o15) (Rb rfl rfl rfl rfl o16 (RunL.nil)))))))
theorem HF {v5 : CV} (i5 : s.at 5 = v5) : gd K [1, 0, 1, 0, 0, 1, 1, 0, 0, 1, 1, 0, 0] s h .normal (W (W s 17 v5) 4 v5) h :=
 rg (Rm rfl rfl i5 (Ra (v := v5) rfl rfl rfl (RunL.nil)))
theorem HG {v8 r18 : CV} (i8 : s.at 8 = v8) (o18 : ab K.P .add 3 v8 (.nu .i64 1) = some r18) : gd K [1, 0, 1, 0, 0, 1, 1, 1] s h .normal (W (W s 18 r18) 8 r18) h :=
 rg (Rb rfl rfl i8 rfl o18 (Rm (v := r18) rfl rfl rfl (RunL.nil)))
theorem HH : gd K [1, 1, 0] s h .normal (W s 4 (.nu .i64 (-1))) h :=
 rg (Ra (v := (.nu .i64 (-1))) rfl rfl rfl (RunL.nil))
theorem HI : Ex K [0] s h .normal (W s 2 ff) h :=
 rg (Ra (v := ff) rfl rfl rfl (RunL.nil))
theorem HJ {v0 r5 : CV} (i0 : s.at 0 = v0) (o5 : ab K.P .neq 3 v0 v0 = some r5) : Ex K [1, 0] s h .normal (W4 s 3 v0 4 v0 5 r5 2 r5) h :=
 rg (Rm rfl rfl i0 (Rm rfl rfl i0 (Rb rfl rfl rfl rfl o5 (Ra (v := r5) rfl rfl rfl (RunL.nil)))))
end Go.CP
