import Derived.Test.YtadagifjonbmjaaGreatDoorKq0
import Derived.Test.YtadagifjonbmjaaGreatDoorProg
set_option linter.all false
set_option maxHeartbeats 2000000
namespace Go.CP
open Go.Proofs
abbrev Ey [LG] [HK] (K : Ctx) (p : List Nat) := Runs K 72 20 none (aL p (ax Tryz.f72))
abbrev X7 [LG] [HK] (K : Ctx) (p : List Nat) := Runs K 7 110 none (aL p (ax Tryz.f7))
variable [LG] [HK] {K : Ctx} {s : Fr} {h : Hp} (hk : ∀ o, HK.keep o = false)
include hk
theorem Nu : Ey K [0] s h .normal (W s 2 .nils) h :=
 rg (Ra (v := .nils) rfl rfl rfl (RunL.nil))
theorem Nv : Ey K [1, 0] s h .normal (W s 3 .nils) h :=
 rg (Ra (v := .nils) rfl rfl rfl (RunL.nil))
theorem Nw {v3 v5 r14 r16 : CV} {F15 : Nat → CV} {B15 : HB} {g1 g2 : Hp} (i3 : s.at 3 = v3) (i5 : s.at 5 = v5) (pg1 : K.prim 69 [v5] = none) (wg1 : Comes K 69 [v5] h r14 g1) (o15 : aM 1 [(0, r14)] (ae K.P 22) = some (F15, B15)) (wg2 : aT (g1.push B15) v3 (F15 (g1).n) (ae K.P 22) (ae K.P 22) = some (r16, g2)) : Ey K [1, 1, 0, 1, 0, 0, 1, 1, 0, 1] s h .normal (W (W (W4 s 12 v3 13 v5 14 r14 15 (F15 (g1).n)) 16 r16) 3 r16) g2 :=
 rg (Rm rfl rfl i3 (Rm rfl rfl i5 (RunL.call (v := r14) rfl rfl rfl rfl rfl pg1 wg1 (RunL.op (v := (F15 (g1).n)) rfl (bG rfl rfl o15) (RunL.op (v := r16) rfl (ct hk rfl rfl rfl rfl rfl rfl wg2) (Ra (v := r16) rfl rfl rfl (RunL.nil)))))))
theorem Nx {v3 r18 : CV} {g1 : Hp} (i3 : s.at 3 = v3) (pg1 : K.prim 116 [v3, (.fn 74 [])] = none) (wg1 : Comes K 116 [v3, (.fn 74 [])] h r18 g1) : Ey K [1, 1, 1, 0] s h .normal (W (W s 17 v3) 18 r18) g1 :=
 rg (Rm rfl rfl i3 (RunL.call (v := r18) rfl rfl rfl rfl rfl pg1 wg1 (RunL.nil)))
theorem Ny {v3 : CV} (i3 : s.at 3 = v3) : Ey K [1, 1, 1, 1, 0] s h .normal (W (W s 19 v3) 2 v3) h :=
 rg (Rm rfl rfl i3 (Ra (v := v3) rfl rfl rfl (RunL.nil)))
end Go.CP
namespace Go.CP
open Go.Proofs
structure Ez [LG] [HK] (K : Ctx) : Prop where
variable [LG] [HK] {K : Ctx} {s : Fr} {h : Hp} (hk : ∀ o, HK.keep o = false) (pr : ∀ f args, K.prim f args = none) (Pl : Ez K)
include hk pr Pl
end Go.CP
namespace Go.CP
open Go.Proofs
variable [LG] [HK] {K : Ctx} {s : Fr} {h : Hp} (hk : ∀ o, HK.keep o = false)
include hk
end Go.CP
namespace Go.CP
open Go.Proofs
structure EA [LG] [HK] (K : Ctx) : Prop where
variable [LG] [HK] {K : Ctx} {s : Fr} {h : Hp} (hk : ∀ o, HK.keep o = false) (pr : ∀ f args, K.prim f args = none) (Pl : EA K)
include hk pr Pl
end Go.CP
namespace Go.CP
open Go.Proofs
variable [LG] [HK] {K : Ctx} {s : Fr} {h : Hp} (hk : ∀ o, HK.keep o = false)
include hk
theorem IZ : X7 K [0] s h .normal (W s 2 ff) h :=
 rg (Ra (v := ff) rfl rfl rfl (RunL.nil))
theorem I0 {v0 r16 : CV} {g1 : Hp} (i0 : s.at 0 = v0) (pg1 : K.prim 13 [v0, (.nu .i64 40)] = none) (wg1 : Comes K 13 [v0, (.nu .i64 40)] h r16 g1) : X7 K [1, 0, 0] s h .normal (W (W s 15 v0) 16 r16) g1 :=
 rg (Rm rfl rfl i0 (RunL.call (v := r16) rfl rfl rfl rfl rfl pg1 wg1 (RunL.nil)))
theorem Qo {r17 : CV} {g1 : Hp} (pg1 : K.prim 14 [] = none) (wg1 : Comes K 14 [] h r17 g1) : X7 K [1, 0, 1, 0, 0] s h .normal (W (W s 17 r17) 2 r17) g1 :=
 rg (RunL.call (v := r17) rfl rfl rfl rfl rfl pg1 wg1 (Ra (v := r17) rfl rfl rfl (RunL.nil)))
theorem Qp {v0 r20 r21 r23 : CV} {F22 : Nat → CV} {B22 : HB} {g1 g2 : Hp} (i0 : s.at 0 = v0) (pg1 : K.prim 16 [v0] = none) (wg1 : Comes K 16 [v0] h r20 g1) (pg2 : K.prim 15 [r20, (.nu .i64 6), (.nu .i64 3), (.nu .i64 8)] = none) (wg2 : Comes K 15 [r20, (.nu .i64 6), (.nu .i64 3), (.nu .i64 8)] g1 r21 g2) (o22 : aM 2 [(0, v0), (1, r21)] (ae K.P 28) = some (F22, B22)) (o23 : am (g2.push B22) (F22 (g2).n) (ae K.P 28) = some r23) : X7 K [1, 1, 0, 0] s h .normal (W (W (W (W4 s 18 v0 19 v0 20 r20 21 r21) 22 (F22 (g2).n)) 23 r23) 24 n0) (g2.push B22) :=
 rg (Rm rfl rfl i0 (Rm rfl rfl i0 (RunL.call (v := r20) rfl rfl rfl rfl rfl pg1 wg1 (RunL.call (v := r21) rfl rfl rfl rfl rfl pg2 wg2 (RunL.op (v := (F22 (g2).n)) rfl (bG rfl rfl o22) (R1 (v := r23) rfl (aH rfl rfl rfl rfl rfl o23) (Rm (v := n0) rfl rfl rfl (RunL.nil))))))))
theorem I1 {v24 v23 r25 : CV} (i24 : s.at 24 = v24) (i23 : s.at 23 = v23) (o25 : ab K.P .lss 3 v24 v23 = some r25) : X7 K [1, 1, 0, 1, 0, 0, 0] s h .normal (W s 25 r25) h :=
 rg (Rb rfl rfl i24 i23 o25 (RunL.nil))
theorem Qq {v22 v24 r26 r27 : CV} (i22 : s.at 22 = v22) (i24 : s.at 24 = v24) (o26 : af v22 v24 (ae K.P 28) = some r26) (o27 : ah h r26 (ao K.P 22) = some r27) : X7 K [1, 1, 0, 1, 0, 0, 1, 1, 0, 0, 0] s h .normal (W (W (W s 26 r26) 27 r27) 4 r27) h :=
 rg (R1 (v := r26) rfl (aO rfl i22 i24 o26) (R1 (v := r27) rfl (aD rfl rfl o27) (Ra (v := r27) rfl rfl rfl (RunL.nil))))
theorem Qr {v4 r29 : CV} {g1 : Hp} (i4 : s.at 4 = v4) (pg1 : K.prim 16 [v4] = none) (wg1 : Comes K 16 [v4] h r29 g1) : X7 K [1, 1, 0, 1, 0, 0, 1, 1, 0, 0, 1, 0] s h .normal (W (W (W s 28 v4) 29 r29) 5 r29) g1 :=
 rg (Rm rfl rfl i4 (RunL.call (v := r29) rfl rfl rfl rfl rfl pg1 wg1 (Ra (v := r29) rfl rfl rfl (RunL.nil))))
theorem Qt {v5 r31 : CV} {g1 : Hp} (i5 : s.at 5 = v5) (pg1 : K.prim 17 [v5] = none) (wg1 : Comes K 17 [v5] h r31 g1) : X7 K [1, 1, 0, 1, 0, 0, 1, 1, 0, 0, 1, 1, 0] s h .normal (W (W (W s 30 v5) 31 r31) 6 r31) g1 :=
 rg (Rm rfl rfl i5 (RunL.call (v := r31) rfl rfl rfl rfl rfl pg1 wg1 (Ra (v := r31) rfl rfl rfl (RunL.nil))))
theorem Qu {v4 r34 r35 r36 : CV} {g1 : Hp} (i4 : s.at 4 = v4) (pg1 : K.prim 34 [v4] = none) (wg1 : Comes K 34 [v4] h r34 g1) (o35 : bz 0 r34 = some r35) (o36 : bz 1 r34 = some r36) : X7 K [1, 1, 0, 1, 0, 0, 1, 1, 0, 0, 1, 1, 1, 0] s h .normal (W (W (W (W4 s 33 v4 34 r34 32 r34 35 r35) 36 r36) 7 r35) 8 r36) g1 :=
 rg (Rm rfl rfl i4 (RunL.call (v := r34) rfl rfl rfl rfl rfl pg1 wg1 (Rm (v := r34) rfl rfl rfl (R1 (v := r35) rfl (bJ rfl rfl o35) (R1 (v := r36) rfl (bJ rfl rfl o36) (Ra (v := r35) rfl rfl rfl (Ra (v := r36) rfl rfl rfl (RunL.nil))))))))
theorem Qv {v4 r39 r40 r41 : CV} {g1 : Hp} (i4 : s.at 4 = v4) (pg1 : K.prim 35 [v4] = none) (wg1 : Comes K 35 [v4] h r39 g1) (o40 : bz 0 r39 = some r40) (o41 : bz 1 r39 = some r41) : X7 K [1, 1, 0, 1, 0, 0, 1, 1, 0, 0, 1, 1, 1, 1, 0] s h .normal (W (W (W (W4 s 38 v4 39 r39 37 r39 40 r40) 41 r41) 9 r40) 10 r41) g1 :=
 rg (Rm rfl rfl i4 (RunL.call (v := r39) rfl rfl rfl rfl rfl pg1 wg1 (Rm (v := r39) rfl rfl rfl (R1 (v := r40) rfl (bJ rfl rfl o40) (R1 (v := r41) rfl (bJ rfl rfl o41) (Ra (v := r40) rfl rfl rfl (Ra (v := r41) rfl rfl rfl (RunL.nil))))))))
theorem Nz {v4 r44 r45 r46 : CV} {g1 : Hp} (i4 : s.at 4 = v4) (pg1 : K.prim 36 [v4] = none) (wg1 : Comes K 36 [v4] h r44 g1) (o45 : bz 0 r44 = some r45) (o46 : bz 1 r44 = some r46) : X7 K [1, 1, 0, 1, 0, 0, 1, 1, 0, 0, 1, 1, 1, 1, 1, 0] s h .normal (W (W (W (W4 s 43 v4 44 r44 42 r44 45 r45) 46 r46) 11 r45) 12 r46) g1 :=
 rg (Rm rfl rfl i4 (RunL.call (v := r44) rfl rfl rfl rfl rfl pg1 wg1 (Rm (v := r44) rfl rfl rfl (R1 (v := r45) rfl (bJ rfl rfl o45) (R1 (v := r46) rfl (bJ rfl rfl o46) (Ra (v := r45) rfl rfl rfl (Ra (v := r46) rfl rfl rfl (RunL.nil))))))))
theorem NA {v4 r49 r50 r51 : CV} {g1 : Hp} (i4 : s.at 4 = v4) (pg1 : K.prim 37 [v4] = none) (wg1 : Comes K 37 [v4] h r49 g1) (o50 : bz 0 r49 = some r50) (o51 : bz 1 r49 = some r51) : X7 K [1, 1, 0, 1, 0, 0, 1, 1, 0, 0, 1, 1, 1, 1, 1, 1, 0] s h .normal (W (W (W (W4 s 48 v4 49 r49 47 r49 50 r50) 51 r51) 13 r50) 14 r51) g1 :=
 rg (Rm rfl rfl i4 (RunL.call (v := r49) rfl rfl rfl rfl rfl pg1 wg1 (Rm (v := r49) rfl rfl rfl (R1 (v := r50) rfl (bJ rfl rfl o50) (R1 (v := r51) rfl (bJ rfl rfl o51) (Ra (v := r50) rfl rfl rfl (Ra (v := r51) rfl rfl rfl (RunL.nil))))))))
theorem Cu {v8 v6 v10 r58 v12 r63 v14 r68 r69 : CV} (i8 : s.at 8 = v8) (i6 : s.at 6 = v6) (i10 : s.at 10 = v10) (i12 : s.at 12 = v12) (i14 : s.at 14 = v14) (o54 : ab K.P .neq 29 v8 v6 = some ff) (o58 : ab K.P .neq 29 v10 v6 = some r58) (o59 : aP tt r58 ff = some ff) (o63 : ab K.P .neq 29 v12 v6 = some r63) (o64 : aP tt r63 ff = some ff) (o68 : ab K.P .neq 29 v14 v6 = some r68) (o69 : aP tt r68 ff = some r69) : X7 K [1, 1, 0, 1, 0, 0, 1, 1, 0, 0, 1, 1, 1, 1, 1, 1, 1, 0, 0] s h .normal (W (W (W8 (W8 s 52 v8 53 v6 54 ff 55 ff 56 v10 57 v6 58 r58 59 ff) 60 ff 61 v12 62 v6 63 r63 64 ff 65 ff 66 v14 67 v6) 68 r68) 69 r69) h :=
 rg (Rm rfl rfl i8 (Rm rfl rfl i6 (Rb rfl rfl rfl rfl o54 (Rm (v := ff) rfl rfl rfl (Rm rfl rfl i10 (Rm rfl rfl i6 (Rb rfl rfl rfl rfl o58 (R1 (v := ff) rfl (bp rfl rfl rfl rfl o59) (Rm (v := ff) rfl rfl rfl (Rm rfl rfl i12 (Rm rfl rfl i6 (Rb rfl rfl rfl rfl o63 (R1 (v := ff) rfl (bp rfl rfl rfl rfl o64) (Rm (v := ff) rfl rfl rfl (Rm rfl rfl i14 (Rm rfl rfl i6 (Rb rfl rfl rfl rfl o68 (R1 (v := r69) rfl (bp rfl rfl rfl rfl o69) (RunL.nil)))))))))))))))))))
theorem EB {v6 r71 : CV} (i6 : s.at 6 = v6) (o71 : ab K.P .neq 29 v6 n0 = some r71) : X7 K [1, 1, 0, 1, 0, 0, 1, 1, 0, 0, 1, 1, 1, 1, 1, 1, 1, 1, 0, 0] s h .normal (W (W s 70 v6) 71 r71) h :=
 rg (Rm rfl rfl i6 (Rb rfl rfl rfl rfl o71 (RunL.nil)))
theorem NB {v7 r73 v9 r75 v11 r77 r78 v13 r80 r81 r82 : CV} (i7 : s.at 7 = v7) (i9 : s.at 9 = v9) (i11 : s.at 11 = v11) (i13 : s.at 13 = v13) (o73 : am h v7 (ae K.P 45) = some r73) (o75 : ab K.P .add 3 r73 v9 = some r75) (o77 : am h v11 (ae K.P 26) = some r77) (o78 : ab K.P .add 3 r75 r77 = some r78) (o80 : am h v13 (ae K.P 22) = some r80) (o81 : ab K.P .add 3 r78 r80 = some r81) (o82 : ab K.P .neq 3 r81 n0 = some r82) : X7 K [1, 1, 0, 1, 0, 0, 1, 1, 0, 0, 1, 1, 1, 1, 1, 1, 1, 1, 0, 1, 0, 0, 0] s h .normal (W (W (W (W8 s 72 v7 73 r73 74 v9 75 r75 76 v11 77 r77 78 r78 79 v13) 80 r80) 81 r81) 82 r82) h :=
 rg (Rm rfl rfl i7 (R1 (v := r73) rfl (aH rfl rfl rfl rfl rfl o73) (Rm rfl rfl i9 (Rb rfl rfl rfl rfl o75 (Rm rfl rfl i11 (R1 (v := r77) rfl (aH rfl rfl rfl rfl rfl o77) (Rb rfl rfl rfl rfl o78 (Rm rfl rfl i13 (R1 (v := r80) rfl (aH rfl rfl rfl rfl rfl o80) (Rb rfl rfl rfl rfl o81 (Rb rfl rfl rfl rfl o82 (RunL.nil))))))))))))
theorem Cv {v7 v5 r85 r86 v9 r91 r92 v11 r97 r98 r99 v13 r104 r105 r106 r107 : CV} {g1 g2 g3 g4 g5 g6 g7 : Hp} (i7 : s.at 7 = v7) (i5 : s.at 5 = v5) (i9 : s.at 9 = v9) (i11 : s.at 11 = v11) (i13 : s.at 13 = v13) (pg1 : K.prim 39 [v5] = none) (wg1 : Comes K 39 [v5] h r85 g1) (pg2 : K.prim 38 [v7, r85] = none) (wg2 : Comes K 38 [v7, r85] g1 r86 g2) (o87 : ab K.P .neq 3 r86 n0 = some ff) (pg3 : K.prim 40 [v5] = none) (wg3 : Comes K 40 [v5] g2 r91 g3) (o92 : ab K.P .neq 3 v9 r91 = some r92) (o93 : aP tt r92 ff = some ff) (pg4 : K.prim 42 [v5] = none) (wg4 : Comes K 42 [v5] g3 r97 g4) (pg5 : K.prim 41 [v11, r97] = none) (wg5 : Comes K 41 [v11, r97] g4 r98 g5) (o99 : fx .not r98 = some r99) (o100 : aP tt r99 ff = some ff) (pg6 : K.prim 43 [v5] = none) (wg6 : Comes K 43 [v5] g5 r104 g6) (pg7 : K.prim 23 [v13, r104] = none) (wg7 : Comes K 23 [v13, r104] g6 r105 g7) (o106 : fx .not r105 = some r106) (o107 : aP tt r106 ff = some r107) : X7 K [1, 1, 0, 1, 0, 0, 1, 1, 0, 0, 1, 1, 1, 1, 1, 1, 1, 1, 1, 0] s h .normal (W (W8 (W8 (W8 s 83 v7 84 v5 85 r85 86 r86 87 ff 88 ff 89 v9 90 v5) 91 r91 92 r92 93 ff 94 ff 95 v11 96 v5 97 r97 98 r98) 99 r99 100 ff 101 ff 102 v13 103 v5 104 r104 105 r105 106 r106) 107 r107) g7 :=
 rg (Rm rfl rfl i7 (Rm rfl rfl i5 (RunL.call (v := r85) rfl rfl rfl rfl rfl pg1 wg1 (RunL.call (v := r86) rfl rfl rfl rfl rfl pg2 wg2 (Rb rfl rfl rfl rfl o87 (Rm (v := ff) rfl rfl rfl (Rm rfl rfl i9 (Rm rfl rfl i5 (RunL.call (v := r91) rfl rfl rfl rfl rfl pg3 wg3 (Rb rfl rfl rfl rfl o92 (R1 (v := ff) rfl (bp rfl rfl rfl rfl o93) (Rm (v := ff) rfl rfl rfl (Rm rfl rfl i11 (Rm rfl rfl i5 (RunL.call (v := r97) rfl rfl rfl rfl rfl pg4 wg4 (RunL.call (v := r98) rfl rfl rfl rfl rfl pg5 wg5 (R1 (v := r99) rfl (nh rfl rfl o99) (R1 (v := ff) rfl (bp rfl rfl rfl rfl o100) (Rm (v := ff) rfl rfl rfl (Rm rfl rfl i13 (Rm rfl rfl i5 (RunL.call (v := r104) rfl rfl rfl rfl rfl pg6 wg6 (RunL.call (v := r105) rfl rfl rfl rfl rfl pg7 wg7 (R1 (v := r106) rfl (nh rfl rfl o106) (R1 (v := r107) rfl (bp rfl rfl rfl rfl o107) (RunL.nil))))))))))))))))))))))))))
theorem NC {v24 r108 : CV} (i24 : s.at 24 = v24) (o108 : ab K.P .add 3 v24 (.nu .i64 1) = some r108) : X7 K [1, 1, 0, 1, 0, 0, 1, 1, 1] s h .normal (W (W s 108 r108) 24 r108) h :=
 rg (Rb rfl rfl i24 rfl o108 (Rm (v := r108) rfl rfl rfl (RunL.nil)))
theorem ND {r109 : CV} {g1 : Hp} (pg1 : K.prim 14 [] = none) (wg1 : Comes K 14 [] h r109 g1) : X7 K [1, 1, 1, 0] s h .normal (W (W s 109 r109) 2 r109) g1 :=
 rg (RunL.call (v := r109) rfl rfl rfl rfl rfl pg1 wg1 (Ra (v := r109) rfl rfl rfl (RunL.nil)))
end Go.CP
namespace Go.CP
open Go.Proofs
variable [LG] [HK] {K : Ctx} {s : Fr} {h : Hp} (hk : ∀ o, HK.keep o = false)
include hk
end Go.CP
namespace Go.CP
open Go.Proofs
variable [LG] [HK] {K : Ctx} {s : Fr} {h : Hp} (hk : ∀ o, HK.keep o = false)
include hk
end Go.CP
namespace Go.CP
open Go.Proofs
variable [LG] [HK] {K : Ctx} {s : Fr} {h : Hp} (hk : ∀ o, HK.keep o = false)
include hk
end Go.CP
