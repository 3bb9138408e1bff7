import Derived.Test.YtadagifjonbmjaaGreatDoorKq0
import Derived.Test.YtadagifjonbmjaaGreatDoorProg
set_option linter.all false
set_option maxHeartbeats 2000000
namespace Go.CP
open Go.Proofs
abbrev bH [LG] [HK] (K : Ctx) (p : List Nat) := Runs K 26 74 none (aD p (an Tryz.f26))
abbrev I2 [LG] [HK] (K : Ctx) (p : List Nat) := Runs K 27 12 none (aD p (an Tryz.f27))
abbrev iZ [LG] [HK] (K : Ctx) (p : List Nat) := Runs K 38 40 none (aD p (an Tryz.f38))
abbrev fq [LG] [HK] (K : Ctx) (p : List Nat) := Runs K 66 26 none (aD p (an Tryz.f66))
abbrev Fv [LG] [HK] (K : Ctx) (p : List Nat) := Runs K 69 8 none (aD p (an Tryz.f69))
abbrev lx [LG] [HK] (K : Ctx) (p : List Nat) := Runs K 71 18 none (aD p (an Tryz.f71))
abbrev fS [LG] [HK] (K : Ctx) (p : List Nat) := Runs K 73 28 none (aD p (an Tryz.f73))
abbrev vd [LG] [HK] (K : Ctx) (p : List Nat) := Runs K 74 17 none (aD p (an Tryz.f74))
abbrev oZ [LG] [HK] (K : Ctx) (p : List Nat) := Runs K 75 24 none (aD p (an Tryz.f75))
abbrev xG [LG] [HK] (K : Ctx) (p : List Nat) := Runs K 76 20 none (aD p (an Tryz.f76))
abbrev iI [LG] [HK] (K : Ctx) (p : List Nat) := Runs K 77 37 none (aD p (an Tryz.f77))
abbrev I3 [LG] [HK] (K : Ctx) (p : List Nat) := Runs K 78 9 none (aD p (an Tryz.f78))
abbrev I4 [LG] [HK] (K : Ctx) (p : List Nat) := Runs K 79 7 none (aD p (an Tryz.f79))
abbrev gC [LG] [HK] (K : Ctx) (p : List Nat) := Runs K 80 26 none (aD p (an Tryz.f80))
abbrev fM [LG] [HK] (K : Ctx) (p : List Nat) := Runs K 81 29 none (aD p (an Tryz.f81))
abbrev iT [LG] [HK] (K : Ctx) (p : List Nat) := Runs K 110 14 none (aD p (an Tryz.f110))
abbrev Dq [LG] [HK] (K : Ctx) (p : List Nat) := Runs K 113 9 none (aD p (an Tryz.f113))
abbrev I5 [LG] [HK] (K : Ctx) (p : List Nat) := Runs K 117 15 none (aD p (an Tryz.f117))
abbrev Dr [LG] [HK] (K : Ctx) (p : List Nat) := Runs K 138 9 none (aD p (an Tryz.f138))
abbrev fN [LG] [HK] (K : Ctx) (p : List Nat) := Runs K 166 19 none (aD p (an Tryz.f166))
abbrev hD [LG] [HK] (K : Ctx) (p : List Nat) := Runs K 118 20 none (aD p (an Tryz.f118))
abbrev eJ [LG] [HK] (K : Ctx) (p : List Nat) := Runs K 119 36 none (aD p (an Tryz.f119))
abbrev Ds [LG] [HK] (K : Ctx) (p : List Nat) := Runs K 120 7 none (aD p (an Tryz.f120))
abbrev fO [LG] [HK] (K : Ctx) (p : List Nat) := Runs K 121 22 none (aD p (an Tryz.f121))
abbrev cQ [LG] [HK] (K : Ctx) (p : List Nat) := Runs K 122 36 none (aD p (an Tryz.f122))
abbrev Dt [LG] [HK] (K : Ctx) (p : List Nat) := Runs K 123 11 none (aD p (an Tryz.f123))
abbrev gl [LG] [HK] (K : Ctx) (p : List Nat) := Runs K 124 19 none (aD p (an Tryz.f124))
abbrev Du [LG] [HK] (K : Ctx) (p : List Nat) := Runs K 127 8 none (aD p (an Tryz.f127))
abbrev ve [LG] [HK] (K : Ctx) (p : List Nat) := Runs K 139 9 none (aD p (an Tryz.f139))
abbrev gm [LG] [HK] (K : Ctx) (p : List Nat) := Runs K 141 19 none (aD p (an Tryz.f141))
abbrev Dv [LG] [HK] (K : Ctx) (p : List Nat) := Runs K 144 6 none (aD p (an Tryz.f144))
abbrev pH [LG] [HK] (K : Ctx) (p : List Nat) := Runs K 145 27 none (aD p (an Tryz.f145))
abbrev ei [LG] [HK] (K : Ctx) (p : List Nat) := Runs K 146 49 none (aD p (an Tryz.f146))
abbrev Dw [LG] [HK] (K : Ctx) (p : List Nat) := Runs K 152 17 none (aD p (an Tryz.f152))
abbrev q8 [LG] [HK] (K : Ctx) (p : List Nat) := Runs K 156 25 none (aD p (an Tryz.f156))
variable [LG] [HK] {K : Ctx} {s : Fr} {h : Hp} (hk : ∀ o, HK.keep o = false)
include hk
theorem vf : bH K [0] s h .normal (W s 2 n0) h :=
 rg (Ra (v := n0) rfl rfl rfl (RunL.nil))
theorem An {v0 r14 r15 : CV} (i0 : s.at 0 = v0) (o14 : aB h v0 (ae K.P 22) = some r14) (o15 : ac K.P .gtr 3 r14 (.nu .i64 1024) = some r15) : bH K [1, 0, 0] s h .normal (W (W (W s 13 v0) 14 r14) 15 r15) h :=
 rg (Rm rfl rfl i0 (R1 (v := r14) rfl (aN rfl rfl rfl rfl rfl o14) (Rb rfl rfl rfl rfl o15 (RunL.nil))))
theorem I6 : bH K [1, 0, 1, 0, 0] s h .normal (W s 2 (.nu .i64 3)) h :=
 rg (Ra (v := (.nu .i64 3)) rfl rfl rfl (RunL.nil))
theorem Ao : bH K [1, 1, 0] s h .normal (W (W s 16 (.mp (h).n)) 3 (.mp (h).n)) (h.push (.mp [])) :=
 rg (RunL.op (v := (.mp (h).n)) rfl (Fs rfl) (Ra (v := (.mp (h).n)) rfl rfl rfl (RunL.nil)))
theorem I7 {v0 r18 : CV} (i0 : s.at 0 = v0) (o18 : aB h v0 (ae K.P 22) = some r18) : bH K [1, 1, 1, 0, 0] s h .normal (W (W (W s 17 v0) 18 r18) 19 n0) h :=
 rg (Rm rfl rfl i0 (R1 (v := r18) rfl (aN rfl rfl rfl rfl rfl o18) (Rm (v := n0) rfl rfl rfl (RunL.nil))))
theorem vg {v19 v18 r20 : CV} (i19 : s.at 19 = v19) (i18 : s.at 18 = v18) (o20 : ac K.P .lss 3 v19 v18 = some r20) : bH K [1, 1, 1, 0, 1, 0, 0, 0] s h .normal (W s 20 r20) h :=
 rg (Rb rfl rfl i19 i18 o20 (RunL.nil))
theorem Ap {v17 v19 r21 r22 : CV} (i17 : s.at 17 = v17) (i19 : s.at 19 = v19) (o21 : ak v17 v19 (ae K.P 22) = some r21) (o22 : ao h r21 (au K.P 46) = some r22) : bH K [1, 1, 1, 0, 1, 0, 0, 1, 1, 0, 0, 0] s h .normal (W (W (W s 21 r21) 22 r22) 5 r22) h :=
 rg (R1 (v := r21) rfl (bV rfl i17 i19 o21) (R1 (v := r22) rfl (aM rfl rfl o22) (Ra (v := r22) rfl rfl rfl (RunL.nil))))
theorem Aq {v5 r24 r25 : CV} {g1 : Hp} (i5 : s.at 5 = v5) (pg1 : K.prim 66 [v5] = none) (wg1 : Comes K 66 [v5] h r24 g1) (o25 : ac K.P .eql 29 r24 n0 = some r25) : bH K [1, 1, 1, 0, 1, 0, 0, 1, 1, 0, 0, 1, 0] s h .normal (W (W (W s 23 v5) 24 r24) 25 r25) g1 :=
 rg (Rm rfl rfl i5 (RunL.call (v := r24) rfl rfl rfl rfl rfl pg1 wg1 (Rb rfl rfl rfl rfl o25 (RunL.nil))))
theorem I8 {v3 v5 r28 : CV} {g1 g2 : Hp} (i3 : s.at 3 = v3) (i5 : s.at 5 = v5) (pg1 : K.prim 71 [v5] = none) (wg1 : Comes K 71 [v5] h r28 g1) (wg2 : iQ K.P g1 v3 r28 v5 (ae K.P 100) = some (.undef, g2)) : bH K [1, 1, 1, 0, 1, 0, 0, 1, 1, 0, 0, 1, 1, 0] s h .normal (W4 s 26 v3 27 v5 28 r28 29 v5) g2 :=
 rg (Rm rfl rfl i3 (Rm rfl rfl i5 (RunL.call (v := r28) rfl rfl rfl rfl rfl pg1 wg1 (Rm rfl rfl i5 (RunL.op (v := .undef) rfl (Ft rfl rfl rfl rfl wg2) (RunL.nil))))))
theorem Ar {v19 r30 : CV} (i19 : s.at 19 = v19) (o30 : ac K.P .add 3 v19 (.nu .i64 1) = some r30) : bH K [1, 1, 1, 0, 1, 0, 0, 1, 1, 1] s h .normal (W (W s 30 r30) 19 r30) h :=
 rg (Rb rfl rfl i19 rfl o30 (Rm (v := r30) rfl rfl rfl (RunL.nil)))
theorem F7 {v0 r32 : CV} (i0 : s.at 0 = v0) (o32 : aB h v0 (ae K.P 22) = some r32) : bH K [1, 1, 1, 1, 0, 0] s h .normal (W (W (W s 31 v0) 32 r32) 33 n0) h :=
 rg (Rm rfl rfl i0 (R1 (v := r32) rfl (aN rfl rfl rfl rfl rfl o32) (Rm (v := n0) rfl rfl rfl (RunL.nil))))
theorem xH {v33 v32 r34 : CV} (i33 : s.at 33 = v33) (i32 : s.at 32 = v32) (o34 : ac K.P .lss 3 v33 v32 = some r34) : bH K [1, 1, 1, 1, 0, 1, 0, 0, 0] s h .normal (W s 34 r34) h :=
 rg (Rb rfl rfl i33 i32 o34 (RunL.nil))
theorem F8 {v33 v31 r36 r37 : CV} (i33 : s.at 33 = v33) (i31 : s.at 31 = v31) (o36 : ak v31 v33 (ae K.P 22) = some r36) (o37 : ao h r36 (au K.P 46) = some r37) : bH K [1, 1, 1, 1, 0, 1, 0, 0, 1, 1, 0, 0, 0] s h .normal (W (W4 s 35 v33 36 r36 37 r37 6 v33) 7 r37) h :=
 rg (Rm rfl rfl i33 (R1 (v := r36) rfl (bV rfl i31 i33 o36) (R1 (v := r37) rfl (aM rfl rfl o37) (Ra (v := v33) rfl rfl rfl (Ra (v := r37) rfl rfl rfl (RunL.nil))))))
theorem xI {v7 r40 r41 r42 : CV} {g1 : Hp} (i7 : s.at 7 = v7) (pg1 : K.prim 73 [v7] = none) (wg1 : Comes K 73 [v7] h r40 g1) (o41 : ar 0 r40 = some r41) (o42 : ar 1 r40 = some r42) : bH K [1, 1, 1, 1, 0, 1, 0, 0, 1, 1, 0, 0, 1, 0] s h .normal (W (W (W (W4 s 39 v7 40 r40 38 r40 41 r41) 42 r42) 8 r41) 9 r42) g1 :=
 rg (Rm rfl rfl i7 (RunL.call (v := r40) rfl rfl rfl rfl rfl pg1 wg1 (Rm (v := r40) rfl rfl rfl (R1 (v := r41) rfl (aK rfl rfl o41) (R1 (v := r42) rfl (aK rfl rfl o42) (Ra (v := r41) rfl rfl rfl (Ra (v := r42) rfl rfl rfl (RunL.nil))))))))
theorem xJ {v9 r44 : CV} (i9 : s.at 9 = v9) (o44 : ac K.P .neq 29 v9 n0 = some r44) : bH K [1, 1, 1, 1, 0, 1, 0, 0, 1, 1, 0, 0, 1, 1, 0, 0] s h .normal (W (W s 43 v9) 44 r44) h :=
 rg (Rm rfl rfl i9 (Rb rfl rfl rfl rfl o44 (RunL.nil)))
theorem F9 {v9 : CV} (i9 : s.at 9 = v9) : bH K [1, 1, 1, 1, 0, 1, 0, 0, 1, 1, 0, 0, 1, 1, 0, 1, 0, 0] s h .normal (W (W s 45 v9) 2 v9) h :=
 rg (Rm rfl rfl i9 (Ra (v := v9) rfl rfl rfl (RunL.nil)))
theorem oA {v6 r47 : CV} (i6 : s.at 6 = v6) (o47 : ac K.P .gtr 3 v6 n0 = some r47) : bH K [1, 1, 1, 1, 0, 1, 0, 0, 1, 1, 0, 0, 1, 1, 1, 0, 0] s h .normal (W (W s 46 v6) 47 r47) h :=
 rg (Rm rfl rfl i6 (Rb rfl rfl rfl rfl o47 (RunL.nil)))
theorem q9 {v7 v0 v6 r51 r52 r53 r54 : CV} {g1 : Hp} (i7 : s.at 7 = v7) (i0 : s.at 0 = v0) (i6 : s.at 6 = v6) (o51 : ac K.P .sub 3 v6 (.nu .i64 1) = some r51) (o52 : ak v0 r51 (ae K.P 22) = some r52) (o53 : ao h r52 (au K.P 46) = some r53) (pg1 : K.prim 74 [v7, r53] = none) (wg1 : Comes K 74 [v7, r53] h r54 g1) : bH K [1, 1, 1, 1, 0, 1, 0, 0, 1, 1, 0, 0, 1, 1, 1, 0, 1, 0, 0] s h .normal (W8 s 48 v7 49 v0 50 v6 51 r51 52 r52 53 r53 54 r54 10 r54) g1 :=
 rg (Rm rfl rfl i7 (Rm rfl rfl i0 (Rm rfl rfl i6 (Rb rfl rfl rfl rfl o51 (R1 (v := r52) rfl (bV rfl rfl rfl o52) (R1 (v := r53) rfl (aM rfl rfl o53) (RunL.call (v := r54) rfl rfl rfl rfl rfl pg1 wg1 (Ra (v := r54) rfl rfl rfl (RunL.nil)))))))))
theorem re {v10 r57 : CV} (i10 : s.at 10 = v10) (o57 : ac K.P .eql 3 v10 n0 = some r57) : bH K [1, 1, 1, 1, 0, 1, 0, 0, 1, 1, 0, 0, 1, 1, 1, 0, 1, 0, 1, 0, 0] s h .normal (W (W (W s 56 v10) 57 r57) 55 r57) h :=
 rg (Rm rfl rfl i10 (Rb rfl rfl rfl rfl o57 (Ra (v := r57) rfl rfl rfl (RunL.nil))))
theorem Ga : bH K [1, 1, 1, 1, 0, 1, 0, 0, 1, 1, 0, 0, 1, 1, 1, 0, 1, 0, 1, 0, 1, 0, 0] s h .normal (W s 2 (.nu .i64 5)) h :=
 rg (Ra (v := (.nu .i64 5)) rfl rfl rfl (RunL.nil))
theorem xK {v10 r60 : CV} (i10 : s.at 10 = v10) (o60 : ac K.P .lss 3 v10 n0 = some r60) : bH K [1, 1, 1, 1, 0, 1, 0, 0, 1, 1, 0, 0, 1, 1, 1, 0, 1, 0, 1, 0, 1, 1, 0] s h .normal (W (W (W s 59 v10) 60 r60) 58 r60) h :=
 rg (Rm rfl rfl i10 (Rb rfl rfl rfl rfl o60 (Ra (v := r60) rfl rfl rfl (RunL.nil))))
theorem Gb : bH K [1, 1, 1, 1, 0, 1, 0, 0, 1, 1, 0, 0, 1, 1, 1, 0, 1, 0, 1, 0, 1, 1, 1, 0, 0] s h .normal (W s 2 (.nu .i64 6)) h :=
 rg (Ra (v := (.nu .i64 6)) rfl rfl rfl (RunL.nil))
theorem Gc {v8 r62 : CV} (i8 : s.at 8 = v8) (o62 : aB h v8 (ae K.P 22) = some r62) : bH K [1, 1, 1, 1, 0, 1, 0, 0, 1, 1, 0, 0, 1, 1, 1, 1, 0] s h .normal (W (W (W s 61 v8) 62 r62) 63 n0) h :=
 rg (Rm rfl rfl i8 (R1 (v := r62) rfl (aN rfl rfl rfl rfl rfl o62) (Rm (v := n0) rfl rfl rfl (RunL.nil))))
theorem rh {v63 v62 r64 : CV} (i63 : s.at 63 = v63) (i62 : s.at 62 = v62) (o64 : ac K.P .lss 3 v63 v62 = some r64) : bH K [1, 1, 1, 1, 0, 1, 0, 0, 1, 1, 0, 0, 1, 1, 1, 1, 1, 0, 0, 0] s h .normal (W s 64 r64) h :=
 rg (Rb rfl rfl i63 i62 o64 (RunL.nil))
theorem xL {v61 v63 r65 r66 : CV} (i61 : s.at 61 = v61) (i63 : s.at 63 = v63) (o65 : ak v61 v63 (ae K.P 22) = some r65) (o66 : ao h r65 (au K.P 46) = some r66) : bH K [1, 1, 1, 1, 0, 1, 0, 0, 1, 1, 0, 0, 1, 1, 1, 1, 1, 0, 0, 1, 1, 0, 0, 0] s h .normal (W (W (W s 65 r65) 66 r66) 12 r66) h :=
 rg (R1 (v := r65) rfl (bV rfl i61 i63 o65) (R1 (v := r66) rfl (aM rfl rfl o66) (Ra (v := r66) rfl rfl rfl (RunL.nil))))
theorem xM {v3 v12 r69 r70 r71 : CV} {g1 : Hp} (i3 : s.at 3 = v3) (i12 : s.at 12 = v12) (pg1 : K.prim 71 [v12] = none) (wg1 : Comes K 71 [v12] h r69 g1) (o70 : ed K.P g1 false r69 v3 (ae K.P 100) = some r70) (o71 : ac K.P .eql 46 r70 .nils = some r71) : bH K [1, 1, 1, 1, 0, 1, 0, 0, 1, 1, 0, 0, 1, 1, 1, 1, 1, 0, 0, 1, 1, 0, 0, 1, 0] s h .normal (W (W4 s 67 v3 68 v12 69 r69 70 r70) 71 r71) g1 :=
 rg (Rm rfl rfl i3 (Rm rfl rfl i12 (RunL.call (v := r69) rfl rfl rfl rfl rfl pg1 wg1 (R1 (v := r70) rfl (Do rfl rfl rfl o70) (Rb rfl rfl rfl rfl o71 (RunL.nil))))))
theorem Gd : bH K [1, 1, 1, 1, 0, 1, 0, 0, 1, 1, 0, 0, 1, 1, 1, 1, 1, 0, 0, 1, 1, 0, 0, 1, 1, 0, 0] s h .normal (W s 2 (.nu .i64 7)) h :=
 rg (Ra (v := (.nu .i64 7)) rfl rfl rfl (RunL.nil))
theorem Ge {v63 r72 : CV} (i63 : s.at 63 = v63) (o72 : ac K.P .add 3 v63 (.nu .i64 1) = some r72) : bH K [1, 1, 1, 1, 0, 1, 0, 0, 1, 1, 0, 0, 1, 1, 1, 1, 1, 0, 0, 1, 1, 1] s h .normal (W (W s 72 r72) 63 r72) h :=
 rg (Rb rfl rfl i63 rfl o72 (Rm (v := r72) rfl rfl rfl (RunL.nil)))
theorem Gf {v33 r73 : CV} (i33 : s.at 33 = v33) (o73 : ac K.P .add 3 v33 (.nu .i64 1) = some r73) : bH K [1, 1, 1, 1, 0, 1, 0, 0, 1, 1, 1] s h .normal (W (W s 73 r73) 33 r73) h :=
 rg (Rb rfl rfl i33 rfl o73 (Rm (v := r73) rfl rfl rfl (RunL.nil)))
theorem Gg : bH K [1, 1, 1, 1, 1, 0] s h .normal (W s 2 n0) h :=
 rg (Ra (v := n0) rfl rfl rfl (RunL.nil))
theorem I9 {v0 v1 : CV} {F2 F3 : Nat → CV} {B2 B3 : HB} (i0 : s.at 0 = v0) (i1 : s.at 1 = v1) (o2 : cK 22 v0 (au K.P 22) = some (F2, B2)) (o3 : cK 46 v1 (au K.P 46) = some (F3, B3)) : I2 K [0] s h .normal (W4 s 2 (F2 (h).n) 3 (F3 ((h.push B2)).n) 4 .nils 5 n0) ((h.push B2).push B3) :=
 rg (RunL.op (v := (F2 (h).n)) rfl (ij rfl i0 o2) (RunL.op (v := (F3 ((h.push B2)).n)) rfl (ij rfl i1 o3) (Ra (v := .nils) rfl rfl rfl (Ra (v := n0) rfl rfl rfl (RunL.nil)))))
theorem Ja {v2 r6 v3 r7 r9 r10 r11 : CV} {g1 : Hp} (i2 : s.at 2 = v2) (i3 : s.at 3 = v3) (o6 : ao h v2 (au K.P 22) = some r6) (o7 : ao h v3 (au K.P 46) = some r7) (pg1 : K.prim 75 [r6, r7, (.fn 76 [v3, v2])] = none) (wg1 : Comes K 75 [r6, r7, (.fn 76 [v3, v2])] h r9 g1) (o10 : ar 0 r9 = some r10) (o11 : ar 1 r9 = some r11) : I2 K [1, 0] s h .normal (W8 s 6 r6 7 r7 8 (.fn 76 [v3, v2]) 9 r9 10 r10 11 r11 4 r10 5 r11) g1 :=
 rg (R1 (v := r6) rfl (aM rfl i2 o6) (R1 (v := r7) rfl (aM rfl i3 o7) (R1 (v := (.fn 76 [v3, v2])) rfl (jS rfl (by simp only [ev, Fr.putO, aI, reduceIte, Nat.reduceEqDiff, List.toList_toArray, List.map_cons, List.map_nil, Option.map_some, Option.map_none, i3, i2]; try rfl)) (RunL.call (v := r9) rfl rfl rfl rfl rfl pg1 wg1 (R1 (v := r10) rfl (aK rfl rfl o10) (R1 (v := r11) rfl (aK rfl rfl o11) (Ra (v := r10) rfl rfl rfl (Ra (v := r11) rfl rfl rfl (RunL.nil)))))))))
theorem ql : iZ K [0] s h .normal (W s 4 n0) h :=
 rg (Ra (v := n0) rfl rfl rfl (RunL.nil))
theorem vh {v0 r7 v1 r9 r10 : CV} (i0 : s.at 0 = v0) (i1 : s.at 1 = v1) (o7 : aB h v0 (ae K.P 45) = some r7) (o9 : aB h v1 (ae K.P 45) = some r9) (o10 : ac K.P .neq 3 r7 r9 = some r10) : iZ K [1, 0, 0] s h .normal (W (W4 s 6 v0 7 r7 8 v1 9 r9) 10 r10) h :=
 rg (Rm rfl rfl i0 (R1 (v := r7) rfl (aN rfl rfl rfl rfl rfl o7) (Rm rfl rfl i1 (R1 (v := r9) rfl (aN rfl rfl rfl rfl rfl o9) (Rb rfl rfl rfl rfl o10 (RunL.nil))))))
theorem As {v0 r12 v1 r14 r15 : CV} (i0 : s.at 0 = v0) (i1 : s.at 1 = v1) (o12 : aB h v0 (ae K.P 45) = some r12) (o14 : aB h v1 (ae K.P 45) = some r14) (o15 : ac K.P .lss 3 r12 r14 = some r15) : iZ K [1, 0, 1, 0, 0, 0] s h .normal (W (W4 s 11 v0 12 r12 13 v1 14 r14) 15 r15) h :=
 rg (Rm rfl rfl i0 (R1 (v := r12) rfl (aN rfl rfl rfl rfl rfl o12) (Rm rfl rfl i1 (R1 (v := r14) rfl (aN rfl rfl rfl rfl rfl o14) (Rb rfl rfl rfl rfl o15 (RunL.nil))))))
theorem Jb : iZ K [1, 0, 1, 0, 0, 1, 0, 0] s h .normal (W s 4 (.nu .i64 (-1))) h :=
 rg (Ra (v := (.nu .i64 (-1))) rfl rfl rfl (RunL.nil))
theorem Jc : iZ K [1, 0, 1, 0, 1, 0] s h .normal (W s 4 (.nu .i64 1)) h :=
 rg (Ra (v := (.nu .i64 1)) rfl rfl rfl (RunL.nil))
theorem At : iZ K [1, 1, 0, 0] s h .normal (W s 5 n0) h :=
 rg (Ra (v := n0) rfl rfl rfl (RunL.nil))
theorem Au {v5 v0 r18 r19 : CV} (i5 : s.at 5 = v5) (i0 : s.at 0 = v0) (o18 : aB h v0 (ae K.P 45) = some r18) (o19 : ac K.P .lss 3 v5 r18 = some r19) : iZ K [1, 1, 0, 1, 0, 0, 0, 0] s h .normal (W4 s 16 v5 17 v0 18 r18 19 r19) h :=
 rg (Rm rfl rfl i5 (Rm rfl rfl i0 (R1 (v := r18) rfl (aN rfl rfl rfl rfl rfl o18) (Rb rfl rfl rfl rfl o19 (RunL.nil)))))
theorem Jd {v0 v5 r24 r25 v1 r28 r29 r30 : CV} (hp : K.plan 38 8 = some [.t 0,.t 1,.t 2,.t 3,.t 4,.o 5 [4, 3, 2, 1, 0],.o 6 [3, 2, 1, 0],.o 7 [3, 2, 1, 0],.o 8 []]) (i0 : s.at 0 = v0) (i5 : s.at 5 = v5) (i1 : s.at 1 = v1) (o24 : ak v0 v5 (ae K.P 45) = some r24) (o25 : ao h r24 (au K.P 3) = some r25) (q25 : ceq r25 r25 = true) (o28 : ak v1 v5 (ae K.P 45) = some r28) (o29 : ao h r28 (au K.P 3) = some r29) (o30 : ac K.P .lss 3 r25 r29 = some r30) : iZ K [1, 1, 0, 1, 0, 0, 1, 0, 0, 0, 0] s h .normal (W (W8 s 22 v0 23 v5 24 r24 25 r25 26 v1 27 v5 28 r28 29 r29) 30 r30) h :=
 Runs.drawn hp (RunP.q (v := v0) rfl rfl (aY rfl i0) (RunP.q (v := v5) rfl rfl (aY rfl i5) (RunP.q (v := r24) rfl rfl (bV rfl rfl rfl o24) (RunP.q (v := r25) rfl rfl (aM rfl rfl o25) (RunP.q (v := v1) rfl rfl (aY rfl i1) (RunP.only (v := v5) rfl rfl (Q1.e (aY rfl i5)) (by simp (decide := true) only [bQ, bO, qX, ev, Fr.putO, aI, reduceIte, Nat.reduceEqDiff, List.filter_cons, List.filter_nil, List.any_cons, List.any_nil, List.all_cons, List.all_nil, List.getElem_toArray, List.getElem_cons_succ, List.getElem_cons_zero, Option.map_some, Option.map_none, aP, bh, Bool.and_true, Bool.true_and, Bool.and_self, i0, i5, i1, o24, o25, q25]) (RunP.only (v := r28) rfl rfl (Q1.e (bV rfl rfl rfl o28)) (by simp (decide := true) only [bQ, bO, qX, ev, Fr.putO, aI, reduceIte, Nat.reduceEqDiff, List.filter_cons, List.filter_nil, List.any_cons, List.any_nil, List.all_cons, List.all_nil, List.getElem_toArray, List.getElem_cons_succ, List.getElem_cons_zero, Option.map_some, Option.map_none, aP, bh, Bool.and_true, Bool.true_and, Bool.and_self, i0, i5, i1, o24, o25, q25, o28]) (RunP.only (v := r29) rfl rfl (Q1.e (aM rfl rfl o29)) (by simp (decide := true) only [bQ, bO, qX, ev, Fr.putO, aI, reduceIte, Nat.reduceEqDiff, List.filter_cons, List.filter_nil, List.any_cons, List.any_nil, List.all_cons, List.all_nil, List.getElem_toArray, List.getElem_cons_succ, List.getElem_cons_zero, Option.map_some, Option.map_none, aP, bh, Bool.and_true, Bool.true_and, Bool.and_self, i0, i5, i1, o24, o25, q25, o28, o29]) (RunP.only (v := r30) rfl rfl (Q1.e (e9 rfl rfl rfl o30)) rfl (RunP.nil))))))))))
theorem Je : iZ K [1, 1, 0, 1, 0, 0, 1, 0, 0, 0, 1, 0, 0] s h .normal (W s 4 (.nu .i64 (-1))) h :=
 rg (Ra (v := (.nu .i64 (-1))) rfl rfl rfl (RunL.nil))
theorem Gh {v0 v5 r33 r34 v1 r37 r38 r39 : CV} (hp : K.plan 38 10 = some [.t 0,.t 1,.t 2,.t 3,.t 4,.o 5 [4, 3, 2, 1, 0],.o 6 [3, 2, 1, 0],.o 7 [3, 2, 1, 0],.o 8 []]) (i0 : s.at 0 = v0) (i5 : s.at 5 = v5) (i1 : s.at 1 = v1) (o33 : ak v0 v5 (ae K.P 45) = some r33) (o34 : ao h r33 (au K.P 3) = some r34) (q34 : ceq r34 r34 = true) (o37 : ak v1 v5 (ae K.P 45) = some r37) (o38 : ao h r37 (au K.P 3) = some r38) (o39 : ac K.P .gtr 3 r34 r38 = some r39) : iZ K [1, 1, 0, 1, 0, 0, 1, 0, 0, 1, 0] s h .normal (W (W8 s 31 v0 32 v5 33 r33 34 r34 35 v1 36 v5 37 r37 38 r38) 39 r39) h :=
 Runs.drawn hp (RunP.q (v := v0) rfl rfl (aY rfl i0) (RunP.q (v := v5) rfl rfl (aY rfl i5) (RunP.q (v := r33) rfl rfl (bV rfl rfl rfl o33) (RunP.q (v := r34) rfl rfl (aM rfl rfl o34) (RunP.q (v := v1) rfl rfl (aY rfl i1) (RunP.only (v := v5) rfl rfl (Q1.e (aY rfl i5)) (by simp (decide := true) only [bQ, bO, qX, ev, Fr.putO, aI, reduceIte, Nat.reduceEqDiff, List.filter_cons, List.filter_nil, List.any_cons, List.any_nil, List.all_cons, List.all_nil, List.getElem_toArray, List.getElem_cons_succ, List.getElem_cons_zero, Option.map_some, Option.map_none, aP, bh, Bool.and_true, Bool.true_and, Bool.and_self, i0, i5, i1, o33, o34, q34]) (RunP.only (v := r37) rfl rfl (Q1.e (bV rfl rfl rfl o37)) (by simp (decide := true) only [bQ, bO, qX, ev, Fr.putO, aI, reduceIte, Nat.reduceEqDiff, List.filter_cons, List.filter_nil, List.any_cons, List.any_nil, List.all_cons, List.all_nil, List.getElem_toArray, List.getElem_cons_succ, List.getElem_cons_zero, Option.map_some, Option.map_none, aP, bh, Bool.and_true, Bool.true_and, Bool.and_self, i0, i5, i1, o33, o34, q34, o37]) (RunP.only (v := r38) rfl rfl (Q1.e (aM rfl rfl o38)) (by simp (decide := true) only [bQ, bO, qX, ev, Fr.putO, aI, reduceIte, Nat.reduceEqDiff, List.filter_cons, List.filter_nil, List.any_cons, List.any_nil, List.all_cons, List.all_nil, List.getElem_toArray, List.getElem_cons_succ, List.getElem_cons_zero, Option.map_some, Option.map_none, aP, bh, Bool.and_true, Bool.true_and, Bool.and_self, i0, i5, i1, o33, o34, q34, o37, o38]) (RunP.only (v := r39) rfl rfl (Q1.e (e9 rfl rfl rfl o39)) rfl (RunP.nil))))))))))
theorem Gi : iZ K [1, 1, 0, 1, 0, 0, 1, 0, 0, 1, 1, 0, 0] s h .normal (W s 4 (.nu .i64 1)) h :=
 rg (Ra (v := (.nu .i64 1)) rfl rfl rfl (RunL.nil))
theorem Jf {v5 r21 : CV} (i5 : s.at 5 = v5) (o21 : ac K.P .add 3 v5 (.nu .i64 1) = some r21) : iZ K [1, 1, 0, 1, 0, 0, 1, 1] s h .normal (W (W (W s 20 v5) 21 r21) 5 r21) h :=
 rg (Rm rfl rfl i5 (Rb rfl rfl rfl rfl o21 (Ra (v := r21) rfl rfl rfl (RunL.nil))))
theorem Gj : iZ K [1, 1, 1, 0] s h .normal (W s 4 n0) h :=
 rg (Ra (v := n0) rfl rfl rfl (RunL.nil))
theorem qm : fq K [0] s h .normal (W s 2 n0) h :=
 rg (Ra (v := n0) rfl rfl rfl (RunL.nil))
theorem Av {v0 r7 : CV} {g1 : Hp} (i0 : s.at 0 = v0) (pg1 : K.prim 110 [v0] = none) (wg1 : Comes K 110 [v0] h r7 g1) : fq K [1, 0, 0] s h .normal (W (W (W s 6 v0) 7 r7) 3 r7) g1 :=
 rg (Rm rfl rfl i0 (RunL.call (v := r7) rfl rfl rfl rfl rfl pg1 wg1 (Ra (v := r7) rfl rfl rfl (RunL.nil))))
theorem Aw {v3 r9 : CV} (i3 : s.at 3 = v3) (o9 : ac K.P .neq 29 v3 n0 = some r9) : fq K [1, 0, 1, 0] s h .normal (W (W s 8 v3) 9 r9) h :=
 rg (Rm rfl rfl i3 (Rb rfl rfl rfl rfl o9 (RunL.nil)))
theorem Jg {v3 : CV} (i3 : s.at 3 = v3) : fq K [1, 0, 1, 1, 0, 0] s h .normal (W (W s 10 v3) 2 v3) h :=
 rg (Rm rfl rfl i3 (Ra (v := v3) rfl rfl rfl (RunL.nil)))
theorem Ay {v0 r12 r13 : CV} (i0 : s.at 0 = v0) (o12 : bC (some (.nu .i64 1)) none h v0 (ae K.P 46) = some r12) (o13 : aB h r12 (ae K.P 46) = some r13) : fq K [1, 1, 0, 0] s h .normal (W4 s 11 v0 12 r12 13 r13 14 n0) h :=
 rg (Rm rfl rfl i0 (R1 (v := r12) rfl (jz rfl rfl rfl rfl o12) (R1 (v := r13) rfl (aN rfl rfl rfl rfl rfl o13) (Rm (v := n0) rfl rfl rfl (RunL.nil)))))
theorem vi {v14 v13 r15 : CV} (i14 : s.at 14 = v14) (i13 : s.at 13 = v13) (o15 : ac K.P .lss 3 v14 v13 = some r15) : fq K [1, 1, 0, 1, 0, 0, 0] s h .normal (W s 15 r15) h :=
 rg (Rb rfl rfl i14 i13 o15 (RunL.nil))
theorem Az {v14 v12 r17 r18 : CV} (i14 : s.at 14 = v14) (i12 : s.at 12 = v12) (o17 : ak v12 v14 (ae K.P 46) = some r17) (o18 : ao h r17 (au K.P 3) = some r18) : fq K [1, 1, 0, 1, 0, 0, 1, 1, 0, 0, 0] s h .normal (W (W4 s 16 v14 17 r17 18 r18 4 v14) 5 r18) h :=
 rg (Rm rfl rfl i14 (R1 (v := r17) rfl (bV rfl i12 i14 o17) (R1 (v := r18) rfl (aM rfl rfl o18) (Ra (v := v14) rfl rfl rfl (Ra (v := r18) rfl rfl rfl (RunL.nil))))))
theorem AA {v5 v0 v4 r22 r23 r24 : CV} (i5 : s.at 5 = v5) (i0 : s.at 0 = v0) (i4 : s.at 4 = v4) (o22 : ak v0 v4 (ae K.P 46) = some r22) (o23 : ao h r22 (au K.P 3) = some r23) (o24 : ac K.P .leq 3 v5 r23 = some r24) : fq K [1, 1, 0, 1, 0, 0, 1, 1, 0, 0, 1, 0] s h .normal (W (W (W4 s 19 v5 20 v0 21 v4 22 r22) 23 r23) 24 r24) h :=
 rg (Rm rfl rfl i5 (Rm rfl rfl i0 (Rm rfl rfl i4 (R1 (v := r22) rfl (bV rfl rfl rfl o22) (R1 (v := r23) rfl (aM rfl rfl o23) (Rb rfl rfl rfl rfl o24 (RunL.nil)))))))
theorem Jh : fq K [1, 1, 0, 1, 0, 0, 1, 1, 0, 0, 1, 1, 0, 0] s h .normal (W s 2 (.nu .i64 6)) h :=
 rg (Ra (v := (.nu .i64 6)) rfl rfl rfl (RunL.nil))
theorem Ji {v14 r25 : CV} (i14 : s.at 14 = v14) (o25 : ac K.P .add 3 v14 (.nu .i64 1) = some r25) : fq K [1, 1, 0, 1, 0, 0, 1, 1, 1] s h .normal (W (W s 25 r25) 14 r25) h :=
 rg (Rb rfl rfl i14 rfl o25 (Rm (v := r25) rfl rfl rfl (RunL.nil)))
theorem Gk : fq K [1, 1, 1, 0] s h .normal (W s 2 n0) h :=
 rg (Ra (v := n0) rfl rfl rfl (RunL.nil))
theorem Jj : Fv K [0] s h .normal (W s 2 .nils) h :=
 rg (Ra (v := .nils) rfl rfl rfl (RunL.nil))
theorem Jk {v0 r4 : CV} (i0 : s.at 0 = v0) (o4 : ac K.P .eql 46 v0 .nils = some r4) : Fv K [1, 0, 0] s h .normal (W (W s 3 v0) 4 r4) h :=
 rg (Rm rfl rfl i0 (Rb rfl rfl rfl rfl o4 (RunL.nil)))
theorem Jl {v0 r7 : CV} {F5 : Nat → CV} {B5 : HB} {g1 : Hp} (i0 : s.at 0 = v0) (o5 : aC 0 [] (ae K.P 46) = some (F5, B5)) (wg1 : be (h.push B5) (F5 (h).n) v0 (ae K.P 46) (ae K.P 46) = some (r7, g1)) : Fv K [1, 1, 0] s h .normal (W4 s 5 (F5 (h).n) 6 v0 7 r7 2 r7) g1 :=
 rg (RunL.op (v := (F5 (h).n)) rfl (aT rfl rfl o5) (Rm rfl rfl i0 (RunL.op (v := r7) rfl (fa hk rfl rfl rfl rfl rfl rfl wg1) (Ra (v := r7) rfl rfl rfl (RunL.nil)))))
theorem Jm {F2 : Nat → CV} {B2 : HB} (o2 : dM 103 (cn K.P 103) = some (F2, B2)) : lx K [0] s h .normal (W s 2 (F2 (h).n)) (h.push B2) :=
 rg (RunL.op (v := (F2 (h).n)) rfl (lq rfl o2) (RunL.nil))
theorem Jn {v0 r6 : CV} (i0 : s.at 0 = v0) (o6 : aB h v0 (ae K.P 46) = some r6) : lx K [1, 0, 0] s h .normal (W (W (W s 5 v0) 6 r6) 7 n0) h :=
 rg (Rm rfl rfl i0 (R1 (v := r6) rfl (aN rfl rfl rfl rfl rfl o6) (Rm (v := n0) rfl rfl rfl (RunL.nil))))
theorem AB {v7 v6 r8 : CV} (i7 : s.at 7 = v7) (i6 : s.at 6 = v6) (o8 : ac K.P .lss 3 v7 v6 = some r8) : lx K [1, 0, 1, 0, 0, 0] s h .normal (W s 8 r8) h :=
 rg (Rb rfl rfl i7 i6 o8 (RunL.nil))
theorem Jo {v7 v5 r10 r11 : CV} (i7 : s.at 7 = v7) (i5 : s.at 5 = v5) (o10 : ak v5 v7 (ae K.P 46) = some r10) (o11 : ao h r10 (au K.P 3) = some r11) : lx K [1, 0, 1, 0, 0, 1, 1, 0, 0, 0] s h .normal (W (W4 s 9 v7 10 r10 11 r11 3 v7) 4 r11) h :=
 rg (Rm rfl rfl i7 (R1 (v := r10) rfl (bV rfl i5 i7 o10) (R1 (v := r11) rfl (aM rfl rfl o11) (Ra (v := v7) rfl rfl rfl (Ra (v := r11) rfl rfl rfl (RunL.nil))))))
theorem Jp {v3 v4 r14 v2 r15 : CV} {g1 : Hp} (i3 : s.at 3 = v3) (i4 : s.at 4 = v4) (i2 : s.at 2 = v2) (o14 : ac K.P .add 3 v4 (.nu .i64 1) = some r14) (o15 : ak v2 v3 (ae K.P 103) = some r15) (wg1 : bt h r15 r14 (au K.P 3) = some (.undef, g1)) : lx K [1, 0, 1, 0, 0, 1, 1, 0, 0, 1] s h .normal (W4 s 12 v3 13 v4 14 r14 15 r15) g1 :=
 rg (Rm rfl rfl i3 (Rm rfl rfl i4 (Rb rfl rfl rfl rfl o14 (R1 (v := r15) rfl (bV rfl i2 rfl o15) (RunL.op (v := .undef) rfl (eX rfl rfl rfl wg1) (RunL.nil))))))
theorem Jq {v7 r16 : CV} (i7 : s.at 7 = v7) (o16 : ac K.P .add 3 v7 (.nu .i64 1) = some r16) : lx K [1, 0, 1, 0, 0, 1, 1, 1] s h .normal (W (W s 16 r16) 7 r16) h :=
 rg (Rb rfl rfl i7 rfl o16 (Rm (v := r16) rfl rfl rfl (RunL.nil)))
theorem Jr {v2 r17 : CV} {g1 : Hp} (i2 : s.at 2 = v2) (o17 : ao h v2 (au K.P 103) = some r17) (wg1 : bt h v2 r17 (au K.P 103) = some (.undef, g1)) : lx K [1, 1, 0] s h .normal (W s 17 r17) g1 :=
 rg (R1 (v := r17) rfl (aM rfl i2 o17) (RunL.op (v := .undef) rfl (eX rfl i2 rfl wg1) (RunL.nil)))
theorem vj : fS K [0] s h .normal (W (W s 2 .nils) 3 n0) h :=
 rg (Ra (v := .nils) rfl rfl rfl (Ra (v := n0) rfl rfl rfl (RunL.nil)))
theorem vm {v0 r6 : CV} {g1 : Hp} (i0 : s.at 0 = v0) (pg1 : K.prim 66 [v0] = none) (wg1 : Comes K 66 [v0] h r6 g1) : fS K [1, 0, 0] s h .normal (W (W (W s 5 v0) 6 r6) 3 r6) g1 :=
 rg (Rm rfl rfl i0 (RunL.call (v := r6) rfl rfl rfl rfl rfl pg1 wg1 (Ra (v := r6) rfl rfl rfl (RunL.nil))))
theorem Dx {v3 r13 : CV} (i3 : s.at 3 = v3) (o8 : ac K.P .neq 29 v3 n0 = some tt) (o13 : az tt .skp tt = some r13) : fS K [1, 0, 1, 0] s h .normal (W (W (W (W4 s 7 v3 8 tt 9 tt 10 .skp) 11 .skp) 12 .skp) 13 r13) h :=
 rg (Rm rfl rfl i3 (Rb rfl rfl rfl rfl o8 (Rm (v := tt) rfl rfl rfl (RunL.pass rfl (RunL.pass rfl (RunL.pass rfl (R1 (v := r13) rfl (aL rfl rfl rfl rfl o13) (RunL.nil))))))))
theorem vn {v3 v0 r11 r12 r13 : CV} (i3 : s.at 3 = v3) (i0 : s.at 0 = v0) (o8 : ac K.P .neq 29 v3 n0 = some ff) (o11 : aB h v0 (ae K.P 46) = some r11) (o12 : ac K.P .eql 3 r11 (.nu .i64 1) = some r12) (o13 : az tt r12 ff = some r13) : fS K [1, 0, 1, 0] s h .normal (W (W (W (W4 s 7 v3 8 ff 9 ff 10 v0) 11 r11) 12 r12) 13 r13) h :=
 rg (Rm rfl rfl i3 (Rb rfl rfl rfl rfl o8 (Rm (v := ff) rfl rfl rfl (Rm rfl rfl i0 (R1 (v := r11) rfl (aN rfl rfl rfl rfl rfl o11) (Rb rfl rfl rfl rfl o12 (R1 (v := r13) rfl (aL rfl rfl rfl rfl o13) (RunL.nil))))))))
theorem AC {v3 : CV} (i3 : s.at 3 = v3) : fS K [1, 0, 1, 1, 0, 0] s h .normal (W (W (W s 14 v3) 2 .nils) 3 v3) h :=
 rg (Rm rfl rfl i3 (Ra (v := .nils) rfl rfl rfl (Ra (v := v3) rfl rfl rfl (RunL.nil))))
theorem Js {v0 r16 : CV} (i0 : s.at 0 = v0) (o16 : aB h v0 (ae K.P 46) = some r16) : fS K [1, 1, 0, 0] s h .normal (W (W (W s 15 v0) 16 r16) 17 n0) h :=
 rg (Rm rfl rfl i0 (R1 (v := r16) rfl (aN rfl rfl rfl rfl rfl o16) (Rm (v := n0) rfl rfl rfl (RunL.nil))))
theorem AD {v17 v16 r18 : CV} (i17 : s.at 17 = v17) (i16 : s.at 16 = v16) (o18 : ac K.P .lss 3 v17 v16 = some r18) : fS K [1, 1, 0, 1, 0, 0, 0] s h .normal (W s 18 r18) h :=
 rg (Rb rfl rfl i17 i16 o18 (RunL.nil))
theorem Jt {v17 : CV} (i17 : s.at 17 = v17) : fS K [1, 1, 0, 1, 0, 0, 1, 1, 0, 0, 0] s h .normal (W (W s 19 v17) 4 v17) h :=
 rg (Rm rfl rfl i17 (Ra (v := v17) rfl rfl rfl (RunL.nil)))
theorem Ju {v2 v0 v4 r23 r25 : CV} {F24 : Nat → CV} {B24 : HB} {g1 g2 : Hp} (i2 : s.at 2 = v2) (i0 : s.at 0 = v0) (i4 : s.at 4 = v4) (pg1 : K.prim 117 [v0, v4] = none) (wg1 : Comes K 117 [v0, v4] h r23 g1) (o24 : aC 1 [(0, r23)] (ae K.P 22) = some (F24, B24)) (wg2 : be (g1.push B24) v2 (F24 (g1).n) (ae K.P 22) (ae K.P 22) = some (r25, g2)) : fS K [1, 1, 0, 1, 0, 0, 1, 1, 0, 0, 1] s h .normal (W (W (W (W4 s 20 v2 21 v0 22 v4 23 r23) 24 (F24 (g1).n)) 25 r25) 2 r25) g2 :=
 rg (Rm rfl rfl i2 (Rm rfl rfl i0 (Rm rfl rfl i4 (RunL.call (v := r23) rfl rfl rfl rfl rfl pg1 wg1 (RunL.op (v := (F24 (g1).n)) rfl (aT rfl rfl o24) (RunL.op (v := r25) rfl (fa hk rfl rfl rfl rfl rfl rfl wg2) (Ra (v := r25) rfl rfl rfl (RunL.nil))))))))
theorem Jv {v17 r26 : CV} (i17 : s.at 17 = v17) (o26 : ac K.P .add 3 v17 (.nu .i64 1) = some r26) : fS K [1, 1, 0, 1, 0, 0, 1, 1, 1] s h .normal (W (W s 26 r26) 17 r26) h :=
 rg (Rb rfl rfl i17 rfl o26 (Rm (v := r26) rfl rfl rfl (RunL.nil)))
theorem Jw {v2 : CV} (i2 : s.at 2 = v2) : fS K [1, 1, 1, 0] s h .normal (W (W (W s 27 v2) 2 v2) 3 n0) h :=
 rg (Rm rfl rfl i2 (Ra (v := v2) rfl rfl rfl (Ra (v := n0) rfl rfl rfl (RunL.nil))))
theorem AE : vd K [0] s h .normal (W s 4 n0) h :=
 rg (Ra (v := n0) rfl rfl rfl (RunL.nil))
theorem AF {v0 r7 v1 r9 r10 : CV} {g1 : Hp} (i0 : s.at 0 = v0) (i1 : s.at 1 = v1) (o7 : aB h v0 (ae K.P 46) = some r7) (o9 : aB h v1 (ae K.P 46) = some r9) (pg1 : K.prim 118 [r7, r9] = none) (wg1 : Comes K 118 [r7, r9] h r10 g1) : vd K [1, 0, 0] s h .normal (W (W (W4 s 6 v0 7 r7 8 v1 9 r9) 10 r10) 5 r10) g1 :=
 rg (Rm rfl rfl i0 (R1 (v := r7) rfl (aN rfl rfl rfl rfl rfl o7) (Rm rfl rfl i1 (R1 (v := r9) rfl (aN rfl rfl rfl rfl rfl o9) (RunL.call (v := r10) rfl rfl rfl rfl rfl pg1 wg1 (Ra (v := r10) rfl rfl rfl (RunL.nil)))))))
theorem AG {v5 r12 : CV} (i5 : s.at 5 = v5) (o12 : ac K.P .neq 3 v5 n0 = some r12) : vd K [1, 0, 1, 0] s h .normal (W (W s 11 v5) 12 r12) h :=
 rg (Rm rfl rfl i5 (Rb rfl rfl rfl rfl o12 (RunL.nil)))
theorem Jx {v5 : CV} (i5 : s.at 5 = v5) : vd K [1, 0, 1, 1, 0, 0] s h .normal (W (W s 13 v5) 4 v5) h :=
 rg (Rm rfl rfl i5 (Ra (v := v5) rfl rfl rfl (RunL.nil)))
theorem Jy {v0 v1 r16 : CV} {g1 : Hp} (i0 : s.at 0 = v0) (i1 : s.at 1 = v1) (pg1 : K.prim 119 [v0, v1] = none) (wg1 : Comes K 119 [v0, v1] h r16 g1) : vd K [1, 1, 0] s h .normal (W4 s 14 v0 15 v1 16 r16 4 r16) g1 :=
 rg (Rm rfl rfl i0 (Rm rfl rfl i1 (RunL.call (v := r16) rfl rfl rfl rfl rfl pg1 wg1 (Ra (v := r16) rfl rfl rfl (RunL.nil)))))
theorem vo {v1 : CV} {F4 : Nat → CV} {B4 : HB} (i1 : s.at 1 = v1) (o4 : cK 46 v1 (au K.P 46) = some (F4, B4)) : oZ K [0] s h .normal (W (W (W s 4 (F4 (h).n)) 6 .nils) 7 n0) (h.push B4) :=
 rg (RunL.op (v := (F4 (h).n)) rfl (ij rfl i1 o4) (Ra (v := .nils) rfl rfl rfl (Ra (v := n0) rfl rfl rfl (RunL.nil))))
theorem vp {v0 v2 r13 r14 r15 : CV} {g1 : Hp} (i0 : s.at 0 = v0) (i2 : s.at 2 = v2) (pg1 : K.prim 81 [v0, v2] = none) (wg1 : Comes K 81 [v0, v2] h r13 g1) (o14 : ar 0 r13 = some r14) (o15 : ar 1 r13 = some r15) : oZ K [1, 0] s h .normal (W8 s 11 v0 12 v2 13 r13 10 r13 14 r14 15 r15 8 r14 9 r15) g1 :=
 rg (Rm rfl rfl i0 (Rm rfl rfl i2 (RunL.call (v := r13) rfl rfl rfl rfl rfl pg1 wg1 (Rm (v := r13) rfl rfl rfl (R1 (v := r14) rfl (aK rfl rfl o14) (R1 (v := r15) rfl (aK rfl rfl o15) (Ra (v := r14) rfl rfl rfl (Ra (v := r15) rfl rfl rfl (RunL.nil)))))))))
theorem vq {v9 r17 : CV} (i9 : s.at 9 = v9) (o17 : ac K.P .neq 29 v9 n0 = some r17) : oZ K [1, 1, 0, 0] s h .normal (W (W s 16 v9) 17 r17) h :=
 rg (Rm rfl rfl i9 (Rb rfl rfl rfl rfl o17 (RunL.nil)))
theorem Jz {v9 : CV} (i9 : s.at 9 = v9) : oZ K [1, 1, 0, 1, 0, 0] s h .normal (W (W (W s 18 v9) 6 .nils) 7 v9) h :=
 rg (Rm rfl rfl i9 (Ra (v := .nils) rfl rfl rfl (Ra (v := v9) rfl rfl rfl (RunL.nil))))
theorem AH {v0 v4 r21 r22 : CV} {g1 : Hp} (i0 : s.at 0 = v0) (i4 : s.at 4 = v4) (pg1 : K.prim 78 [v0, (.fn 120 [v4])] = none) (wg1 : Comes K 78 [v0, (.fn 120 [v4])] h r21 g1) (o22 : ec .not r21 = some r22) : oZ K [1, 1, 1, 0, 0] s h .normal (W4 s 19 v0 20 (.fn 120 [v4]) 21 r21 22 r22) g1 :=
 rg (Rm rfl rfl i0 (R1 (v := (.fn 120 [v4])) rfl (jS rfl (by simp only [ev, Fr.putO, aI, reduceIte, Nat.reduceEqDiff, List.toList_toArray, List.map_cons, List.map_nil, Option.map_some, Option.map_none, i4]; try rfl)) (RunL.call (v := r21) rfl rfl rfl rfl rfl pg1 wg1 (R1 (v := r22) rfl (jR rfl rfl o22) (RunL.nil)))))
theorem JA : oZ K [1, 1, 1, 0, 1, 0, 0] s h .normal (W (W s 6 .nils) 7 (.nu .i64 4)) h :=
 rg (Ra (v := .nils) rfl rfl rfl (Ra (v := (.nu .i64 4)) rfl rfl rfl (RunL.nil)))
theorem JB {v8 : CV} (i8 : s.at 8 = v8) : oZ K [1, 1, 1, 1, 0] s h .normal (W (W (W s 23 v8) 6 v8) 7 n0) h :=
 rg (Rm rfl rfl i8 (Ra (v := v8) rfl rfl rfl (Ra (v := n0) rfl rfl rfl (RunL.nil))))
theorem AI : xG K [0] s h .normal (W s 4 ff) h :=
 rg (Ra (v := ff) rfl rfl rfl (RunL.nil))
theorem AJ {v1 r8 v0 r10 r11 r12 : CV} {F5 : Nat → CV} {B5 : HB} {g1 g3 : Hp} (i1 : s.at 1 = v1) (i0 : s.at 0 = v0) (o8 : ao h v1 (au K.P 46) = some r8) (pg1 : K.prim 77 [r8, v0] = none) (wg1 : Comes K 77 [r8, v0] h r10 g1) (o11 : ar 0 r10 = some r11) (o12 : ar 1 r10 = some r12) (o5 : dM 46 (cn K.P 46) = some (F5, B5)) (wg3 : bt (g1.push B5) (F5 (g1).n) r11 (au K.P 46) = some (.undef, g3)) : xG K [1, 0] s h .normal (W8 s 8 r8 9 v0 10 r10 7 r10 11 r11 12 r12 5 (F5 (g1).n) 6 r12) g3 :=
 rg (R1 (v := r8) rfl (aM rfl i1 o8) (Rm rfl rfl i0 (RunL.call (v := r10) rfl rfl rfl rfl rfl pg1 wg1 (Rm (v := r10) rfl rfl rfl (R1 (v := r11) rfl (aK rfl rfl o11) (R1 (v := r12) rfl (aK rfl rfl o12) (RunL.op (v := (F5 (g1).n)) rfl (lq rfl o5) (RunL.op (v := .undef) rfl (eX rfl rfl rfl wg3) (Ra (v := r12) rfl rfl rfl (RunL.nil))))))))))
theorem Dy {v6 v2 r16 v5 r18 r19 : CV} {g1 : Hp} (i6 : s.at 6 = v6) (i2 : s.at 2 = v2) (i5 : s.at 5 = v5) (o14 : ac K.P .eql 29 v6 n0 = some tt) (o16 : ao h v2 (au K.P 22) = some r16) (pg1 : K.prim 78 [r16, (.fn 79 [v5])] = none) (wg1 : Comes K 78 [r16, (.fn 79 [v5])] h r18 g1) (o19 : az r18 ff tt = some r19) : xG K [1, 1, 0] s h .normal (W8 s 13 v6 14 tt 15 tt 16 r16 17 (.fn 79 [v5]) 18 r18 19 r19 4 r19) g1 :=
 rg (Rm rfl rfl i6 (Rb rfl rfl rfl rfl o14 (Rm (v := tt) rfl rfl rfl (R1 (v := r16) rfl (aM rfl i2 o16) (R1 (v := (.fn 79 [v5])) rfl (jS rfl (by simp only [ev, Fr.putO, aI, reduceIte, Nat.reduceEqDiff, List.toList_toArray, List.map_cons, List.map_nil, Option.map_some, Option.map_none, i5]; try rfl)) (RunL.call (v := r18) rfl rfl rfl rfl rfl pg1 wg1 (R1 (v := r19) rfl (aL rfl rfl rfl rfl o19) (Ra (v := r19) rfl rfl rfl (RunL.nil)))))))))
theorem Dz {v6 r19 : CV} (i6 : s.at 6 = v6) (o14 : ac K.P .eql 29 v6 n0 = some ff) (o19 : az .skp ff ff = some r19) : xG K [1, 1, 0] s h .normal (W8 s 13 v6 14 ff 15 ff 16 .skp 17 .skp 18 .skp 19 r19 4 r19) h :=
 rg (Rm rfl rfl i6 (Rb rfl rfl rfl rfl o14 (Rm (v := ff) rfl rfl rfl (RunL.pass rfl (RunL.pass rfl (RunL.pass rfl (R1 (v := r19) rfl (aL rfl rfl rfl rfl o19) (Ra (v := r19) rfl rfl rfl (RunL.nil)))))))))
theorem qn : iI K [0] s h .normal (W (W s 4 .nils) 5 n0) h :=
 rg (Ra (v := .nils) rfl rfl rfl (Ra (v := n0) rfl rfl rfl (RunL.nil)))
theorem qo {v0 r10 : CV} {g1 : Hp} (i0 : s.at 0 = v0) (pg1 : K.prim 66 [v0] = none) (wg1 : Comes K 66 [v0] h r10 g1) : iI K [1, 0, 0] s h .normal (W (W (W s 9 v0) 10 r10) 6 r10) g1 :=
 rg (Rm rfl rfl i0 (RunL.call (v := r10) rfl rfl rfl rfl rfl pg1 wg1 (Ra (v := r10) rfl rfl rfl (RunL.nil))))
theorem qp {v6 r12 : CV} (i6 : s.at 6 = v6) (o12 : ac K.P .neq 29 v6 n0 = some r12) : iI K [1, 0, 1, 0] s h .normal (W (W s 11 v6) 12 r12) h :=
 rg (Rm rfl rfl i6 (Rb rfl rfl rfl rfl o12 (RunL.nil)))
theorem JC {v6 : CV} (i6 : s.at 6 = v6) : iI K [1, 0, 1, 1, 0, 0] s h .normal (W (W (W s 13 v6) 4 .nils) 5 v6) h :=
 rg (Rm rfl rfl i6 (Ra (v := .nils) rfl rfl rfl (Ra (v := v6) rfl rfl rfl (RunL.nil))))
theorem vt {v1 r15 : CV} {g1 : Hp} (i1 : s.at 1 = v1) (pg1 : K.prim 66 [v1] = none) (wg1 : Comes K 66 [v1] h r15 g1) : iI K [1, 1, 0, 0] s h .normal (W (W (W s 14 v1) 15 r15) 7 r15) g1 :=
 rg (Rm rfl rfl i1 (RunL.call (v := r15) rfl rfl rfl rfl rfl pg1 wg1 (Ra (v := r15) rfl rfl rfl (RunL.nil))))
theorem vu {v7 r17 : CV} (i7 : s.at 7 = v7) (o17 : ac K.P .neq 29 v7 n0 = some r17) : iI K [1, 1, 0, 1, 0] s h .normal (W (W s 16 v7) 17 r17) h :=
 rg (Rm rfl rfl i7 (Rb rfl rfl rfl rfl o17 (RunL.nil)))
theorem vw {v0 v1 r21 r22 r23 : CV} {g1 : Hp} (i0 : s.at 0 = v0) (i1 : s.at 1 = v1) (pg1 : K.prim 121 [v0, v1] = none) (wg1 : Comes K 121 [v0, v1] h r21 g1) (o22 : aB g1 r21 (ae K.P 46) = some r22) (o23 : ac K.P .gtr 3 r22 n0 = some r23) : iI K [1, 1, 1, 0, 0] s h .normal (W (W4 s 19 v0 20 v1 21 r21 22 r22) 23 r23) g1 :=
 rg (Rm rfl rfl i0 (Rm rfl rfl i1 (RunL.call (v := r21) rfl rfl rfl rfl rfl pg1 wg1 (R1 (v := r22) rfl (aN rfl rfl rfl rfl rfl o22) (Rb rfl rfl rfl rfl o23 (RunL.nil))))))
theorem JD : iI K [1, 1, 1, 0, 1, 0, 0] s h .normal (W (W s 4 .nils) 5 (.nu .i64 5)) h :=
 rg (Ra (v := .nils) rfl rfl rfl (Ra (v := (.nu .i64 5)) rfl rfl rfl (RunL.nil)))
theorem AK {v0 r25 v1 r27 r28 r29 : CV} (i0 : s.at 0 = v0) (i1 : s.at 1 = v1) (o25 : aB h v0 (ae K.P 46) = some r25) (o27 : aB h v1 (ae K.P 46) = some r27) (o28 : ac K.P .add 3 r25 r27 = some r28) (o29 : ac K.P .gtr 3 r28 (.nu .i64 5) = some r29) : iI K [1, 1, 1, 1, 0, 0] s h .normal (W (W (W4 s 24 v0 25 r25 26 v1 27 r27) 28 r28) 29 r29) h :=
 rg (Rm rfl rfl i0 (R1 (v := r25) rfl (aN rfl rfl rfl rfl rfl o25) (Rm rfl rfl i1 (R1 (v := r27) rfl (aN rfl rfl rfl rfl rfl o27) (Rb rfl rfl rfl rfl o28 (Rb rfl rfl rfl rfl o29 (RunL.nil)))))))
theorem Gl : iI K [1, 1, 1, 1, 0, 1, 0, 0] s h .normal (W (W s 4 .nils) 5 (.nu .i64 3)) h :=
 rg (Ra (v := .nils) rfl rfl rfl (Ra (v := (.nu .i64 3)) rfl rfl rfl (RunL.nil)))
theorem Gm {v0 v1 r33 : CV} {F32 : Nat → CV} {B32 : HB} {g1 : Hp} (i0 : s.at 0 = v0) (i1 : s.at 1 = v1) (o32 : aC 2 [(0, v0), (1, v1)] (ae K.P 22) = some (F32, B32)) (pg1 : K.prim 122 [(F32 (h).n)] = none) (wg1 : Comes K 122 [(F32 (h).n)] (h.push B32) r33 g1) : iI K [1, 1, 1, 1, 1, 0] s h .normal (W (W4 s 30 v0 31 v1 32 (F32 (h).n) 33 r33) 8 r33) g1 :=
 rg (Rm rfl rfl i0 (Rm rfl rfl i1 (RunL.op (v := (F32 (h).n)) rfl (aT rfl rfl o32) (RunL.call (v := r33) rfl rfl rfl rfl rfl pg1 wg1 (Ra (v := r33) rfl rfl rfl (RunL.nil))))))
theorem Gn {v8 r35 : CV} {g1 : Hp} (i8 : s.at 8 = v8) (pg1 : K.prim 123 [v8] = none) (wg1 : Comes K 123 [v8] h r35 g1) : iI K [1, 1, 1, 1, 1, 1, 0] s h .normal (W (W s 34 v8) 35 r35) g1 :=
 rg (Rm rfl rfl i8 (RunL.call (v := r35) rfl rfl rfl rfl rfl pg1 wg1 (RunL.nil)))
theorem Gp {v8 : CV} (i8 : s.at 8 = v8) : iI K [1, 1, 1, 1, 1, 1, 1, 0] s h .normal (W (W (W s 36 v8) 4 v8) 5 n0) h :=
 rg (Rm rfl rfl i8 (Ra (v := v8) rfl rfl rfl (Ra (v := n0) rfl rfl rfl (RunL.nil))))
theorem JE : I3 K [0] s h .normal (W s 4 ff) h :=
 rg (Ra (v := ff) rfl rfl rfl (RunL.nil))
theorem JF {v0 v1 r7 r8 : CV} {g1 : Hp} (i0 : s.at 0 = v0) (i1 : s.at 1 = v1) (pg1 : K.prim 124 [v0, v1] = none) (wg1 : Comes K 124 [v0, v1] h r7 g1) (o8 : ac K.P .geq 3 r7 n0 = some r8) : I3 K [1, 0] s h .normal (W (W4 s 5 v0 6 v1 7 r7 8 r8) 4 r8) g1 :=
 rg (Rm rfl rfl i0 (Rm rfl rfl i1 (RunL.call (v := r7) rfl rfl rfl rfl rfl pg1 wg1 (Rb rfl rfl rfl rfl o8 (Ra (v := r8) rfl rfl rfl (RunL.nil))))))
theorem JG : I4 K [0] s h .normal (W s 3 ff) h :=
 rg (Ra (v := ff) rfl rfl rfl (RunL.nil))
theorem JH {v1 r4 v0 r6 : CV} {g1 : Hp} (i1 : s.at 1 = v1) (i0 : s.at 0 = v0) (o4 : ao h v1 (au K.P 46) = some r4) (pg1 : K.prim 80 [r4, v0] = none) (wg1 : Comes K 80 [r4, v0] h r6 g1) : I4 K [1, 0] s h .normal (W4 s 4 r4 5 v0 6 r6 3 r6) g1 :=
 rg (R1 (v := r4) rfl (aM rfl i1 o4) (Rm rfl rfl i0 (RunL.call (v := r6) rfl rfl rfl rfl rfl pg1 wg1 (Ra (v := r6) rfl rfl rfl (RunL.nil)))))
theorem vz : gC K [0] s h .normal (W s 4 ff) h :=
 rg (Ra (v := ff) rfl rfl rfl (RunL.nil))
theorem AM {v0 r7 v1 r9 r10 : CV} (i0 : s.at 0 = v0) (i1 : s.at 1 = v1) (o7 : aB h v0 (ae K.P 46) = some r7) (o9 : aB h v1 (ae K.P 46) = some r9) (o10 : ac K.P .neq 3 r7 r9 = some r10) : gC K [1, 0, 0] s h .normal (W (W4 s 6 v0 7 r7 8 v1 9 r9) 10 r10) h :=
 rg (Rm rfl rfl i0 (R1 (v := r7) rfl (aN rfl rfl rfl rfl rfl o7) (Rm rfl rfl i1 (R1 (v := r9) rfl (aN rfl rfl rfl rfl rfl o9) (Rb rfl rfl rfl rfl o10 (RunL.nil))))))
theorem JI : gC K [1, 0, 1, 0, 0] s h .normal (W s 4 ff) h :=
 rg (Ra (v := ff) rfl rfl rfl (RunL.nil))
theorem JJ {v0 r12 : CV} (i0 : s.at 0 = v0) (o12 : aB h v0 (ae K.P 46) = some r12) : gC K [1, 1, 0, 0] s h .normal (W (W (W s 11 v0) 12 r12) 13 n0) h :=
 rg (Rm rfl rfl i0 (R1 (v := r12) rfl (aN rfl rfl rfl rfl rfl o12) (Rm (v := n0) rfl rfl rfl (RunL.nil))))
theorem vA {v13 v12 r14 : CV} (i13 : s.at 13 = v13) (i12 : s.at 12 = v12) (o14 : ac K.P .lss 3 v13 v12 = some r14) : gC K [1, 1, 0, 1, 0, 0, 0] s h .normal (W s 14 r14) h :=
 rg (Rb rfl rfl i13 i12 o14 (RunL.nil))
theorem AN {v13 : CV} (i13 : s.at 13 = v13) : gC K [1, 1, 0, 1, 0, 0, 1, 1, 0, 0, 0] s h .normal (W (W s 15 v13) 5 v13) h :=
 rg (Rm rfl rfl i13 (Ra (v := v13) rfl rfl rfl (RunL.nil)))
theorem AO {v0 v5 r18 r19 v1 r22 r23 r24 : CV} (hp : K.plan 80 6 = some [.t 0,.t 1,.t 2,.t 3,.t 4,.o 5 [4, 3, 2, 1, 0],.o 6 [3, 2, 1, 0],.o 7 [3, 2, 1, 0],.o 8 []]) (i0 : s.at 0 = v0) (i5 : s.at 5 = v5) (i1 : s.at 1 = v1) (o18 : ak v0 v5 (ae K.P 46) = some r18) (o19 : ao h r18 (au K.P 3) = some r19) (q19 : ceq r19 r19 = true) (o22 : ak v1 v5 (ae K.P 46) = some r22) (o23 : ao h r22 (au K.P 3) = some r23) (o24 : ac K.P .neq 3 r19 r23 = some r24) : gC K [1, 1, 0, 1, 0, 0, 1, 1, 0, 0, 1, 0] s h .normal (W (W8 s 16 v0 17 v5 18 r18 19 r19 20 v1 21 v5 22 r22 23 r23) 24 r24) h :=
 Runs.drawn hp (RunP.q (v := v0) rfl rfl (aY rfl i0) (RunP.q (v := v5) rfl rfl (aY rfl i5) (RunP.q (v := r18) rfl rfl (bV rfl rfl rfl o18) (RunP.q (v := r19) rfl rfl (aM rfl rfl o19) (RunP.q (v := v1) rfl rfl (aY rfl i1) (RunP.only (v := v5) rfl rfl (Q1.e (aY rfl i5)) (by simp (decide := true) only [bQ, bO, qX, ev, Fr.putO, aI, reduceIte, Nat.reduceEqDiff, List.filter_cons, List.filter_nil, List.any_cons, List.any_nil, List.all_cons, List.all_nil, List.getElem_toArray, List.getElem_cons_succ, List.getElem_cons_zero, Option.map_some, Option.map_none, aP, bh, Bool.and_true, Bool.true_and, Bool.and_self, i0, i5, i1, o18, o19, q19]) (RunP.only (v := r22) rfl rfl (Q1.e (bV rfl rfl rfl o22)) (by simp (decide := true) only [bQ, bO, qX, ev, Fr.putO, aI, reduceIte, Nat.reduceEqDiff, List.filter_cons, List.filter_nil, List.any_cons, List.any_nil, List.all_cons, List.all_nil, List.getElem_toArray, List.getElem_cons_succ, List.getElem_cons_zero, Option.map_some, Option.map_none, aP, bh, Bool.and_true, Bool.true_and, Bool.and_self, i0, i5, i1, o18, o19, q19, o22]) (RunP.only (v := r23) rfl rfl (Q1.e (aM rfl rfl o23)) (by simp (decide := true) only [bQ, bO, qX, ev, Fr.putO, aI, reduceIte, Nat.reduceEqDiff, List.filter_cons, List.filter_nil, List.any_cons, List.any_nil, List.all_cons, List.all_nil, List.getElem_toArray, List.getElem_cons_succ, List.getElem_cons_zero, Option.map_some, Option.map_none, aP, bh, Bool.and_true, Bool.true_and, Bool.and_self, i0, i5, i1, o18, o19, q19, o22, o23]) (RunP.only (v := r24) rfl rfl (Q1.e (e9 rfl rfl rfl o24)) rfl (RunP.nil))))))))))
theorem JK : gC K [1, 1, 0, 1, 0, 0, 1, 1, 0, 0, 1, 1, 0, 0] s h .normal (W s 4 ff) h :=
 rg (Ra (v := ff) rfl rfl rfl (RunL.nil))
theorem JL {v13 r25 : CV} (i13 : s.at 13 = v13) (o25 : ac K.P .add 3 v13 (.nu .i64 1) = some r25) : gC K [1, 1, 0, 1, 0, 0, 1, 1, 1] s h .normal (W (W s 25 r25) 13 r25) h :=
 rg (Rb rfl rfl i13 rfl o25 (Rm (v := r25) rfl rfl rfl (RunL.nil)))
theorem JM : gC K [1, 1, 1, 0] s h .normal (W s 4 tt) h :=
 rg (Ra (v := tt) rfl rfl rfl (RunL.nil))
theorem AP : fM K [0] s h .normal (W (W s 4 .nils) 5 n0) h :=
 rg (Ra (v := .nils) rfl rfl rfl (Ra (v := n0) rfl rfl rfl (RunL.nil)))
theorem AQ {v0 r9 : CV} {g1 : Hp} (i0 : s.at 0 = v0) (pg1 : K.prim 26 [v0] = none) (wg1 : Comes K 26 [v0] h r9 g1) : fM K [1, 0, 0] s h .normal (W (W (W s 8 v0) 9 r9) 5 r9) g1 :=
 rg (Rm rfl rfl i0 (RunL.call (v := r9) rfl rfl rfl rfl rfl pg1 wg1 (Ra (v := r9) rfl rfl rfl (RunL.nil))))
theorem AR {v5 r11 : CV} (i5 : s.at 5 = v5) (o11 : ac K.P .neq 29 v5 n0 = some r11) : fM K [1, 0, 1, 0] s h .normal (W (W s 10 v5) 11 r11) h :=
 rg (Rm rfl rfl i5 (Rb rfl rfl rfl rfl o11 (RunL.nil)))
theorem JN {v5 : CV} (i5 : s.at 5 = v5) : fM K [1, 0, 1, 1, 0, 0] s h .normal (W (W (W s 12 v5) 4 .nils) 5 v5) h :=
 rg (Rm rfl rfl i5 (Ra (v := .nils) rfl rfl rfl (Ra (v := v5) rfl rfl rfl (RunL.nil))))
theorem JO {v0 r14 : CV} (i0 : s.at 0 = v0) (o14 : aB h v0 (ae K.P 22) = some r14) : fM K [1, 1, 0, 0] s h .normal (W (W (W s 13 v0) 14 r14) 15 n0) h :=
 rg (Rm rfl rfl i0 (R1 (v := r14) rfl (aN rfl rfl rfl rfl rfl o14) (Rm (v := n0) rfl rfl rfl (RunL.nil))))
theorem vB {v15 v14 r16 : CV} (i15 : s.at 15 = v15) (i14 : s.at 14 = v14) (o16 : ac K.P .lss 3 v15 v14 = some r16) : fM K [1, 1, 0, 1, 0, 0, 0] s h .normal (W s 16 r16) h :=
 rg (Rb rfl rfl i15 i14 o16 (RunL.nil))
theorem AS {v13 v15 r17 r18 : CV} (i13 : s.at 13 = v13) (i15 : s.at 15 = v15) (o17 : ak v13 v15 (ae K.P 22) = some r17) (o18 : ao h r17 (au K.P 46) = some r18) : fM K [1, 1, 0, 1, 0, 0, 1, 1, 0, 0, 0] s h .normal (W (W (W s 17 r17) 18 r18) 7 r18) h :=
 rg (R1 (v := r17) rfl (bV rfl i13 i15 o17) (R1 (v := r18) rfl (aM rfl rfl o18) (Ra (v := r18) rfl rfl rfl (RunL.nil))))
theorem AT {v1 v7 r21 : CV} {g1 : Hp} {G21 : FuncId} {C21 : List CV} (i1 : s.at 1 = v1) (i7 : s.at 7 = v7) (e21 : (v1 : CV) = .fn G21 C21) (pg1 : K.prim G21 ([v7] ++ C21) = none) (wg1 : Comes K G21 ([v7] ++ C21) h r21 g1) : fM K [1, 1, 0, 1, 0, 0, 1, 1, 0, 0, 1, 0] s h .normal (W (W (W s 19 v1) 20 v7) 21 r21) g1 :=
 rg (Rm rfl rfl i1 (Rm rfl rfl i7 (RunL.call (v := r21) rfl rfl rfl e21 rfl pg1 wg1 (RunL.nil))))
theorem JP {v4 v7 r24 r26 : CV} {F25 : Nat → CV} {B25 : HB} {g1 g2 : Hp} (i4 : s.at 4 = v4) (i7 : s.at 7 = v7) (pg1 : K.prim 69 [v7] = none) (wg1 : Comes K 69 [v7] h r24 g1) (o25 : aC 1 [(0, r24)] (ae K.P 22) = some (F25, B25)) (wg2 : be (g1.push B25) v4 (F25 (g1).n) (ae K.P 22) (ae K.P 22) = some (r26, g2)) : fM K [1, 1, 0, 1, 0, 0, 1, 1, 0, 0, 1, 1, 0] s h .normal (W (W (W4 s 22 v4 23 v7 24 r24 25 (F25 (g1).n)) 26 r26) 4 r26) g2 :=
 rg (Rm rfl rfl i4 (Rm rfl rfl i7 (RunL.call (v := r24) rfl rfl rfl rfl rfl pg1 wg1 (RunL.op (v := (F25 (g1).n)) rfl (aT rfl rfl o25) (RunL.op (v := r26) rfl (fa hk rfl rfl rfl rfl rfl rfl wg2) (Ra (v := r26) rfl rfl rfl (RunL.nil)))))))
theorem AU {v15 r27 : CV} (i15 : s.at 15 = v15) (o27 : ac K.P .add 3 v15 (.nu .i64 1) = some r27) : fM K [1, 1, 0, 1, 0, 0, 1, 1, 1] s h .normal (W (W s 27 r27) 15 r27) h :=
 rg (Rb rfl rfl i15 rfl o27 (Rm (v := r27) rfl rfl rfl (RunL.nil)))
theorem Gq {v4 : CV} (i4 : s.at 4 = v4) : fM K [1, 1, 1, 0] s h .normal (W (W (W s 28 v4) 4 v4) 5 n0) h :=
 rg (Rm rfl rfl i4 (Ra (v := v4) rfl rfl rfl (Ra (v := n0) rfl rfl rfl (RunL.nil))))
theorem oB : iT K [0] s h .normal (W s 2 n0) h :=
 rg (Ra (v := n0) rfl rfl rfl (RunL.nil))
theorem oC {v0 r5 r6 : CV} (i0 : s.at 0 = v0) (o5 : aB h v0 (ae K.P 45) = some r5) (o6 : ac K.P .eql 3 r5 n0 = some r6) : iT K [1, 0, 0, 0] s h .normal (W4 s 4 v0 5 r5 6 r6 3 r6) h :=
 rg (Rm rfl rfl i0 (R1 (v := r5) rfl (aN rfl rfl rfl rfl rfl o5) (Rb rfl rfl rfl rfl o6 (Ra (v := r6) rfl rfl rfl (RunL.nil)))))
theorem Gr : iT K [1, 0, 0, 1, 0, 0] s h .normal (W s 2 (.nu .i64 1)) h :=
 rg (Ra (v := (.nu .i64 1)) rfl rfl rfl (RunL.nil))
theorem ri {v0 r9 r10 : CV} (i0 : s.at 0 = v0) (o9 : aB h v0 (ae K.P 45) = some r9) (o10 : ac K.P .gtr 3 r9 (.nu .i64 5) = some r10) : iT K [1, 0, 0, 1, 1, 0] s h .normal (W4 s 8 v0 9 r9 10 r10 7 r10) h :=
 rg (Rm rfl rfl i0 (R1 (v := r9) rfl (aN rfl rfl rfl rfl rfl o9) (Rb rfl rfl rfl rfl o10 (Ra (v := r10) rfl rfl rfl (RunL.nil)))))
theorem Gs : iT K [1, 0, 0, 1, 1, 1, 0, 0] s h .normal (W s 2 (.nu .i64 3)) h :=
 rg (Ra (v := (.nu .i64 3)) rfl rfl rfl (RunL.nil))
theorem xN {v0 r13 : CV} {g1 : Hp} (i0 : s.at 0 = v0) (pg1 : K.prim 138 [v0, (.fn 139 [])] = none) (wg1 : Comes K 138 [v0, (.fn 139 [])] h r13 g1) : iT K [1, 0, 0, 1, 1, 1, 1, 0] s h .normal (W (W (W s 12 v0) 13 r13) 11 r13) g1 :=
 rg (Rm rfl rfl i0 (RunL.call (v := r13) rfl rfl rfl rfl rfl pg1 wg1 (Ra (v := r13) rfl rfl rfl (RunL.nil))))
theorem Gt : iT K [1, 0, 0, 1, 1, 1, 1, 1, 0, 0] s h .normal (W s 2 (.nu .i64 1)) h :=
 rg (Ra (v := (.nu .i64 1)) rfl rfl rfl (RunL.nil))
theorem Gu : iT K [1, 1, 0] s h .normal (W s 2 n0) h :=
 rg (Ra (v := n0) rfl rfl rfl (RunL.nil))
theorem Gv : Dq K [0] s h .normal (W s 4 ff) h :=
 rg (Ra (v := ff) rfl rfl rfl (RunL.nil))
theorem Gw {v0 v1 r7 r8 : CV} {g1 : Hp} (i0 : s.at 0 = v0) (i1 : s.at 1 = v1) (pg1 : K.prim 141 [v0, v1] = none) (wg1 : Comes K 141 [v0, v1] h r7 g1) (o8 : ac K.P .geq 3 r7 n0 = some r8) : Dq K [1, 0] s h .normal (W (W4 s 5 v0 6 v1 7 r7 8 r8) 4 r8) g1 :=
 rg (Rm rfl rfl i0 (Rm rfl rfl i1 (RunL.call (v := r7) rfl rfl rfl rfl rfl pg1 wg1 (Rb rfl rfl rfl rfl o8 (Ra (v := r8) rfl rfl rfl (RunL.nil))))))
theorem Gx : I5 K [0] s h .normal (W s 4 .nils) h :=
 rg (Ra (v := .nils) rfl rfl rfl (RunL.nil))
theorem Gy : Dr K [0] s h .normal (W s 4 ff) h :=
 rg (Ra (v := ff) rfl rfl rfl (RunL.nil))
theorem Gz {v0 v1 r7 r8 : CV} {g1 : Hp} (i0 : s.at 0 = v0) (i1 : s.at 1 = v1) (pg1 : K.prim 166 [v0, v1] = none) (wg1 : Comes K 166 [v0, v1] h r7 g1) (o8 : ac K.P .geq 3 r7 n0 = some r8) : Dr K [1, 0] s h .normal (W (W4 s 5 v0 6 v1 7 r7 8 r8) 4 r8) g1 :=
 rg (Rm rfl rfl i0 (Rm rfl rfl i1 (RunL.call (v := r7) rfl rfl rfl rfl rfl pg1 wg1 (Rb rfl rfl rfl rfl o8 (Ra (v := r8) rfl rfl rfl (RunL.nil))))))
theorem rj : fN K [0] s h .normal (W s 4 n0) h :=
 rg (Ra (v := n0) rfl rfl rfl (RunL.nil))
theorem xO {v0 r7 : CV} (i0 : s.at 0 = v0) (o7 : aB h v0 (ae K.P 45) = some r7) : fN K [1, 0, 0] s h .normal (W (W (W s 6 v0) 7 r7) 8 n0) h :=
 rg (Rm rfl rfl i0 (R1 (v := r7) rfl (aN rfl rfl rfl rfl rfl o7) (Rm (v := n0) rfl rfl rfl (RunL.nil))))
theorem rk {v8 v7 r9 : CV} (i8 : s.at 8 = v8) (i7 : s.at 7 = v7) (o9 : ac K.P .lss 3 v8 v7 = some r9) : fN K [1, 0, 1, 0, 0, 0] s h .normal (W s 9 r9) h :=
 rg (Rb rfl rfl i8 i7 o9 (RunL.nil))
theorem xP {v8 : CV} (i8 : s.at 8 = v8) : fN K [1, 0, 1, 0, 0, 1, 1, 0, 0, 0] s h .normal (W (W s 10 v8) 5 v8) h :=
 rg (Rm rfl rfl i8 (Ra (v := v8) rfl rfl rfl (RunL.nil)))
theorem xQ {v1 v0 v5 r14 r15 r16 : CV} {g1 : Hp} {G16 : FuncId} {C16 : List CV} (i1 : s.at 1 = v1) (i0 : s.at 0 = v0) (i5 : s.at 5 = v5) (o14 : ak v0 v5 (ae K.P 45) = some r14) (o15 : ao h r14 (au K.P 3) = some r15) (e16 : (v1 : CV) = .fn G16 C16) (pg1 : K.prim G16 ([r15] ++ C16) = none) (wg1 : Comes K G16 ([r15] ++ C16) h r16 g1) : fN K [1, 0, 1, 0, 0, 1, 1, 0, 0, 1, 0] s h .normal (W (W (W4 s 11 v1 12 v0 13 v5 14 r14) 15 r15) 16 r16) g1 :=
 rg (Rm rfl rfl i1 (Rm rfl rfl i0 (Rm rfl rfl i5 (R1 (v := r14) rfl (bV rfl rfl rfl o14) (R1 (v := r15) rfl (aM rfl rfl o15) (RunL.call (v := r16) rfl rfl rfl e16 rfl pg1 wg1 (RunL.nil)))))))
theorem GA {v5 : CV} (i5 : s.at 5 = v5) : fN K [1, 0, 1, 0, 0, 1, 1, 0, 0, 1, 1, 0, 0] s h .normal (W (W s 17 v5) 4 v5) h :=
 rg (Rm rfl rfl i5 (Ra (v := v5) rfl rfl rfl (RunL.nil)))
theorem GB {v8 r18 : CV} (i8 : s.at 8 = v8) (o18 : ac K.P .add 3 v8 (.nu .i64 1) = some r18) : fN K [1, 0, 1, 0, 0, 1, 1, 1] s h .normal (W (W s 18 r18) 8 r18) h :=
 rg (Rb rfl rfl i8 rfl o18 (Rm (v := r18) rfl rfl rfl (RunL.nil)))
theorem GC : fN K [1, 1, 0] s h .normal (W s 4 (.nu .i64 (-1))) h :=
 rg (Ra (v := (.nu .i64 (-1))) rfl rfl rfl (RunL.nil))
theorem rl : hD K [0] s h .normal (W s 4 n0) h :=
 rg (Ra (v := n0) rfl rfl rfl (RunL.nil))
theorem rm {v0 r8 : CV} {g1 : Hp} (i0 : s.at 0 = v0) (pg1 : K.prim 144 [v0] = none) (wg1 : Comes K 144 [v0] h r8 g1) : hD K [1, 0] s h .normal (W (W (W s 7 v0) 8 r8) 5 r8) g1 :=
 rg (Rm rfl rfl i0 (RunL.call (v := r8) rfl rfl rfl rfl rfl pg1 wg1 (Ra (v := r8) rfl rfl rfl (RunL.nil))))
theorem rn {v1 r10 : CV} {g1 : Hp} (i1 : s.at 1 = v1) (pg1 : K.prim 144 [v1] = none) (wg1 : Comes K 144 [v1] h r10 g1) : hD K [1, 1, 0] s h .normal (W (W (W s 9 v1) 10 r10) 6 r10) g1 :=
 rg (Rm rfl rfl i1 (RunL.call (v := r10) rfl rfl rfl rfl rfl pg1 wg1 (Ra (v := r10) rfl rfl rfl (RunL.nil))))
theorem rp {v5 : CV} (i5 : s.at 5 = v5) : hD K [1, 1, 1, 0, 0] s h .normal (W s 11 v5) h :=
 rg (Rm rfl rfl i5 (RunL.nil))
theorem rq {v6 : CV} (i6 : s.at 6 = v6) : hD K [1, 1, 1, 1, 0, 0] s h .normal (W s 13 v6) h :=
 rg (Rm rfl rfl i6 (RunL.nil))
theorem rs {v0 v1 r16 : CV} (i0 : s.at 0 = v0) (i1 : s.at 1 = v1) (o16 : ac K.P .lss 3 v0 v1 = some r16) : hD K [1, 1, 1, 1, 1, 0, 0] s h .normal (W (W (W s 14 v0) 15 v1) 16 r16) h :=
 rg (Rm rfl rfl i0 (Rm rfl rfl i1 (Rb rfl rfl rfl rfl o16 (RunL.nil))))
theorem DA : hD K [1, 1, 1, 1, 1, 0, 1, 0, 0] s h .normal (W s 4 (.nu .i64 (-1))) h :=
 rg (Ra (v := (.nu .i64 (-1))) rfl rfl rfl (RunL.nil))
theorem vC {v0 v1 r19 : CV} (i0 : s.at 0 = v0) (i1 : s.at 1 = v1) (o19 : ac K.P .gtr 3 v0 v1 = some r19) : hD K [1, 1, 1, 1, 1, 1, 0, 0] s h .normal (W (W (W s 17 v0) 18 v1) 19 r19) h :=
 rg (Rm rfl rfl i0 (Rm rfl rfl i1 (Rb rfl rfl rfl rfl o19 (RunL.nil))))
theorem DB : hD K [1, 1, 1, 1, 1, 1, 0, 1, 0, 0] s h .normal (W s 4 (.nu .i64 1)) h :=
 rg (Ra (v := (.nu .i64 1)) rfl rfl rfl (RunL.nil))
theorem DC : hD K [1, 1, 1, 1, 1, 1, 1, 0] s h .normal (W s 4 n0) h :=
 rg (Ra (v := n0) rfl rfl rfl (RunL.nil))
theorem xR : eJ K [0] s h .normal (W s 4 n0) h :=
 rg (Ra (v := n0) rfl rfl rfl (RunL.nil))
theorem GD {v0 r10 : CV} (i0 : s.at 0 = v0) (o10 : aB h v0 (ae K.P 46) = some r10) : eJ K [1, 0, 0] s h .normal (W (W (W s 9 v0) 10 r10) 11 n0) h :=
 rg (Rm rfl rfl i0 (R1 (v := r10) rfl (aN rfl rfl rfl rfl rfl o10) (Rm (v := n0) rfl rfl rfl (RunL.nil))))
theorem ru {v11 v10 r12 : CV} (i11 : s.at 11 = v11) (i10 : s.at 10 = v10) (o12 : ac K.P .lss 3 v11 v10 = some r12) : eJ K [1, 0, 1, 0, 0, 0] s h .normal (W s 12 r12) h :=
 rg (Rb rfl rfl i11 i10 o12 (RunL.nil))
theorem xS {v11 v9 r14 r15 : CV} (i11 : s.at 11 = v11) (i9 : s.at 9 = v9) (o14 : ak v9 v11 (ae K.P 46) = some r14) (o15 : ao h r14 (au K.P 3) = some r15) : eJ K [1, 0, 1, 0, 0, 1, 1, 0, 0, 0] s h .normal (W (W4 s 13 v11 14 r14 15 r15 5 v11) 6 r15) h :=
 rg (Rm rfl rfl i11 (R1 (v := r14) rfl (bV rfl i9 i11 o14) (R1 (v := r15) rfl (aM rfl rfl o15) (Ra (v := v11) rfl rfl rfl (Ra (v := r15) rfl rfl rfl (RunL.nil))))))
theorem xT {v5 v1 r18 r19 : CV} (i5 : s.at 5 = v5) (i1 : s.at 1 = v1) (o18 : aB h v1 (ae K.P 46) = some r18) (o19 : ac K.P .geq 3 v5 r18 = some r19) : eJ K [1, 0, 1, 0, 0, 1, 1, 0, 0, 1, 0, 0] s h .normal (W4 s 16 v5 17 v1 18 r18 19 r19) h :=
 rg (Rm rfl rfl i5 (Rm rfl rfl i1 (R1 (v := r18) rfl (aN rfl rfl rfl rfl rfl o18) (Rb rfl rfl rfl rfl o19 (RunL.nil)))))
theorem xU {v1 v5 r22 r23 : CV} (i1 : s.at 1 = v1) (i5 : s.at 5 = v5) (o22 : ak v1 v5 (ae K.P 46) = some r22) (o23 : ao h r22 (au K.P 3) = some r23) : eJ K [1, 0, 1, 0, 0, 1, 1, 0, 0, 1, 1, 0] s h .normal (W (W4 s 20 v1 21 v5 22 r22 23 r23) 7 r23) h :=
 rg (Rm rfl rfl i1 (Rm rfl rfl i5 (R1 (v := r22) rfl (bV rfl rfl rfl o22) (R1 (v := r23) rfl (aM rfl rfl o23) (Ra (v := r23) rfl rfl rfl (RunL.nil))))))
theorem xV {v6 v7 r26 : CV} {g1 : Hp} (i6 : s.at 6 = v6) (i7 : s.at 7 = v7) (pg1 : K.prim 118 [v6, v7] = none) (wg1 : Comes K 118 [v6, v7] h r26 g1) : eJ K [1, 0, 1, 0, 0, 1, 1, 0, 0, 1, 1, 1, 0] s h .normal (W4 s 24 v6 25 v7 26 r26 8 r26) g1 :=
 rg (Rm rfl rfl i6 (Rm rfl rfl i7 (RunL.call (v := r26) rfl rfl rfl rfl rfl pg1 wg1 (Ra (v := r26) rfl rfl rfl (RunL.nil)))))
theorem xW {v8 r28 : CV} (i8 : s.at 8 = v8) (o28 : ac K.P .neq 3 v8 n0 = some r28) : eJ K [1, 0, 1, 0, 0, 1, 1, 0, 0, 1, 1, 1, 1, 0] s h .normal (W (W s 27 v8) 28 r28) h :=
 rg (Rm rfl rfl i8 (Rb rfl rfl rfl rfl o28 (RunL.nil)))
theorem GF {v8 : CV} (i8 : s.at 8 = v8) : eJ K [1, 0, 1, 0, 0, 1, 1, 0, 0, 1, 1, 1, 1, 1, 0, 0] s h .normal (W (W s 29 v8) 4 v8) h :=
 rg (Rm rfl rfl i8 (Ra (v := v8) rfl rfl rfl (RunL.nil)))
theorem DD {v11 r30 : CV} (i11 : s.at 11 = v11) (o30 : ac K.P .add 3 v11 (.nu .i64 1) = some r30) : eJ K [1, 0, 1, 0, 0, 1, 1, 1] s h .normal (W (W s 30 r30) 11 r30) h :=
 rg (Rb rfl rfl i11 rfl o30 (Rm (v := r30) rfl rfl rfl (RunL.nil)))
theorem DE {v0 r32 v1 r34 r35 : CV} (i0 : s.at 0 = v0) (i1 : s.at 1 = v1) (o32 : aB h v0 (ae K.P 46) = some r32) (o34 : aB h v1 (ae K.P 46) = some r34) (o35 : ac K.P .lss 3 r32 r34 = some r35) : eJ K [1, 1, 0, 0] s h .normal (W (W4 s 31 v0 32 r32 33 v1 34 r34) 35 r35) h :=
 rg (Rm rfl rfl i0 (R1 (v := r32) rfl (aN rfl rfl rfl rfl rfl o32) (Rm rfl rfl i1 (R1 (v := r34) rfl (aN rfl rfl rfl rfl rfl o34) (Rb rfl rfl rfl rfl o35 (RunL.nil))))))
theorem DF : eJ K [1, 1, 1, 0] s h .normal (W s 4 n0) h :=
 rg (Ra (v := n0) rfl rfl rfl (RunL.nil))
theorem GG : Ds K [0] s h .normal (W s 3 ff) h :=
 rg (Ra (v := ff) rfl rfl rfl (RunL.nil))
theorem GH {v1 r4 v0 r6 : CV} {g1 : Hp} (i1 : s.at 1 = v1) (i0 : s.at 0 = v0) (o4 : ao h v1 (au K.P 46) = some r4) (pg1 : K.prim 80 [r4, v0] = none) (wg1 : Comes K 80 [r4, v0] h r6 g1) : Ds K [1, 0] s h .normal (W4 s 4 r4 5 v0 6 r6 3 r6) g1 :=
 rg (R1 (v := r4) rfl (aM rfl i1 o4) (Rm rfl rfl i0 (RunL.call (v := r6) rfl rfl rfl rfl rfl pg1 wg1 (Ra (v := r6) rfl rfl rfl (RunL.nil)))))
theorem GI : fO K [0] s h .normal (W s 4 .nils) h :=
 rg (Ra (v := .nils) rfl rfl rfl (RunL.nil))
theorem GJ {v0 r8 : CV} (i0 : s.at 0 = v0) (o8 : aB h v0 (ae K.P 46) = some r8) : fO K [1, 0, 0] s h .normal (W (W (W s 7 v0) 8 r8) 9 n0) h :=
 rg (Rm rfl rfl i0 (R1 (v := r8) rfl (aN rfl rfl rfl rfl rfl o8) (Rm (v := n0) rfl rfl rfl (RunL.nil))))
theorem rz {v9 v8 r10 : CV} (i9 : s.at 9 = v9) (i8 : s.at 8 = v8) (o10 : ac K.P .lss 3 v9 v8 = some r10) : fO K [1, 0, 1, 0, 0, 0] s h .normal (W s 10 r10) h :=
 rg (Rb rfl rfl i9 i8 o10 (RunL.nil))
theorem xX {v7 v9 r11 r12 : CV} (i7 : s.at 7 = v7) (i9 : s.at 9 = v9) (o11 : ak v7 v9 (ae K.P 46) = some r11) (o12 : ao h r11 (au K.P 3) = some r12) : fO K [1, 0, 1, 0, 0, 1, 1, 0, 0, 0] s h .normal (W (W (W s 11 r11) 12 r12) 6 r12) h :=
 rg (R1 (v := r11) rfl (bV rfl i7 i9 o11) (R1 (v := r12) rfl (aM rfl rfl o12) (Ra (v := r12) rfl rfl rfl (RunL.nil))))
theorem xY {v1 v6 r15 : CV} {g1 : Hp} (i1 : s.at 1 = v1) (i6 : s.at 6 = v6) (pg1 : K.prim 113 [v1, v6] = none) (wg1 : Comes K 113 [v1, v6] h r15 g1) : fO K [1, 0, 1, 0, 0, 1, 1, 0, 0, 1, 0] s h .normal (W (W (W s 13 v1) 14 v6) 15 r15) g1 :=
 rg (Rm rfl rfl i1 (Rm rfl rfl i6 (RunL.call (v := r15) rfl rfl rfl rfl rfl pg1 wg1 (RunL.nil))))
theorem GK {v4 v6 r19 : CV} {F18 : Nat → CV} {B18 : HB} {g1 : Hp} (i4 : s.at 4 = v4) (i6 : s.at 6 = v6) (o18 : aC 1 [(0, v6)] (ae K.P 46) = some (F18, B18)) (wg1 : be (h.push B18) v4 (F18 (h).n) (ae K.P 46) (ae K.P 46) = some (r19, g1)) : fO K [1, 0, 1, 0, 0, 1, 1, 0, 0, 1, 1, 0] s h .normal (W (W4 s 16 v4 17 v6 18 (F18 (h).n) 19 r19) 4 r19) g1 :=
 rg (Rm rfl rfl i4 (Rm rfl rfl i6 (RunL.op (v := (F18 (h).n)) rfl (aT rfl rfl o18) (RunL.op (v := r19) rfl (fa hk rfl rfl rfl rfl rfl rfl wg1) (Ra (v := r19) rfl rfl rfl (RunL.nil))))))
theorem xZ {v9 r20 : CV} (i9 : s.at 9 = v9) (o20 : ac K.P .add 3 v9 (.nu .i64 1) = some r20) : fO K [1, 0, 1, 0, 0, 1, 1, 1] s h .normal (W (W s 20 r20) 9 r20) h :=
 rg (Rb rfl rfl i9 rfl o20 (Rm (v := r20) rfl rfl rfl (RunL.nil)))
theorem GL {v4 : CV} (i4 : s.at 4 = v4) : fO K [1, 1, 0] s h .normal (W (W s 21 v4) 4 v4) h :=
 rg (Rm rfl rfl i4 (Ra (v := v4) rfl rfl rfl (RunL.nil)))
theorem GM : cQ K [0] s h .normal (W s 2 .nils) h :=
 rg (Ra (v := .nils) rfl rfl rfl (RunL.nil))
theorem GN : cQ K [1, 0] s h .normal (W s 3 n0) h :=
 rg (Ra (v := n0) rfl rfl rfl (RunL.nil))
theorem GO {v0 r10 : CV} (i0 : s.at 0 = v0) (o10 : aB h v0 (ae K.P 22) = some r10) : cQ K [1, 1, 0, 0] s h .normal (W (W (W s 9 v0) 10 r10) 11 n0) h :=
 rg (Rm rfl rfl i0 (R1 (v := r10) rfl (aN rfl rfl rfl rfl rfl o10) (Rm (v := n0) rfl rfl rfl (RunL.nil))))
theorem x0 {v11 v10 r12 : CV} (i11 : s.at 11 = v11) (i10 : s.at 10 = v10) (o12 : ac K.P .lss 3 v11 v10 = some r12) : cQ K [1, 1, 0, 1, 0, 0, 0] s h .normal (W s 12 r12) h :=
 rg (Rb rfl rfl i11 i10 o12 (RunL.nil))
theorem GP {v9 v11 r13 r14 : CV} (i9 : s.at 9 = v9) (i11 : s.at 11 = v11) (o13 : ak v9 v11 (ae K.P 22) = some r13) (o14 : ao h r13 (au K.P 46) = some r14) : cQ K [1, 1, 0, 1, 0, 0, 1, 1, 0, 0, 0] s h .normal (W (W (W s 13 r13) 14 r14) 5 r14) h :=
 rg (R1 (v := r13) rfl (bV rfl i9 i11 o13) (R1 (v := r14) rfl (aM rfl rfl o14) (Ra (v := r14) rfl rfl rfl (RunL.nil))))
theorem GQ {v3 v5 r17 r18 : CV} (i3 : s.at 3 = v3) (i5 : s.at 5 = v5) (o17 : aB h v5 (ae K.P 46) = some r17) (o18 : ac K.P .add 3 v3 r17 = some r18) : cQ K [1, 1, 0, 1, 0, 0, 1, 1, 0, 0, 1, 0] s h .normal (W (W4 s 15 v3 16 v5 17 r17 18 r18) 3 r18) h :=
 rg (Rm rfl rfl i3 (Rm rfl rfl i5 (R1 (v := r17) rfl (aN rfl rfl rfl rfl rfl o17) (Rb rfl rfl rfl rfl o18 (Ra (v := r18) rfl rfl rfl (RunL.nil))))))
theorem GR {v3 r20 : CV} (i3 : s.at 3 = v3) (o20 : ac K.P .lss 3 v3 n0 = some r20) : cQ K [1, 1, 0, 1, 0, 0, 1, 1, 0, 0, 1, 1, 0] s h .normal (W (W s 19 v3) 20 r20) h :=
 rg (Rm rfl rfl i3 (Rb rfl rfl rfl rfl o20 (RunL.nil)))
theorem GS {v11 r22 : CV} (i11 : s.at 11 = v11) (o22 : ac K.P .add 3 v11 (.nu .i64 1) = some r22) : cQ K [1, 1, 0, 1, 0, 0, 1, 1, 1] s h .normal (W (W s 22 r22) 11 r22) h :=
 rg (Rb rfl rfl i11 rfl o22 (Rm (v := r22) rfl rfl rfl (RunL.nil)))
theorem GU {v3 r24 : CV} {g1 : Hp} (i3 : s.at 3 = v3) (pg1 : K.prim 145 [.nils, v3] = none) (wg1 : Comes K 145 [.nils, v3] h r24 g1) : cQ K [1, 1, 1, 0] s h .normal (W (W (W s 23 v3) 24 r24) 6 r24) g1 :=
 rg (Rm rfl rfl i3 (RunL.call (v := r24) rfl rfl rfl rfl rfl pg1 wg1 (Ra (v := r24) rfl rfl rfl (RunL.nil))))
theorem DG {v0 r26 : CV} (i0 : s.at 0 = v0) (o26 : aB h v0 (ae K.P 22) = some r26) : cQ K [1, 1, 1, 1, 0, 0] s h .normal (W (W (W s 25 v0) 26 r26) 27 n0) h :=
 rg (Rm rfl rfl i0 (R1 (v := r26) rfl (aN rfl rfl rfl rfl rfl o26) (Rm (v := n0) rfl rfl rfl (RunL.nil))))
theorem vD {v27 v26 r28 : CV} (i27 : s.at 27 = v27) (i26 : s.at 26 = v26) (o28 : ac K.P .lss 3 v27 v26 = some r28) : cQ K [1, 1, 1, 1, 0, 1, 0, 0, 0] s h .normal (W s 28 r28) h :=
 rg (Rb rfl rfl i27 i26 o28 (RunL.nil))
theorem DH {v25 v27 r29 r30 : CV} (i25 : s.at 25 = v25) (i27 : s.at 27 = v27) (o29 : ak v25 v27 (ae K.P 22) = some r29) (o30 : ao h r29 (au K.P 46) = some r30) : cQ K [1, 1, 1, 1, 0, 1, 0, 0, 1, 1, 0, 0, 0] s h .normal (W (W (W s 29 r29) 30 r30) 8 r30) h :=
 rg (R1 (v := r29) rfl (bV rfl i25 i27 o29) (R1 (v := r30) rfl (aM rfl rfl o30) (Ra (v := r30) rfl rfl rfl (RunL.nil))))
theorem DI {v6 v8 r33 : CV} {g1 : Hp} (i6 : s.at 6 = v6) (i8 : s.at 8 = v8) (wg1 : be h v6 v8 (ae K.P 46) (ae K.P 46) = some (r33, g1)) : cQ K [1, 1, 1, 1, 0, 1, 0, 0, 1, 1, 0, 0, 1] s h .normal (W4 s 31 v6 32 v8 33 r33 6 r33) g1 :=
 rg (Rm rfl rfl i6 (Rm rfl rfl i8 (RunL.op (v := r33) rfl (fa hk rfl rfl rfl rfl rfl rfl wg1) (Ra (v := r33) rfl rfl rfl (RunL.nil)))))
theorem DJ {v27 r34 : CV} (i27 : s.at 27 = v27) (o34 : ac K.P .add 3 v27 (.nu .i64 1) = some r34) : cQ K [1, 1, 1, 1, 0, 1, 0, 0, 1, 1, 1] s h .normal (W (W s 34 r34) 27 r34) h :=
 rg (Rb rfl rfl i27 rfl o34 (Rm (v := r34) rfl rfl rfl (RunL.nil)))
theorem DK {v6 : CV} (i6 : s.at 6 = v6) : cQ K [1, 1, 1, 1, 1, 0] s h .normal (W (W s 35 v6) 2 v6) h :=
 rg (Rm rfl rfl i6 (Ra (v := v6) rfl rfl rfl (RunL.nil)))
theorem GV {v0 r4 : CV} (i0 : s.at 0 = v0) (o4 : aB h v0 (ae K.P 46) = some r4) : Dt K [0] s h .normal (W (W (W s 3 v0) 4 r4) 2 r4) h :=
 rg (Rm rfl rfl i0 (R1 (v := r4) rfl (aN rfl rfl rfl rfl rfl o4) (Ra (v := r4) rfl rfl rfl (RunL.nil))))
theorem GW {v0 v2 r8 r9 r10 : CV} {g1 g2 : Hp} (i0 : s.at 0 = v0) (i2 : s.at 2 = v2) (l8 : cZ K.P v2 (ae K.P 3) (ae K.P 126) = none) (o8 : dl K.P h v2 (ae K.P 3) (ae K.P 126) = some r8) (pg1 : K.prim 127 [r8] = none) (wg1 : Comes K 127 [r8] h r9 g1) (pg2 : K.prim 126 [v0, n0, v2, r9] = none) (wg2 : Comes K 126 [v0, n0, v2, r9] g1 r10 g2) : Dt K [1] s h .normal (W (W (W4 s 5 v0 6 v2 7 v2 8 r8) 9 r9) 10 r10) g2 :=
 rg (Rm rfl rfl i0 (Rm rfl rfl i2 (Rm rfl rfl i2 (R1 (v := r8) rfl (qi rfl rfl l8 o8) (RunL.call (v := r9) rfl rfl rfl rfl rfl pg1 wg1 (RunL.call (v := r10) rfl rfl rfl rfl rfl pg2 wg2 (RunL.nil)))))))
theorem x4 : gl K [0] s h .normal (W s 4 n0) h :=
 rg (Ra (v := n0) rfl rfl rfl (RunL.nil))
theorem GX {v0 r7 : CV} (i0 : s.at 0 = v0) (o7 : aB h v0 (ae K.P 22) = some r7) : gl K [1, 0, 0] s h .normal (W (W (W s 6 v0) 7 r7) 8 n0) h :=
 rg (Rm rfl rfl i0 (R1 (v := r7) rfl (aN rfl rfl rfl rfl rfl o7) (Rm (v := n0) rfl rfl rfl (RunL.nil))))
theorem rH {v8 v7 r9 : CV} (i8 : s.at 8 = v8) (i7 : s.at 7 = v7) (o9 : ac K.P .lss 3 v8 v7 = some r9) : gl K [1, 0, 1, 0, 0, 0] s h .normal (W s 9 r9) h :=
 rg (Rb rfl rfl i8 i7 o9 (RunL.nil))
theorem x5 {v8 : CV} (i8 : s.at 8 = v8) : gl K [1, 0, 1, 0, 0, 1, 1, 0, 0, 0] s h .normal (W (W s 10 v8) 5 v8) h :=
 rg (Rm rfl rfl i8 (Ra (v := v8) rfl rfl rfl (RunL.nil)))
theorem x6 {v1 v0 v5 r14 r15 r16 : CV} {g1 : Hp} {G16 : FuncId} {C16 : List CV} (i1 : s.at 1 = v1) (i0 : s.at 0 = v0) (i5 : s.at 5 = v5) (o14 : ak v0 v5 (ae K.P 22) = some r14) (o15 : ao h r14 (au K.P 46) = some r15) (e16 : (v1 : CV) = .fn G16 C16) (pg1 : K.prim G16 ([r15] ++ C16) = none) (wg1 : Comes K G16 ([r15] ++ C16) h r16 g1) : gl K [1, 0, 1, 0, 0, 1, 1, 0, 0, 1, 0] s h .normal (W (W (W4 s 11 v1 12 v0 13 v5 14 r14) 15 r15) 16 r16) g1 :=
 rg (Rm rfl rfl i1 (Rm rfl rfl i0 (Rm rfl rfl i5 (R1 (v := r14) rfl (bV rfl rfl rfl o14) (R1 (v := r15) rfl (aM rfl rfl o15) (RunL.call (v := r16) rfl rfl rfl e16 rfl pg1 wg1 (RunL.nil)))))))
theorem GY {v5 : CV} (i5 : s.at 5 = v5) : gl K [1, 0, 1, 0, 0, 1, 1, 0, 0, 1, 1, 0, 0] s h .normal (W (W s 17 v5) 4 v5) h :=
 rg (Rm rfl rfl i5 (Ra (v := v5) rfl rfl rfl (RunL.nil)))
theorem GZ {v8 r18 : CV} (i8 : s.at 8 = v8) (o18 : ac K.P .add 3 v8 (.nu .i64 1) = some r18) : gl K [1, 0, 1, 0, 0, 1, 1, 1] s h .normal (W (W s 18 r18) 8 r18) h :=
 rg (Rb rfl rfl i8 rfl o18 (Rm (v := r18) rfl rfl rfl (RunL.nil)))
theorem G0 : gl K [1, 1, 0] s h .normal (W s 4 (.nu .i64 (-1))) h :=
 rg (Ra (v := (.nu .i64 (-1))) rfl rfl rfl (RunL.nil))
theorem G1 : Du K [0] s h .normal (W s 2 n0) h :=
 rg (Ra (v := n0) rfl rfl rfl (RunL.nil))
theorem G2 {v0 r7 : CV} {g1 : Hp} (i0 : s.at 0 = v0) (pg1 : K.prim 156 [v0] = none) (wg1 : Comes K 156 [v0] h r7 g1) : Du K [1, 1, 0] s h .normal (W (W (W s 6 v0) 7 r7) 2 r7) g1 :=
 rg (Rm rfl rfl i0 (RunL.call (v := r7) rfl rfl rfl rfl rfl pg1 wg1 (Ra (v := r7) rfl rfl rfl (RunL.nil))))
theorem x7 : ve K [0] s h .normal (W s 2 ff) h :=
 rg (Ra (v := ff) rfl rfl rfl (RunL.nil))
theorem AV {v0 r8 : CV} (i0 : s.at 0 = v0) (o4 : ac K.P .lss 3 v0 n0 = some tt) (o8 : az tt .skp tt = some r8) : ve K [1, 0] s h .normal (W (W (W (W4 s 3 v0 4 tt 5 tt 6 .skp) 7 .skp) 8 r8) 2 r8) h :=
 rg (Rm rfl rfl i0 (Rb rfl rfl rfl rfl o4 (Rm (v := tt) rfl rfl rfl (RunL.pass rfl (RunL.pass rfl (R1 (v := r8) rfl (aL rfl rfl rfl rfl o8) (Ra (v := r8) rfl rfl rfl (RunL.nil))))))))
theorem AW {v0 r7 r8 : CV} (i0 : s.at 0 = v0) (o4 : ac K.P .lss 3 v0 n0 = some ff) (o7 : ac K.P .geq 3 v0 (.nu .i64 64) = some r7) (o8 : az tt r7 ff = some r8) : ve K [1, 0] s h .normal (W (W (W (W4 s 3 v0 4 ff 5 ff 6 v0) 7 r7) 8 r8) 2 r8) h :=
 rg (Rm rfl rfl i0 (Rb rfl rfl rfl rfl o4 (Rm (v := ff) rfl rfl rfl (Rm rfl rfl i0 (Rb rfl rfl rfl rfl o7 (R1 (v := r8) rfl (aL rfl rfl rfl rfl o8) (Ra (v := r8) rfl rfl rfl (RunL.nil))))))))
theorem x8 : gm K [0] s h .normal (W s 4 n0) h :=
 rg (Ra (v := n0) rfl rfl rfl (RunL.nil))
theorem G3 {v0 r7 : CV} (i0 : s.at 0 = v0) (o7 : aB h v0 (ae K.P 46) = some r7) : gm K [1, 0, 0] s h .normal (W (W (W s 6 v0) 7 r7) 8 n0) h :=
 rg (Rm rfl rfl i0 (R1 (v := r7) rfl (aN rfl rfl rfl rfl rfl o7) (Rm (v := n0) rfl rfl rfl (RunL.nil))))
theorem rK {v8 v7 r9 : CV} (i8 : s.at 8 = v8) (i7 : s.at 7 = v7) (o9 : ac K.P .lss 3 v8 v7 = some r9) : gm K [1, 0, 1, 0, 0, 0] s h .normal (W s 9 r9) h :=
 rg (Rb rfl rfl i8 i7 o9 (RunL.nil))
theorem x9 {v8 : CV} (i8 : s.at 8 = v8) : gm K [1, 0, 1, 0, 0, 1, 1, 0, 0, 0] s h .normal (W (W s 10 v8) 5 v8) h :=
 rg (Rm rfl rfl i8 (Ra (v := v8) rfl rfl rfl (RunL.nil)))
theorem ya {v1 v0 v5 r14 r15 r16 : CV} (i1 : s.at 1 = v1) (i0 : s.at 0 = v0) (i5 : s.at 5 = v5) (o14 : ak v0 v5 (ae K.P 46) = some r14) (o15 : ao h r14 (au K.P 3) = some r15) (o16 : ac K.P .eql 3 v1 r15 = some r16) : gm K [1, 0, 1, 0, 0, 1, 1, 0, 0, 1, 0] s h .normal (W (W (W4 s 11 v1 12 v0 13 v5 14 r14) 15 r15) 16 r16) h :=
 rg (Rm rfl rfl i1 (Rm rfl rfl i0 (Rm rfl rfl i5 (R1 (v := r14) rfl (bV rfl rfl rfl o14) (R1 (v := r15) rfl (aM rfl rfl o15) (Rb rfl rfl rfl rfl o16 (RunL.nil)))))))
theorem G4 {v5 : CV} (i5 : s.at 5 = v5) : gm K [1, 0, 1, 0, 0, 1, 1, 0, 0, 1, 1, 0, 0] s h .normal (W (W s 17 v5) 4 v5) h :=
 rg (Rm rfl rfl i5 (Ra (v := v5) rfl rfl rfl (RunL.nil)))
theorem G5 {v8 r18 : CV} (i8 : s.at 8 = v8) (o18 : ac K.P .add 3 v8 (.nu .i64 1) = some r18) : gm K [1, 0, 1, 0, 0, 1, 1, 1] s h .normal (W (W s 18 r18) 8 r18) h :=
 rg (Rb rfl rfl i8 rfl o18 (Rm (v := r18) rfl rfl rfl (RunL.nil)))
theorem G6 : gm K [1, 1, 0] s h .normal (W s 4 (.nu .i64 (-1))) h :=
 rg (Ra (v := (.nu .i64 (-1))) rfl rfl rfl (RunL.nil))
theorem G7 : Dv K [0] s h .normal (W s 2 ff) h :=
 rg (Ra (v := ff) rfl rfl rfl (RunL.nil))
theorem G8 {v0 r5 : CV} (i0 : s.at 0 = v0) (o5 : ac K.P .neq 3 v0 v0 = some r5) : Dv K [1, 0] s h .normal (W4 s 3 v0 4 v0 5 r5 2 r5) h :=
 rg (Rm rfl rfl i0 (Rm rfl rfl i0 (Rb rfl rfl rfl rfl o5 (Ra (v := r5) rfl rfl rfl (RunL.nil)))))
theorem G9 : pH K [0] s h .normal (W s 4 .nils) h :=
 rg (Ra (v := .nils) rfl rfl rfl (RunL.nil))
theorem Ha {v1 r6 : CV} (i1 : s.at 1 = v1) (o6 : ac K.P .lss 3 v1 n0 = some r6) : pH K [1, 0, 0] s h .normal (W (W s 5 v1) 6 r6) h :=
 rg (Rm rfl rfl i1 (Rb rfl rfl rfl rfl o6 (RunL.nil)))
theorem Hb {v1 v0 r10 r12 r13 r14 : CV} (i1 : s.at 1 = v1) (i0 : s.at 0 = v0) (o10 : po (ae K.P 46) v0 = some r10) (o12 : aB h v0 (ae K.P 46) = some r12) (o13 : ac K.P .sub 3 r10 r12 = some r13) (o14 : ac K.P .sub 3 v1 r13 = some r14) : pH K [1, 1, 0, 0] s h .normal (W8 s 8 v1 9 v0 10 r10 11 v0 12 r12 13 r13 14 r14 1 r14) h :=
 rg (Rm rfl rfl i1 (Rm rfl rfl i0 (R1 (v := r10) rfl (Fo rfl rfl rfl rfl rfl o10) (Rm rfl rfl i0 (R1 (v := r12) rfl (aN rfl rfl rfl rfl rfl o12) (Rb rfl rfl rfl rfl o13 (Rb rfl rfl rfl rfl o14 (Ra (v := r14) rfl rfl rfl (RunL.nil)))))))))
theorem Hc {v1 r16 : CV} (i1 : s.at 1 = v1) (o16 : ac K.P .gtr 3 v1 n0 = some r16) : pH K [1, 1, 0, 1, 0] s h .normal (W (W s 15 v1) 16 r16) h :=
 rg (Rm rfl rfl i1 (Rb rfl rfl rfl rfl o16 (RunL.nil)))
theorem Hd {v0 r19 r20 v1 r22 r24 r25 : CV} {g1 : Hp} (i0 : s.at 0 = v0) (i1 : s.at 1 = v1) (o19 : po (ae K.P 46) v0 = some r19) (o20 : bC none (some r19) h v0 (ae K.P 46) = some r20) (wg1 : be h r20 v1 (ae K.P 46) (ae K.P 3) = some (r22, g1)) (o24 : aB g1 v0 (ae K.P 46) = some r24) (o25 : bC none (some r24) g1 r22 (ae K.P 46) = some r25) : pH K [1, 1, 0, 1, 1, 0] s h .normal (W (W (W8 s 17 v0 18 v0 19 r19 20 r20 21 v1 22 r22 23 v0 24 r24) 25 r25) 0 r25) g1 :=
 rg (Rm rfl rfl i0 (Rm rfl rfl i0 (R1 (v := r19) rfl (Fo rfl rfl rfl rfl rfl o19) (R1 (v := r20) rfl (jz rfl rfl rfl rfl o20) (Rm rfl rfl i1 (RunL.op (v := r22) rfl (fa hk rfl rfl rfl rfl rfl rfl wg1) (Rm rfl rfl i0 (R1 (v := r24) rfl (aN rfl rfl rfl rfl rfl o24) (R1 (v := r25) rfl (jz rfl rfl rfl rfl o25) (Ra (v := r25) rfl rfl rfl (RunL.nil)))))))))))
theorem He {v0 : CV} (i0 : s.at 0 = v0) : pH K [1, 1, 1, 0] s h .normal (W (W s 26 v0) 4 v0) h :=
 rg (Rm rfl rfl i0 (Ra (v := v0) rfl rfl rfl (RunL.nil)))
theorem Hf {v1 r9 : CV} (i1 : s.at 1 = v1) (o9 : ac K.P .add 3 v1 (.nu .i64 1) = some r9) : ei K [0] s h .normal (W (W (W s 8 v1) 9 r9) 6 r9) h :=
 rg (Rm rfl rfl i1 (Rb rfl rfl rfl rfl o9 (Ra (v := r9) rfl rfl rfl (RunL.nil))))
theorem yb {v6 v2 r12 : CV} (i6 : s.at 6 = v6) (i2 : s.at 2 = v2) (o12 : ac K.P .lss 3 v6 v2 = some r12) : ei K [1, 0, 0, 0, 0] s h .normal (W (W (W s 10 v6) 11 v2) 12 r12) h :=
 rg (Rm rfl rfl i6 (Rm rfl rfl i2 (Rb rfl rfl rfl rfl o12 (RunL.nil))))
theorem Hg {v6 : CV} (i6 : s.at 6 = v6) : ei K [1, 0, 0, 1, 0, 0, 0] s h .normal (W (W s 15 v6) 7 v6) h :=
 rg (Rm rfl rfl i6 (Ra (v := v6) rfl rfl rfl (RunL.nil)))
theorem ti {v7 v1 v0 r22 r23 r26 r27 r28 r29 r30 : CV} {g1 : Hp} (hp : K.plan 146 4 = some [.t 0,.o 1 [0],.o 2 [],.o 3 [],.t 4,.t 5,.t 6,.t 7,.t 8,.o 9 [8, 7, 6, 5, 4],.o 10 [8, 7, 6, 5, 4],.o 11 [7, 6, 5, 4],.o 12 [7, 6, 5, 4],.o 13 [],.o 14 []]) (i7 : s.at 7 = v7) (i1 : s.at 1 = v1) (i0 : s.at 0 = v0) (o18 : ac K.P .gtr 3 v7 v1 = some tt) (o22 : ak v0 v7 (ae K.P 45) = some r22) (o23 : ao h r22 (au K.P 3) = some r23) (q23 : ceq r23 r23 = true) (o26 : ac K.P .sub 3 v7 (.nu .i64 1) = some r26) (o27 : ak v0 r26 (ae K.P 45) = some r27) (o28 : ao h r27 (au K.P 3) = some r28) (pg1 : K.prim 152 [r23, r28] = none) (wg1 : Comes K 152 [r23, r28] h r29 g1) (o30 : az r29 ff tt = some r30) : ei K [1, 0, 0, 1, 0, 0, 1, 0, 0, 0, 0] s h .normal (W (W (W (W4 (W8 s 16 v7 17 v1 18 tt 19 tt 20 v0 21 v7 22 r22 23 r23) 24 v0 25 v7 26 r26 27 r27) 28 r28) 29 r29) 30 r30) g1 :=
 Runs.drawn hp (RunP.q (v := v7) rfl rfl (aY rfl i7) (RunP.only (v := v1) rfl rfl (Q1.e (aY rfl i1)) rfl (RunP.only (v := tt) rfl rfl (Q1.e (e9 rfl rfl rfl o18)) rfl (RunP.only (v := tt) rfl rfl (Q1.e (aY rfl rfl)) rfl (RunP.q (v := v0) rfl rfl (aY rfl i0) (RunP.q (v := v7) rfl rfl (aY rfl i7) (RunP.q (v := r22) rfl rfl (bV rfl rfl rfl o22) (RunP.q (v := r23) rfl rfl (aM rfl rfl o23) (RunP.q (v := v0) rfl rfl (aY rfl i0) (RunP.only (v := v7) rfl rfl (Q1.e (aY rfl i7)) (by simp (decide := true) only [bQ, bO, qX, ev, Fr.putO, aI, reduceIte, Nat.reduceEqDiff, List.filter_cons, List.filter_nil, List.any_cons, List.any_nil, List.all_cons, List.all_nil, List.getElem_toArray, List.getElem_cons_succ, List.getElem_cons_zero, Option.map_some, Option.map_none, aP, bh, Bool.and_true, Bool.true_and, Bool.and_self, i7, i1, i0, o18, o22, o23, q23]) (RunP.only (v := r26) rfl rfl (Q1.e (e9 rfl rfl rfl o26)) (by simp (decide := true) only [bQ, bO, qX, ev, Fr.putO, aI, reduceIte, Nat.reduceEqDiff, List.filter_cons, List.filter_nil, List.any_cons, List.any_nil, List.all_cons, List.all_nil, List.getElem_toArray, List.getElem_cons_succ, List.getElem_cons_zero, Option.map_some, Option.map_none, aP, bh, Bool.and_true, Bool.true_and, Bool.and_self, i7, i1, i0, o18, o22, o23, q23, o26]) (RunP.only (v := r27) rfl rfl (Q1.e (bV rfl rfl rfl o27)) (by simp (decide := true) only [bQ, bO, qX, ev, Fr.putO, aI, reduceIte, Nat.reduceEqDiff, List.filter_cons, List.filter_nil, List.any_cons, List.any_nil, List.all_cons, List.all_nil, List.getElem_toArray, List.getElem_cons_succ, List.getElem_cons_zero, Option.map_some, Option.map_none, aP, bh, Bool.and_true, Bool.true_and, Bool.and_self, i7, i1, i0, o18, o22, o23, q23, o26, o27]) (RunP.only (v := r28) rfl rfl (Q1.e (aM rfl rfl o28)) (by simp (decide := true) only [bQ, bO, qX, ev, Fr.putO, aI, reduceIte, Nat.reduceEqDiff, List.filter_cons, List.filter_nil, List.any_cons, List.any_nil, List.all_cons, List.all_nil, List.getElem_toArray, List.getElem_cons_succ, List.getElem_cons_zero, Option.map_some, Option.map_none, aP, bh, Bool.and_true, Bool.true_and, Bool.and_self, i7, i1, i0, o18, o22, o23, q23, o26, o27, o28]) (RunP.call (v := r29) rfl rfl rfl rfl rfl rfl pg1 wg1 rfl (RunP.only (v := r30) rfl rfl (Q1.e (aL rfl rfl rfl rfl o30)) rfl (RunP.nil))))))))))))))))
theorem AX {v7 v1 r30 : CV} (hp : K.plan 146 4 = some [.t 0,.o 1 [0],.o 2 [],.o 3 [],.t 4,.t 5,.t 6,.t 7,.t 8,.o 9 [8, 7, 6, 5, 4],.o 10 [8, 7, 6, 5, 4],.o 11 [7, 6, 5, 4],.o 12 [7, 6, 5, 4],.o 13 [],.o 14 []]) (i7 : s.at 7 = v7) (i1 : s.at 1 = v1) (o18 : ac K.P .gtr 3 v7 v1 = some ff) (o30 : az .skp ff ff = some r30) : ei K [1, 0, 0, 1, 0, 0, 1, 0, 0, 0, 0] s h .normal (W (W (W (W4 (W8 s 16 v7 17 v1 18 ff 19 ff 20 .skp 21 .skp 22 .skp 23 .skp) 24 .skp 25 .skp 26 .skp 27 .skp) 28 .skp) 29 .skp) 30 r30) h :=
 Runs.drawn hp (RunP.q (v := v7) rfl rfl (aY rfl i7) (RunP.only (v := v1) rfl rfl (Q1.e (aY rfl i1)) rfl (RunP.only (v := ff) rfl rfl (Q1.e (e9 rfl rfl rfl o18)) rfl (RunP.only (v := ff) rfl rfl (Q1.e (aY rfl rfl)) rfl (fo rfl rfl (fo rfl rfl (fo rfl rfl (fo rfl rfl (fo rfl rfl (fp rfl rfl (fp rfl rfl (fp rfl rfl (fp rfl rfl (fp rfl rfl (RunP.only (v := r30) rfl rfl (Q1.e (aL rfl rfl rfl rfl o30)) rfl (RunP.nil))))))))))))))))
theorem Hh {v0 v7 r37 r41 r42 r45 r46 : CV} {g1 g2 : Hp} (hp : K.plan 146 6 = some [.t 0,.t 1,.t 2,.t 3,.t 4,.t 5,.t 6,.t 7,.t 8,.t 9,.t 10,.o 11 [10, 9, 8, 7, 6, 5, 4, 3, 2, 1, 0],.o 12 [9, 8, 7, 6, 5, 4, 3, 2, 1, 0],.o 13 [9, 8, 7, 6, 5, 4, 3, 2, 1, 0],.o 14 [4, 3, 2],.o 15 [4, 3, 2],.o 16 [],.o 17 []]) (i0 : s.at 0 = v0) (i7 : s.at 7 = v7) (o37 : ac K.P .sub 3 v7 (.nu .i64 1) = some r37) (o41 : ak v0 r37 (ae K.P 45) = some r41) (o42 : ao h r41 (au K.P 3) = some r42) (q42 : ceq r42 r42 = true) (o45 : ak v0 v7 (ae K.P 45) = some r45) (o46 : ao h r45 (au K.P 3) = some r46) (wg1 : bt h r45 r42 (au K.P 3) = some (.undef, g1)) (wg2 : bt g1 r41 r46 (au K.P 3) = some (.undef, g2)) : ei K [1, 0, 0, 1, 0, 0, 1, 0, 0, 1, 0, 0] s h .normal (W8 (W8 s 33 v0 34 v7 35 v0 36 v7 37 r37 38 v0 39 v7 40 r37) 41 r41 42 r42 43 v0 44 v7 45 r45 46 r46 47 r45 48 r41) g2 :=
 Runs.drawn hp (RunP.q (v := v0) rfl rfl (aY rfl i0) (RunP.q (v := v7) rfl rfl (aY rfl i7) (RunP.q (v := v0) rfl rfl (aY rfl i0) (RunP.q (v := v7) rfl rfl (aY rfl i7) (RunP.q (v := r37) rfl rfl (e9 rfl rfl rfl o37) (RunP.q (v := v0) rfl rfl (aY rfl i0) (RunP.q (v := v7) rfl rfl (aY rfl i7) (RunP.q (v := r37) rfl rfl (e9 rfl rfl rfl o37) (RunP.q (v := r41) rfl rfl (bV rfl rfl rfl o41) (RunP.q (v := r42) rfl rfl (aM rfl rfl o42) (RunP.q (v := v0) rfl rfl (aY rfl i0) (RunP.only (v := v7) rfl rfl (Q1.e (aY rfl i7)) (by simp (decide := true) only [bQ, bO, qX, ev, Fr.putO, aI, reduceIte, Nat.reduceEqDiff, List.filter_cons, List.filter_nil, List.any_cons, List.any_nil, List.all_cons, List.all_nil, List.getElem_toArray, List.getElem_cons_succ, List.getElem_cons_zero, Option.map_some, Option.map_none, aP, bh, Bool.and_true, Bool.true_and, Bool.and_self, i0, i7, o37, o41, o42, q42]) (RunP.only (v := r45) rfl rfl (Q1.e (bV rfl rfl rfl o45)) (by simp (decide := true) only [bQ, bO, qX, ev, Fr.putO, aI, reduceIte, Nat.reduceEqDiff, List.filter_cons, List.filter_nil, List.any_cons, List.any_nil, List.all_cons, List.all_nil, List.getElem_toArray, List.getElem_cons_succ, List.getElem_cons_zero, Option.map_some, Option.map_none, aP, bh, Bool.and_true, Bool.true_and, Bool.and_self, i0, i7, o37, o41, o42, q42, o45]) (RunP.only (v := r46) rfl rfl (Q1.e (aM rfl rfl o46)) (by simp (decide := true) only [bQ, bO, qX, ev, Fr.putO, aI, reduceIte, Nat.reduceEqDiff, List.filter_cons, List.filter_nil, List.any_cons, List.any_nil, List.all_cons, List.all_nil, List.getElem_toArray, List.getElem_cons_succ, List.getElem_cons_zero, Option.map_some, Option.map_none, aP, bh, Bool.and_true, Bool.true_and, Bool.and_self, i0, i7, o37, o41, o42, q42, o45, o46]) (RunP.only (v := r45) rfl rfl (Q1.e (bV rfl rfl rfl o45)) rfl (RunP.only (v := .undef) rfl rfl (eX rfl rfl rfl wg1) rfl (RunP.only (v := r41) rfl rfl (Q1.e (bV rfl rfl rfl o41)) rfl (RunP.only (v := .undef) rfl rfl (eX rfl rfl rfl wg2) rfl (RunP.nil)))))))))))))))))))
theorem Hi {v7 r32 : CV} (i7 : s.at 7 = v7) (o32 : ac K.P .sub 3 v7 (.nu .i64 1) = some r32) : ei K [1, 0, 0, 1, 0, 0, 1, 0, 0, 1, 1] s h .normal (W (W (W s 31 v7) 32 r32) 7 r32) h :=
 rg (Rm rfl rfl i7 (Rb rfl rfl rfl rfl o32 (Ra (v := r32) rfl rfl rfl (RunL.nil))))
theorem Hj {v6 r14 : CV} (i6 : s.at 6 = v6) (o14 : ac K.P .add 3 v6 (.nu .i64 1) = some r14) : ei K [1, 0, 0, 1, 1] s h .normal (W (W (W s 13 v6) 14 r14) 6 r14) h :=
 rg (Rm rfl rfl i6 (Rb rfl rfl rfl rfl o14 (Ra (v := r14) rfl rfl rfl (RunL.nil))))
theorem Hk : Dw K [0] s h .normal (W s 4 ff) h :=
 rg (Ra (v := ff) rfl rfl rfl (RunL.nil))
theorem yT {v0 v1 r15 r16 : CV} {g1 : Hp} (i0 : s.at 0 = v0) (i1 : s.at 1 = v1) (pg1 : K.prim 144 [v0] = none) (wg1 : Comes K 144 [v0] h ff g1) (o11 : az .skp ff ff = some ff) (o15 : ac K.P .lss 3 v0 v1 = some r15) (o16 : az tt r15 ff = some r16) : Dw K [1, 0] s h .normal (W (W4 (W8 s 5 v0 6 ff 7 ff 8 .skp 9 .skp 10 .skp 11 ff 12 ff) 13 v0 14 v1 15 r15 16 r16) 4 r16) g1 :=
 rg (Rm rfl rfl i0 (RunL.call (v := ff) rfl rfl rfl rfl rfl pg1 wg1 (Rm (v := ff) rfl rfl rfl (RunL.pass rfl (RunL.pass rfl (RunL.pass rfl (R1 (v := ff) rfl (aL rfl rfl rfl rfl o11) (Rm (v := ff) rfl rfl rfl (Rm rfl rfl i0 (Rm rfl rfl i1 (Rb rfl rfl rfl rfl o15 (R1 (v := r16) rfl (aL rfl rfl rfl rfl o16) (Ra (v := r16) rfl rfl rfl (RunL.nil))))))))))))))
theorem Hl : q8 K [0] s h .normal (W s 2 n0) h :=
 rg (Ra (v := n0) rfl rfl rfl (RunL.nil))
theorem Hm {v0 r4 : CV} (i0 : s.at 0 = v0) (o4 : ac K.P .geq 157 v0 (.nu .u64 4294967296) = some r4) : q8 K [1, 0, 0] s h .normal (W (W s 3 v0) 4 r4) h :=
 rg (Rm rfl rfl i0 (Rb rfl rfl rfl rfl o4 (RunL.nil)))
theorem Hn {v0 r8 : CV} (i0 : s.at 0 = v0) (o8 : ac K.P .geq 157 v0 (.nu .u64 65536) = some r8) : q8 K [1, 1, 0, 0] s h .normal (W (W s 7 v0) 8 r8) h :=
 rg (Rm rfl rfl i0 (Rb rfl rfl rfl rfl o8 (RunL.nil)))
theorem Ho {v0 r14 : CV} (i0 : s.at 0 = v0) (o14 : ac K.P .geq 157 v0 (.nu .u64 256) = some r14) : q8 K [1, 1, 1, 0, 0] s h .normal (W (W s 13 v0) 14 r14) h :=
 rg (Rm rfl rfl i0 (Rb rfl rfl rfl rfl o14 (RunL.nil)))
theorem DM {v2 v0 r21 r22 r23 r24 : CV} (i2 : s.at 2 = v2) (i0 : s.at 0 = v0) (l21 : cZ K.P v0 (ae K.P 157) (ae K.P 5) = none) (o21 : dl K.P h v0 (ae K.P 157) (ae K.P 5) = some r21) (o22 : bD (ofValue (.string ⟨#[0, 1, 2, 2, 3, 3, 3, 3, 4, 4, 4, 4, 4, 4, 4, 4, 5, 5, 5, 5, 5, 5, 5, 5, 5, 5, 5, 5, 5, 5, 5, 5, 6, 6, 6, 6, 6, 6, 6, 6, 6, 6, 6, 6, 6, 6, 6, 6, 6, 6, 6, 6, 6, 6, 6, 6, 6, 6, 6, 6, 6, 6, 6, 6, 7, 7, 7, 7, 7, 7, 7, 7, 7, 7, 7, 7, 7, 7, 7, 7, 7, 7, 7, 7, 7, 7, 7, 7, 7, 7, 7, 7, 7, 7, 7, 7, 7, 7, 7, 7, 7, 7, 7, 7, 7, 7, 7, 7, 7, 7, 7, 7, 7, 7, 7, 7, 7, 7, 7, 7, 7, 7, 7, 7, 7, 7, 7, 7, 8, 8, 8, 8, 8, 8, 8, 8, 8, 8, 8, 8, 8, 8, 8, 8, 8, 8, 8, 8, 8, 8, 8, 8, 8, 8, 8, 8, 8, 8, 8, 8, 8, 8, 8, 8, 8, 8, 8, 8, 8, 8, 8, 8, 8, 8, 8, 8, 8, 8, 8, 8, 8, 8, 8, 8, 8, 8, 8, 8, 8, 8, 8, 8, 8, 8, 8, 8, 8, 8, 8, 8, 8, 8, 8, 8, 8, 8, 8, 8, 8, 8, 8, 8, 8, 8, 8, 8, 8, 8, 8, 8, 8, 8, 8, 8, 8, 8, 8, 8, 8, 8, 8, 8, 8, 8, 8, 8, 8, 8, 8, 8, 8, 8, 8, 8, 8, 8, 8, 8, 8, 8, 8, 8, 8, 8, 8, 8]⟩)) r21 (ae K.P 9) = some r22) (l23 : cZ K.P r22 (ae K.P 5) (ae K.P 3) = none) (o23 : dl K.P h r22 (ae K.P 5) (ae K.P 3) = some r23) (o24 : ac K.P .add 3 v2 r23 = some r24) : q8 K [1, 1, 1, 1, 0] s h .normal (W (W (W (W4 s 19 v2 20 v0 21 r21 22 r22) 23 r23) 24 r24) 2 r24) h :=
 rg (Rm rfl rfl i2 (Rm rfl rfl i0 (R1 (v := r21) rfl (qi rfl rfl l21 o21) (R1 (v := r22) rfl (eW rfl rfl rfl o22) (R1 (v := r23) rfl (qi rfl rfl l23 o23) (Rb rfl rfl rfl rfl o24 (Ra (v := r24) rfl rfl rfl (RunL.nil))))))))
end Go.CP
