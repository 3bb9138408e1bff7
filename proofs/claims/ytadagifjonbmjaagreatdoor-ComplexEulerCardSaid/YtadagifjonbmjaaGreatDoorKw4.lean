import Derived.Test.YtadagifjonbmjaaGreatDoorKq0
import Derived.Test.YtadagifjonbmjaaGreatDoorProg
set_option linter.all false
set_option maxHeartbeats 2000000
/- The regions of some functions, at whatever their slots hold. -/
namespace Go.CP
open Go.Proofs
abbrev X34 [LG] [HK] (K : Ctx) (p : List Nat) := Runs K 34 42 none (sub1 p (bodyOf Tryz.f34))
abbrev X35 [LG] [HK] (K : Ctx) (p : List Nat) := Runs K 35 30 none (sub1 p (bodyOf Tryz.f35))
abbrev X47 [LG] [HK] (K : Ctx) (p : List Nat) := Runs K 47 21 none (sub1 p (bodyOf Tryz.f47))
abbrev X94 [LG] [HK] (K : Ctx) (p : List Nat) := Runs K 94 13 none (sub1 p (bodyOf Tryz.f94))
abbrev X95 [LG] [HK] (K : Ctx) (p : List Nat) := Runs K 95 19 none (sub1 p (bodyOf Tryz.f95))
abbrev X97 [LG] [HK] (K : Ctx) (p : List Nat) := Runs K 97 9 none (sub1 p (bodyOf Tryz.f97))
variable [LG] [HK] {K : Ctx} {s : Fr} {h : Hp} (hk : ∀ o, HK.keep o = false)
include hk
theorem f34_r0 : X34 K [0] s h .normal (W (W s 2 .nils) 3 n0) h :=
  rg (Ra (v := .nils) rfl rfl rfl (Ra (v := n0) rfl rfl rfl (RunL.nil)))
theorem f34_r1 {v0 r9 : CV} {g1 : Hp} (i0 : s.at 0 = v0) (pg1 : K.prim 26 [v0] = none) (wg1 : Comes K 26 [v0] h r9 g1) : X34 K [1, 0, 0] s h .normal (W (W (W s 8 v0) 9 r9) 4 r9) g1 :=
  rg (Rm rfl rfl i0 (RunL.call (v := r9) rfl rfl rfl rfl rfl pg1 wg1 (Ra (v := r9) rfl rfl rfl (RunL.nil))))
theorem f34_r2_T {v4 r16 : CV} (i4 : s.at 4 = v4) (o11 : bineq K.P .neq 29 v4 n0 = some tt) (o16 : qPick tt .skp tt = some r16) : X34 K [1, 0, 1, 0] s h .normal (W (W (W (W (W (W (W s 10 v4) 11 tt) 12 tt) 13 .skp) 14 .skp) 15 .skp) 16 r16) h :=
  rg (Rm rfl rfl i4 (Rb rfl rfl rfl rfl o11 (Rm (v := tt) rfl rfl rfl (RunL.pass rfl (RunL.pass rfl (RunL.pass rfl (R1 (v := r16) rfl (Q_pick rfl rfl rfl rfl o16) (RunL.nil))))))))
theorem f34_r2_F {v4 v0 r14 r15 r16 : CV} (i4 : s.at 4 = v4) (i0 : s.at 0 = v0) (o11 : bineq K.P .neq 29 v4 n0 = some ff) (o14 : qLen h v0 (tyk K.P 22) = some r14) (o15 : bineq K.P .eql 3 r14 n0 = some r15) (o16 : qPick tt r15 ff = some r16) : X34 K [1, 0, 1, 0] s h .normal (W (W (W (W (W (W (W s 10 v4) 11 ff) 12 ff) 13 v0) 14 r14) 15 r15) 16 r16) h :=
  rg (Rm rfl rfl i4 (Rb rfl rfl rfl rfl o11 (Rm (v := ff) rfl rfl rfl (Rm rfl rfl i0 (R1 (v := r14) rfl (Q_len rfl rfl rfl rfl rfl o14) (Rb rfl rfl rfl rfl o15 (R1 (v := r16) rfl (Q_pick rfl rfl rfl rfl o16) (RunL.nil))))))))
theorem f34_r3 {v4 : CV} (i4 : s.at 4 = v4) : X34 K [1, 0, 1, 1, 0, 0] s h .normal (W (W (W s 17 v4) 2 .nils) 3 v4) h :=
  rg (Rm rfl rfl i4 (Ra (v := .nils) rfl rfl rfl (Ra (v := v4) rfl rfl rfl (RunL.nil))))
theorem f34_r4 {v0 r20 r21 r22 r23 r24 : CV} {F25 : Nat → CV} {B25 : HB} (i0 : s.at 0 = v0) (o20 : qLen h v0 (tyk K.P 22) = some r20) (o21 : bineq K.P .sub 3 r20 (.nu .i64 1) = some r21) (o22 : qIndexAddr v0 r21 (tyk K.P 22) = some r22) (o23 : qLoad h r22 (tsz K.P 46) = some r23) (o24 : qLen h r23 (tyk K.P 46) = some r24) (o25 : lMake r24 r24 (tyk K.P 45) = some (F25, B25)) : X34 K [1, 1, 0] s h .normal (W (W (W (W (W (W (W (W (W s 18 v0) 19 v0) 20 r20) 21 r21) 22 r22) 23 r23) 24 r24) 25 (F25 (h).n)) 5 (F25 (h).n)) (h.push B25) :=
  rg (Rm rfl rfl i0 (Rm rfl rfl i0 (R1 (v := r20) rfl (Q_len rfl rfl rfl rfl rfl o20) (Rb rfl rfl rfl rfl o21 (R1 (v := r22) rfl (Q_ia rfl rfl rfl o22) (R1 (v := r23) rfl (Q_load rfl rfl o23) (R1 (v := r24) rfl (Q_len rfl rfl rfl rfl rfl o24) (RunL.op (v := (F25 (h).n)) rfl (L_make rfl rfl rfl o25) (Ra (v := (F25 (h).n)) rfl rfl rfl (RunL.nil))))))))))
theorem f34_r5 {v0 r27 : CV} (i0 : s.at 0 = v0) (o27 : qLen h v0 (tyk K.P 22) = some r27) : X34 K [1, 1, 1, 0, 0] s h .normal (W (W (W s 26 v0) 27 r27) 28 n0) h :=
  rg (Rm rfl rfl i0 (R1 (v := r27) rfl (Q_len rfl rfl rfl rfl rfl o27) (Rm (v := n0) rfl rfl rfl (RunL.nil))))
theorem f34_r6 {v28 v27 r29 : CV} (i28 : s.at 28 = v28) (i27 : s.at 27 = v27) (o29 : bineq K.P .lss 3 v28 v27 = some r29) : X34 K [1, 1, 1, 0, 1, 0, 0, 0] s h .normal (W s 29 r29) h :=
  rg (Rb rfl rfl i28 i27 o29 (RunL.nil))
theorem f34_r7 {v26 v28 r30 r31 : CV} (i26 : s.at 26 = v26) (i28 : s.at 28 = v28) (o30 : qIndexAddr v26 v28 (tyk K.P 22) = some r30) (o31 : qLoad h r30 (tsz K.P 46) = some r31) : X34 K [1, 1, 1, 0, 1, 0, 0, 1, 1, 0, 0, 0] s h .normal (W (W (W s 30 r30) 31 r31) 7 r31) h :=
  rg (R1 (v := r30) rfl (Q_ia rfl i26 i28 o30) (R1 (v := r31) rfl (Q_load rfl rfl o31) (Ra (v := r31) rfl rfl rfl (RunL.nil))))
theorem f34_r8 {v5 v7 r34 r35 r36 r37 r38 : CV} {g1 : Hp} (i5 : s.at 5 = v5) (i7 : s.at 7 = v7) (o34 : qLen h v7 (tyk K.P 46) = some r34) (o35 : bineq K.P .sub 3 r34 (.nu .i64 1) = some r35) (o36 : qIndexAddr v5 r35 (tyk K.P 45) = some r36) (o37 : qLoad h r36 (tsz K.P 3) = some r37) (o38 : bineq K.P .add 3 r37 (.nu .i64 1) = some r38) (wg1 : wStore h r36 r38 (tsz K.P 3) = some (.undef, g1)) : X34 K [1, 1, 1, 0, 1, 0, 0, 1, 1, 0, 0, 1] s h .normal (W (W (W (W (W (W (W (W s 32 v5) 33 v7) 34 r34) 35 r35) 36 r36) 37 r37) 38 r38) 39 r36) g1 :=
  rg (Rm rfl rfl i5 (Rm rfl rfl i7 (R1 (v := r34) rfl (Q_len rfl rfl rfl rfl rfl o34) (Rb rfl rfl rfl rfl o35 (R1 (v := r36) rfl (Q_ia rfl rfl rfl o36) (R1 (v := r37) rfl (Q_load rfl rfl o37) (Rb rfl rfl rfl rfl o38 (R1 (v := r36) rfl (Q_ia rfl rfl rfl o36) (RunL.op (v := .undef) rfl (W_store rfl rfl rfl wg1) (RunL.nil))))))))))
theorem f34_r9 {v28 r40 : CV} (i28 : s.at 28 = v28) (o40 : bineq K.P .add 3 v28 (.nu .i64 1) = some r40) : X34 K [1, 1, 1, 0, 1, 0, 0, 1, 1, 1] s h .normal (W (W s 40 r40) 28 r40) h :=
  rg (Rb rfl rfl i28 rfl o40 (Rm (v := r40) rfl rfl rfl (RunL.nil)))
theorem f34_r10 {v5 : CV} (i5 : s.at 5 = v5) : X34 K [1, 1, 1, 1, 0] s h .normal (W (W (W s 41 v5) 2 v5) 3 n0) h :=
  rg (Rm rfl rfl i5 (Ra (v := v5) rfl rfl rfl (Ra (v := n0) rfl rfl rfl (RunL.nil))))
theorem f35_r0 : X35 K [0] s h .normal (W (W s 2 n0) 3 n0) h :=
  rg (Ra (v := n0) rfl rfl rfl (Ra (v := n0) rfl rfl rfl (RunL.nil)))
theorem f35_r1 {v0 r9 r10 r11 : CV} {g1 : Hp} (i0 : s.at 0 = v0) (pg1 : K.prim 34 [v0] = none) (wg1 : Comes K 34 [v0] h r9 g1) (o10 : qExtract 0 r9 = some r10) (o11 : qExtract 1 r9 = some r11) : X35 K [1, 0] s h .normal (W (W (W (W (W (W (W s 8 v0) 9 r9) 7 r9) 10 r10) 11 r11) 4 r10) 3 r11) g1 :=
  rg (Rm rfl rfl i0 (RunL.call (v := r9) rfl rfl rfl rfl rfl pg1 wg1 (Rm (v := r9) rfl rfl rfl (R1 (v := r10) rfl (Q_extract rfl rfl o10) (R1 (v := r11) rfl (Q_extract rfl rfl o11) (Ra (v := r10) rfl rfl rfl (Ra (v := r11) rfl rfl rfl (RunL.nil))))))))
theorem f35_r2 {v4 r13 : CV} (i4 : s.at 4 = v4) (o13 : qLen h v4 (tyk K.P 45) = some r13) : X35 K [1, 1, 0, 0] s h .normal (W (W (W s 12 v4) 13 r13) 14 n0) h :=
  rg (Rm rfl rfl i4 (R1 (v := r13) rfl (Q_len rfl rfl rfl rfl rfl o13) (Rm (v := n0) rfl rfl rfl (RunL.nil))))
theorem f35_r3 {v14 v13 r15 : CV} (i14 : s.at 14 = v14) (i13 : s.at 13 = v13) (o15 : bineq K.P .lss 3 v14 v13 = some r15) : X35 K [1, 1, 0, 1, 0, 0, 0] s h .normal (W s 15 r15) h :=
  rg (Rb rfl rfl i14 i13 o15 (RunL.nil))
theorem f35_r4 {v14 v12 r17 r18 : CV} (i14 : s.at 14 = v14) (i12 : s.at 12 = v12) (o17 : qIndexAddr v12 v14 (tyk K.P 45) = some r17) (o18 : qLoad h r17 (tsz K.P 3) = some r18) : X35 K [1, 1, 0, 1, 0, 0, 1, 1, 0, 0, 0] s h .normal (W (W (W (W (W s 16 v14) 17 r17) 18 r18) 5 v14) 6 r18) h :=
  rg (Rm rfl rfl i14 (R1 (v := r17) rfl (Q_ia rfl i12 i14 o17) (R1 (v := r18) rfl (Q_load rfl rfl o18) (Ra (v := v14) rfl rfl rfl (Ra (v := r18) rfl rfl rfl (RunL.nil))))))
theorem f35_r5 {v2 v6 v5 r22 r23 r24 r25 r26 : CV} (i2 : s.at 2 = v2) (i6 : s.at 6 = v6) (i5 : s.at 5 = v5) (o22 : bineq K.P .rem 3 v5 (.nu .i64 2) = some r22) (o23 : bineq K.P .mul 3 r22 (.nu .i64 2) = some r23) (o24 : bineq K.P .sub 3 (.nu .i64 1) r23 = some r24) (o25 : bineq K.P .mul 3 v6 r24 = some r25) (o26 : bineq K.P .add 3 v2 r25 = some r26) : X35 K [1, 1, 0, 1, 0, 0, 1, 1, 0, 0, 1] s h .normal (W (W (W (W (W (W (W (W (W s 19 v2) 20 v6) 21 v5) 22 r22) 23 r23) 24 r24) 25 r25) 26 r26) 2 r26) h :=
  rg (Rm rfl rfl i2 (Rm rfl rfl i6 (Rm rfl rfl i5 (Rb rfl rfl rfl rfl o22 (Rb rfl rfl rfl rfl o23 (Rb rfl rfl rfl rfl o24 (Rb rfl rfl rfl rfl o25 (Rb rfl rfl rfl rfl o26 (Ra (v := r26) rfl rfl rfl (RunL.nil))))))))))
theorem f35_r6 {v14 r27 : CV} (i14 : s.at 14 = v14) (o27 : bineq K.P .add 3 v14 (.nu .i64 1) = some r27) : X35 K [1, 1, 0, 1, 0, 0, 1, 1, 1] s h .normal (W (W s 27 r27) 14 r27) h :=
  rg (Rb rfl rfl i14 rfl o27 (Rm (v := r27) rfl rfl rfl (RunL.nil)))
theorem f35_r7 {v2 v3 : CV} (i2 : s.at 2 = v2) (i3 : s.at 3 = v3) : X35 K [1, 1, 1, 0] s h .normal (W (W (W (W s 28 v2) 29 v3) 2 v2) 3 v3) h :=
  rg (Rm rfl rfl i2 (Rm rfl rfl i3 (Ra (v := v2) rfl rfl rfl (Ra (v := v3) rfl rfl rfl (RunL.nil)))))
theorem f47_r0 : X47 K [0] s h .normal (W (W s 4 .nils) 5 n0) h :=
  rg (Ra (v := .nils) rfl rfl rfl (Ra (v := n0) rfl rfl rfl (RunL.nil)))
theorem f47_r1 {v0 v1 r10 : CV} {g1 : Hp} (i0 : s.at 0 = v0) (i1 : s.at 1 = v1) (pg1 : K.prim 94 [v0, v1] = none) (wg1 : Comes K 94 [v0, v1] h r10 g1) : X47 K [1, 0, 0] s h .normal (W (W (W (W s 8 v0) 9 v1) 10 r10) 6 r10) g1 :=
  rg (Rm rfl rfl i0 (Rm rfl rfl i1 (RunL.call (v := r10) rfl rfl rfl rfl rfl pg1 wg1 (Ra (v := r10) rfl rfl rfl (RunL.nil)))))
theorem f47_r2 {v6 r12 : CV} (i6 : s.at 6 = v6) (o12 : bineq K.P .neq 29 v6 n0 = some r12) : X47 K [1, 0, 1, 0] s h .normal (W (W s 11 v6) 12 r12) h :=
  rg (Rm rfl rfl i6 (Rb rfl rfl rfl rfl o12 (RunL.nil)))
theorem f47_r3 {v6 : CV} (i6 : s.at 6 = v6) : X47 K [1, 0, 1, 1, 0, 0] s h .normal (W (W (W s 13 v6) 4 .nils) 5 v6) h :=
  rg (Rm rfl rfl i6 (Ra (v := .nils) rfl rfl rfl (Ra (v := v6) rfl rfl rfl (RunL.nil))))
theorem f47_r4 {v1 r15 : CV} {F7 : Nat → CV} {B7 : HB} {g1 g3 : Hp} (i1 : s.at 1 = v1) (pg1 : K.prim 95 [v1] = none) (wg1 : Comes K 95 [v1] h r15 g1) (o7 : lAlloc 100 (tzero K.P 100) = some (F7, B7)) (wg3 : wStore (g1.push B7) (F7 (g1).n) r15 (tsz K.P 100) = some (.undef, g3)) : X47 K [1, 1, 0] s h .normal (W (W (W s 14 v1) 15 r15) 7 (F7 (g1).n)) g3 :=
  rg (Rm rfl rfl i1 (RunL.call (v := r15) rfl rfl rfl rfl rfl pg1 wg1 (RunL.op (v := (F7 (g1).n)) rfl (L_alloc rfl o7) (RunL.op (v := .undef) rfl (W_store rfl rfl rfl wg3) (RunL.nil)))))
theorem f47_r5 {v0 v7 r18 r19 r20 : CV} {g1 : Hp} (i0 : s.at 0 = v0) (i7 : s.at 7 = v7) (pg1 : K.prim 81 [v0, (.fn 97 [v7])] = none) (wg1 : Comes K 81 [v0, (.fn 97 [v7])] h r18 g1) (o19 : qExtract 0 r18 = some r19) (o20 : qExtract 1 r18 = some r20) : X47 K [1, 1, 1, 0] s h .normal (W (W (W (W (W (W (W s 16 v0) 17 (.fn 97 [v7])) 18 r18) 19 r19) 20 r20) 4 r19) 5 r20) g1 :=
  rg (Rm rfl rfl i0 (R1 (v := (.fn 97 [v7])) rfl (Q_func rfl (by simp only [ev, Fr.putO, Fr.at_set, reduceIte, Nat.reduceEqDiff, List.toList_toArray, List.map_cons, List.map_nil, Option.map_some, Option.map_none, i7]; try rfl)) (RunL.call (v := r18) rfl rfl rfl rfl rfl pg1 wg1 (R1 (v := r19) rfl (Q_extract rfl rfl o19) (R1 (v := r20) rfl (Q_extract rfl rfl o20) (Ra (v := r19) rfl rfl rfl (Ra (v := r20) rfl rfl rfl (RunL.nil))))))))
theorem f94_r0 : X94 K [0] s h .normal (W s 4 n0) h :=
  rg (Ra (v := n0) rfl rfl rfl (RunL.nil))
theorem f94_r1 {v0 r7 : CV} {g1 : Hp} (i0 : s.at 0 = v0) (pg1 : K.prim 26 [v0] = none) (wg1 : Comes K 26 [v0] h r7 g1) : X94 K [1, 0, 0] s h .normal (W (W (W s 6 v0) 7 r7) 5 r7) g1 :=
  rg (Rm rfl rfl i0 (RunL.call (v := r7) rfl rfl rfl rfl rfl pg1 wg1 (Ra (v := r7) rfl rfl rfl (RunL.nil))))
theorem f94_r2 {v5 r9 : CV} (i5 : s.at 5 = v5) (o9 : bineq K.P .neq 29 v5 n0 = some r9) : X94 K [1, 0, 1, 0] s h .normal (W (W s 8 v5) 9 r9) h :=
  rg (Rm rfl rfl i5 (Rb rfl rfl rfl rfl o9 (RunL.nil)))
theorem f94_r3 {v5 : CV} (i5 : s.at 5 = v5) : X94 K [1, 0, 1, 1, 0, 0] s h .normal (W (W s 10 v5) 4 v5) h :=
  rg (Rm rfl rfl i5 (Ra (v := v5) rfl rfl rfl (RunL.nil)))
theorem f94_r4 {v1 r12 : CV} {g1 : Hp} (i1 : s.at 1 = v1) (pg1 : K.prim 26 [v1] = none) (wg1 : Comes K 26 [v1] h r12 g1) : X94 K [1, 1, 0] s h .normal (W (W (W s 11 v1) 12 r12) 4 r12) g1 :=
  rg (Rm rfl rfl i1 (RunL.call (v := r12) rfl rfl rfl rfl rfl pg1 wg1 (Ra (v := r12) rfl rfl rfl (RunL.nil))))
theorem f95_r0 : X95 K [0] s h .normal (W s 2 .nilm) h :=
  rg (Ra (v := .nilm) rfl rfl rfl (RunL.nil))
theorem f95_r1 : X95 K [1, 0] s h .normal (W (W s 6 (.mp (h).n)) 3 (.mp (h).n)) (h.push (.mp [])) :=
  rg (RunL.op (v := (.mp (h).n)) rfl (L_map rfl) (Ra (v := (.mp (h).n)) rfl rfl rfl (RunL.nil)))
theorem f95_r2 {v0 r8 : CV} (i0 : s.at 0 = v0) (o8 : qLen h v0 (tyk K.P 22) = some r8) : X95 K [1, 1, 0, 0] s h .normal (W (W (W s 7 v0) 8 r8) 9 n0) h :=
  rg (Rm rfl rfl i0 (R1 (v := r8) rfl (Q_len rfl rfl rfl rfl rfl o8) (Rm (v := n0) rfl rfl rfl (RunL.nil))))
theorem f95_r3 {v9 v8 r10 : CV} (i9 : s.at 9 = v9) (i8 : s.at 8 = v8) (o10 : bineq K.P .lss 3 v9 v8 = some r10) : X95 K [1, 1, 0, 1, 0, 0, 0] s h .normal (W s 10 r10) h :=
  rg (Rb rfl rfl i9 i8 o10 (RunL.nil))
theorem f95_r4 {v7 v9 r11 r12 : CV} (i7 : s.at 7 = v7) (i9 : s.at 9 = v9) (o11 : qIndexAddr v7 v9 (tyk K.P 22) = some r11) (o12 : qLoad h r11 (tsz K.P 46) = some r12) : X95 K [1, 1, 0, 1, 0, 0, 1, 1, 0, 0, 0] s h .normal (W (W (W s 11 r11) 12 r12) 5 r12) h :=
  rg (R1 (v := r11) rfl (Q_ia rfl i7 i9 o11) (R1 (v := r12) rfl (Q_load rfl rfl o12) (Ra (v := r12) rfl rfl rfl (RunL.nil))))
theorem f95_r5 {v3 v5 r15 : CV} {g1 g2 : Hp} (i3 : s.at 3 = v3) (i5 : s.at 5 = v5) (pg1 : K.prim 71 [v5] = none) (wg1 : Comes K 71 [v5] h r15 g1) (wg2 : wMap K.P g1 v3 r15 v5 (tyk K.P 100) = some (.undef, g2)) : X95 K [1, 1, 0, 1, 0, 0, 1, 1, 0, 0, 1] s h .normal (W (W (W (W s 13 v3) 14 v5) 15 r15) 16 v5) g2 :=
  rg (Rm rfl rfl i3 (Rm rfl rfl i5 (RunL.call (v := r15) rfl rfl rfl rfl rfl pg1 wg1 (Rm rfl rfl i5 (RunL.op (v := .undef) rfl (W_map rfl rfl rfl rfl wg2) (RunL.nil))))))
theorem f95_r6 {v9 r17 : CV} (i9 : s.at 9 = v9) (o17 : bineq K.P .add 3 v9 (.nu .i64 1) = some r17) : X95 K [1, 1, 0, 1, 0, 0, 1, 1, 1] s h .normal (W (W s 17 r17) 9 r17) h :=
  rg (Rb rfl rfl i9 rfl o17 (Rm (v := r17) rfl rfl rfl (RunL.nil)))
theorem f95_r7 {v3 : CV} (i3 : s.at 3 = v3) : X95 K [1, 1, 1, 0] s h .normal (W (W s 18 v3) 2 v3) h :=
  rg (Rm rfl rfl i3 (Ra (v := v3) rfl rfl rfl (RunL.nil)))
theorem f97_r0 : X97 K [0] s h .normal (W s 3 ff) h :=
  rg (Ra (v := ff) rfl rfl rfl (RunL.nil))
theorem f97_r1 {v1 r4 v0 r6 r7 r8 : CV} {g1 : Hp} (hp : K.plan 97 1 = some [.take 0, .only 1 [0], .only 2 [0], .only 3 [], .only 4 [], .only 5 []]) (i1 : s.at 1 = v1) (i0 : s.at 0 = v0) (o4 : qLoad h v1 (tsz K.P 100) = some r4) (q4 : ceq r4 r4 = true) (pg1 : K.prim 71 [v0] = none) (wg1 : Comes K 71 [v0] h r6 g1) (z4_2 : qLoad g1 v1 (tsz K.P 100) = some r4) (o7 : qLookup K.P g1 false r6 r4 (tyk K.P 100) = some r7) (o8 : bineq K.P .neq 46 r7 .nils = some r8) : X97 K [1, 0] s h .normal (W (W (W (W (W (W s 4 r4) 5 v0) 6 r6) 7 r7) 8 r8) 3 r8) g1 :=
  Runs.drawn hp (RunP.q (v := r4) rfl rfl (Q_load rfl i1 o4) (RunP.only (v := v0) rfl rfl (Q1.e (Q_move rfl i0)) (by simp (decide := true) only [pdOk, looks, qX, ev, Fr.putO, Fr.at_set, reduceIte, Nat.reduceEqDiff, List.filter_cons, List.filter_nil, List.any_cons, List.any_nil, List.all_cons, List.all_nil, List.getElem_toArray, List.getElem_cons_succ, List.getElem_cons_zero, Option.map_some, Option.map_none, ofValue_int, qSlice_V, Bool.and_true, Bool.true_and, Bool.and_self, i1, i0, o4, q4]) (RunP.call (v := r6) rfl rfl rfl rfl rfl rfl pg1 wg1 (by simp (decide := true) only [pdOk, looks, qX, ev, Fr.putO, Fr.at_set, reduceIte, Nat.reduceEqDiff, List.filter_cons, List.filter_nil, List.any_cons, List.any_nil, List.all_cons, List.all_nil, List.getElem_toArray, List.getElem_cons_succ, List.getElem_cons_zero, Option.map_some, Option.map_none, ofValue_int, qSlice_V, Bool.and_true, Bool.true_and, Bool.and_self, i1, i0, o4, q4, z4_2]) (RunP.only (v := r7) rfl rfl (Q1.e (Q_lookup rfl rfl rfl o7)) rfl (RunP.only (v := r8) rfl rfl (Q1.e (Q_bin rfl rfl rfl o8)) rfl (RunP.only (v := r8) rfl rfl (Q1.e (Q_assign rfl rfl)) rfl (RunP.nil)))))))
end Go.CP
/- Ways through code without loops, at whatever the slots hold. -/
namespace Go.CP
open Go.Proofs
structure PlansC [LG] [HK] (K : Ctx) : Prop where
  p91_5 : K.plan 91 5 = some [.take 0, .take 1, .take 2, .take 3, .only 4 [3, 2, 1, 0], .only 5 [2, 1, 0], .only 6 [], .only 7 []]
  p93_5 : K.plan 93 5 = some [.take 0, .take 1, .take 2, .take 3, .only 4 [3, 2, 1, 0], .only 5 [2, 1, 0], .only 6 [], .only 7 []]
  p97_1 : K.plan 97 1 = some [.take 0, .only 1 [0], .only 2 [0], .only 3 [], .only 4 [], .only 5 []]
variable [LG] [HK] {K : Ctx} {s : Fr} {h : Hp} (hk : ∀ o, HK.keep o = false) (pr : ∀ f args, K.prim f args = none) (Pl : PlansC K)
include hk pr Pl
theorem f34_b10_tT {v0 r9 : CV} {g1 : Hp} (i0 : s.at 0 = v0) (wg1 : Comes K 26 [v0] h r9 g1) (o11 : bineq K.P .neq 29 r9 n0 = some tt) (o16 : qPick tt .skp tt = some tt) : X34 K [1, 0] s h .ret (W (W (W (W (W (W (W (W (W (W (W (W (W s 8 v0) 9 r9) 4 r9) 10 r9) 11 tt) 12 tt) 13 .skp) 14 .skp) 15 .skp) 16 tt) 17 r9) 2 .nils) 3 r9) g1 :=
  (sq (f34_r1 (h := h) hk i0 (pr _ _) ‹_›) (sq (f34_r2_T (h := g1) (v4 := r9) (r16 := tt) hk rfl ‹_› ‹_›) (cT 16 rfl (sq (f34_r3 (h := g1) (v4 := r9) hk rfl) Runs.ret))))
theorem f34_b10_fT {v0 r9 r14 r15 : CV} {g1 : Hp} (i0 : s.at 0 = v0) (wg1 : Comes K 26 [v0] h r9 g1) (o11 : bineq K.P .neq 29 r9 n0 = some ff) (o14 : qLen g1 v0 (tyk K.P 22) = some r14) (o15 : bineq K.P .eql 3 r14 n0 = some r15) (o16 : qPick tt r15 ff = some tt) : X34 K [1, 0] s h .ret (W (W (W (W (W (W (W (W (W (W (W (W (W s 8 v0) 9 r9) 4 r9) 10 r9) 11 ff) 12 ff) 13 v0) 14 r14) 15 r15) 16 tt) 17 r9) 2 .nils) 3 r9) g1 :=
  (sq (f34_r1 (h := h) hk i0 (pr _ _) ‹_›) (sq (f34_r2_F (h := g1) (v4 := r9) (r16 := tt) hk rfl i0 ‹_› ‹_› ‹_› ‹_›) (cT 16 rfl (sq (f34_r3 (h := g1) (v4 := r9) hk rfl) Runs.ret))))
theorem f34_b10_fF {v0 r9 r14 r15 : CV} {g1 : Hp} (i0 : s.at 0 = v0) (wg1 : Comes K 26 [v0] h r9 g1) (o11 : bineq K.P .neq 29 r9 n0 = some ff) (o14 : qLen g1 v0 (tyk K.P 22) = some r14) (o15 : bineq K.P .eql 3 r14 n0 = some r15) (o16 : qPick tt r15 ff = some ff) : X34 K [1, 0] s h .normal (W (W (W (W (W (W (W (W (W (W s 8 v0) 9 r9) 4 r9) 10 r9) 11 ff) 12 ff) 13 v0) 14 r14) 15 r15) 16 ff) g1 :=
  (sq (f34_r1 (h := h) hk i0 (pr _ _) ‹_›) (sq (f34_r2_F (h := g1) (v4 := r9) (r16 := ff) hk rfl i0 ‹_› ‹_› ‹_› ‹_›) (cF 16 rfl sk)))
theorem f34_b1110100_T {v28 v27 v26 r30 r31 v5 r34 r35 r36 r37 r38 r40 : CV} {g1 : Hp} (i28 : s.at 28 = v28) (i27 : s.at 27 = v27) (i26 : s.at 26 = v26) (i5 : s.at 5 = v5) (o29 : bineq K.P .lss 3 v28 v27 = some tt) (o30 : qIndexAddr v26 v28 (tyk K.P 22) = some r30) (o31 : qLoad h r30 (tsz K.P 46) = some r31) (o34 : qLen h r31 (tyk K.P 46) = some r34) (o35 : bineq K.P .sub 3 r34 (.nu .i64 1) = some r35) (o36 : qIndexAddr v5 r35 (tyk K.P 45) = some r36) (o37 : qLoad h r36 (tsz K.P 3) = some r37) (o38 : bineq K.P .add 3 r37 (.nu .i64 1) = some r38) (wg1 : wStore h r36 r38 (tsz K.P 3) = some (.undef, g1)) (o40 : bineq K.P .add 3 v28 (.nu .i64 1) = some r40) : X34 K [1, 1, 1, 0, 1, 0, 0] s h .normal (W (W (W (W (W (W (W (W (W (W (W (W (W (W s 29 tt) 30 r30) 31 r31) 7 r31) 32 v5) 33 r31) 34 r34) 35 r35) 36 r36) 37 r37) 38 r38) 39 r36) 40 r40) 28 r40) g1 :=
  (sq (f34_r6 (h := h) (r29 := tt) hk i28 i27 ‹_›) (sq (cT 29 rfl sk) (sq (Runs.blockN (sq (f34_r7 (h := h) hk i26 i28 ‹_› ‹_›) (f34_r8 (h := h) (v7 := r31) hk i5 rfl ‹_› ‹_› ‹_› ‹_› ‹_› ‹_›))) (f34_r9 (h := g1) hk i28 ‹_›))))
theorem f34_b1110100_F {v28 v27 : CV} (i28 : s.at 28 = v28) (i27 : s.at 27 = v27) (o29 : bineq K.P .lss 3 v28 v27 = some ff) : X34 K [1, 1, 1, 0, 1, 0, 0] s h (.exit 0) (W s 29 ff) h :=
  (sq (f34_r6 (h := h) (r29 := ff) hk i28 i27 ‹_›) (sx (cF 29 rfl Runs.exit) (by simp)))
theorem f34_b1111 {v5 : CV} (i5 : s.at 5 = v5) : X34 K [1, 1, 1, 1] s h .ret (W (W (W s 41 v5) 2 v5) 3 n0) h :=
  (sq (f34_r10 (h := h) hk i5) Runs.ret)
theorem f35_b110100_T {v14 v13 v12 r17 r18 v2 r22 r23 r24 r25 r26 r27 : CV} (i14 : s.at 14 = v14) (i13 : s.at 13 = v13) (i12 : s.at 12 = v12) (i2 : s.at 2 = v2) (o15 : bineq K.P .lss 3 v14 v13 = some tt) (o17 : qIndexAddr v12 v14 (tyk K.P 45) = some r17) (o18 : qLoad h r17 (tsz K.P 3) = some r18) (o22 : bineq K.P .rem 3 v14 (.nu .i64 2) = some r22) (o23 : bineq K.P .mul 3 r22 (.nu .i64 2) = some r23) (o24 : bineq K.P .sub 3 (.nu .i64 1) r23 = some r24) (o25 : bineq K.P .mul 3 r18 r24 = some r25) (o26 : bineq K.P .add 3 v2 r25 = some r26) (o27 : bineq K.P .add 3 v14 (.nu .i64 1) = some r27) : X35 K [1, 1, 0, 1, 0, 0] s h .normal (W (W (W (W (W (W (W (W (W (W (W (W (W (W (W (W (W s 15 tt) 16 v14) 17 r17) 18 r18) 5 v14) 6 r18) 19 v2) 20 r18) 21 v14) 22 r22) 23 r23) 24 r24) 25 r25) 26 r26) 2 r26) 27 r27) 14 r27) h :=
  (sq (f35_r3 (h := h) (r15 := tt) hk i14 i13 ‹_›) (sq (cT 15 rfl sk) (sq (Runs.blockN (sq (f35_r4 (h := h) hk i14 i12 ‹_› ‹_›) (f35_r5 (h := h) (v6 := r18) (v5 := v14) hk i2 rfl rfl ‹_› ‹_› ‹_› ‹_› ‹_›))) (f35_r6 (h := h) hk i14 ‹_›))))
theorem f35_b110100_F {v14 v13 : CV} (i14 : s.at 14 = v14) (i13 : s.at 13 = v13) (o15 : bineq K.P .lss 3 v14 v13 = some ff) : X35 K [1, 1, 0, 1, 0, 0] s h (.exit 0) (W s 15 ff) h :=
  (sq (f35_r3 (h := h) (r15 := ff) hk i14 i13 ‹_›) (sx (cF 15 rfl Runs.exit) (by simp)))
theorem f35_b111 {v2 v3 : CV} (i2 : s.at 2 = v2) (i3 : s.at 3 = v3) : X35 K [1, 1, 1] s h .ret (W (W (W (W s 28 v2) 29 v3) 2 v2) 3 v3) h :=
  (sq (f35_r7 (h := h) hk i2 i3) Runs.ret)
theorem f47_b_T {v0 v1 r10 : CV} {g1 : Hp} (i0 : s.at 0 = v0) (i1 : s.at 1 = v1) (wg1 : Comes K 94 [v0, v1] h r10 g1) (o12 : bineq K.P .neq 29 r10 n0 = some tt) : X47 K [] s h .ret (W (W (W (W (W (W (W (W (W (W (W s 4 .nils) 5 n0) 8 v0) 9 v1) 10 r10) 6 r10) 11 r10) 12 tt) 13 r10) 4 .nils) 5 r10) g1 :=
  (sq (f47_r0 (h := h) hk) (sx (sq (f47_r1 (h := h) hk i0 i1 (pr _ _) ‹_›) (sq (f47_r2 (h := g1) (v6 := r10) (r12 := tt) hk rfl ‹_›) (cT 12 rfl (sq (f47_r3 (h := g1) (v6 := r10) hk rfl) Runs.ret)))) (by simp)))
theorem f47_b_F {v0 v1 r10 r15 r18 r19 r20 : CV} {F7 : Nat → CV} {B7 : HB} {g1 g2 g4 g5 : Hp} (i0 : s.at 0 = v0) (i1 : s.at 1 = v1) (wg1 : Comes K 94 [v0, v1] h r10 g1) (o12 : bineq K.P .neq 29 r10 n0 = some ff) (wg2 : Comes K 95 [v1] g1 r15 g2) (o7 : lAlloc 100 (tzero K.P 100) = some (F7, B7)) (wg4 : wStore (g2.push B7) (F7 (g2).n) r15 (tsz K.P 100) = some (.undef, g4)) (wg5 : Comes K 81 [v0, (.fn 97 [(F7 (g2).n)])] g4 r18 g5) (o19 : qExtract 0 r18 = some r19) (o20 : qExtract 1 r18 = some r20) : X47 K [] s h .ret (W (W (W (W (W (W (W (W (W (W (W (W (W (W (W (W (W (W s 4 .nils) 5 n0) 8 v0) 9 v1) 10 r10) 6 r10) 11 r10) 12 ff) 14 v1) 15 r15) 7 (F7 (g2).n)) 16 v0) 17 (.fn 97 [(F7 (g2).n)])) 18 r18) 19 r19) 20 r20) 4 r19) 5 r20) g5 :=
  (sq (f47_r0 (h := h) hk) (sq (sq (f47_r1 (h := h) hk i0 i1 (pr _ _) ‹_›) (sq (f47_r2 (h := g1) (v6 := r10) (r12 := ff) hk rfl ‹_›) (cF 12 rfl sk))) (sq (f47_r4 (h := g1) (g1 := g2) (g3 := g4) hk i1 (pr _ _) ‹_› ‹_› ‹_›) (sq (f47_r5 (h := g4) (v7 := (F7 (g2).n)) (g1 := g5) hk i0 rfl (pr _ _) ‹_› ‹_› ‹_›) Runs.ret))))
theorem f94_b_T {v0 r7 : CV} {g1 : Hp} (i0 : s.at 0 = v0) (wg1 : Comes K 26 [v0] h r7 g1) (o9 : bineq K.P .neq 29 r7 n0 = some tt) : X94 K [] s h .ret (W (W (W (W (W (W (W (W s 4 n0) 6 v0) 7 r7) 5 r7) 8 r7) 9 tt) 10 r7) 4 r7) g1 :=
  (sq (f94_r0 (h := h) hk) (sx (sq (f94_r1 (h := h) hk i0 (pr _ _) ‹_›) (sq (f94_r2 (h := g1) (v5 := r7) (r9 := tt) hk rfl ‹_›) (cT 9 rfl (sq (f94_r3 (h := g1) (v5 := r7) hk rfl) Runs.ret)))) (by simp)))
theorem f94_b_F {v0 r7 v1 r12 : CV} {g1 g2 : Hp} (i0 : s.at 0 = v0) (i1 : s.at 1 = v1) (wg1 : Comes K 26 [v0] h r7 g1) (o9 : bineq K.P .neq 29 r7 n0 = some ff) (wg2 : Comes K 26 [v1] g1 r12 g2) : X94 K [] s h .ret (W (W (W (W (W (W (W (W (W s 4 n0) 6 v0) 7 r7) 5 r7) 8 r7) 9 ff) 11 v1) 12 r12) 4 r12) g2 :=
  (sq (f94_r0 (h := h) hk) (sq (sq (f94_r1 (h := h) hk i0 (pr _ _) ‹_›) (sq (f94_r2 (h := g1) (v5 := r7) (r9 := ff) hk rfl ‹_›) (cF 9 rfl sk))) (sq (f94_r4 (h := g1) (g1 := g2) hk i1 (pr _ _) ‹_›) Runs.ret)))
theorem f95_b110100_T {v9 v8 v7 r11 r12 v3 r15 r17 : CV} {g1 g2 : Hp} (i9 : s.at 9 = v9) (i8 : s.at 8 = v8) (i7 : s.at 7 = v7) (i3 : s.at 3 = v3) (o10 : bineq K.P .lss 3 v9 v8 = some tt) (o11 : qIndexAddr v7 v9 (tyk K.P 22) = some r11) (o12 : qLoad h r11 (tsz K.P 46) = some r12) (wg1 : Comes K 71 [r12] h r15 g1) (wg2 : wMap K.P g1 v3 r15 r12 (tyk K.P 100) = some (.undef, g2)) (o17 : bineq K.P .add 3 v9 (.nu .i64 1) = some r17) : X95 K [1, 1, 0, 1, 0, 0] s h .normal (W (W (W (W (W (W (W (W (W (W s 10 tt) 11 r11) 12 r12) 5 r12) 13 v3) 14 r12) 15 r15) 16 r12) 17 r17) 9 r17) g2 :=
  (sq (f95_r3 (h := h) (r10 := tt) hk i9 i8 ‹_›) (sq (cT 10 rfl sk) (sq (Runs.blockN (sq (f95_r4 (h := h) hk i7 i9 ‹_› ‹_›) (f95_r5 (h := h) (v5 := r12) hk i3 rfl (pr _ _) ‹_› ‹_›))) (f95_r6 (h := g2) hk i9 ‹_›))))
theorem f95_b110100_F {v9 v8 : CV} (i9 : s.at 9 = v9) (i8 : s.at 8 = v8) (o10 : bineq K.P .lss 3 v9 v8 = some ff) : X95 K [1, 1, 0, 1, 0, 0] s h (.exit 0) (W s 10 ff) h :=
  (sq (f95_r3 (h := h) (r10 := ff) hk i9 i8 ‹_›) (sx (cF 10 rfl Runs.exit) (by simp)))
theorem f95_b111 {v3 : CV} (i3 : s.at 3 = v3) : X95 K [1, 1, 1] s h .ret (W (W s 18 v3) 2 v3) h :=
  (sq (f95_r7 (h := h) hk i3) Runs.ret)
theorem f97_b {v1 r4 v0 r6 r7 r8 : CV} {g1 : Hp} (i1 : s.at 1 = v1) (i0 : s.at 0 = v0) (o4 : qLoad h v1 (tsz K.P 100) = some r4) (q4 : ceq r4 r4 = true) (wg1 : Comes K 71 [v0] h r6 g1) (z4_2 : qLoad g1 v1 (tsz K.P 100) = some r4) (o7 : qLookup K.P g1 false r6 r4 (tyk K.P 100) = some r7) (o8 : bineq K.P .neq 46 r7 .nils = some r8) : X97 K [] s h .ret (W (W (W (W (W (W (W s 3 ff) 4 r4) 5 v0) 6 r6) 7 r7) 8 r8) 3 r8) g1 :=
  (sq (f97_r0 (h := h) hk) (sq (f97_r1 (h := h) hk Pl.p97_1 i1 i0 ‹_› ‹_› (pr _ _) ‹_› ‹_› ‹_› ‹_›) Runs.ret))
end Go.CP
/- The regions of some functions, at whatever their slots hold. -/
namespace Go.CP
open Go.Proofs
variable [LG] [HK] {K : Ctx} {s : Fr} {h : Hp} (hk : ∀ o, HK.keep o = false)
include hk
end Go.CP
/- Ways through code without loops, at whatever the slots hold. -/
namespace Go.CP
open Go.Proofs
structure PlansN [LG] [HK] (K : Ctx) : Prop where
  p91_5 : K.plan 91 5 = some [.take 0, .take 1, .take 2, .take 3, .only 4 [3, 2, 1, 0], .only 5 [2, 1, 0], .only 6 [], .only 7 []]
  p93_5 : K.plan 93 5 = some [.take 0, .take 1, .take 2, .take 3, .only 4 [3, 2, 1, 0], .only 5 [2, 1, 0], .only 6 [], .only 7 []]
variable [LG] [HK] {K : Ctx} {s : Fr} {h : Hp} (hk : ∀ o, HK.keep o = false) (pr : ∀ f args, K.prim f args = none) (Pl : PlansN K)
include hk pr Pl
end Go.CP
