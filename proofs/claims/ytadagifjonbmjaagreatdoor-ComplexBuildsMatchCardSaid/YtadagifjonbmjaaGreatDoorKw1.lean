import Derived.Test.YtadagifjonbmjaaGreatDoorKq0
import Derived.Test.YtadagifjonbmjaaGreatDoorProg
set_option linter.all false
set_option maxHeartbeats 2000000
/- The regions of some functions, at whatever their slots hold. -/
namespace Go.CP
open Go.Proofs
abbrev X25 [LG] [HK] (K : Ctx) (p : List Nat) := Runs K 25 46 none (sub1 p (bodyOf Tryz.f25))
abbrev X44 [LG] [HK] (K : Ctx) (p : List Nat) := Runs K 44 30 none (sub1 p (bodyOf Tryz.f44))
abbrev X45 [LG] [HK] (K : Ctx) (p : List Nat) := Runs K 45 21 none (sub1 p (bodyOf Tryz.f45))
abbrev X46 [LG] [HK] (K : Ctx) (p : List Nat) := Runs K 46 24 none (sub1 p (bodyOf Tryz.f46))
abbrev X48 [LG] [HK] (K : Ctx) (p : List Nat) := Runs K 48 21 none (sub1 p (bodyOf Tryz.f48))
abbrev X49 [LG] [HK] (K : Ctx) (p : List Nat) := Runs K 49 28 none (sub1 p (bodyOf Tryz.f49))
abbrev X70 [LG] [HK] (K : Ctx) (p : List Nat) := Runs K 70 23 none (sub1 p (bodyOf Tryz.f70))
abbrev X72 [LG] [HK] (K : Ctx) (p : List Nat) := Runs K 72 20 none (sub1 p (bodyOf Tryz.f72))
abbrev X96 [LG] [HK] (K : Ctx) (p : List Nat) := Runs K 96 36 none (sub1 p (bodyOf Tryz.f96))
abbrev X115 [LG] [HK] (K : Ctx) (p : List Nat) := Runs K 115 6 none (sub1 p (bodyOf Tryz.f115))
abbrev X128 [LG] [HK] (K : Ctx) (p : List Nat) := Runs K 128 27 none (sub1 p (bodyOf Tryz.f128))
abbrev X8 [LG] [HK] (K : Ctx) (p : List Nat) := Runs K 8 140 none (sub1 p (bodyOf Tryz.f8))
variable [LG] [HK] {K : Ctx} {s : Fr} {h : Hp} (hk : ∀ o, HK.keep o = false)
include hk
theorem f25_r0 : X25 K [0] s h .normal (W (W s 2 .nils) 3 n0) h :=
  rg (Ra (v := .nils) rfl rfl rfl (Ra (v := n0) rfl rfl rfl (RunL.nil)))
theorem f25_r1 {v0 r12 r13 : CV} (i0 : s.at 0 = v0) (o12 : qLen h v0 (tyk K.P 22) = some r12) (o13 : bineq K.P .gtr 3 r12 (.nu .i64 1024) = some r13) : X25 K [1, 0, 0] s h .normal (W (W (W s 11 v0) 12 r12) 13 r13) h :=
  rg (Rm rfl rfl i0 (R1 (v := r12) rfl (Q_len rfl rfl rfl rfl rfl o12) (Rb rfl rfl rfl rfl o13 (RunL.nil))))
theorem f25_r2 : X25 K [1, 0, 1, 0, 0] s h .normal (W (W s 2 .nils) 3 (.nu .i64 3)) h :=
  rg (Ra (v := .nils) rfl rfl rfl (Ra (v := (.nu .i64 3)) rfl rfl rfl (RunL.nil)))
theorem f25_r3 : X25 K [1, 1, 0] s h .normal (W (W s 14 (.mp (h).n)) 4 (.mp (h).n)) (h.push (.mp [])) :=
  rg (RunL.op (v := (.mp (h).n)) rfl (L_map rfl) (Ra (v := (.mp (h).n)) rfl rfl rfl (RunL.nil)))
theorem f25_r4 {v0 r16 : CV} (i0 : s.at 0 = v0) (o16 : qLen h v0 (tyk K.P 22) = some r16) : X25 K [1, 1, 1, 0, 0] s h .normal (W (W (W s 15 v0) 16 r16) 17 n0) h :=
  rg (Rm rfl rfl i0 (R1 (v := r16) rfl (Q_len rfl rfl rfl rfl rfl o16) (Rm (v := n0) rfl rfl rfl (RunL.nil))))
theorem f25_r5 {v17 v16 r18 : CV} (i17 : s.at 17 = v17) (i16 : s.at 16 = v16) (o18 : bineq K.P .lss 3 v17 v16 = some r18) : X25 K [1, 1, 1, 0, 1, 0, 0, 0] s h .normal (W s 18 r18) h :=
  rg (Rb rfl rfl i17 i16 o18 (RunL.nil))
theorem f25_r6 {v15 v17 r19 r20 : CV} (i15 : s.at 15 = v15) (i17 : s.at 17 = v17) (o19 : qIndexAddr v15 v17 (tyk K.P 22) = some r19) (o20 : qLoad h r19 (tsz K.P 46) = some r20) : X25 K [1, 1, 1, 0, 1, 0, 0, 1, 1, 0, 0, 0] s h .normal (W (W (W s 19 r19) 20 r20) 6 r20) h :=
  rg (R1 (v := r19) rfl (Q_ia rfl i15 i17 o19) (R1 (v := r20) rfl (Q_load rfl rfl o20) (Ra (v := r20) rfl rfl rfl (RunL.nil))))
theorem f25_r7 {v6 r23 r24 r25 : CV} {g1 : Hp} (i6 : s.at 6 = v6) (pg1 : K.prim 70 [v6] = none) (wg1 : Comes K 70 [v6] h r23 g1) (o24 : qExtract 0 r23 = some r24) (o25 : qExtract 1 r23 = some r25) : X25 K [1, 1, 1, 0, 1, 0, 0, 1, 1, 0, 0, 1, 0] s h .normal (W (W (W (W (W (W (W s 22 v6) 23 r23) 21 r23) 24 r24) 25 r25) 7 r24) 8 r25) g1 :=
  rg (Rm rfl rfl i6 (RunL.call (v := r23) rfl rfl rfl rfl rfl pg1 wg1 (Rm (v := r23) rfl rfl rfl (R1 (v := r24) rfl (Q_extract rfl rfl o24) (R1 (v := r25) rfl (Q_extract rfl rfl o25) (Ra (v := r24) rfl rfl rfl (Ra (v := r25) rfl rfl rfl (RunL.nil))))))))
theorem f25_r8 {v8 r27 : CV} (i8 : s.at 8 = v8) (o27 : bineq K.P .neq 29 v8 n0 = some r27) : X25 K [1, 1, 1, 0, 1, 0, 0, 1, 1, 0, 0, 1, 1, 0, 0] s h .normal (W (W s 26 v8) 27 r27) h :=
  rg (Rm rfl rfl i8 (Rb rfl rfl rfl rfl o27 (RunL.nil)))
theorem f25_r9 {v8 : CV} (i8 : s.at 8 = v8) : X25 K [1, 1, 1, 0, 1, 0, 0, 1, 1, 0, 0, 1, 1, 0, 1, 0, 0] s h .normal (W (W (W s 28 v8) 2 .nils) 3 v8) h :=
  rg (Rm rfl rfl i8 (Ra (v := .nils) rfl rfl rfl (Ra (v := v8) rfl rfl rfl (RunL.nil))))
theorem f25_r10 {v7 r30 : CV} (i7 : s.at 7 = v7) (o30 : qLen h v7 (tyk K.P 22) = some r30) : X25 K [1, 1, 1, 0, 1, 0, 0, 1, 1, 0, 0, 1, 1, 1, 0] s h .normal (W (W (W s 29 v7) 30 r30) 31 n0) h :=
  rg (Rm rfl rfl i7 (R1 (v := r30) rfl (Q_len rfl rfl rfl rfl rfl o30) (Rm (v := n0) rfl rfl rfl (RunL.nil))))
theorem f25_r11 {v31 v30 r32 : CV} (i31 : s.at 31 = v31) (i30 : s.at 30 = v30) (o32 : bineq K.P .lss 3 v31 v30 = some r32) : X25 K [1, 1, 1, 0, 1, 0, 0, 1, 1, 0, 0, 1, 1, 1, 1, 0, 0, 0] s h .normal (W s 32 r32) h :=
  rg (Rb rfl rfl i31 i30 o32 (RunL.nil))
theorem f25_r12 {v29 v31 r33 r34 : CV} (i29 : s.at 29 = v29) (i31 : s.at 31 = v31) (o33 : qIndexAddr v29 v31 (tyk K.P 22) = some r33) (o34 : qLoad h r33 (tsz K.P 46) = some r34) : X25 K [1, 1, 1, 0, 1, 0, 0, 1, 1, 0, 0, 1, 1, 1, 1, 0, 0, 1, 1, 0, 0, 0] s h .normal (W (W (W s 33 r33) 34 r34) 10 r34) h :=
  rg (R1 (v := r33) rfl (Q_ia rfl i29 i31 o33) (R1 (v := r34) rfl (Q_load rfl rfl o34) (Ra (v := r34) rfl rfl rfl (RunL.nil))))
theorem f25_r13 {v4 v10 r37 : CV} {g1 g2 : Hp} (i4 : s.at 4 = v4) (i10 : s.at 10 = v10) (pg1 : K.prim 71 [v10] = none) (wg1 : Comes K 71 [v10] h r37 g1) (wg2 : wMap K.P g1 v4 r37 v10 (tyk K.P 100) = some (.undef, g2)) : X25 K [1, 1, 1, 0, 1, 0, 0, 1, 1, 0, 0, 1, 1, 1, 1, 0, 0, 1, 1, 0, 0, 1] s h .normal (W (W (W (W s 35 v4) 36 v10) 37 r37) 38 v10) g2 :=
  rg (Rm rfl rfl i4 (Rm rfl rfl i10 (RunL.call (v := r37) rfl rfl rfl rfl rfl pg1 wg1 (Rm rfl rfl i10 (RunL.op (v := .undef) rfl (W_map rfl rfl rfl rfl wg2) (RunL.nil))))))
theorem f25_r14 {v31 r39 : CV} (i31 : s.at 31 = v31) (o39 : bineq K.P .add 3 v31 (.nu .i64 1) = some r39) : X25 K [1, 1, 1, 0, 1, 0, 0, 1, 1, 0, 0, 1, 1, 1, 1, 0, 0, 1, 1, 1] s h .normal (W (W s 39 r39) 31 r39) h :=
  rg (Rb rfl rfl i31 rfl o39 (Rm (v := r39) rfl rfl rfl (RunL.nil)))
theorem f25_r15 {v17 r40 : CV} (i17 : s.at 17 = v17) (o40 : bineq K.P .add 3 v17 (.nu .i64 1) = some r40) : X25 K [1, 1, 1, 0, 1, 0, 0, 1, 1, 1] s h .normal (W (W s 40 r40) 17 r40) h :=
  rg (Rb rfl rfl i17 rfl o40 (Rm (v := r40) rfl rfl rfl (RunL.nil)))
theorem f25_r16 {v4 r42 r43 : CV} (i4 : s.at 4 = v4) (o42 : qLen h v4 (tyk K.P 100) = some r42) (o43 : bineq K.P .gtr 3 r42 (.nu .i64 1024) = some r43) : X25 K [1, 1, 1, 1, 0, 0] s h .normal (W (W (W s 41 v4) 42 r42) 43 r43) h :=
  rg (Rm rfl rfl i4 (R1 (v := r42) rfl (Q_len rfl rfl rfl rfl rfl o42) (Rb rfl rfl rfl rfl o43 (RunL.nil))))
theorem f25_r17 : X25 K [1, 1, 1, 1, 0, 1, 0, 0] s h .normal (W (W s 2 .nils) 3 (.nu .i64 3)) h :=
  rg (Ra (v := .nils) rfl rfl rfl (Ra (v := (.nu .i64 3)) rfl rfl rfl (RunL.nil)))
theorem f25_r18 {v4 r45 : CV} {g1 : Hp} (i4 : s.at 4 = v4) (pg1 : K.prim 72 [v4] = none) (wg1 : Comes K 72 [v4] h r45 g1) : X25 K [1, 1, 1, 1, 1, 0] s h .normal (W (W (W (W s 44 v4) 45 r45) 2 r45) 3 n0) g1 :=
  rg (Rm rfl rfl i4 (RunL.call (v := r45) rfl rfl rfl rfl rfl pg1 wg1 (Ra (v := r45) rfl rfl rfl (Ra (v := n0) rfl rfl rfl (RunL.nil)))))
theorem f44_r0 : X44 K [0] s h .normal (W (W s 2 .nils) 3 n0) h :=
  rg (Ra (v := .nils) rfl rfl rfl (Ra (v := n0) rfl rfl rfl (RunL.nil)))
theorem f44_r1 {v0 r8 r9 : CV} (i0 : s.at 0 = v0) (o8 : qLen h v0 (tyk K.P 26) = some r8) (o9 : bineq K.P .gtr 3 r8 (.nu .i64 1024) = some r9) : X44 K [1, 0, 0] s h .normal (W (W (W s 7 v0) 8 r8) 9 r9) h :=
  rg (Rm rfl rfl i0 (R1 (v := r8) rfl (Q_len rfl rfl rfl rfl rfl o8) (Rb rfl rfl rfl rfl o9 (RunL.nil))))
theorem f44_r3 : X44 K [1, 1, 0, 0] s h .normal (W s 4 n0) h :=
  rg (Ra (v := n0) rfl rfl rfl (RunL.nil))
theorem f44_r4 {v4 v0 r12 r13 : CV} (i4 : s.at 4 = v4) (i0 : s.at 0 = v0) (o12 : qLen h v0 (tyk K.P 26) = some r12) (o13 : bineq K.P .lss 3 v4 r12 = some r13) : X44 K [1, 1, 0, 1, 0, 0, 0, 0] s h .normal (W (W (W (W s 10 v4) 11 v0) 12 r12) 13 r13) h :=
  rg (Rm rfl rfl i4 (Rm rfl rfl i0 (R1 (v := r12) rfl (Q_len rfl rfl rfl rfl rfl o12) (Rb rfl rfl rfl rfl o13 (RunL.nil)))))
theorem f44_r6 {v0 v4 r18 r19 r20 : CV} {g1 : Hp} (i0 : s.at 0 = v0) (i4 : s.at 4 = v4) (o18 : qIndexAddr v0 v4 (tyk K.P 26) = some r18) (o19 : qLoad h r18 (tsz K.P 45) = some r19) (pg1 : K.prim 57 [r19] = none) (wg1 : Comes K 57 [r19] h r20 g1) : X44 K [1, 1, 0, 1, 0, 0, 1, 0, 0, 0] s h .normal (W (W (W (W (W (W s 16 v0) 17 v4) 18 r18) 19 r19) 20 r20) 5 r20) g1 :=
  rg (Rm rfl rfl i0 (Rm rfl rfl i4 (R1 (v := r18) rfl (Q_ia rfl rfl rfl o18) (R1 (v := r19) rfl (Q_load rfl rfl o19) (RunL.call (v := r20) rfl rfl rfl rfl rfl pg1 wg1 (Ra (v := r20) rfl rfl rfl (RunL.nil)))))))
theorem f44_r7 {v5 r22 : CV} (i5 : s.at 5 = v5) (o22 : bineq K.P .neq 29 v5 n0 = some r22) : X44 K [1, 1, 0, 1, 0, 0, 1, 0, 0, 1, 0] s h .normal (W (W s 21 v5) 22 r22) h :=
  rg (Rm rfl rfl i5 (Rb rfl rfl rfl rfl o22 (RunL.nil)))
theorem f44_r8 {v5 : CV} (i5 : s.at 5 = v5) : X44 K [1, 1, 0, 1, 0, 0, 1, 0, 0, 1, 1, 0, 0] s h .normal (W (W (W s 23 v5) 2 .nils) 3 v5) h :=
  rg (Rm rfl rfl i5 (Ra (v := .nils) rfl rfl rfl (Ra (v := v5) rfl rfl rfl (RunL.nil))))
theorem f44_r5 {v4 r15 : CV} (i4 : s.at 4 = v4) (o15 : bineq K.P .add 3 v4 (.nu .i64 1) = some r15) : X44 K [1, 1, 0, 1, 0, 0, 1, 1] s h .normal (W (W (W s 14 v4) 15 r15) 4 r15) h :=
  rg (Rm rfl rfl i4 (Rb rfl rfl rfl rfl o15 (Ra (v := r15) rfl rfl rfl (RunL.nil))))
theorem f44_r9 {v0 r25 : CV} {g1 : Hp} (i0 : s.at 0 = v0) (pg1 : K.prim 56 [v0] = none) (wg1 : Comes K 56 [v0] h r25 g1) : X44 K [1, 1, 1, 0] s h .normal (W (W (W s 24 v0) 25 r25) 6 r25) g1 :=
  rg (Rm rfl rfl i0 (RunL.call (v := r25) rfl rfl rfl rfl rfl pg1 wg1 (Ra (v := r25) rfl rfl rfl (RunL.nil))))
theorem f44_r10 {v6 r27 r28 : CV} (i6 : s.at 6 = v6) (o27 : qLen h v6 (tyk K.P 26) = some r27) (o28 : bineq K.P .gtr 3 r27 (.nu .i64 1024) = some r28) : X44 K [1, 1, 1, 1, 0, 0] s h .normal (W (W (W s 26 v6) 27 r27) 28 r28) h :=
  rg (Rm rfl rfl i6 (R1 (v := r27) rfl (Q_len rfl rfl rfl rfl rfl o27) (Rb rfl rfl rfl rfl o28 (RunL.nil))))
theorem f44_r11 : X44 K [1, 1, 1, 1, 0, 1, 0, 0] s h .normal (W (W s 2 .nils) 3 (.nu .i64 3)) h :=
  rg (Ra (v := .nils) rfl rfl rfl (Ra (v := (.nu .i64 3)) rfl rfl rfl (RunL.nil)))
theorem f44_r12 {v6 : CV} (i6 : s.at 6 = v6) : X44 K [1, 1, 1, 1, 1, 0] s h .normal (W (W (W s 29 v6) 2 v6) 3 n0) h :=
  rg (Rm rfl rfl i6 (Ra (v := v6) rfl rfl rfl (Ra (v := n0) rfl rfl rfl (RunL.nil))))
theorem f45_r0 {v0 r6 : CV} (i0 : s.at 0 = v0) (o6 : qLen h v0 (tyk K.P 22) = some r6) : X45 K [0] s h .normal (W (W (W s 5 v0) 6 r6) 7 n0) h :=
  rg (Rm rfl rfl i0 (R1 (v := r6) rfl (Q_len rfl rfl rfl rfl rfl o6) (Rm (v := n0) rfl rfl rfl (RunL.nil))))
theorem f45_r1 {v7 v6 r8 : CV} (i7 : s.at 7 = v7) (i6 : s.at 6 = v6) (o8 : bineq K.P .lss 3 v7 v6 = some r8) : X45 K [1, 0, 0, 0] s h .normal (W s 8 r8) h :=
  rg (Rb rfl rfl i7 i6 o8 (RunL.nil))
theorem f45_r2 {v5 v7 r9 r10 : CV} (i5 : s.at 5 = v5) (i7 : s.at 7 = v7) (o9 : qIndexAddr v5 v7 (tyk K.P 22) = some r9) (o10 : qLoad h r9 (tsz K.P 46) = some r10) : X45 K [1, 0, 0, 1, 1, 0, 0, 0] s h .normal (W (W (W s 9 r9) 10 r10) 3 r10) h :=
  rg (R1 (v := r9) rfl (Q_ia rfl i5 i7 o9) (R1 (v := r10) rfl (Q_load rfl rfl o10) (Ra (v := r10) rfl rfl rfl (RunL.nil))))
theorem f45_r3 {v3 r12 : CV} (i3 : s.at 3 = v3) (o12 : qLen h v3 (tyk K.P 46) = some r12) : X45 K [1, 0, 0, 1, 1, 0, 0, 1, 0] s h .normal (W (W (W s 11 v3) 12 r12) 13 n0) h :=
  rg (Rm rfl rfl i3 (R1 (v := r12) rfl (Q_len rfl rfl rfl rfl rfl o12) (Rm (v := n0) rfl rfl rfl (RunL.nil))))
theorem f45_r4 {v13 v12 r14 : CV} (i13 : s.at 13 = v13) (i12 : s.at 12 = v12) (o14 : bineq K.P .lss 3 v13 v12 = some r14) : X45 K [1, 0, 0, 1, 1, 0, 0, 1, 1, 0, 0, 0] s h .normal (W s 14 r14) h :=
  rg (Rb rfl rfl i13 i12 o14 (RunL.nil))
theorem f45_r5 {v13 : CV} (i13 : s.at 13 = v13) : X45 K [1, 0, 0, 1, 1, 0, 0, 1, 1, 0, 0, 1, 1, 0, 0, 0] s h .normal (W (W s 15 v13) 4 v13) h :=
  rg (Rm rfl rfl i13 (Ra (v := v13) rfl rfl rfl (RunL.nil)))
theorem f45_r6 {v3 v4 r18 : CV} {g1 : Hp} (i3 : s.at 3 = v3) (i4 : s.at 4 = v4) (o18 : qIndexAddr v3 v4 (tyk K.P 46) = some r18) (wg1 : wStore h r18 (.nu .i64 (-9)) (tsz K.P 3) = some (.undef, g1)) : X45 K [1, 0, 0, 1, 1, 0, 0, 1, 1, 0, 0, 1, 1, 0, 0, 1] s h .normal (W (W (W s 16 v3) 17 v4) 18 r18) g1 :=
  rg (Rm rfl rfl i3 (Rm rfl rfl i4 (R1 (v := r18) rfl (Q_ia rfl rfl rfl o18) (RunL.op (v := .undef) rfl (W_store rfl rfl rfl wg1) (RunL.nil)))))
theorem f45_r7 {v13 r19 : CV} (i13 : s.at 13 = v13) (o19 : bineq K.P .add 3 v13 (.nu .i64 1) = some r19) : X45 K [1, 0, 0, 1, 1, 0, 0, 1, 1, 0, 0, 1, 1, 1] s h .normal (W (W s 19 r19) 13 r19) h :=
  rg (Rb rfl rfl i13 rfl o19 (Rm (v := r19) rfl rfl rfl (RunL.nil)))
theorem f45_r8 {v7 r20 : CV} (i7 : s.at 7 = v7) (o20 : bineq K.P .add 3 v7 (.nu .i64 1) = some r20) : X45 K [1, 0, 0, 1, 1, 1] s h .normal (W (W s 20 r20) 7 r20) h :=
  rg (Rb rfl rfl i7 rfl o20 (Rm (v := r20) rfl rfl rfl (RunL.nil)))
theorem f46_r0 : X46 K [0] s h .normal (W (W s 4 .nils) 5 n0) h :=
  rg (Ra (v := .nils) rfl rfl rfl (Ra (v := n0) rfl rfl rfl (RunL.nil)))
theorem f46_r1 {v0 v1 r10 : CV} {g1 : Hp} (i0 : s.at 0 = v0) (i1 : s.at 1 = v1) (pg1 : K.prim 94 [v0, v1] = none) (wg1 : Comes K 94 [v0, v1] h r10 g1) : X46 K [1, 0, 0] s h .normal (W (W (W (W s 8 v0) 9 v1) 10 r10) 6 r10) g1 :=
  rg (Rm rfl rfl i0 (Rm rfl rfl i1 (RunL.call (v := r10) rfl rfl rfl rfl rfl pg1 wg1 (Ra (v := r10) rfl rfl rfl (RunL.nil)))))
theorem f46_r2 {v6 r12 : CV} (i6 : s.at 6 = v6) (o12 : bineq K.P .neq 29 v6 n0 = some r12) : X46 K [1, 0, 1, 0] s h .normal (W (W s 11 v6) 12 r12) h :=
  rg (Rm rfl rfl i6 (Rb rfl rfl rfl rfl o12 (RunL.nil)))
theorem f46_r3 {v6 : CV} (i6 : s.at 6 = v6) : X46 K [1, 0, 1, 1, 0, 0] s h .normal (W (W (W s 13 v6) 4 .nils) 5 v6) h :=
  rg (Rm rfl rfl i6 (Ra (v := .nils) rfl rfl rfl (Ra (v := v6) rfl rfl rfl (RunL.nil))))
theorem f46_r4 {v0 v1 r17 r18 : CV} {F16 : Nat → CV} {B16 : HB} {g1 g2 : Hp} (i0 : s.at 0 = v0) (i1 : s.at 1 = v1) (o16 : lSlice 2 [(0, v0), (1, v1)] (tyk K.P 28) = some (F16, B16)) (pg1 : K.prim 96 [(F16 (h).n)] = none) (wg1 : Comes K 96 [(F16 (h).n)] (h.push B16) r17 g1) (pg2 : K.prim 95 [r17] = none) (wg2 : Comes K 95 [r17] g1 r18 g2) : X46 K [1, 1, 0] s h .normal (W (W (W (W (W (W s 14 v0) 15 v1) 16 (F16 (h).n)) 17 r17) 18 r18) 7 r18) g2 :=
  rg (Rm rfl rfl i0 (Rm rfl rfl i1 (RunL.op (v := (F16 (h).n)) rfl (L_slice rfl rfl o16) (RunL.call (v := r17) rfl rfl rfl rfl rfl pg1 wg1 (RunL.call (v := r18) rfl rfl rfl rfl rfl pg2 wg2 (Ra (v := r18) rfl rfl rfl (RunL.nil)))))))
theorem f46_r5 {v7 r20 r21 : CV} (i7 : s.at 7 = v7) (o20 : qLen h v7 (tyk K.P 100) = some r20) (o21 : bineq K.P .gtr 3 r20 (.nu .i64 1024) = some r21) : X46 K [1, 1, 1, 0, 0] s h .normal (W (W (W s 19 v7) 20 r20) 21 r21) h :=
  rg (Rm rfl rfl i7 (R1 (v := r20) rfl (Q_len rfl rfl rfl rfl rfl o20) (Rb rfl rfl rfl rfl o21 (RunL.nil))))
theorem f46_r6 : X46 K [1, 1, 1, 0, 1, 0, 0] s h .normal (W (W s 4 .nils) 5 (.nu .i64 3)) h :=
  rg (Ra (v := .nils) rfl rfl rfl (Ra (v := (.nu .i64 3)) rfl rfl rfl (RunL.nil)))
theorem f46_r7 {v7 r23 : CV} {g1 : Hp} (i7 : s.at 7 = v7) (pg1 : K.prim 72 [v7] = none) (wg1 : Comes K 72 [v7] h r23 g1) : X46 K [1, 1, 1, 1, 0] s h .normal (W (W (W (W s 22 v7) 23 r23) 4 r23) 5 n0) g1 :=
  rg (Rm rfl rfl i7 (RunL.call (v := r23) rfl rfl rfl rfl rfl pg1 wg1 (Ra (v := r23) rfl rfl rfl (Ra (v := n0) rfl rfl rfl (RunL.nil)))))
theorem f48_r0 : X48 K [0] s h .normal (W s 4 .nils) h :=
  rg (Ra (v := .nils) rfl rfl rfl (RunL.nil))
theorem f48_r1 {v0 : CV} (i0 : s.at 0 = v0) : X48 K [1, 0] s h .normal (W (W s 7 v0) 5 v0) h :=
  rg (Rm rfl rfl i0 (Ra (v := v0) rfl rfl rfl (RunL.nil)))
theorem f48_r2 : X48 K [1, 1, 0, 0] s h .normal (W s 6 n0) h :=
  rg (Ra (v := n0) rfl rfl rfl (RunL.nil))
theorem f48_r3 {v6 v1 r10 r11 : CV} (i6 : s.at 6 = v6) (i1 : s.at 1 = v1) (o10 : qLen h v1 (tyk K.P 26) = some r10) (o11 : bineq K.P .lss 3 v6 r10 = some r11) : X48 K [1, 1, 0, 1, 0, 0, 0, 0] s h .normal (W (W (W (W s 8 v6) 9 v1) 10 r10) 11 r11) h :=
  rg (Rm rfl rfl i6 (Rm rfl rfl i1 (R1 (v := r10) rfl (Q_len rfl rfl rfl rfl rfl o10) (Rb rfl rfl rfl rfl o11 (RunL.nil)))))
theorem f48_r5 {v5 v1 v6 r17 r18 r19 : CV} {g1 : Hp} (i5 : s.at 5 = v5) (i1 : s.at 1 = v1) (i6 : s.at 6 = v6) (o17 : qIndexAddr v1 v6 (tyk K.P 26) = some r17) (o18 : qLoad h r17 (tsz K.P 45) = some r18) (pg1 : K.prim 98 [v5, r18] = none) (wg1 : Comes K 98 [v5, r18] h r19 g1) : X48 K [1, 1, 0, 1, 0, 0, 1, 0, 0] s h .normal (W (W (W (W (W (W (W s 14 v5) 15 v1) 16 v6) 17 r17) 18 r18) 19 r19) 5 r19) g1 :=
  rg (Rm rfl rfl i5 (Rm rfl rfl i1 (Rm rfl rfl i6 (R1 (v := r17) rfl (Q_ia rfl rfl rfl o17) (R1 (v := r18) rfl (Q_load rfl rfl o18) (RunL.call (v := r19) rfl rfl rfl rfl rfl pg1 wg1 (Ra (v := r19) rfl rfl rfl (RunL.nil))))))))
theorem f48_r4 {v6 r13 : CV} (i6 : s.at 6 = v6) (o13 : bineq K.P .add 3 v6 (.nu .i64 1) = some r13) : X48 K [1, 1, 0, 1, 0, 0, 1, 1] s h .normal (W (W (W s 12 v6) 13 r13) 6 r13) h :=
  rg (Rm rfl rfl i6 (Rb rfl rfl rfl rfl o13 (Ra (v := r13) rfl rfl rfl (RunL.nil))))
theorem f48_r6 {v5 : CV} (i5 : s.at 5 = v5) : X48 K [1, 1, 1, 0] s h .normal (W (W s 20 v5) 4 v5) h :=
  rg (Rm rfl rfl i5 (Ra (v := v5) rfl rfl rfl (RunL.nil)))
theorem f49_r0 : X49 K [0] s h .normal (W s 4 .nils) h :=
  rg (Ra (v := .nils) rfl rfl rfl (RunL.nil))
theorem f49_r1 : X49 K [1, 0] s h .normal (W s 5 .nils) h :=
  rg (Ra (v := .nils) rfl rfl rfl (RunL.nil))
theorem f49_r2 : X49 K [1, 1, 0, 0] s h .normal (W s 6 n0) h :=
  rg (Ra (v := n0) rfl rfl rfl (RunL.nil))
theorem f49_r3 {v6 v0 r9 r10 : CV} (i6 : s.at 6 = v6) (i0 : s.at 0 = v0) (o9 : qLen h v0 (tyk K.P 26) = some r9) (o10 : bineq K.P .lss 3 v6 r9 = some r10) : X49 K [1, 1, 0, 1, 0, 0, 0, 0] s h .normal (W (W (W (W s 7 v6) 8 v0) 9 r9) 10 r10) h :=
  rg (Rm rfl rfl i6 (Rm rfl rfl i0 (R1 (v := r9) rfl (Q_len rfl rfl rfl rfl rfl o9) (Rb rfl rfl rfl rfl o10 (RunL.nil)))))
theorem f49_r5 {v1 v0 v6 r16 r17 r18 r19 : CV} {g1 : Hp} (i1 : s.at 1 = v1) (i0 : s.at 0 = v0) (i6 : s.at 6 = v6) (o16 : qIndexAddr v0 v6 (tyk K.P 26) = some r16) (o17 : qLoad h r16 (tsz K.P 45) = some r17) (pg1 : K.prim 28 [v1, r17] = none) (wg1 : Comes K 28 [v1, r17] h r18 g1) (o19 : bineq K.P .geq 3 r18 n0 = some r19) : X49 K [1, 1, 0, 1, 0, 0, 1, 0, 0, 0] s h .normal (W (W (W (W (W (W (W s 13 v1) 14 v0) 15 v6) 16 r16) 17 r17) 18 r18) 19 r19) g1 :=
  rg (Rm rfl rfl i1 (Rm rfl rfl i0 (Rm rfl rfl i6 (R1 (v := r16) rfl (Q_ia rfl rfl rfl o16) (R1 (v := r17) rfl (Q_load rfl rfl o17) (RunL.call (v := r18) rfl rfl rfl rfl rfl pg1 wg1 (Rb rfl rfl rfl rfl o19 (RunL.nil))))))))
theorem f49_r6 {v5 v0 v6 r23 r24 r26 : CV} {F25 : Nat → CV} {B25 : HB} {g1 : Hp} (i5 : s.at 5 = v5) (i0 : s.at 0 = v0) (i6 : s.at 6 = v6) (o23 : qIndexAddr v0 v6 (tyk K.P 26) = some r23) (o24 : qLoad h r23 (tsz K.P 45) = some r24) (o25 : lSlice 1 [(0, r24)] (tyk K.P 26) = some (F25, B25)) (wg1 : wApp (h.push B25) v5 (F25 (h).n) (tyk K.P 26) (tyk K.P 26) = some (r26, g1)) : X49 K [1, 1, 0, 1, 0, 0, 1, 0, 0, 1, 0] s h .normal (W (W (W (W (W (W (W (W s 20 v5) 21 v0) 22 v6) 23 r23) 24 r24) 25 (F25 (h).n)) 26 r26) 5 r26) g1 :=
  rg (Rm rfl rfl i5 (Rm rfl rfl i0 (Rm rfl rfl i6 (R1 (v := r23) rfl (Q_ia rfl rfl rfl o23) (R1 (v := r24) rfl (Q_load rfl rfl o24) (RunL.op (v := (F25 (h).n)) rfl (L_slice rfl rfl o25) (RunL.op (v := r26) rfl (W_app hk rfl rfl rfl rfl rfl rfl wg1) (Ra (v := r26) rfl rfl rfl (RunL.nil)))))))))
theorem f49_r4 {v6 r12 : CV} (i6 : s.at 6 = v6) (o12 : bineq K.P .add 3 v6 (.nu .i64 1) = some r12) : X49 K [1, 1, 0, 1, 0, 0, 1, 1] s h .normal (W (W (W s 11 v6) 12 r12) 6 r12) h :=
  rg (Rm rfl rfl i6 (Rb rfl rfl rfl rfl o12 (Ra (v := r12) rfl rfl rfl (RunL.nil))))
theorem f49_r7 {v5 : CV} (i5 : s.at 5 = v5) : X49 K [1, 1, 1, 0] s h .normal (W (W s 27 v5) 4 v5) h :=
  rg (Rm rfl rfl i5 (Ra (v := v5) rfl rfl rfl (RunL.nil)))
theorem f70_r0 : X70 K [0] s h .normal (W (W s 2 .nils) 3 n0) h :=
  rg (Ra (v := .nils) rfl rfl rfl (Ra (v := n0) rfl rfl rfl (RunL.nil)))
theorem f70_r1 {v0 r6 : CV} {g1 : Hp} (i0 : s.at 0 = v0) (pg1 : K.prim 66 [v0] = none) (wg1 : Comes K 66 [v0] h r6 g1) : X70 K [1, 0, 0] s h .normal (W (W (W s 5 v0) 6 r6) 3 r6) g1 :=
  rg (Rm rfl rfl i0 (RunL.call (v := r6) rfl rfl rfl rfl rfl pg1 wg1 (Ra (v := r6) rfl rfl rfl (RunL.nil))))
theorem f70_r2 {v3 r8 : CV} (i3 : s.at 3 = v3) (o8 : bineq K.P .neq 29 v3 n0 = some r8) : X70 K [1, 0, 1, 0] s h .normal (W (W s 7 v3) 8 r8) h :=
  rg (Rm rfl rfl i3 (Rb rfl rfl rfl rfl o8 (RunL.nil)))
theorem f70_r3 {v3 : CV} (i3 : s.at 3 = v3) : X70 K [1, 0, 1, 1, 0, 0] s h .normal (W (W (W s 9 v3) 2 .nils) 3 v3) h :=
  rg (Rm rfl rfl i3 (Ra (v := .nils) rfl rfl rfl (Ra (v := v3) rfl rfl rfl (RunL.nil))))
theorem f70_r4 {v0 r11 : CV} (i0 : s.at 0 = v0) (o11 : qLen h v0 (tyk K.P 46) = some r11) : X70 K [1, 1, 0, 0] s h .normal (W (W (W s 10 v0) 11 r11) 12 n0) h :=
  rg (Rm rfl rfl i0 (R1 (v := r11) rfl (Q_len rfl rfl rfl rfl rfl o11) (Rm (v := n0) rfl rfl rfl (RunL.nil))))
theorem f70_r5 {v12 v11 r13 : CV} (i12 : s.at 12 = v12) (i11 : s.at 11 = v11) (o13 : bineq K.P .lss 3 v12 v11 = some r13) : X70 K [1, 1, 0, 1, 0, 0, 0] s h .normal (W s 13 r13) h :=
  rg (Rb rfl rfl i12 i11 o13 (RunL.nil))
theorem f70_r6 {v12 : CV} (i12 : s.at 12 = v12) : X70 K [1, 1, 0, 1, 0, 0, 1, 1, 0, 0, 0] s h .normal (W (W s 14 v12) 4 v12) h :=
  rg (Rm rfl rfl i12 (Ra (v := v12) rfl rfl rfl (RunL.nil)))
theorem f70_r7 {v2 v0 v4 r18 r19 r20 : CV} {g1 g2 : Hp} (i2 : s.at 2 = v2) (i0 : s.at 0 = v0) (i4 : s.at 4 = v4) (o18 : bineq K.P .add 3 v4 (.nu .i64 1) = some r18) (pg1 : K.prim 115 [v0, r18] = none) (wg1 : Comes K 115 [v0, r18] h r19 g1) (pg2 : K.prim 114 [v2, r19] = none) (wg2 : Comes K 114 [v2, r19] g1 r20 g2) : X70 K [1, 1, 0, 1, 0, 0, 1, 1, 0, 0, 1] s h .normal (W (W (W (W (W (W (W s 15 v2) 16 v0) 17 v4) 18 r18) 19 r19) 20 r20) 2 r20) g2 :=
  rg (Rm rfl rfl i2 (Rm rfl rfl i0 (Rm rfl rfl i4 (Rb rfl rfl rfl rfl o18 (RunL.call (v := r19) rfl rfl rfl rfl rfl pg1 wg1 (RunL.call (v := r20) rfl rfl rfl rfl rfl pg2 wg2 (Ra (v := r20) rfl rfl rfl (RunL.nil))))))))
theorem f70_r8 {v12 r21 : CV} (i12 : s.at 12 = v12) (o21 : bineq K.P .add 3 v12 (.nu .i64 1) = some r21) : X70 K [1, 1, 0, 1, 0, 0, 1, 1, 1] s h .normal (W (W s 21 r21) 12 r21) h :=
  rg (Rb rfl rfl i12 rfl o21 (Rm (v := r21) rfl rfl rfl (RunL.nil)))
theorem f70_r9 {v2 : CV} (i2 : s.at 2 = v2) : X70 K [1, 1, 1, 0] s h .normal (W (W (W s 22 v2) 2 v2) 3 n0) h :=
  rg (Rm rfl rfl i2 (Ra (v := v2) rfl rfl rfl (Ra (v := n0) rfl rfl rfl (RunL.nil))))
theorem f72_r0 : X72 K [0] s h .normal (W s 2 .nils) h :=
  rg (Ra (v := .nils) rfl rfl rfl (RunL.nil))
theorem f72_r1 : X72 K [1, 0] s h .normal (W s 3 .nils) h :=
  rg (Ra (v := .nils) rfl rfl rfl (RunL.nil))
theorem f72_r5 {v3 v5 r14 r16 : CV} {F15 : Nat → CV} {B15 : HB} {g1 g2 : Hp} (i3 : s.at 3 = v3) (i5 : s.at 5 = v5) (pg1 : K.prim 69 [v5] = none) (wg1 : Comes K 69 [v5] h r14 g1) (o15 : lSlice 1 [(0, r14)] (tyk K.P 22) = some (F15, B15)) (wg2 : wApp (g1.push B15) v3 (F15 (g1).n) (tyk K.P 22) (tyk K.P 22) = some (r16, g2)) : X72 K [1, 1, 0, 1, 0, 0, 1, 1, 0, 1] s h .normal (W (W (W (W (W (W s 12 v3) 13 v5) 14 r14) 15 (F15 (g1).n)) 16 r16) 3 r16) g2 :=
  rg (Rm rfl rfl i3 (Rm rfl rfl i5 (RunL.call (v := r14) rfl rfl rfl rfl rfl pg1 wg1 (RunL.op (v := (F15 (g1).n)) rfl (L_slice rfl rfl o15) (RunL.op (v := r16) rfl (W_app hk rfl rfl rfl rfl rfl rfl wg2) (Ra (v := r16) rfl rfl rfl (RunL.nil)))))))
theorem f72_r6 {v3 r18 : CV} {g1 : Hp} (i3 : s.at 3 = v3) (pg1 : K.prim 116 [v3, (.fn 74 [])] = none) (wg1 : Comes K 116 [v3, (.fn 74 [])] h r18 g1) : X72 K [1, 1, 1, 0] s h .normal (W (W s 17 v3) 18 r18) g1 :=
  rg (Rm rfl rfl i3 (RunL.call (v := r18) rfl rfl rfl rfl rfl pg1 wg1 (RunL.nil)))
theorem f72_r7 {v3 : CV} (i3 : s.at 3 = v3) : X72 K [1, 1, 1, 1, 0] s h .normal (W (W s 19 v3) 2 v3) h :=
  rg (Rm rfl rfl i3 (Ra (v := v3) rfl rfl rfl (RunL.nil)))
theorem f96_r0 : X96 K [0] s h .normal (W s 2 .nils) h :=
  rg (Ra (v := .nils) rfl rfl rfl (RunL.nil))
theorem f96_r1 : X96 K [1, 0] s h .normal (W s 3 n0) h :=
  rg (Ra (v := n0) rfl rfl rfl (RunL.nil))
theorem f96_r2 {v0 r10 : CV} (i0 : s.at 0 = v0) (o10 : qLen h v0 (tyk K.P 28) = some r10) : X96 K [1, 1, 0, 0] s h .normal (W (W (W s 9 v0) 10 r10) 11 n0) h :=
  rg (Rm rfl rfl i0 (R1 (v := r10) rfl (Q_len rfl rfl rfl rfl rfl o10) (Rm (v := n0) rfl rfl rfl (RunL.nil))))
theorem f96_r3 {v11 v10 r12 : CV} (i11 : s.at 11 = v11) (i10 : s.at 10 = v10) (o12 : bineq K.P .lss 3 v11 v10 = some r12) : X96 K [1, 1, 0, 1, 0, 0, 0] s h .normal (W s 12 r12) h :=
  rg (Rb rfl rfl i11 i10 o12 (RunL.nil))
theorem f96_r4 {v9 v11 r13 r14 : CV} (i9 : s.at 9 = v9) (i11 : s.at 11 = v11) (o13 : qIndexAddr v9 v11 (tyk K.P 28) = some r13) (o14 : qLoad h r13 (tsz K.P 22) = some r14) : X96 K [1, 1, 0, 1, 0, 0, 1, 1, 0, 0, 0] s h .normal (W (W (W s 13 r13) 14 r14) 5 r14) h :=
  rg (R1 (v := r13) rfl (Q_ia rfl i9 i11 o13) (R1 (v := r14) rfl (Q_load rfl rfl o14) (Ra (v := r14) rfl rfl rfl (RunL.nil))))
theorem f96_r5 {v3 v5 r17 r18 : CV} (i3 : s.at 3 = v3) (i5 : s.at 5 = v5) (o17 : qLen h v5 (tyk K.P 22) = some r17) (o18 : bineq K.P .add 3 v3 r17 = some r18) : X96 K [1, 1, 0, 1, 0, 0, 1, 1, 0, 0, 1, 0] s h .normal (W (W (W (W (W s 15 v3) 16 v5) 17 r17) 18 r18) 3 r18) h :=
  rg (Rm rfl rfl i3 (Rm rfl rfl i5 (R1 (v := r17) rfl (Q_len rfl rfl rfl rfl rfl o17) (Rb rfl rfl rfl rfl o18 (Ra (v := r18) rfl rfl rfl (RunL.nil))))))
theorem f96_r6 {v3 r20 : CV} (i3 : s.at 3 = v3) (o20 : bineq K.P .lss 3 v3 n0 = some r20) : X96 K [1, 1, 0, 1, 0, 0, 1, 1, 0, 0, 1, 1, 0] s h .normal (W (W s 19 v3) 20 r20) h :=
  rg (Rm rfl rfl i3 (Rb rfl rfl rfl rfl o20 (RunL.nil)))
theorem f96_r8 {v11 r22 : CV} (i11 : s.at 11 = v11) (o22 : bineq K.P .add 3 v11 (.nu .i64 1) = some r22) : X96 K [1, 1, 0, 1, 0, 0, 1, 1, 1] s h .normal (W (W s 22 r22) 11 r22) h :=
  rg (Rb rfl rfl i11 rfl o22 (Rm (v := r22) rfl rfl rfl (RunL.nil)))
theorem f96_r9 {v3 r24 : CV} {g1 : Hp} (i3 : s.at 3 = v3) (pg1 : K.prim 128 [.nils, v3] = none) (wg1 : Comes K 128 [.nils, v3] h r24 g1) : X96 K [1, 1, 1, 0] s h .normal (W (W (W s 23 v3) 24 r24) 6 r24) g1 :=
  rg (Rm rfl rfl i3 (RunL.call (v := r24) rfl rfl rfl rfl rfl pg1 wg1 (Ra (v := r24) rfl rfl rfl (RunL.nil))))
theorem f96_r10 {v0 r26 : CV} (i0 : s.at 0 = v0) (o26 : qLen h v0 (tyk K.P 28) = some r26) : X96 K [1, 1, 1, 1, 0, 0] s h .normal (W (W (W s 25 v0) 26 r26) 27 n0) h :=
  rg (Rm rfl rfl i0 (R1 (v := r26) rfl (Q_len rfl rfl rfl rfl rfl o26) (Rm (v := n0) rfl rfl rfl (RunL.nil))))
theorem f96_r11 {v27 v26 r28 : CV} (i27 : s.at 27 = v27) (i26 : s.at 26 = v26) (o28 : bineq K.P .lss 3 v27 v26 = some r28) : X96 K [1, 1, 1, 1, 0, 1, 0, 0, 0] s h .normal (W s 28 r28) h :=
  rg (Rb rfl rfl i27 i26 o28 (RunL.nil))
theorem f96_r12 {v25 v27 r29 r30 : CV} (i25 : s.at 25 = v25) (i27 : s.at 27 = v27) (o29 : qIndexAddr v25 v27 (tyk K.P 28) = some r29) (o30 : qLoad h r29 (tsz K.P 22) = some r30) : X96 K [1, 1, 1, 1, 0, 1, 0, 0, 1, 1, 0, 0, 0] s h .normal (W (W (W s 29 r29) 30 r30) 8 r30) h :=
  rg (R1 (v := r29) rfl (Q_ia rfl i25 i27 o29) (R1 (v := r30) rfl (Q_load rfl rfl o30) (Ra (v := r30) rfl rfl rfl (RunL.nil))))
theorem f96_r13 {v6 v8 r33 : CV} {g1 : Hp} (i6 : s.at 6 = v6) (i8 : s.at 8 = v8) (wg1 : wApp h v6 v8 (tyk K.P 22) (tyk K.P 22) = some (r33, g1)) : X96 K [1, 1, 1, 1, 0, 1, 0, 0, 1, 1, 0, 0, 1] s h .normal (W (W (W (W s 31 v6) 32 v8) 33 r33) 6 r33) g1 :=
  rg (Rm rfl rfl i6 (Rm rfl rfl i8 (RunL.op (v := r33) rfl (W_app hk rfl rfl rfl rfl rfl rfl wg1) (Ra (v := r33) rfl rfl rfl (RunL.nil)))))
theorem f96_r14 {v27 r34 : CV} (i27 : s.at 27 = v27) (o34 : bineq K.P .add 3 v27 (.nu .i64 1) = some r34) : X96 K [1, 1, 1, 1, 0, 1, 0, 0, 1, 1, 1] s h .normal (W (W s 34 r34) 27 r34) h :=
  rg (Rb rfl rfl i27 rfl o34 (Rm (v := r34) rfl rfl rfl (RunL.nil)))
theorem f96_r15 {v6 : CV} (i6 : s.at 6 = v6) : X96 K [1, 1, 1, 1, 1, 0] s h .normal (W (W s 35 v6) 2 v6) h :=
  rg (Rm rfl rfl i6 (Ra (v := v6) rfl rfl rfl (RunL.nil)))
theorem f115_r0 {v0 v1 : CV} {F2 F3 : Nat → CV} {B2 B3 : HB} (i0 : s.at 0 = v0) (i1 : s.at 1 = v1) (o2 : lBox 46 v0 (tsz K.P 46) = some (F2, B2)) (o3 : lBox 3 v1 (tsz K.P 3) = some (F3, B3)) : X115 K [0] s h .normal (W (W (W s 2 (F2 (h).n)) 3 (F3 ((h.push B2)).n)) 4 .nilf) ((h.push B2).push B3) :=
  rg (RunL.op (v := (F2 (h).n)) rfl (L_box rfl i0 o2) (RunL.op (v := (F3 ((h.push B2)).n)) rfl (L_box rfl i1 o3) (Ra (v := .nilf) rfl rfl rfl (RunL.nil))))
theorem f115_r1 {v3 v2 : CV} (i3 : s.at 3 = v3) (i2 : s.at 2 = v2) : X115 K [1, 0] s h .normal (W (W s 5 (.fn 142 [v3, v2])) 4 (.fn 142 [v3, v2])) h :=
  rg (R1 (v := (.fn 142 [v3, v2])) rfl (Q_func rfl (by simp only [ev, Fr.putO, Fr.at_set, reduceIte, Nat.reduceEqDiff, List.toList_toArray, List.map_cons, List.map_nil, Option.map_some, Option.map_none, i3, i2]; try rfl)) (Ra (v := (.fn 142 [v3, v2])) rfl rfl rfl (RunL.nil)))
theorem f128_r0 : X128 K [0] s h .normal (W s 4 .nils) h :=
  rg (Ra (v := .nils) rfl rfl rfl (RunL.nil))
theorem f128_r1 {v1 r6 : CV} (i1 : s.at 1 = v1) (o6 : bineq K.P .lss 3 v1 n0 = some r6) : X128 K [1, 0, 0] s h .normal (W (W s 5 v1) 6 r6) h :=
  rg (Rm rfl rfl i1 (Rb rfl rfl rfl rfl o6 (RunL.nil)))
theorem f128_r3 {v1 v0 r10 r12 r13 r14 : CV} (i1 : s.at 1 = v1) (i0 : s.at 0 = v0) (o10 : qCap (tyk K.P 22) v0 = some r10) (o12 : qLen h v0 (tyk K.P 22) = some r12) (o13 : bineq K.P .sub 3 r10 r12 = some r13) (o14 : bineq K.P .sub 3 v1 r13 = some r14) : X128 K [1, 1, 0, 0] s h .normal (W (W (W (W (W (W (W (W s 8 v1) 9 v0) 10 r10) 11 v0) 12 r12) 13 r13) 14 r14) 1 r14) h :=
  rg (Rm rfl rfl i1 (Rm rfl rfl i0 (R1 (v := r10) rfl (Q_cap rfl rfl rfl rfl rfl o10) (Rm rfl rfl i0 (R1 (v := r12) rfl (Q_len rfl rfl rfl rfl rfl o12) (Rb rfl rfl rfl rfl o13 (Rb rfl rfl rfl rfl o14 (Ra (v := r14) rfl rfl rfl (RunL.nil)))))))))
theorem f128_r4 {v1 r16 : CV} (i1 : s.at 1 = v1) (o16 : bineq K.P .gtr 3 v1 n0 = some r16) : X128 K [1, 1, 0, 1, 0] s h .normal (W (W s 15 v1) 16 r16) h :=
  rg (Rm rfl rfl i1 (Rb rfl rfl rfl rfl o16 (RunL.nil)))
theorem f128_r5 {v0 r19 r20 v1 r22 r24 r25 : CV} {g1 : Hp} (i0 : s.at 0 = v0) (i1 : s.at 1 = v1) (o19 : qCap (tyk K.P 22) v0 = some r19) (o20 : qSliceV none (some r19) h v0 (tyk K.P 22) = some r20) (wg1 : wApp h r20 v1 (tyk K.P 22) (tyk K.P 3) = some (r22, g1)) (o24 : qLen g1 v0 (tyk K.P 22) = some r24) (o25 : qSliceV none (some r24) g1 r22 (tyk K.P 22) = some r25) : X128 K [1, 1, 0, 1, 1, 0] s h .normal (W (W (W (W (W (W (W (W (W (W s 17 v0) 18 v0) 19 r19) 20 r20) 21 v1) 22 r22) 23 v0) 24 r24) 25 r25) 0 r25) g1 :=
  rg (Rm rfl rfl i0 (Rm rfl rfl i0 (R1 (v := r19) rfl (Q_cap rfl rfl rfl rfl rfl o19) (R1 (v := r20) rfl (Q_slice rfl rfl rfl rfl o20) (Rm rfl rfl i1 (RunL.op (v := r22) rfl (W_app hk rfl rfl rfl rfl rfl rfl wg1) (Rm rfl rfl i0 (R1 (v := r24) rfl (Q_len rfl rfl rfl rfl rfl o24) (R1 (v := r25) rfl (Q_slice rfl rfl rfl rfl o25) (Ra (v := r25) rfl rfl rfl (RunL.nil)))))))))))
theorem f128_r6 {v0 : CV} (i0 : s.at 0 = v0) : X128 K [1, 1, 1, 0] s h .normal (W (W s 26 v0) 4 v0) h :=
  rg (Rm rfl rfl i0 (Ra (v := v0) rfl rfl rfl (RunL.nil)))
end Go.CP
namespace Go.CP
open Go.Proofs
structure PlansD [LG] [HK] (K : Ctx) : Prop where
  p142_6 : K.plan 142 6 = some [.take 0, .take 1, .take 2, .take 3, .only 4 [3, 2, 1, 0], .only 5 [3, 2, 1, 0], .only 6 []]
variable [LG] [HK] {K : Ctx} {s : Fr} {h : Hp} (hk : ∀ o, HK.keep o = false) (pr : ∀ f args, K.prim f args = none) (Pl : PlansD K)
include hk pr Pl
theorem f25_b10_T {v0 r12 : CV} (i0 : s.at 0 = v0) (o12 : qLen h v0 (tyk K.P 22) = some r12) (o13 : bineq K.P .gtr 3 r12 (.nu .i64 1024) = some tt) : X25 K [1, 0] s h .ret (W (W (W (W (W s 11 v0) 12 r12) 13 tt) 2 .nils) 3 (.nu .i64 3)) h :=
  (sq (f25_r1 (h := h) (r13 := tt) hk i0 ‹_› ‹_›) (cT 13 rfl (sq (f25_r2 (h := h) hk) Runs.ret)))
theorem f25_b10_F {v0 r12 : CV} (i0 : s.at 0 = v0) (o12 : qLen h v0 (tyk K.P 22) = some r12) (o13 : bineq K.P .gtr 3 r12 (.nu .i64 1024) = some ff) : X25 K [1, 0] s h .normal (W (W (W s 11 v0) 12 r12) 13 ff) h :=
  (sq (f25_r1 (h := h) (r13 := ff) hk i0 ‹_› ‹_›) (cF 13 rfl sk))
theorem f25_b11101001100110_T {v8 : CV} (i8 : s.at 8 = v8) (o27 : bineq K.P .neq 29 v8 n0 = some tt) : X25 K [1, 1, 1, 0, 1, 0, 0, 1, 1, 0, 0, 1, 1, 0] s h .ret (W (W (W (W (W s 26 v8) 27 tt) 28 v8) 2 .nils) 3 v8) h :=
  (sq (f25_r8 (h := h) (r27 := tt) hk i8 ‹_›) (cT 27 rfl (sq (f25_r9 (h := h) hk i8) Runs.ret)))
theorem f25_b11101001100110_F {v8 : CV} (i8 : s.at 8 = v8) (o27 : bineq K.P .neq 29 v8 n0 = some ff) : X25 K [1, 1, 1, 0, 1, 0, 0, 1, 1, 0, 0, 1, 1, 0] s h .normal (W (W s 26 v8) 27 ff) h :=
  (sq (f25_r8 (h := h) (r27 := ff) hk i8 ‹_›) (cF 27 rfl sk))
theorem f25_b11101001100111100_T {v31 v30 v29 r33 r34 v4 r37 r39 : CV} {g1 g2 : Hp} (i31 : s.at 31 = v31) (i30 : s.at 30 = v30) (i29 : s.at 29 = v29) (i4 : s.at 4 = v4) (o32 : bineq K.P .lss 3 v31 v30 = some tt) (o33 : qIndexAddr v29 v31 (tyk K.P 22) = some r33) (o34 : qLoad h r33 (tsz K.P 46) = some r34) (wg1 : Comes K 71 [r34] h r37 g1) (wg2 : wMap K.P g1 v4 r37 r34 (tyk K.P 100) = some (.undef, g2)) (o39 : bineq K.P .add 3 v31 (.nu .i64 1) = some r39) : X25 K [1, 1, 1, 0, 1, 0, 0, 1, 1, 0, 0, 1, 1, 1, 1, 0, 0] s h .normal (W (W (W (W (W (W (W (W (W (W s 32 tt) 33 r33) 34 r34) 10 r34) 35 v4) 36 r34) 37 r37) 38 r34) 39 r39) 31 r39) g2 :=
  (sq (f25_r11 (h := h) (r32 := tt) hk i31 i30 ‹_›) (sq (cT 32 rfl sk) (sq (Runs.blockN (sq (f25_r12 (h := h) hk i29 i31 ‹_› ‹_›) (f25_r13 (h := h) (v10 := r34) hk i4 rfl (pr _ _) ‹_› ‹_›))) (f25_r14 (h := g2) hk i31 ‹_›))))
theorem f25_b11101001100111100_F {v31 v30 : CV} (i31 : s.at 31 = v31) (i30 : s.at 30 = v30) (o32 : bineq K.P .lss 3 v31 v30 = some ff) : X25 K [1, 1, 1, 0, 1, 0, 0, 1, 1, 0, 0, 1, 1, 1, 1, 0, 0] s h (.exit 2) (W s 32 ff) h :=
  (sq (f25_r11 (h := h) (r32 := ff) hk i31 i30 ‹_›) (sx (cF 32 rfl Runs.exit) (by simp)))
theorem f25_b1111_T {v4 r42 : CV} (i4 : s.at 4 = v4) (o42 : qLen h v4 (tyk K.P 100) = some r42) (o43 : bineq K.P .gtr 3 r42 (.nu .i64 1024) = some tt) : X25 K [1, 1, 1, 1] s h .ret (W (W (W (W (W s 41 v4) 42 r42) 43 tt) 2 .nils) 3 (.nu .i64 3)) h :=
  (sx (sq (f25_r16 (h := h) (r43 := tt) hk i4 ‹_› ‹_›) (cT 43 rfl (sq (f25_r17 (h := h) hk) Runs.ret))) (by simp))
theorem f25_b1111_F {v4 r42 r45 : CV} {g1 : Hp} (i4 : s.at 4 = v4) (o42 : qLen h v4 (tyk K.P 100) = some r42) (o43 : bineq K.P .gtr 3 r42 (.nu .i64 1024) = some ff) (wg1 : Comes K 72 [v4] h r45 g1) : X25 K [1, 1, 1, 1] s h .ret (W (W (W (W (W (W (W s 41 v4) 42 r42) 43 ff) 44 v4) 45 r45) 2 r45) 3 n0) g1 :=
  (sq (sq (f25_r16 (h := h) (r43 := ff) hk i4 ‹_› ‹_›) (cF 43 rfl sk)) (sq (f25_r18 (h := h) hk i4 (pr _ _) ‹_›) Runs.ret))
theorem f44_b10_F {v0 r8 : CV} (i0 : s.at 0 = v0) (o8 : qLen h v0 (tyk K.P 26) = some r8) (o9 : bineq K.P .gtr 3 r8 (.nu .i64 1024) = some ff) : X44 K [1, 0] s h .normal (W (W (W s 7 v0) 8 r8) 9 ff) h :=
  (sq (f44_r1 (h := h) (r9 := ff) hk i0 ‹_› ‹_›) (cF 9 rfl sk))
theorem f44_b110100_TT {v4 v0 r12 r18 r19 r20 : CV} {g1 : Hp} (i4 : s.at 4 = v4) (i0 : s.at 0 = v0) (o12 : qLen h v0 (tyk K.P 26) = some r12) (o13 : bineq K.P .lss 3 v4 r12 = some tt) (o18 : qIndexAddr v0 v4 (tyk K.P 26) = some r18) (o19 : qLoad h r18 (tsz K.P 45) = some r19) (wg1 : Comes K 57 [r19] h r20 g1) (o22 : bineq K.P .neq 29 r20 n0 = some tt) : X44 K [1, 1, 0, 1, 0, 0] s h .ret (W (W (W (W (W (W (W (W (W (W (W (W (W (W (W s 10 v4) 11 v0) 12 r12) 13 tt) 16 v0) 17 v4) 18 r18) 19 r19) 20 r20) 5 r20) 21 r20) 22 tt) 23 r20) 2 .nils) 3 r20) g1 :=
  (sq (sq (f44_r4 (h := h) (r13 := tt) hk i4 i0 ‹_› ‹_›) (cT 13 rfl sk)) (sx (Runs.blockR (sq (f44_r6 (h := h) hk i0 i4 ‹_› ‹_› (pr _ _) ‹_›) (sq (f44_r7 (h := g1) (v5 := r20) (r22 := tt) hk rfl ‹_›) (cT 22 rfl (sq (f44_r8 (h := g1) (v5 := r20) hk rfl) Runs.ret))))) (by simp)))
theorem f44_b110100_TF {v4 v0 r12 r18 r19 r20 r15 : CV} {g1 : Hp} (i4 : s.at 4 = v4) (i0 : s.at 0 = v0) (o12 : qLen h v0 (tyk K.P 26) = some r12) (o13 : bineq K.P .lss 3 v4 r12 = some tt) (o18 : qIndexAddr v0 v4 (tyk K.P 26) = some r18) (o19 : qLoad h r18 (tsz K.P 45) = some r19) (wg1 : Comes K 57 [r19] h r20 g1) (o22 : bineq K.P .neq 29 r20 n0 = some ff) (o15 : bineq K.P .add 3 v4 (.nu .i64 1) = some r15) : X44 K [1, 1, 0, 1, 0, 0] s h .normal (W (W (W (W (W (W (W (W (W (W (W (W (W (W (W s 10 v4) 11 v0) 12 r12) 13 tt) 16 v0) 17 v4) 18 r18) 19 r19) 20 r20) 5 r20) 21 r20) 22 ff) 14 v4) 15 r15) 4 r15) g1 :=
  (sq (sq (f44_r4 (h := h) (r13 := tt) hk i4 i0 ‹_› ‹_›) (cT 13 rfl sk)) (sq (Runs.blockN (sq (f44_r6 (h := h) hk i0 i4 ‹_› ‹_› (pr _ _) ‹_›) (sq (f44_r7 (h := g1) (v5 := r20) (r22 := ff) hk rfl ‹_›) (cF 22 rfl sk)))) (f44_r5 (h := g1) hk i4 ‹_›)))
theorem f44_b110100_F {v4 v0 r12 : CV} (i4 : s.at 4 = v4) (i0 : s.at 0 = v0) (o12 : qLen h v0 (tyk K.P 26) = some r12) (o13 : bineq K.P .lss 3 v4 r12 = some ff) : X44 K [1, 1, 0, 1, 0, 0] s h (.exit 0) (W (W (W (W s 10 v4) 11 v0) 12 r12) 13 ff) h :=
  (sx (sq (f44_r4 (h := h) (r13 := ff) hk i4 i0 ‹_› ‹_›) (cF 13 rfl Runs.exit)) (by simp))
theorem f44_b111_T {v0 r25 r27 : CV} {g1 : Hp} (i0 : s.at 0 = v0) (wg1 : Comes K 56 [v0] h r25 g1) (o27 : qLen g1 r25 (tyk K.P 26) = some r27) (o28 : bineq K.P .gtr 3 r27 (.nu .i64 1024) = some tt) : X44 K [1, 1, 1] s h .ret (W (W (W (W (W (W (W (W s 24 v0) 25 r25) 6 r25) 26 r25) 27 r27) 28 tt) 2 .nils) 3 (.nu .i64 3)) g1 :=
  (sq (f44_r9 (h := h) hk i0 (pr _ _) ‹_›) (sx (sq (f44_r10 (h := g1) (v6 := r25) (r28 := tt) hk rfl ‹_› ‹_›) (cT 28 rfl (sq (f44_r11 (h := g1) hk) Runs.ret))) (by simp)))
theorem f44_b111_F {v0 r25 r27 : CV} {g1 : Hp} (i0 : s.at 0 = v0) (wg1 : Comes K 56 [v0] h r25 g1) (o27 : qLen g1 r25 (tyk K.P 26) = some r27) (o28 : bineq K.P .gtr 3 r27 (.nu .i64 1024) = some ff) : X44 K [1, 1, 1] s h .ret (W (W (W (W (W (W (W (W (W s 24 v0) 25 r25) 6 r25) 26 r25) 27 r27) 28 ff) 29 r25) 2 r25) 3 n0) g1 :=
  (sq (f44_r9 (h := h) hk i0 (pr _ _) ‹_›) (sq (sq (f44_r10 (h := g1) (v6 := r25) (r28 := ff) hk rfl ‹_› ‹_›) (cF 28 rfl sk)) (sq (f44_r12 (h := g1) (v6 := r25) hk rfl) Runs.ret)))
theorem f45_b10010_T (i8 : s.at 8 = tt) : X45 K [1, 0, 0, 1, 0] s h .normal s h :=
  (cT 8 i8 sk)
theorem f45_b10010_F (i8 : s.at 8 = ff) : X45 K [1, 0, 0, 1, 0] s h (.exit 0) s h :=
  (cF 8 i8 Runs.exit)
theorem f45_b10011001100_T {v13 v12 v3 r18 r19 : CV} {g1 : Hp} (i13 : s.at 13 = v13) (i12 : s.at 12 = v12) (i3 : s.at 3 = v3) (o14 : bineq K.P .lss 3 v13 v12 = some tt) (o18 : qIndexAddr v3 v13 (tyk K.P 46) = some r18) (wg1 : wStore h r18 (.nu .i64 (-9)) (tsz K.P 3) = some (.undef, g1)) (o19 : bineq K.P .add 3 v13 (.nu .i64 1) = some r19) : X45 K [1, 0, 0, 1, 1, 0, 0, 1, 1, 0, 0] s h .normal (W (W (W (W (W (W (W (W s 14 tt) 15 v13) 4 v13) 16 v3) 17 v13) 18 r18) 19 r19) 13 r19) g1 :=
  (sq (f45_r4 (h := h) (r14 := tt) hk i13 i12 ‹_›) (sq (cT 14 rfl sk) (sq (Runs.blockN (sq (f45_r5 (h := h) hk i13) (f45_r6 (h := h) (v4 := v13) hk i3 rfl ‹_› ‹_›))) (f45_r7 (h := g1) hk i13 ‹_›))))
theorem f45_b10011001100_F {v13 v12 : CV} (i13 : s.at 13 = v13) (i12 : s.at 12 = v12) (o14 : bineq K.P .lss 3 v13 v12 = some ff) : X45 K [1, 0, 0, 1, 1, 0, 0, 1, 1, 0, 0] s h (.exit 2) (W s 14 ff) h :=
  (sq (f45_r4 (h := h) (r14 := ff) hk i13 i12 ‹_›) (sx (cF 14 rfl Runs.exit) (by simp)))
theorem f46_b_T {v0 v1 r10 : CV} {g1 : Hp} (i0 : s.at 0 = v0) (i1 : s.at 1 = v1) (wg1 : Comes K 94 [v0, v1] h r10 g1) (o12 : bineq K.P .neq 29 r10 n0 = some tt) : X46 K [] s h .ret (W (W (W (W (W (W (W (W (W (W (W s 4 .nils) 5 n0) 8 v0) 9 v1) 10 r10) 6 r10) 11 r10) 12 tt) 13 r10) 4 .nils) 5 r10) g1 :=
  (sq (f46_r0 (h := h) hk) (sx (sq (f46_r1 (h := h) hk i0 i1 (pr _ _) ‹_›) (sq (f46_r2 (h := g1) (v6 := r10) (r12 := tt) hk rfl ‹_›) (cT 12 rfl (sq (f46_r3 (h := g1) (v6 := r10) hk rfl) Runs.ret)))) (by simp)))
theorem f46_b_FT {v0 v1 r10 r17 r18 r20 : CV} {F16 : Nat → CV} {B16 : HB} {g1 g2 g3 : Hp} (i0 : s.at 0 = v0) (i1 : s.at 1 = v1) (wg1 : Comes K 94 [v0, v1] h r10 g1) (o12 : bineq K.P .neq 29 r10 n0 = some ff) (o16 : lSlice 2 [(0, v0), (1, v1)] (tyk K.P 28) = some (F16, B16)) (wg2 : Comes K 96 [(F16 (g1).n)] (g1.push B16) r17 g2) (wg3 : Comes K 95 [r17] g2 r18 g3) (o20 : qLen g3 r18 (tyk K.P 100) = some r20) (o21 : bineq K.P .gtr 3 r20 (.nu .i64 1024) = some tt) : X46 K [] s h .ret (W (W (W (W (W (W (W (W (W (W (W (W (W (W (W (W (W (W (W s 4 .nils) 5 n0) 8 v0) 9 v1) 10 r10) 6 r10) 11 r10) 12 ff) 14 v0) 15 v1) 16 (F16 (g1).n)) 17 r17) 18 r18) 7 r18) 19 r18) 20 r20) 21 tt) 4 .nils) 5 (.nu .i64 3)) g3 :=
  (sq (f46_r0 (h := h) hk) (sq (sq (f46_r1 (h := h) hk i0 i1 (pr _ _) ‹_›) (sq (f46_r2 (h := g1) (v6 := r10) (r12 := ff) hk rfl ‹_›) (cF 12 rfl sk))) (sq (f46_r4 (h := g1) (g1 := g2) (g2 := g3) hk i0 i1 ‹_› (pr _ _) ‹_› (pr _ _) ‹_›) (sx (sq (f46_r5 (h := g3) (v7 := r18) (r21 := tt) hk rfl ‹_› ‹_›) (cT 21 rfl (sq (f46_r6 (h := g3) hk) Runs.ret))) (by simp)))))
theorem f46_b_FF {v0 v1 r10 r17 r18 r20 r23 : CV} {F16 : Nat → CV} {B16 : HB} {g1 g2 g3 g4 : Hp} (i0 : s.at 0 = v0) (i1 : s.at 1 = v1) (wg1 : Comes K 94 [v0, v1] h r10 g1) (o12 : bineq K.P .neq 29 r10 n0 = some ff) (o16 : lSlice 2 [(0, v0), (1, v1)] (tyk K.P 28) = some (F16, B16)) (wg2 : Comes K 96 [(F16 (g1).n)] (g1.push B16) r17 g2) (wg3 : Comes K 95 [r17] g2 r18 g3) (o20 : qLen g3 r18 (tyk K.P 100) = some r20) (o21 : bineq K.P .gtr 3 r20 (.nu .i64 1024) = some ff) (wg4 : Comes K 72 [r18] g3 r23 g4) : X46 K [] s h .ret (W (W (W (W (W (W (W (W (W (W (W (W (W (W (W (W (W (W (W (W (W s 4 .nils) 5 n0) 8 v0) 9 v1) 10 r10) 6 r10) 11 r10) 12 ff) 14 v0) 15 v1) 16 (F16 (g1).n)) 17 r17) 18 r18) 7 r18) 19 r18) 20 r20) 21 ff) 22 r18) 23 r23) 4 r23) 5 n0) g4 :=
  (sq (f46_r0 (h := h) hk) (sq (sq (f46_r1 (h := h) hk i0 i1 (pr _ _) ‹_›) (sq (f46_r2 (h := g1) (v6 := r10) (r12 := ff) hk rfl ‹_›) (cF 12 rfl sk))) (sq (f46_r4 (h := g1) (g1 := g2) (g2 := g3) hk i0 i1 ‹_› (pr _ _) ‹_› (pr _ _) ‹_›) (sq (sq (f46_r5 (h := g3) (v7 := r18) (r21 := ff) hk rfl ‹_› ‹_›) (cF 21 rfl sk)) (sq (f46_r7 (h := g3) (v7 := r18) (g1 := g4) hk rfl (pr _ _) ‹_›) Runs.ret)))))
theorem f48_b110100_T {v6 v1 r10 v5 r17 r18 r19 r13 : CV} {g1 : Hp} (i6 : s.at 6 = v6) (i1 : s.at 1 = v1) (i5 : s.at 5 = v5) (o10 : qLen h v1 (tyk K.P 26) = some r10) (o11 : bineq K.P .lss 3 v6 r10 = some tt) (o17 : qIndexAddr v1 v6 (tyk K.P 26) = some r17) (o18 : qLoad h r17 (tsz K.P 45) = some r18) (wg1 : Comes K 98 [v5, r18] h r19 g1) (o13 : bineq K.P .add 3 v6 (.nu .i64 1) = some r13) : X48 K [1, 1, 0, 1, 0, 0] s h .normal (W (W (W (W (W (W (W (W (W (W (W (W (W (W s 8 v6) 9 v1) 10 r10) 11 tt) 14 v5) 15 v1) 16 v6) 17 r17) 18 r18) 19 r19) 5 r19) 12 v6) 13 r13) 6 r13) g1 :=
  (sq (sq (f48_r3 (h := h) (r11 := tt) hk i6 i1 ‹_› ‹_›) (cT 11 rfl sk)) (sq (Runs.blockN (f48_r5 (h := h) hk i5 i1 i6 ‹_› ‹_› (pr _ _) ‹_›)) (f48_r4 (h := g1) hk i6 ‹_›)))
theorem f48_b110100_F {v6 v1 r10 : CV} (i6 : s.at 6 = v6) (i1 : s.at 1 = v1) (o10 : qLen h v1 (tyk K.P 26) = some r10) (o11 : bineq K.P .lss 3 v6 r10 = some ff) : X48 K [1, 1, 0, 1, 0, 0] s h (.exit 0) (W (W (W (W s 8 v6) 9 v1) 10 r10) 11 ff) h :=
  (sx (sq (f48_r3 (h := h) (r11 := ff) hk i6 i1 ‹_› ‹_›) (cF 11 rfl Runs.exit)) (by simp))
theorem f48_b111 {v5 : CV} (i5 : s.at 5 = v5) : X48 K [1, 1, 1] s h .ret (W (W s 20 v5) 4 v5) h :=
  (sq (f48_r6 (h := h) hk i5) Runs.ret)
theorem f49_b110100_TT {v6 v0 r9 v1 r16 r17 r18 v5 r24 r26 r12 : CV} {F25 : Nat → CV} {B25 : HB} {g1 g2 : Hp} (i6 : s.at 6 = v6) (i0 : s.at 0 = v0) (i1 : s.at 1 = v1) (i5 : s.at 5 = v5) (o9 : qLen h v0 (tyk K.P 26) = some r9) (o10 : bineq K.P .lss 3 v6 r9 = some tt) (o16 : qIndexAddr v0 v6 (tyk K.P 26) = some r16) (o17 : qLoad h r16 (tsz K.P 45) = some r17) (wg1 : Comes K 28 [v1, r17] h r18 g1) (o19 : bineq K.P .geq 3 r18 n0 = some tt) (o24 : qLoad g1 r16 (tsz K.P 45) = some r24) (o25 : lSlice 1 [(0, r24)] (tyk K.P 26) = some (F25, B25)) (wg2 : wApp (g1.push B25) v5 (F25 (g1).n) (tyk K.P 26) (tyk K.P 26) = some (r26, g2)) (o12 : bineq K.P .add 3 v6 (.nu .i64 1) = some r12) : X49 K [1, 1, 0, 1, 0, 0] s h .normal (W (W (W (W (W (W (W (W (W (W (W (W (W (W (W (W (W (W (W (W (W (W s 7 v6) 8 v0) 9 r9) 10 tt) 13 v1) 14 v0) 15 v6) 16 r16) 17 r17) 18 r18) 19 tt) 20 v5) 21 v0) 22 v6) 23 r16) 24 r24) 25 (F25 (g1).n)) 26 r26) 5 r26) 11 v6) 12 r12) 6 r12) g2 :=
  (sq (sq (f49_r3 (h := h) (r10 := tt) hk i6 i0 ‹_› ‹_›) (cT 10 rfl sk)) (sq (Runs.blockN (sq (f49_r5 (h := h) (r19 := tt) hk i1 i0 i6 ‹_› ‹_› (pr _ _) ‹_› ‹_›) (cT 19 rfl (f49_r6 (h := g1) (r23 := r16) (g1 := g2) hk i5 i0 i6 ‹_› ‹_› ‹_› ‹_›)))) (f49_r4 (h := g2) hk i6 ‹_›)))
theorem f49_b110100_TF {v6 v0 r9 v1 r16 r17 r18 r12 : CV} {g1 : Hp} (i6 : s.at 6 = v6) (i0 : s.at 0 = v0) (i1 : s.at 1 = v1) (o9 : qLen h v0 (tyk K.P 26) = some r9) (o10 : bineq K.P .lss 3 v6 r9 = some tt) (o16 : qIndexAddr v0 v6 (tyk K.P 26) = some r16) (o17 : qLoad h r16 (tsz K.P 45) = some r17) (wg1 : Comes K 28 [v1, r17] h r18 g1) (o19 : bineq K.P .geq 3 r18 n0 = some ff) (o12 : bineq K.P .add 3 v6 (.nu .i64 1) = some r12) : X49 K [1, 1, 0, 1, 0, 0] s h .normal (W (W (W (W (W (W (W (W (W (W (W (W (W (W s 7 v6) 8 v0) 9 r9) 10 tt) 13 v1) 14 v0) 15 v6) 16 r16) 17 r17) 18 r18) 19 ff) 11 v6) 12 r12) 6 r12) g1 :=
  (sq (sq (f49_r3 (h := h) (r10 := tt) hk i6 i0 ‹_› ‹_›) (cT 10 rfl sk)) (sq (Runs.blockN (sq (f49_r5 (h := h) (r19 := ff) hk i1 i0 i6 ‹_› ‹_› (pr _ _) ‹_› ‹_›) (cF 19 rfl sk))) (f49_r4 (h := g1) hk i6 ‹_›)))
theorem f49_b110100_F {v6 v0 r9 : CV} (i6 : s.at 6 = v6) (i0 : s.at 0 = v0) (o9 : qLen h v0 (tyk K.P 26) = some r9) (o10 : bineq K.P .lss 3 v6 r9 = some ff) : X49 K [1, 1, 0, 1, 0, 0] s h (.exit 0) (W (W (W (W s 7 v6) 8 v0) 9 r9) 10 ff) h :=
  (sx (sq (f49_r3 (h := h) (r10 := ff) hk i6 i0 ‹_› ‹_›) (cF 10 rfl Runs.exit)) (by simp))
theorem f49_b111 {v5 : CV} (i5 : s.at 5 = v5) : X49 K [1, 1, 1] s h .ret (W (W s 27 v5) 4 v5) h :=
  (sq (f49_r7 (h := h) hk i5) Runs.ret)
theorem f70_b10_T {v0 r6 : CV} {g1 : Hp} (i0 : s.at 0 = v0) (wg1 : Comes K 66 [v0] h r6 g1) (o8 : bineq K.P .neq 29 r6 n0 = some tt) : X70 K [1, 0] s h .ret (W (W (W (W (W (W (W (W s 5 v0) 6 r6) 3 r6) 7 r6) 8 tt) 9 r6) 2 .nils) 3 r6) g1 :=
  (sq (f70_r1 (h := h) hk i0 (pr _ _) ‹_›) (sq (f70_r2 (h := g1) (v3 := r6) (r8 := tt) hk rfl ‹_›) (cT 8 rfl (sq (f70_r3 (h := g1) (v3 := r6) hk rfl) Runs.ret))))
theorem f70_b10_F {v0 r6 : CV} {g1 : Hp} (i0 : s.at 0 = v0) (wg1 : Comes K 66 [v0] h r6 g1) (o8 : bineq K.P .neq 29 r6 n0 = some ff) : X70 K [1, 0] s h .normal (W (W (W (W (W s 5 v0) 6 r6) 3 r6) 7 r6) 8 ff) g1 :=
  (sq (f70_r1 (h := h) hk i0 (pr _ _) ‹_›) (sq (f70_r2 (h := g1) (v3 := r6) (r8 := ff) hk rfl ‹_›) (cF 8 rfl sk)))
theorem f70_b110100_T {v12 v11 v2 v0 r18 r19 r20 : CV} {g1 g2 : Hp} (i12 : s.at 12 = v12) (i11 : s.at 11 = v11) (i2 : s.at 2 = v2) (i0 : s.at 0 = v0) (o13 : bineq K.P .lss 3 v12 v11 = some tt) (o18 : bineq K.P .add 3 v12 (.nu .i64 1) = some r18) (wg1 : Comes K 115 [v0, r18] h r19 g1) (wg2 : Comes K 114 [v2, r19] g1 r20 g2) : X70 K [1, 1, 0, 1, 0, 0] s h .normal (W (W (W (W (W (W (W (W (W (W (W (W s 13 tt) 14 v12) 4 v12) 15 v2) 16 v0) 17 v12) 18 r18) 19 r19) 20 r20) 2 r20) 21 r18) 12 r18) g2 :=
  (sq (f70_r5 (h := h) (r13 := tt) hk i12 i11 ‹_›) (sq (cT 13 rfl sk) (sq (Runs.blockN (sq (f70_r6 (h := h) hk i12) (f70_r7 (h := h) (v4 := v12) hk i2 i0 rfl ‹_› (pr _ _) ‹_› (pr _ _) ‹_›))) (f70_r8 (h := g2) (r21 := r18) hk i12 ‹_›))))
theorem f70_b110100_F {v12 v11 : CV} (i12 : s.at 12 = v12) (i11 : s.at 11 = v11) (o13 : bineq K.P .lss 3 v12 v11 = some ff) : X70 K [1, 1, 0, 1, 0, 0] s h (.exit 0) (W s 13 ff) h :=
  (sq (f70_r5 (h := h) (r13 := ff) hk i12 i11 ‹_›) (sx (cF 13 rfl Runs.exit) (by simp)))
theorem f70_b111 {v2 : CV} (i2 : s.at 2 = v2) : X70 K [1, 1, 1] s h .ret (W (W (W s 22 v2) 2 v2) 3 n0) h :=
  (sq (f70_r9 (h := h) hk i2) Runs.ret)
theorem f96_b110100_TF {v11 v10 v9 r13 r14 v3 r17 r18 r22 : CV} (i11 : s.at 11 = v11) (i10 : s.at 10 = v10) (i9 : s.at 9 = v9) (i3 : s.at 3 = v3) (o12 : bineq K.P .lss 3 v11 v10 = some tt) (o13 : qIndexAddr v9 v11 (tyk K.P 28) = some r13) (o14 : qLoad h r13 (tsz K.P 22) = some r14) (o17 : qLen h r14 (tyk K.P 22) = some r17) (o18 : bineq K.P .add 3 v3 r17 = some r18) (o20 : bineq K.P .lss 3 r18 n0 = some ff) (o22 : bineq K.P .add 3 v11 (.nu .i64 1) = some r22) : X96 K [1, 1, 0, 1, 0, 0] s h .normal (W (W (W (W (W (W (W (W (W (W (W (W (W s 12 tt) 13 r13) 14 r14) 5 r14) 15 v3) 16 r14) 17 r17) 18 r18) 3 r18) 19 r18) 20 ff) 22 r22) 11 r22) h :=
  (sq (f96_r3 (h := h) (r12 := tt) hk i11 i10 ‹_›) (sq (cT 12 rfl sk) (sq (Runs.blockN (sq (f96_r4 (h := h) hk i9 i11 ‹_› ‹_›) (sq (f96_r5 (h := h) (v5 := r14) hk i3 rfl ‹_› ‹_›) (sq (f96_r6 (h := h) (v3 := r18) (r20 := ff) hk rfl ‹_›) (cF 20 rfl sk))))) (f96_r8 (h := h) hk i11 ‹_›))))
theorem f96_b110100_F {v11 v10 : CV} (i11 : s.at 11 = v11) (i10 : s.at 10 = v10) (o12 : bineq K.P .lss 3 v11 v10 = some ff) : X96 K [1, 1, 0, 1, 0, 0] s h (.exit 0) (W s 12 ff) h :=
  (sq (f96_r3 (h := h) (r12 := ff) hk i11 i10 ‹_›) (sx (cF 12 rfl Runs.exit) (by simp)))
theorem f96_b11110100_T {v27 v26 v25 r29 r30 v6 r33 r34 : CV} {g1 : Hp} (i27 : s.at 27 = v27) (i26 : s.at 26 = v26) (i25 : s.at 25 = v25) (i6 : s.at 6 = v6) (o28 : bineq K.P .lss 3 v27 v26 = some tt) (o29 : qIndexAddr v25 v27 (tyk K.P 28) = some r29) (o30 : qLoad h r29 (tsz K.P 22) = some r30) (wg1 : wApp h v6 r30 (tyk K.P 22) (tyk K.P 22) = some (r33, g1)) (o34 : bineq K.P .add 3 v27 (.nu .i64 1) = some r34) : X96 K [1, 1, 1, 1, 0, 1, 0, 0] s h .normal (W (W (W (W (W (W (W (W (W (W s 28 tt) 29 r29) 30 r30) 8 r30) 31 v6) 32 r30) 33 r33) 6 r33) 34 r34) 27 r34) g1 :=
  (sq (f96_r11 (h := h) (r28 := tt) hk i27 i26 ‹_›) (sq (cT 28 rfl sk) (sq (Runs.blockN (sq (f96_r12 (h := h) hk i25 i27 ‹_› ‹_›) (f96_r13 (h := h) (v8 := r30) hk i6 rfl ‹_›))) (f96_r14 (h := g1) hk i27 ‹_›))))
theorem f96_b11110100_F {v27 v26 : CV} (i27 : s.at 27 = v27) (i26 : s.at 26 = v26) (o28 : bineq K.P .lss 3 v27 v26 = some ff) : X96 K [1, 1, 1, 1, 0, 1, 0, 0] s h (.exit 2) (W s 28 ff) h :=
  (sq (f96_r11 (h := h) (r28 := ff) hk i27 i26 ‹_›) (sx (cF 28 rfl Runs.exit) (by simp)))
theorem f96_b11111 {v6 : CV} (i6 : s.at 6 = v6) : X96 K [1, 1, 1, 1, 1] s h .ret (W (W s 35 v6) 2 v6) h :=
  (sq (f96_r15 (h := h) hk i6) Runs.ret)
theorem f115_b {v0 v1 : CV} {F2 F3 : Nat → CV} {B2 B3 : HB} (i0 : s.at 0 = v0) (i1 : s.at 1 = v1) (o2 : lBox 46 v0 (tsz K.P 46) = some (F2, B2)) (o3 : lBox 3 v1 (tsz K.P 3) = some (F3, B3)) : X115 K [] s h .ret (W (W (W (W (W s 2 (F2 (h).n)) 3 (F3 ((h.push B2)).n)) 4 .nilf) 5 (.fn 142 [(F3 ((h.push B2)).n), (F2 (h).n)])) 4 (.fn 142 [(F3 ((h.push B2)).n), (F2 (h).n)])) ((h.push B2).push B3) :=
  (sq (f115_r0 (h := h) hk i0 i1 ‹_› ‹_›) (sq (f115_r1 (h := ((h.push B2).push B3)) (v3 := (F3 ((h.push B2)).n)) (v2 := (F2 (h).n)) hk rfl rfl) Runs.ret))
theorem f128_b_FT {v1 v0 r10 r12 r13 r14 r20 r22 r24 r25 : CV} {g1 : Hp} (i1 : s.at 1 = v1) (i0 : s.at 0 = v0) (o6 : bineq K.P .lss 3 v1 n0 = some ff) (o10 : qCap (tyk K.P 22) v0 = some r10) (o12 : qLen h v0 (tyk K.P 22) = some r12) (o13 : bineq K.P .sub 3 r10 r12 = some r13) (o14 : bineq K.P .sub 3 v1 r13 = some r14) (o16 : bineq K.P .gtr 3 r14 n0 = some tt) (o20 : qSliceV none (some r10) h v0 (tyk K.P 22) = some r20) (wg1 : wApp h r20 r14 (tyk K.P 22) (tyk K.P 3) = some (r22, g1)) (o24 : qLen g1 v0 (tyk K.P 22) = some r24) (o25 : qSliceV none (some r24) g1 r22 (tyk K.P 22) = some r25) : X128 K [] s h .ret (W (W (W (W (W (W (W (W (W (W (W (W (W (W (W (W (W (W (W (W (W (W (W (W (W s 4 .nils) 5 v1) 6 ff) 8 v1) 9 v0) 10 r10) 11 v0) 12 r12) 13 r13) 14 r14) 1 r14) 15 r14) 16 tt) 17 v0) 18 v0) 19 r10) 20 r20) 21 r14) 22 r22) 23 v0) 24 r24) 25 r25) 0 r25) 26 r25) 4 r25) g1 :=
  (sq (f128_r0 (h := h) hk) (sq (sq (f128_r1 (h := h) (r6 := ff) hk i1 ‹_›) (cF 6 rfl sk)) (sq (sq (f128_r3 (h := h) hk i1 i0 ‹_› ‹_› ‹_› ‹_›) (sq (f128_r4 (h := h) (v1 := r14) (r16 := tt) hk rfl ‹_›) (cT 16 rfl (f128_r5 (h := h) (r19 := r10) (v1 := r14) hk i0 rfl ‹_› ‹_› ‹_› ‹_› ‹_›)))) (sq (f128_r6 (h := g1) (v0 := r25) hk rfl) Runs.ret))))
theorem f128_b_FF {v1 v0 r10 r12 r13 r14 : CV} (i1 : s.at 1 = v1) (i0 : s.at 0 = v0) (o6 : bineq K.P .lss 3 v1 n0 = some ff) (o10 : qCap (tyk K.P 22) v0 = some r10) (o12 : qLen h v0 (tyk K.P 22) = some r12) (o13 : bineq K.P .sub 3 r10 r12 = some r13) (o14 : bineq K.P .sub 3 v1 r13 = some r14) (o16 : bineq K.P .gtr 3 r14 n0 = some ff) : X128 K [] s h .ret (W (W (W (W (W (W (W (W (W (W (W (W (W (W (W s 4 .nils) 5 v1) 6 ff) 8 v1) 9 v0) 10 r10) 11 v0) 12 r12) 13 r13) 14 r14) 1 r14) 15 r14) 16 ff) 26 v0) 4 v0) h :=
  (sq (f128_r0 (h := h) hk) (sq (sq (f128_r1 (h := h) (r6 := ff) hk i1 ‹_›) (cF 6 rfl sk)) (sq (sq (f128_r3 (h := h) hk i1 i0 ‹_› ‹_› ‹_› ‹_›) (sq (f128_r4 (h := h) (v1 := r14) (r16 := ff) hk rfl ‹_›) (cF 16 rfl sk))) (sq (f128_r6 (h := h) hk i0) Runs.ret))))
end Go.CP
namespace Go.CP
open Go.Proofs
variable [LG] [HK] {K : Ctx} {s : Fr} {h : Hp} (hk : ∀ o, HK.keep o = false)
include hk
end Go.CP
namespace Go.CP
open Go.Proofs
structure PlansE [LG] [HK] (K : Ctx) : Prop where
variable [LG] [HK] {K : Ctx} {s : Fr} {h : Hp} (hk : ∀ o, HK.keep o = false) (pr : ∀ f args, K.prim f args = none) (Pl : PlansE K)
include hk pr Pl
end Go.CP
namespace Go.CP
open Go.Proofs
variable [LG] [HK] {K : Ctx} {s : Fr} {h : Hp} (hk : ∀ o, HK.keep o = false)
include hk
theorem f8_r0 : X8 K [0] s h .normal (W s 4 ff) h :=
  rg (Ra (v := ff) rfl rfl rfl (RunL.nil))
theorem f8_r1_T {v0 r28 : CV} {g1 : Hp} (i0 : s.at 0 = v0) (pg1 : K.prim 13 [v0, (.nu .i64 40)] = none) (wg1 : Comes K 13 [v0, (.nu .i64 40)] h tt g1) (o28 : qPick tt .skp tt = some r28) : X8 K [1, 0, 0] s h .normal (W (W (W (W (W (W s 23 v0) 24 tt) 25 tt) 26 .skp) 27 .skp) 28 r28) g1 :=
  rg (Rm rfl rfl i0 (RunL.call (v := tt) rfl rfl rfl rfl rfl pg1 wg1 (Rm (v := tt) rfl rfl rfl (RunL.pass rfl (RunL.pass rfl (R1 (v := r28) rfl (Q_pick rfl rfl rfl rfl o28) (RunL.nil)))))))
theorem f8_r1_F {v0 v1 r27 r28 : CV} {g1 g2 : Hp} (i0 : s.at 0 = v0) (i1 : s.at 1 = v1) (pg1 : K.prim 13 [v0, (.nu .i64 40)] = none) (wg1 : Comes K 13 [v0, (.nu .i64 40)] h ff g1) (pg2 : K.prim 13 [v1, (.nu .i64 40)] = none) (wg2 : Comes K 13 [v1, (.nu .i64 40)] g1 r27 g2) (o28 : qPick tt r27 ff = some r28) : X8 K [1, 0, 0] s h .normal (W (W (W (W (W (W s 23 v0) 24 ff) 25 ff) 26 v1) 27 r27) 28 r28) g2 :=
  rg (Rm rfl rfl i0 (RunL.call (v := ff) rfl rfl rfl rfl rfl pg1 wg1 (Rm (v := ff) rfl rfl rfl (Rm rfl rfl i1 (RunL.call (v := r27) rfl rfl rfl rfl rfl pg2 wg2 (R1 (v := r28) rfl (Q_pick rfl rfl rfl rfl o28) (RunL.nil)))))))
theorem f8_r2 {r29 : CV} {g1 : Hp} (pg1 : K.prim 14 [] = none) (wg1 : Comes K 14 [] h r29 g1) : X8 K [1, 0, 1, 0, 0] s h .normal (W (W s 29 r29) 4 r29) g1 :=
  rg (RunL.call (v := r29) rfl rfl rfl rfl rfl pg1 wg1 (Ra (v := r29) rfl rfl rfl (RunL.nil)))
theorem f8_r3 {v0 r31 v1 r33 : CV} {g1 g2 : Hp} (i0 : s.at 0 = v0) (i1 : s.at 1 = v1) (pg1 : K.prim 16 [v0] = none) (wg1 : Comes K 16 [v0] h r31 g1) (pg2 : K.prim 16 [v1] = none) (wg2 : Comes K 16 [v1] g1 r33 g2) : X8 K [1, 1, 0] s h .normal (W (W (W (W (W (W s 30 v0) 31 r31) 32 v1) 33 r33) 5 r31) 6 r33) g2 :=
  rg (Rm rfl rfl i0 (RunL.call (v := r31) rfl rfl rfl rfl rfl pg1 wg1 (Rm rfl rfl i1 (RunL.call (v := r33) rfl rfl rfl rfl rfl pg2 wg2 (Ra (v := r31) rfl rfl rfl (Ra (v := r33) rfl rfl rfl (RunL.nil)))))))
theorem f8_r4 {v0 r35 v5 r37 r38 : CV} {g1 g2 : Hp} (i0 : s.at 0 = v0) (i5 : s.at 5 = v5) (pg1 : K.prim 26 [v0] = none) (wg1 : Comes K 26 [v0] h r35 g1) (pg2 : K.prim 17 [v5] = none) (wg2 : Comes K 17 [v5] g1 r37 g2) (o38 : bineq K.P .neq 29 r35 r37 = some r38) : X8 K [1, 1, 1, 0, 0] s h .normal (W (W (W (W (W s 34 v0) 35 r35) 36 v5) 37 r37) 38 r38) g2 :=
  rg (Rm rfl rfl i0 (RunL.call (v := r35) rfl rfl rfl rfl rfl pg1 wg1 (Rm rfl rfl i5 (RunL.call (v := r37) rfl rfl rfl rfl rfl pg2 wg2 (Rb rfl rfl rfl rfl o38 (RunL.nil))))))
theorem f8_r6 {v5 r41 r42 r43 : CV} {g1 : Hp} (i5 : s.at 5 = v5) (pg1 : K.prim 44 [v5] = none) (wg1 : Comes K 44 [v5] h r41 g1) (o42 : qExtract 0 r41 = some r42) (o43 : qExtract 1 r41 = some r43) : X8 K [1, 1, 1, 1, 0] s h .normal (W (W (W (W (W (W (W s 40 v5) 41 r41) 39 r41) 42 r42) 43 r43) 7 r42) 8 r43) g1 :=
  rg (Rm rfl rfl i5 (RunL.call (v := r41) rfl rfl rfl rfl rfl pg1 wg1 (Rm (v := r41) rfl rfl rfl (R1 (v := r42) rfl (Q_extract rfl rfl o42) (R1 (v := r43) rfl (Q_extract rfl rfl o43) (Ra (v := r42) rfl rfl rfl (Ra (v := r43) rfl rfl rfl (RunL.nil))))))))
theorem f8_r7 : X8 K [1, 1, 1, 1, 1, 0, 0] s h .normal (W s 9 n0) h :=
  rg (Ra (v := n0) rfl rfl rfl (RunL.nil))
theorem f8_r8 {v9 r45 : CV} (i9 : s.at 9 = v9) (o45 : bineq K.P .lss 3 v9 (.nu .i64 2) = some r45) : X8 K [1, 1, 1, 1, 1, 0, 1, 0, 0, 0, 0] s h .normal (W (W s 44 v9) 45 r45) h :=
  rg (Rm rfl rfl i9 (Rb rfl rfl rfl rfl o45 (RunL.nil)))
theorem f8_r10 {v0 r50 r51 r52 : CV} {g1 : Hp} (i0 : s.at 0 = v0) (pg1 : K.prim 25 [v0] = none) (wg1 : Comes K 25 [v0] h r50 g1) (o51 : qExtract 0 r50 = some r51) (o52 : qExtract 1 r50 = some r52) : X8 K [1, 1, 1, 1, 1, 0, 1, 0, 0, 1, 0, 0, 0] s h .normal (W (W (W (W (W (W (W s 49 v0) 50 r50) 48 r50) 51 r51) 52 r52) 10 r51) 11 r52) g1 :=
  rg (Rm rfl rfl i0 (RunL.call (v := r50) rfl rfl rfl rfl rfl pg1 wg1 (Rm (v := r50) rfl rfl rfl (R1 (v := r51) rfl (Q_extract rfl rfl o51) (R1 (v := r52) rfl (Q_extract rfl rfl o52) (Ra (v := r51) rfl rfl rfl (Ra (v := r52) rfl rfl rfl (RunL.nil))))))))
theorem f8_r11_F {v8 v11 v10 v7 r59 r60 r61 : CV} {g1 : Hp} (i8 : s.at 8 = v8) (i11 : s.at 11 = v11) (i10 : s.at 10 = v10) (i7 : s.at 7 = v7) (o55 : bineq K.P .neq 29 v8 v11 = some ff) (pg1 : K.prim 23 [v10, v7] = none) (wg1 : Comes K 23 [v10, v7] h r59 g1) (o60 : aun .not r59 = some r60) (o61 : qPick tt r60 ff = some r61) : X8 K [1, 1, 1, 1, 1, 0, 1, 0, 0, 1, 0, 0, 1, 0, 0] s h .normal (W (W (W (W (W (W (W (W (W s 53 v8) 54 v11) 55 ff) 56 ff) 57 v10) 58 v7) 59 r59) 60 r60) 61 r61) g1 :=
  rg (Rm rfl rfl i8 (Rm rfl rfl i11 (Rb rfl rfl rfl rfl o55 (Rm (v := ff) rfl rfl rfl (Rm rfl rfl i10 (Rm rfl rfl i7 (RunL.call (v := r59) rfl rfl rfl rfl rfl pg1 wg1 (R1 (v := r60) rfl (Q_un rfl rfl o60) (R1 (v := r61) rfl (Q_pick rfl rfl rfl rfl o61) (RunL.nil))))))))))
theorem f8_r13 {v10 r63 : CV} {g1 : Hp} (i10 : s.at 10 = v10) (pg1 : K.prim 45 [v10] = none) (wg1 : Comes K 45 [v10] h r63 g1) : X8 K [1, 1, 1, 1, 1, 0, 1, 0, 0, 1, 0, 0, 1, 1] s h .normal (W (W s 62 v10) 63 r63) g1 :=
  rg (Rm rfl rfl i10 (RunL.call (v := r63) rfl rfl rfl rfl rfl pg1 wg1 (RunL.nil)))
theorem f8_r9 {v9 r47 : CV} (i9 : s.at 9 = v9) (o47 : bineq K.P .add 3 v9 (.nu .i64 1) = some r47) : X8 K [1, 1, 1, 1, 1, 0, 1, 0, 0, 1, 1] s h .normal (W (W (W s 46 v9) 47 r47) 9 r47) h :=
  rg (Rm rfl rfl i9 (Rb rfl rfl rfl rfl o47 (Ra (v := r47) rfl rfl rfl (RunL.nil))))
theorem f8_r14 {v5 r65 v6 r67 : CV} {g1 g2 : Hp} (i5 : s.at 5 = v5) (i6 : s.at 6 = v6) (pg1 : K.prim 15 [v5, (.nu .i64 6), (.nu .i64 3), (.nu .i64 8)] = none) (wg1 : Comes K 15 [v5, (.nu .i64 6), (.nu .i64 3), (.nu .i64 8)] h r65 g1) (pg2 : K.prim 15 [v6, (.nu .i64 6), (.nu .i64 3), (.nu .i64 8)] = none) (wg2 : Comes K 15 [v6, (.nu .i64 6), (.nu .i64 3), (.nu .i64 8)] g1 r67 g2) : X8 K [1, 1, 1, 1, 1, 1, 0] s h .normal (W (W (W (W (W (W s 64 v5) 65 r65) 66 v6) 67 r67) 12 r65) 13 r67) g2 :=
  rg (Rm rfl rfl i5 (RunL.call (v := r65) rfl rfl rfl rfl rfl pg1 wg1 (Rm rfl rfl i6 (RunL.call (v := r67) rfl rfl rfl rfl rfl pg2 wg2 (Ra (v := r65) rfl rfl rfl (Ra (v := r67) rfl rfl rfl (RunL.nil)))))))
theorem f8_r15 {v12 v13 r71 r72 r73 : CV} {g1 : Hp} (i12 : s.at 12 = v12) (i13 : s.at 13 = v13) (pg1 : K.prim 46 [v12, v13] = none) (wg1 : Comes K 46 [v12, v13] h r71 g1) (o72 : qExtract 0 r71 = some r72) (o73 : qExtract 1 r71 = some r73) : X8 K [1, 1, 1, 1, 1, 1, 1, 0] s h .normal (W (W (W (W (W (W (W (W s 69 v12) 70 v13) 71 r71) 68 r71) 72 r72) 73 r73) 14 r72) 15 r73) g1 :=
  rg (Rm rfl rfl i12 (Rm rfl rfl i13 (RunL.call (v := r71) rfl rfl rfl rfl rfl pg1 wg1 (Rm (v := r71) rfl rfl rfl (R1 (v := r72) rfl (Q_extract rfl rfl o72) (R1 (v := r73) rfl (Q_extract rfl rfl o73) (Ra (v := r72) rfl rfl rfl (Ra (v := r73) rfl rfl rfl (RunL.nil)))))))))
theorem f8_r16 {v12 v13 r77 r78 r79 : CV} {g1 : Hp} (i12 : s.at 12 = v12) (i13 : s.at 13 = v13) (pg1 : K.prim 47 [v12, v13] = none) (wg1 : Comes K 47 [v12, v13] h r77 g1) (o78 : qExtract 0 r77 = some r78) (o79 : qExtract 1 r77 = some r79) : X8 K [1, 1, 1, 1, 1, 1, 1, 1, 0] s h .normal (W (W (W (W (W (W (W (W s 75 v12) 76 v13) 77 r77) 74 r77) 78 r78) 79 r79) 16 r78) 17 r79) g1 :=
  rg (Rm rfl rfl i12 (Rm rfl rfl i13 (RunL.call (v := r77) rfl rfl rfl rfl rfl pg1 wg1 (Rm (v := r77) rfl rfl rfl (R1 (v := r78) rfl (Q_extract rfl rfl o78) (R1 (v := r79) rfl (Q_extract rfl rfl o79) (Ra (v := r78) rfl rfl rfl (Ra (v := r79) rfl rfl rfl (RunL.nil)))))))))
theorem f8_r17_FFF {v15 v17 r84 v14 v12 r89 v13 r91 r92 r93 r94 v16 r99 r101 r102 r103 r104 r105 : CV} {g1 g2 g3 g4 g5 g6 g7 g8 : Hp} (i15 : s.at 15 = v15) (i17 : s.at 17 = v17) (i14 : s.at 14 = v14) (i12 : s.at 12 = v12) (i13 : s.at 13 = v13) (i16 : s.at 16 = v16) (o81 : bineq K.P .neq 29 v15 n0 = some ff) (o84 : bineq K.P .neq 29 v17 n0 = some r84) (o85 : qPick tt r84 ff = some ff) (pg1 : K.prim 16 [v12] = none) (wg1 : Comes K 16 [v12] h r89 g1) (pg2 : K.prim 16 [v13] = none) (wg2 : Comes K 16 [v13] g1 r91 g2) (pg3 : K.prim 48 [r89, r91] = none) (wg3 : Comes K 48 [r89, r91] g2 r92 g3) (pg4 : K.prim 23 [v14, r92] = none) (wg4 : Comes K 23 [v14, r92] g3 r93 g4) (o94 : aun .not r93 = some r94) (o95 : qPick tt r94 ff = some ff) (pg5 : K.prim 16 [v12] = none) (wg5 : Comes K 16 [v12] g4 r99 g5) (pg6 : K.prim 16 [v13] = none) (wg6 : Comes K 16 [v13] g5 r101 g6) (pg7 : K.prim 49 [r99, r101] = none) (wg7 : Comes K 49 [r99, r101] g6 r102 g7) (pg8 : K.prim 23 [v16, r102] = none) (wg8 : Comes K 23 [v16, r102] g7 r103 g8) (o104 : aun .not r103 = some r104) (o105 : qPick tt r104 ff = some r105) : X8 K [1, 1, 1, 1, 1, 1, 1, 1, 1, 0, 0] s h .normal (W (W (W (W (W (W (W (W (W (W (W (W (W (W (W (W (W (W (W (W (W (W (W (W (W (W s 80 v15) 81 ff) 82 ff) 83 v17) 84 r84) 85 ff) 86 ff) 87 v14) 88 v12) 89 r89) 90 v13) 91 r91) 92 r92) 93 r93) 94 r94) 95 ff) 96 ff) 97 v16) 98 v12) 99 r99) 100 v13) 101 r101) 102 r102) 103 r103) 104 r104) 105 r105) g8 :=
  rg (Rm rfl rfl i15 (Rb rfl rfl rfl rfl o81 (Rm (v := ff) rfl rfl rfl (Rm rfl rfl i17 (Rb rfl rfl rfl rfl o84 (R1 (v := ff) rfl (Q_pick rfl rfl rfl rfl o85) (Rm (v := ff) rfl rfl rfl (Rm rfl rfl i14 (Rm rfl rfl i12 (RunL.call (v := r89) rfl rfl rfl rfl rfl pg1 wg1 (Rm rfl rfl i13 (RunL.call (v := r91) rfl rfl rfl rfl rfl pg2 wg2 (RunL.call (v := r92) rfl rfl rfl rfl rfl pg3 wg3 (RunL.call (v := r93) rfl rfl rfl rfl rfl pg4 wg4 (R1 (v := r94) rfl (Q_un rfl rfl o94) (R1 (v := ff) rfl (Q_pick rfl rfl rfl rfl o95) (Rm (v := ff) rfl rfl rfl (Rm rfl rfl i16 (Rm rfl rfl i12 (RunL.call (v := r99) rfl rfl rfl rfl rfl pg5 wg5 (Rm rfl rfl i13 (RunL.call (v := r101) rfl rfl rfl rfl rfl pg6 wg6 (RunL.call (v := r102) rfl rfl rfl rfl rfl pg7 wg7 (RunL.call (v := r103) rfl rfl rfl rfl rfl pg8 wg8 (R1 (v := r104) rfl (Q_un rfl rfl o104) (R1 (v := r105) rfl (Q_pick rfl rfl rfl rfl o105) (RunL.nil)))))))))))))))))))))))))))
theorem f8_r19 {v5 r107 : CV} {g1 : Hp} (i5 : s.at 5 = v5) (pg1 : K.prim 17 [v5] = none) (wg1 : Comes K 17 [v5] h r107 g1) : X8 K [1, 1, 1, 1, 1, 1, 1, 1, 1, 1, 0] s h .normal (W (W (W s 106 v5) 107 r107) 18 r107) g1 :=
  rg (Rm rfl rfl i5 (RunL.call (v := r107) rfl rfl rfl rfl rfl pg1 wg1 (Ra (v := r107) rfl rfl rfl (RunL.nil))))
theorem f8_r20 {v18 r109 : CV} (i18 : s.at 18 = v18) (o109 : bineq K.P .eql 29 v18 n0 = some r109) : X8 K [1, 1, 1, 1, 1, 1, 1, 1, 1, 1, 1, 0, 0] s h .normal (W (W s 108 v18) 109 r109) h :=
  rg (Rm rfl rfl i18 (Rb rfl rfl rfl rfl o109 (RunL.nil)))
theorem f8_r21 {v6 r111 : CV} {g1 : Hp} (i6 : s.at 6 = v6) (pg1 : K.prim 17 [v6] = none) (wg1 : Comes K 17 [v6] h r111 g1) : X8 K [1, 1, 1, 1, 1, 1, 1, 1, 1, 1, 1, 0, 1, 0] s h .normal (W (W (W s 110 v6) 111 r111) 18 r111) g1 :=
  rg (Rm rfl rfl i6 (RunL.call (v := r111) rfl rfl rfl rfl rfl pg1 wg1 (Ra (v := r111) rfl rfl rfl (RunL.nil))))
theorem f8_r22 {v0 v1 r115 r116 r117 : CV} {g1 : Hp} (i0 : s.at 0 = v0) (i1 : s.at 1 = v1) (pg1 : K.prim 46 [v0, v1] = none) (wg1 : Comes K 46 [v0, v1] h r115 g1) (o116 : qExtract 0 r115 = some r116) (o117 : qExtract 1 r115 = some r117) : X8 K [1, 1, 1, 1, 1, 1, 1, 1, 1, 1, 1, 1, 0] s h .normal (W (W (W (W (W (W (W (W s 113 v0) 114 v1) 115 r115) 112 r115) 116 r116) 117 r117) 19 r116) 20 r117) g1 :=
  rg (Rm rfl rfl i0 (Rm rfl rfl i1 (RunL.call (v := r115) rfl rfl rfl rfl rfl pg1 wg1 (Rm (v := r115) rfl rfl rfl (R1 (v := r116) rfl (Q_extract rfl rfl o116) (R1 (v := r117) rfl (Q_extract rfl rfl o117) (Ra (v := r116) rfl rfl rfl (Ra (v := r117) rfl rfl rfl (RunL.nil)))))))))
theorem f8_r23 {v0 v1 r121 r122 r123 : CV} {g1 : Hp} (i0 : s.at 0 = v0) (i1 : s.at 1 = v1) (pg1 : K.prim 47 [v0, v1] = none) (wg1 : Comes K 47 [v0, v1] h r121 g1) (o122 : qExtract 0 r121 = some r122) (o123 : qExtract 1 r121 = some r123) : X8 K [1, 1, 1, 1, 1, 1, 1, 1, 1, 1, 1, 1, 1, 0] s h .normal (W (W (W (W (W (W (W (W s 119 v0) 120 v1) 121 r121) 118 r121) 122 r122) 123 r123) 21 r122) 22 r123) g1 :=
  rg (Rm rfl rfl i0 (Rm rfl rfl i1 (RunL.call (v := r121) rfl rfl rfl rfl rfl pg1 wg1 (Rm (v := r121) rfl rfl rfl (R1 (v := r122) rfl (Q_extract rfl rfl o122) (R1 (v := r123) rfl (Q_extract rfl rfl o123) (Ra (v := r122) rfl rfl rfl (Ra (v := r123) rfl rfl rfl (RunL.nil)))))))))
theorem f8_r24_TTT {v20 v18 v22 r130 v0 v5 r135 r138 r139 : CV} {g1 g2 : Hp} (i20 : s.at 20 = v20) (i18 : s.at 18 = v18) (i22 : s.at 22 = v22) (i0 : s.at 0 = v0) (i5 : s.at 5 = v5) (o126 : bineq K.P .eql 29 v20 v18 = some tt) (o130 : bineq K.P .eql 29 v22 v18 = some r130) (o131 : qPick r130 ff tt = some tt) (pg1 : K.prim 23 [v0, v5] = none) (wg1 : Comes K 23 [v0, v5] h r135 g1) (o136 : qPick r135 ff tt = some tt) (pg2 : K.prim 14 [] = none) (wg2 : Comes K 14 [] g1 r138 g2) (o139 : qPick r138 ff tt = some r139) : X8 K [1, 1, 1, 1, 1, 1, 1, 1, 1, 1, 1, 1, 1, 1, 0] s h .normal (W (W (W (W (W (W (W (W (W (W (W (W (W (W (W (W (W s 124 v20) 125 v18) 126 tt) 127 tt) 128 v22) 129 v18) 130 r130) 131 tt) 132 tt) 133 v0) 134 v5) 135 r135) 136 tt) 137 tt) 138 r138) 139 r139) 4 r139) g2 :=
  rg (Rm rfl rfl i20 (Rm rfl rfl i18 (Rb rfl rfl rfl rfl o126 (Rm (v := tt) rfl rfl rfl (Rm rfl rfl i22 (Rm rfl rfl i18 (Rb rfl rfl rfl rfl o130 (R1 (v := tt) rfl (Q_pick rfl rfl rfl rfl o131) (Rm (v := tt) rfl rfl rfl (Rm rfl rfl i0 (Rm rfl rfl i5 (RunL.call (v := r135) rfl rfl rfl rfl rfl pg1 wg1 (R1 (v := tt) rfl (Q_pick rfl rfl rfl rfl o136) (Rm (v := tt) rfl rfl rfl (RunL.call (v := r138) rfl rfl rfl rfl rfl pg2 wg2 (R1 (v := r139) rfl (Q_pick rfl rfl rfl rfl o139) (Ra (v := r139) rfl rfl rfl (RunL.nil))))))))))))))))))
end Go.CP
namespace Go.CP
open Go.Proofs
variable [LG] [HK] {K : Ctx} {s : Fr} {h : Hp} (hk : ∀ o, HK.keep o = false)
include hk
end Go.CP
namespace Go.CP
open Go.Proofs
variable [LG] [HK] {K : Ctx} {s : Fr} {h : Hp} (hk : ∀ o, HK.keep o = false)
include hk
end Go.CP
namespace Go.CP
open Go.Proofs
variable [LG] [HK] {K : Ctx} {s : Fr} {h : Hp} (hk : ∀ o, HK.keep o = false)
include hk
end Go.CP
namespace Go.CP
open Go.Proofs
variable [LG] [HK] {K : Ctx} {ro : Option Nat} {s : Fr} {h : Hp} (hk : ∀ o, HK.keep o = false)
include hk
theorem f114_r0 {v0 : CV} {F2 : Nat → CV} {B2 : HB} (i0 : s.at 0 = v0) (o2 : lBox 22 v0 (tsz K.P 22) = some (F2, B2)) : Runs K 114 13 ro (sub1 [0] (bodyOf Tryz.f114)) s h .normal (W (W s 2 (F2 (h).n)) 4 .nils) (h.push B2) :=
  rg (RunL.op (v := (F2 (h).n)) rfl (L_box rfl i0 o2) (Ra (v := .nils) rfl rfl rfl (RunL.nil)))
theorem f114_r1 {v1 : CV} (i1 : s.at 1 = v1) : Runs K 114 13 ro (sub1 [1, 0, 0] (bodyOf Tryz.f114)) s h .normal (W s 6 v1) h :=
  rg (Rm rfl rfl i1 (RunL.nil))
theorem f114_r2 {v7 : CV} (i7 : s.at 7 = v7) : Runs K 114 13 ro (sub1 [1, 0, 1, 0, 0] (bodyOf Tryz.f114)) s h .normal (W s 5 v7) h :=
  rg (Ra (v := v7) rfl rfl i7 (RunL.nil))
theorem f114_r3 {v2 r8 v5 r11 : CV} {F10 : Nat → CV} {B10 : HB} {g1 g2 : Hp} (i2 : s.at 2 = v2) (i5 : s.at 5 = v5) (o8 : qLoad h v2 (tsz K.P 22) = some r8) (o10 : lSlice 1 [(0, v5)] (tyk K.P 22) = some (F10, B10)) (wg1 : wApp (h.push B10) r8 (F10 (h).n) (tyk K.P 22) (tyk K.P 22) = some (r11, g1)) (wg2 : wStore g1 v2 r11 (tsz K.P 22) = some (.undef, g2)) : Runs K 114 13 ro (sub1 [1, 0, 1, 0, 1, 0] (bodyOf Tryz.f114)) s h .normal (W (W (W (W s 8 r8) 9 v5) 10 (F10 (h).n)) 11 r11) g2 :=
  rg (R1 (v := r8) rfl (Q_load rfl i2 o8) (Rm rfl rfl i5 (RunL.op (v := (F10 (h).n)) rfl (L_slice rfl rfl o10) (RunL.op (v := r11) rfl (W_app hk rfl rfl rfl rfl rfl rfl wg1) (RunL.op (v := .undef) rfl (W_store rfl i2 rfl wg2) (RunL.nil))))))
theorem f114_r4 {v2 r12 : CV} (i2 : s.at 2 = v2) (o12 : qLoad h v2 (tsz K.P 22) = some r12) : Runs K 114 13 ro (sub1 [1, 1, 0] (bodyOf Tryz.f114)) s h .normal (W (W s 12 r12) 4 r12) h :=
  rg (R1 (v := r12) rfl (Q_load rfl i2 o12) (Ra (v := r12) rfl rfl rfl (RunL.nil)))
theorem f142_r0 {v0 : CV} {F3 : Nat → CV} {B3 : HB} (i0 : s.at 0 = v0) (o3 : lBox 110 v0 (tsz K.P 110) = some (F3, B3)) : Runs K 142 37 ro (sub1 [0] (bodyOf Tryz.f142)) s h .normal (W s 3 (F3 (h).n)) (h.push B3) :=
  rg (RunL.op (v := (F3 (h).n)) rfl (L_box rfl i0 o3) (RunL.nil))
theorem f142_r1 {v1 r6 r7 : CV} (i1 : s.at 1 = v1) (o6 : qLoad h v1 (tsz K.P 3) = some r6) (o7 : bineq K.P .eql 3 r6 n0 = some r7) : Runs K 142 37 ro (sub1 [1, 0, 0] (bodyOf Tryz.f142)) s h .normal (W (W s 6 r6) 7 r7) h :=
  rg (R1 (v := r6) rfl (Q_load rfl i1 o6) (Rb rfl rfl rfl rfl o7 (RunL.nil)))
theorem f142_r2 {v3 r8 r9 : CV} {g1 : Hp} (i3 : s.at 3 = v3) (o8 : qLoad h v3 (tsz K.P 110) = some r8) (wg1 : ComesV K r8 [.nils] h r9 g1) : Runs K 142 37 ro (sub1 [1, 0, 1, 0, 0] (bodyOf Tryz.f142)) s h .normal (W (W s 8 r8) 9 r9) g1 :=
  rg (R1 (v := r8) rfl (Q_load rfl i3 o8) (RunL.callV (v := r9) rfl rfl rfl rfl rfl wg1 (RunL.nil)))
theorem f142_r3 {F4 : Nat → CV} {B4 : HB} {g2 : Hp} (o4 : lAlloc 3 (tzero K.P 3) = some (F4, B4)) (wg2 : wStore (h.push B4) (F4 (h).n) n0 (tsz K.P 3) = some (.undef, g2)) : Runs K 142 37 ro (sub1 [1, 1, 0] (bodyOf Tryz.f142)) s h .normal (W s 4 (F4 (h).n)) g2 :=
  rg (RunL.op (v := (F4 (h).n)) rfl (L_alloc rfl o4) (RunL.op (v := .undef) rfl (W_store rfl rfl rfl wg2) (RunL.nil)))
theorem f142_r4 {v4 r10 v1 r11 r12 v2 r13 r14 r15 : CV} (i4 : s.at 4 = v4) (i1 : s.at 1 = v1) (i2 : s.at 2 = v2) (o10 : qLoad h v4 (tsz K.P 3) = some r10) (o11 : qLoad h v1 (tsz K.P 3) = some r11) (o12 : bineq K.P .add 3 r10 r11 = some r12) (o13 : qLoad h v2 (tsz K.P 46) = some r13) (o14 : qLen h r13 (tyk K.P 46) = some r14) (o15 : bineq K.P .leq 3 r12 r14 = some r15) : Runs K 142 37 ro (sub1 [1, 1, 1, 0, 0, 0, 0] (bodyOf Tryz.f142)) s h .normal (W (W (W (W (W (W s 10 r10) 11 r11) 12 r12) 13 r13) 14 r14) 15 r15) h :=
  rg (R1 (v := r10) rfl (Q_load rfl i4 o10) (R1 (v := r11) rfl (Q_load rfl i1 o11) (Rb rfl rfl rfl rfl o12 (R1 (v := r13) rfl (Q_load rfl i2 o13) (R1 (v := r14) rfl (Q_len rfl rfl rfl rfl rfl o14) (Rb rfl rfl rfl rfl o15 (RunL.nil)))))))
theorem f142_r6 {v2 r18 v4 r19 r20 r21 v1 r22 r23 r24 : CV} {g1 : Hp} (hp : K.plan 142 6 = some [.take 0, .take 1, .take 2, .take 3, .only 4 [3, 2, 1, 0], .only 5 [3, 2, 1, 0], .only 6 []]) (i2 : s.at 2 = v2) (i4 : s.at 4 = v4) (i1 : s.at 1 = v1) (o18 : qLoad h v2 (tsz K.P 46) = some r18) (q18 : ceq r18 r18 = true) (o19 : qLoad h v4 (tsz K.P 3) = some r19) (q19 : ceq r19 r19 = true) (o20 : bineq K.P .add 3 r19 (.nu .i64 1) = some r20) (o21 : qSliceV (some r20) none h r18 (tyk K.P 46) = some r21) (q21 : ceq r21 r21 = true) (o22 : qLoad h v1 (tsz K.P 3) = some r22) (o23 : bineq K.P .sub 3 r22 (.nu .i64 1) = some r23) (pg1 : K.prim 115 [r21, r23] = none) (wg1 : Comes K 115 [r21, r23] h r24 g1) : Runs K 142 37 ro (sub1 [1, 1, 1, 0, 0, 1, 0, 0, 0] (bodyOf Tryz.f142)) s h .normal (W (W (W (W (W (W (W s 18 r18) 19 r19) 20 r20) 21 r21) 22 r22) 23 r23) 24 r24) g1 :=
  Runs.drawn hp (RunP.q (v := r18) rfl rfl (Q_load rfl i2 o18) (RunP.q (v := r19) rfl rfl (Q_load rfl i4 o19) (RunP.q (v := r20) rfl rfl (Q_bin rfl rfl rfl o20) (RunP.q (v := r21) rfl rfl (Q_slice rfl rfl rfl rfl o21) (RunP.only (v := r22) rfl rfl (Q1.e (Q_load rfl i1 o22)) (by simp (decide := true) only [pdOk, looks, qX, ev, Fr.putO, Fr.at_set, reduceIte, Nat.reduceEqDiff, List.filter_cons, List.filter_nil, List.any_cons, List.any_nil, List.all_cons, List.all_nil, List.getElem_toArray, List.getElem_cons_succ, List.getElem_cons_zero, Option.map_some, Option.map_none, ofValue_int, qSlice_V, Bool.and_true, Bool.true_and, Bool.and_self, i2, i4, i1, o18, q18, o19, q19, o20, o21, q21, o22]) (RunP.only (v := r23) rfl rfl (Q1.e (Q_bin rfl rfl rfl o23)) (by simp (decide := true) only [pdOk, looks, qX, ev, Fr.putO, Fr.at_set, reduceIte, Nat.reduceEqDiff, List.filter_cons, List.filter_nil, List.any_cons, List.any_nil, List.all_cons, List.all_nil, List.getElem_toArray, List.getElem_cons_succ, List.getElem_cons_zero, Option.map_some, Option.map_none, ofValue_int, qSlice_V, Bool.and_true, Bool.true_and, Bool.and_self, i2, i4, i1, o18, q18, o19, q19, o20, o21, q21, o22, o23]) (RunP.call (v := r24) rfl rfl rfl rfl rfl rfl pg1 wg1 rfl (RunP.nil))))))))
theorem f142_r7 {v25 : CV} (i25 : s.at 25 = v25) : Runs K 142 37 ro (sub1 [1, 1, 1, 0, 0, 1, 0, 0, 1, 0, 0] (bodyOf Tryz.f142)) s h .normal (W s 5 v25) h :=
  rg (Ra (v := v25) rfl rfl i25 (RunL.nil))
theorem f142_r8 {v3 r26 v2 r27 v4 r28 r29 r30 v5 r33 r34 r35 : CV} {F31 : Nat → CV} {B31 : HB} {g1 g2 : Hp} (hp : K.plan 142 8 = some [.take 0, .take 1, .take 2, .take 3, .take 4, .take 5, .only 6 [5, 4, 3, 2, 1, 0], .only 7 [0], .only 8 [], .only 9 []]) (i3 : s.at 3 = v3) (i2 : s.at 2 = v2) (i4 : s.at 4 = v4) (i5 : s.at 5 = v5) (o26 : qLoad h v3 (tsz K.P 110) = some r26) (q26 : ceq r26 r26 = true) (o27 : qLoad h v2 (tsz K.P 46) = some r27) (q27 : ceq r27 r27 = true) (o28 : qLoad h v4 (tsz K.P 3) = some r28) (q28 : ceq r28 r28 = true) (o29 : qIndexAddr r27 r28 (tyk K.P 46) = some r29) (o30 : qLoad h r29 (tsz K.P 3) = some r30) (q30 : ceq r30 r30 = true) (o31 : lSlice 1 [(0, r30)] (tyk K.P 46) = some (F31, B31)) (z26 : qLoad (h.push B31) v3 (tsz K.P 110) = some r26) (z27 : qLoad (h.push B31) v2 (tsz K.P 46) = some r27) (z28 : qLoad (h.push B31) v4 (tsz K.P 3) = some r28) (z30 : qLoad (h.push B31) r29 (tsz K.P 3) = some r30) (hb : heq ((h.push B31).get h.n) B31 = true) (wg1 : wApp (h.push B31) (F31 h.n) v5 (tyk K.P 46) (tyk K.P 46) = some (r33, g1)) (y26 : qLoad g1 v3 (tsz K.P 110) = some r26) (wg2 : ComesV K r26 [r33] g1 r34 g2) (o35 : aun .not r34 = some r35) : Runs K 142 37 ro (sub1 [1, 1, 1, 0, 0, 1, 0, 0, 1, 0, 1, 0, 0] (bodyOf Tryz.f142)) s h .normal (W (W (W (W (W (W (W (W (W (W s 26 r26) 27 r27) 28 r28) 29 r29) 30 r30) 31 (F31 h.n)) 32 v5) 33 r33) 34 r34) 35 r35) g2 :=
  Runs.drawn hp (RunP.q (v := r26) rfl rfl (Q_load rfl i3 o26) (RunP.q (v := r27) rfl rfl (Q_load rfl i2 o27) (RunP.q (v := r28) rfl rfl (Q_load rfl i4 o28) (RunP.q (v := r29) rfl rfl (Q_ia rfl rfl rfl o29) (RunP.q (v := r30) rfl rfl (Q_load rfl rfl o30) (RunP.takeLay (F := F31) (b := B31) rfl rfl (show lSlice 1 [(0, r30)] (tyk K.P 46) = some (F31, B31) from o31) (by simp (decide := true) only [pdOk, looks, qX, ev, Fr.putO, Fr.at_set, reduceIte, Nat.reduceEqDiff, List.filter_cons, List.filter_nil, List.any_cons, List.any_nil, List.all_cons, List.all_nil, List.getElem_toArray, List.getElem_cons_succ, List.getElem_cons_zero, Option.map_some, Option.map_none, ofValue_int, qSlice_V, Bool.and_true, Bool.true_and, Bool.and_self, i3, i2, i4, i5, z26, z27, z28, z30, q26, q27, q28, q30, o29]) (RunP.only (v := v5) rfl rfl (Q1.e (Q_move rfl i5)) (by simp (decide := true) only [pdOk, looks, qX, ev, Fr.putO, Fr.at_set, reduceIte, Nat.reduceEqDiff, List.filter_cons, List.filter_nil, List.any_cons, List.any_nil, List.all_cons, List.all_nil, List.getElem_toArray, List.getElem_cons_succ, List.getElem_cons_zero, Option.map_some, Option.map_none, ofValue_int, qSlice_V, Bool.and_true, Bool.true_and, Bool.and_self, i3, i2, i4, i5, z26, z27, z28, z30, q26, q27, q28, q30, hb, o29]) (RunP.only (v := r33) rfl rfl (W_app hk rfl rfl rfl rfl rfl rfl wg1) (by simp (decide := true) only [pdOk, looks, qX, ev, Fr.putO, Fr.at_set, reduceIte, Nat.reduceEqDiff, List.filter_cons, List.filter_nil, List.any_cons, List.any_nil, List.all_cons, List.all_nil, List.getElem_toArray, List.getElem_cons_succ, List.getElem_cons_zero, Option.map_some, Option.map_none, ofValue_int, qSlice_V, Bool.and_true, Bool.true_and, Bool.and_self, i3, i2, i4, i5, y26, q26]) (RunP.callV (w := r34) rfl rfl rfl rfl rfl rfl wg2 rfl (RunP.only (v := r35) rfl rfl (Q1.e (Q_un rfl rfl o35)) rfl (RunP.nil)))))))))))
theorem f142_r9 {v4 r36 : CV} (i4 : s.at 4 = v4) (o36 : qLoad h v4 (tsz K.P 3) = some r36) : Runs K 142 37 ro (sub1 [1, 1, 1, 0, 0, 1, 1, 0, 0] (bodyOf Tryz.f142)) s h .normal (W s 36 r36) h :=
  rg (R1 (v := r36) rfl (Q_load rfl i4 o36) (RunL.nil))
theorem f142_r10 {v36 : CV} {F4 : Nat → CV} {B4 : HB} {g2 : Hp} (i36 : s.at 36 = v36) (o4 : lAlloc 3 (tzero K.P 3) = some (F4, B4)) (wg2 : wStore (h.push B4) (F4 (h).n) v36 (tsz K.P 3) = some (.undef, g2)) : Runs K 142 37 ro (sub1 [1, 1, 1, 0, 0, 1, 1, 0, 1] (bodyOf Tryz.f142)) s h .normal (W s 4 (F4 (h).n)) g2 :=
  rg (RunL.op (v := (F4 (h).n)) rfl (L_alloc rfl o4) (RunL.op (v := .undef) rfl (W_store rfl rfl i36 wg2) (RunL.nil)))
theorem f142_r5 {v4 r16 r17 : CV} {g1 : Hp} (i4 : s.at 4 = v4) (o16 : qLoad h v4 (tsz K.P 3) = some r16) (o17 : bineq K.P .add 3 r16 (.nu .i64 1) = some r17) (wg1 : wStore h v4 r17 (tsz K.P 3) = some (.undef, g1)) : Runs K 142 37 ro (sub1 [1, 1, 1, 0, 0, 1, 1, 1] (bodyOf Tryz.f142)) s h .normal (W (W s 16 r16) 17 r17) g1 :=
  rg (R1 (v := r16) rfl (Q_load rfl i4 o16) (Rb rfl rfl rfl rfl o17 (RunL.op (v := .undef) rfl (W_store rfl i4 rfl wg1) (RunL.nil))))
end Go.CP
