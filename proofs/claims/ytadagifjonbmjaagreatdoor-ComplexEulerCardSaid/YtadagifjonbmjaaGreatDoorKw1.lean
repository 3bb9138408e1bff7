import Derived.Test.YtadagifjonbmjaaGreatDoorKq0
import Derived.Test.YtadagifjonbmjaaGreatDoorProg
set_option linter.all false
set_option maxHeartbeats 2000000
/- The regions of some functions, at whatever their slots hold. -/
namespace Go.CP
open Go.Proofs
abbrev X46 [LG] [HK] (K : Ctx) (p : List Nat) := Runs K 46 24 none (sub1 p (bodyOf Tryz.f46))
abbrev X72 [LG] [HK] (K : Ctx) (p : List Nat) := Runs K 72 20 none (sub1 p (bodyOf Tryz.f72))
abbrev X96 [LG] [HK] (K : Ctx) (p : List Nat) := Runs K 96 36 none (sub1 p (bodyOf Tryz.f96))
abbrev X128 [LG] [HK] (K : Ctx) (p : List Nat) := Runs K 128 27 none (sub1 p (bodyOf Tryz.f128))
abbrev X9 [LG] [HK] (K : Ctx) (p : List Nat) := Runs K 9 112 none (sub1 p (bodyOf Tryz.f9))
variable [LG] [HK] {K : Ctx} {s : Fr} {h : Hp} (hk : ∀ o, HK.keep o = false)
include hk
theorem f46_r0 : X46 K [0] s h .normal (W (W s 4 .nils) 5 n0) h :=
  rg (Ra (v := .nils) rfl rfl rfl (Ra (v := n0) rfl rfl rfl (RunL.nil)))
theorem f46_r1 {v0 v1 r10 : CV} {g1 : Hp} (i0 : s.at 0 = v0) (i1 : s.at 1 = v1) (pg1 : K.prim 94 [v0, v1] = none) (wg1 : Comes K 94 [v0, v1] h r10 g1) : X46 K [1, 0, 0] s h .normal (W (W (W (W s 8 v0) 9 v1) 10 r10) 6 r10) g1 :=
  rg (Rm rfl rfl i0 (Rm rfl rfl i1 (RunL.call (v := r10) rfl rfl rfl rfl rfl pg1 wg1 (Ra (v := r10) rfl rfl rfl (RunL.nil)))))
theorem f46_r2 {v6 r12 : CV} (i6 : s.at 6 = v6) (o12 : bineq K.P .neq 29 v6 n0 = some r12) : X46 K [1, 0, 1, 0] s h .normal (W (W s 11 v6) 12 r12) h :=
  rg (Rm rfl rfl i6 (Rb rfl rfl rfl rfl o12 (RunL.nil)))
theorem f46_r3 {v6 : CV} (i6 : s.at 6 = v6) : X46 K [1, 0, 1, 1, 0, 0] s h .normal (W (W (W s 13 v6) 4 .nils) 5 v6) h :=
  rg (Rm rfl rfl i6 (Ra (v := .nils) rfl rfl rfl (Ra (v := v6) rfl rfl rfl (RunL.nil))))
theorem f46_r4 {v0 v1 r17 r18 : CV} {F16 : Nat → CV} {B16 : HB} {g1 g2 : Hp} (i0 : s.at 0 = v0) (i1 : s.at 1 = v1) (o16 : lSlice 2 [(0, v0), (1, v1)] (tyk K.P 28) = some (F16, B16)) (pg1 : K.prim 96 [(F16 (h).n)] = none) (wg1 : Comes K 96 [(F16 (h).n)] (h.push B16) r17 g1) (pg2 : K.prim 95 [r17] = none) (wg2 : Comes K 95 [r17] g1 r18 g2) : X46 K [1, 1, 0] s h .normal (W (W (W (W (W (W s 14 v0) 15 v1) 16 (F16 (h).n)) 17 r17) 18 r18) 7 r18) g2 :=
  rg (Rm rfl rfl i0 (Rm rfl rfl i1 (RunL.op (v := (F16 (h).n)) rfl (L_slice rfl rfl o16) (RunL.call (v := r17) rfl rfl rfl rfl rfl pg1 wg1 (RunL.call (v := r18) rfl rfl rfl rfl rfl pg2 wg2 (Ra (v := r18) rfl rfl rfl (RunL.nil)))))))
theorem f46_r5 {v7 r20 r21 : CV} (i7 : s.at 7 = v7) (o20 : qLen h v7 (tyk K.P 100) = some r20) (o21 : bineq K.P .gtr 3 r20 (.nu .i64 1024) = some r21) : X46 K [1, 1, 1, 0, 0] s h .normal (W (W (W s 19 v7) 20 r20) 21 r21) h :=
  rg (Rm rfl rfl i7 (R1 (v := r20) rfl (Q_len rfl rfl rfl rfl rfl o20) (Rb rfl rfl rfl rfl o21 (RunL.nil))))
theorem f46_r6 : X46 K [1, 1, 1, 0, 1, 0, 0] s h .normal (W (W s 4 .nils) 5 (.nu .i64 3)) h :=
  rg (Ra (v := .nils) rfl rfl rfl (Ra (v := (.nu .i64 3)) rfl rfl rfl (RunL.nil)))
theorem f46_r7 {v7 r23 : CV} {g1 : Hp} (i7 : s.at 7 = v7) (pg1 : K.prim 72 [v7] = none) (wg1 : Comes K 72 [v7] h r23 g1) : X46 K [1, 1, 1, 1, 0] s h .normal (W (W (W (W s 22 v7) 23 r23) 4 r23) 5 n0) g1 :=
  rg (Rm rfl rfl i7 (RunL.call (v := r23) rfl rfl rfl rfl rfl pg1 wg1 (Ra (v := r23) rfl rfl rfl (Ra (v := n0) rfl rfl rfl (RunL.nil)))))
theorem f72_r0 : X72 K [0] s h .normal (W s 2 .nils) h :=
  rg (Ra (v := .nils) rfl rfl rfl (RunL.nil))
theorem f72_r1 : X72 K [1, 0] s h .normal (W s 3 .nils) h :=
  rg (Ra (v := .nils) rfl rfl rfl (RunL.nil))
-- NOT PRINTED 72 region 2: range
-- NOT PRINTED 72 region 3: next
-- NOT PRINTED 72 region 4: other
theorem f72_r5 {v3 v5 r14 r16 : CV} {F15 : Nat → CV} {B15 : HB} {g1 g2 : Hp} (i3 : s.at 3 = v3) (i5 : s.at 5 = v5) (pg1 : K.prim 69 [v5] = none) (wg1 : Comes K 69 [v5] h r14 g1) (o15 : lSlice 1 [(0, r14)] (tyk K.P 22) = some (F15, B15)) (wg2 : wApp (g1.push B15) v3 (F15 (g1).n) (tyk K.P 22) (tyk K.P 22) = some (r16, g2)) : X72 K [1, 1, 0, 1, 0, 0, 1, 1, 0, 1] s h .normal (W (W (W (W (W (W s 12 v3) 13 v5) 14 r14) 15 (F15 (g1).n)) 16 r16) 3 r16) g2 :=
  rg (Rm rfl rfl i3 (Rm rfl rfl i5 (RunL.call (v := r14) rfl rfl rfl rfl rfl pg1 wg1 (RunL.op (v := (F15 (g1).n)) rfl (L_slice rfl rfl o15) (RunL.op (v := r16) rfl (W_app hk rfl rfl rfl rfl rfl rfl wg2) (Ra (v := r16) rfl rfl rfl (RunL.nil)))))))
theorem f72_r6 {v3 r18 : CV} {g1 : Hp} (i3 : s.at 3 = v3) (pg1 : K.prim 116 [v3, (.fn 74 [])] = none) (wg1 : Comes K 116 [v3, (.fn 74 [])] h r18 g1) : X72 K [1, 1, 1, 0] s h .normal (W (W s 17 v3) 18 r18) g1 :=
  rg (Rm rfl rfl i3 (RunL.call (v := r18) rfl rfl rfl rfl rfl pg1 wg1 (RunL.nil)))
theorem f72_r7 {v3 : CV} (i3 : s.at 3 = v3) : X72 K [1, 1, 1, 1, 0] s h .normal (W (W s 19 v3) 2 v3) h :=
  rg (Rm rfl rfl i3 (Ra (v := v3) rfl rfl rfl (RunL.nil)))
theorem f96_r0 : X96 K [0] s h .normal (W s 2 .nils) h :=
  rg (Ra (v := .nils) rfl rfl rfl (RunL.nil))
theorem f96_r1 : X96 K [1, 0] s h .normal (W s 3 n0) h :=
  rg (Ra (v := n0) rfl rfl rfl (RunL.nil))
theorem f96_r2 {v0 r10 : CV} (i0 : s.at 0 = v0) (o10 : qLen h v0 (tyk K.P 28) = some r10) : X96 K [1, 1, 0, 0] s h .normal (W (W (W s 9 v0) 10 r10) 11 n0) h :=
  rg (Rm rfl rfl i0 (R1 (v := r10) rfl (Q_len rfl rfl rfl rfl rfl o10) (Rm (v := n0) rfl rfl rfl (RunL.nil))))
theorem f96_r3 {v11 v10 r12 : CV} (i11 : s.at 11 = v11) (i10 : s.at 10 = v10) (o12 : bineq K.P .lss 3 v11 v10 = some r12) : X96 K [1, 1, 0, 1, 0, 0, 0] s h .normal (W s 12 r12) h :=
  rg (Rb rfl rfl i11 i10 o12 (RunL.nil))
theorem f96_r4 {v9 v11 r13 r14 : CV} (i9 : s.at 9 = v9) (i11 : s.at 11 = v11) (o13 : qIndexAddr v9 v11 (tyk K.P 28) = some r13) (o14 : qLoad h r13 (tsz K.P 22) = some r14) : X96 K [1, 1, 0, 1, 0, 0, 1, 1, 0, 0, 0] s h .normal (W (W (W s 13 r13) 14 r14) 5 r14) h :=
  rg (R1 (v := r13) rfl (Q_ia rfl i9 i11 o13) (R1 (v := r14) rfl (Q_load rfl rfl o14) (Ra (v := r14) rfl rfl rfl (RunL.nil))))
theorem f96_r5 {v3 v5 r17 r18 : CV} (i3 : s.at 3 = v3) (i5 : s.at 5 = v5) (o17 : qLen h v5 (tyk K.P 22) = some r17) (o18 : bineq K.P .add 3 v3 r17 = some r18) : X96 K [1, 1, 0, 1, 0, 0, 1, 1, 0, 0, 1, 0] s h .normal (W (W (W (W (W s 15 v3) 16 v5) 17 r17) 18 r18) 3 r18) h :=
  rg (Rm rfl rfl i3 (Rm rfl rfl i5 (R1 (v := r17) rfl (Q_len rfl rfl rfl rfl rfl o17) (Rb rfl rfl rfl rfl o18 (Ra (v := r18) rfl rfl rfl (RunL.nil))))))
theorem f96_r6 {v3 r20 : CV} (i3 : s.at 3 = v3) (o20 : bineq K.P .lss 3 v3 n0 = some r20) : X96 K [1, 1, 0, 1, 0, 0, 1, 1, 0, 0, 1, 1, 0] s h .normal (W (W s 19 v3) 20 r20) h :=
  rg (Rm rfl rfl i3 (Rb rfl rfl rfl rfl o20 (RunL.nil)))
-- NOT PRINTED 96 region 7: makeInterface
theorem f96_r8 {v11 r22 : CV} (i11 : s.at 11 = v11) (o22 : bineq K.P .add 3 v11 (.nu .i64 1) = some r22) : X96 K [1, 1, 0, 1, 0, 0, 1, 1, 1] s h .normal (W (W s 22 r22) 11 r22) h :=
  rg (Rb rfl rfl i11 rfl o22 (Rm (v := r22) rfl rfl rfl (RunL.nil)))
theorem f96_r9 {v3 r24 : CV} {g1 : Hp} (i3 : s.at 3 = v3) (pg1 : K.prim 128 [.nils, v3] = none) (wg1 : Comes K 128 [.nils, v3] h r24 g1) : X96 K [1, 1, 1, 0] s h .normal (W (W (W s 23 v3) 24 r24) 6 r24) g1 :=
  rg (Rm rfl rfl i3 (RunL.call (v := r24) rfl rfl rfl rfl rfl pg1 wg1 (Ra (v := r24) rfl rfl rfl (RunL.nil))))
theorem f96_r10 {v0 r26 : CV} (i0 : s.at 0 = v0) (o26 : qLen h v0 (tyk K.P 28) = some r26) : X96 K [1, 1, 1, 1, 0, 0] s h .normal (W (W (W s 25 v0) 26 r26) 27 n0) h :=
  rg (Rm rfl rfl i0 (R1 (v := r26) rfl (Q_len rfl rfl rfl rfl rfl o26) (Rm (v := n0) rfl rfl rfl (RunL.nil))))
theorem f96_r11 {v27 v26 r28 : CV} (i27 : s.at 27 = v27) (i26 : s.at 26 = v26) (o28 : bineq K.P .lss 3 v27 v26 = some r28) : X96 K [1, 1, 1, 1, 0, 1, 0, 0, 0] s h .normal (W s 28 r28) h :=
  rg (Rb rfl rfl i27 i26 o28 (RunL.nil))
theorem f96_r12 {v25 v27 r29 r30 : CV} (i25 : s.at 25 = v25) (i27 : s.at 27 = v27) (o29 : qIndexAddr v25 v27 (tyk K.P 28) = some r29) (o30 : qLoad h r29 (tsz K.P 22) = some r30) : X96 K [1, 1, 1, 1, 0, 1, 0, 0, 1, 1, 0, 0, 0] s h .normal (W (W (W s 29 r29) 30 r30) 8 r30) h :=
  rg (R1 (v := r29) rfl (Q_ia rfl i25 i27 o29) (R1 (v := r30) rfl (Q_load rfl rfl o30) (Ra (v := r30) rfl rfl rfl (RunL.nil))))
theorem f96_r13 {v6 v8 r33 : CV} {g1 : Hp} (i6 : s.at 6 = v6) (i8 : s.at 8 = v8) (wg1 : wApp h v6 v8 (tyk K.P 22) (tyk K.P 22) = some (r33, g1)) : X96 K [1, 1, 1, 1, 0, 1, 0, 0, 1, 1, 0, 0, 1] s h .normal (W (W (W (W s 31 v6) 32 v8) 33 r33) 6 r33) g1 :=
  rg (Rm rfl rfl i6 (Rm rfl rfl i8 (RunL.op (v := r33) rfl (W_app hk rfl rfl rfl rfl rfl rfl wg1) (Ra (v := r33) rfl rfl rfl (RunL.nil)))))
theorem f96_r14 {v27 r34 : CV} (i27 : s.at 27 = v27) (o34 : bineq K.P .add 3 v27 (.nu .i64 1) = some r34) : X96 K [1, 1, 1, 1, 0, 1, 0, 0, 1, 1, 1] s h .normal (W (W s 34 r34) 27 r34) h :=
  rg (Rb rfl rfl i27 rfl o34 (Rm (v := r34) rfl rfl rfl (RunL.nil)))
theorem f96_r15 {v6 : CV} (i6 : s.at 6 = v6) : X96 K [1, 1, 1, 1, 1, 0] s h .normal (W (W s 35 v6) 2 v6) h :=
  rg (Rm rfl rfl i6 (Ra (v := v6) rfl rfl rfl (RunL.nil)))
theorem f128_r0 : X128 K [0] s h .normal (W s 4 .nils) h :=
  rg (Ra (v := .nils) rfl rfl rfl (RunL.nil))
theorem f128_r1 {v1 r6 : CV} (i1 : s.at 1 = v1) (o6 : bineq K.P .lss 3 v1 n0 = some r6) : X128 K [1, 0, 0] s h .normal (W (W s 5 v1) 6 r6) h :=
  rg (Rm rfl rfl i1 (Rb rfl rfl rfl rfl o6 (RunL.nil)))
-- NOT PRINTED 128 region 2: makeInterface
theorem f128_r3 {v1 v0 r10 r12 r13 r14 : CV} (i1 : s.at 1 = v1) (i0 : s.at 0 = v0) (o10 : qCap (tyk K.P 22) v0 = some r10) (o12 : qLen h v0 (tyk K.P 22) = some r12) (o13 : bineq K.P .sub 3 r10 r12 = some r13) (o14 : bineq K.P .sub 3 v1 r13 = some r14) : X128 K [1, 1, 0, 0] s h .normal (W (W (W (W (W (W (W (W s 8 v1) 9 v0) 10 r10) 11 v0) 12 r12) 13 r13) 14 r14) 1 r14) h :=
  rg (Rm rfl rfl i1 (Rm rfl rfl i0 (R1 (v := r10) rfl (Q_cap rfl rfl rfl rfl rfl o10) (Rm rfl rfl i0 (R1 (v := r12) rfl (Q_len rfl rfl rfl rfl rfl o12) (Rb rfl rfl rfl rfl o13 (Rb rfl rfl rfl rfl o14 (Ra (v := r14) rfl rfl rfl (RunL.nil)))))))))
theorem f128_r4 {v1 r16 : CV} (i1 : s.at 1 = v1) (o16 : bineq K.P .gtr 3 v1 n0 = some r16) : X128 K [1, 1, 0, 1, 0] s h .normal (W (W s 15 v1) 16 r16) h :=
  rg (Rm rfl rfl i1 (Rb rfl rfl rfl rfl o16 (RunL.nil)))
theorem f128_r5 {v0 r19 r20 v1 r22 r24 r25 : CV} {g1 : Hp} (i0 : s.at 0 = v0) (i1 : s.at 1 = v1) (o19 : qCap (tyk K.P 22) v0 = some r19) (o20 : qSliceV none (some r19) h v0 (tyk K.P 22) = some r20) (wg1 : wApp h r20 v1 (tyk K.P 22) (tyk K.P 3) = some (r22, g1)) (o24 : qLen g1 v0 (tyk K.P 22) = some r24) (o25 : qSliceV none (some r24) g1 r22 (tyk K.P 22) = some r25) : X128 K [1, 1, 0, 1, 1, 0] s h .normal (W (W (W (W (W (W (W (W (W (W s 17 v0) 18 v0) 19 r19) 20 r20) 21 v1) 22 r22) 23 v0) 24 r24) 25 r25) 0 r25) g1 :=
  rg (Rm rfl rfl i0 (Rm rfl rfl i0 (R1 (v := r19) rfl (Q_cap rfl rfl rfl rfl rfl o19) (R1 (v := r20) rfl (Q_slice rfl rfl rfl rfl o20) (Rm rfl rfl i1 (RunL.op (v := r22) rfl (W_app hk rfl rfl rfl rfl rfl rfl wg1) (Rm rfl rfl i0 (R1 (v := r24) rfl (Q_len rfl rfl rfl rfl rfl o24) (R1 (v := r25) rfl (Q_slice rfl rfl rfl rfl o25) (Ra (v := r25) rfl rfl rfl (RunL.nil)))))))))))
theorem f128_r6 {v0 : CV} (i0 : s.at 0 = v0) : X128 K [1, 1, 1, 0] s h .normal (W (W s 26 v0) 4 v0) h :=
  rg (Rm rfl rfl i0 (Ra (v := v0) rfl rfl rfl (RunL.nil)))
end Go.CP
/- Ways through code without loops, at whatever the slots hold. -/
namespace Go.CP
open Go.Proofs
structure PlansD [LG] [HK] (K : Ctx) : Prop where
variable [LG] [HK] {K : Ctx} {s : Fr} {h : Hp} (hk : ∀ o, HK.keep o = false) (pr : ∀ f args, K.prim f args = none) (Pl : PlansD K)
include hk pr Pl
theorem f46_b_T {v0 v1 r10 : CV} {g1 : Hp} (i0 : s.at 0 = v0) (i1 : s.at 1 = v1) (wg1 : Comes K 94 [v0, v1] h r10 g1) (o12 : bineq K.P .neq 29 r10 n0 = some tt) : X46 K [] s h .ret (W (W (W (W (W (W (W (W (W (W (W s 4 .nils) 5 n0) 8 v0) 9 v1) 10 r10) 6 r10) 11 r10) 12 tt) 13 r10) 4 .nils) 5 r10) g1 :=
  (sq (f46_r0 (h := h) hk) (sx (sq (f46_r1 (h := h) hk i0 i1 (pr _ _) ‹_›) (sq (f46_r2 (h := g1) (v6 := r10) (r12 := tt) hk rfl ‹_›) (cT 12 rfl (sq (f46_r3 (h := g1) (v6 := r10) hk rfl) Runs.ret)))) (by simp)))
theorem f46_b_FT {v0 v1 r10 r17 r18 r20 : CV} {F16 : Nat → CV} {B16 : HB} {g1 g2 g3 : Hp} (i0 : s.at 0 = v0) (i1 : s.at 1 = v1) (wg1 : Comes K 94 [v0, v1] h r10 g1) (o12 : bineq K.P .neq 29 r10 n0 = some ff) (o16 : lSlice 2 [(0, v0), (1, v1)] (tyk K.P 28) = some (F16, B16)) (wg2 : Comes K 96 [(F16 (g1).n)] (g1.push B16) r17 g2) (wg3 : Comes K 95 [r17] g2 r18 g3) (o20 : qLen g3 r18 (tyk K.P 100) = some r20) (o21 : bineq K.P .gtr 3 r20 (.nu .i64 1024) = some tt) : X46 K [] s h .ret (W (W (W (W (W (W (W (W (W (W (W (W (W (W (W (W (W (W (W s 4 .nils) 5 n0) 8 v0) 9 v1) 10 r10) 6 r10) 11 r10) 12 ff) 14 v0) 15 v1) 16 (F16 (g1).n)) 17 r17) 18 r18) 7 r18) 19 r18) 20 r20) 21 tt) 4 .nils) 5 (.nu .i64 3)) g3 :=
  (sq (f46_r0 (h := h) hk) (sq (sq (f46_r1 (h := h) hk i0 i1 (pr _ _) ‹_›) (sq (f46_r2 (h := g1) (v6 := r10) (r12 := ff) hk rfl ‹_›) (cF 12 rfl sk))) (sq (f46_r4 (h := g1) (g1 := g2) (g2 := g3) hk i0 i1 ‹_› (pr _ _) ‹_› (pr _ _) ‹_›) (sx (sq (f46_r5 (h := g3) (v7 := r18) (r21 := tt) hk rfl ‹_› ‹_›) (cT 21 rfl (sq (f46_r6 (h := g3) hk) Runs.ret))) (by simp)))))
theorem f46_b_FF {v0 v1 r10 r17 r18 r20 r23 : CV} {F16 : Nat → CV} {B16 : HB} {g1 g2 g3 g4 : Hp} (i0 : s.at 0 = v0) (i1 : s.at 1 = v1) (wg1 : Comes K 94 [v0, v1] h r10 g1) (o12 : bineq K.P .neq 29 r10 n0 = some ff) (o16 : lSlice 2 [(0, v0), (1, v1)] (tyk K.P 28) = some (F16, B16)) (wg2 : Comes K 96 [(F16 (g1).n)] (g1.push B16) r17 g2) (wg3 : Comes K 95 [r17] g2 r18 g3) (o20 : qLen g3 r18 (tyk K.P 100) = some r20) (o21 : bineq K.P .gtr 3 r20 (.nu .i64 1024) = some ff) (wg4 : Comes K 72 [r18] g3 r23 g4) : X46 K [] s h .ret (W (W (W (W (W (W (W (W (W (W (W (W (W (W (W (W (W (W (W (W (W s 4 .nils) 5 n0) 8 v0) 9 v1) 10 r10) 6 r10) 11 r10) 12 ff) 14 v0) 15 v1) 16 (F16 (g1).n)) 17 r17) 18 r18) 7 r18) 19 r18) 20 r20) 21 ff) 22 r18) 23 r23) 4 r23) 5 n0) g4 :=
  (sq (f46_r0 (h := h) hk) (sq (sq (f46_r1 (h := h) hk i0 i1 (pr _ _) ‹_›) (sq (f46_r2 (h := g1) (v6 := r10) (r12 := ff) hk rfl ‹_›) (cF 12 rfl sk))) (sq (f46_r4 (h := g1) (g1 := g2) (g2 := g3) hk i0 i1 ‹_› (pr _ _) ‹_› (pr _ _) ‹_›) (sq (sq (f46_r5 (h := g3) (v7 := r18) (r21 := ff) hk rfl ‹_› ‹_›) (cF 21 rfl sk)) (sq (f46_r7 (h := g3) (v7 := r18) (g1 := g4) hk rfl (pr _ _) ‹_›) Runs.ret)))))
theorem f96_b110100_TF {v11 v10 v9 r13 r14 v3 r17 r18 r22 : CV} (i11 : s.at 11 = v11) (i10 : s.at 10 = v10) (i9 : s.at 9 = v9) (i3 : s.at 3 = v3) (o12 : bineq K.P .lss 3 v11 v10 = some tt) (o13 : qIndexAddr v9 v11 (tyk K.P 28) = some r13) (o14 : qLoad h r13 (tsz K.P 22) = some r14) (o17 : qLen h r14 (tyk K.P 22) = some r17) (o18 : bineq K.P .add 3 v3 r17 = some r18) (o20 : bineq K.P .lss 3 r18 n0 = some ff) (o22 : bineq K.P .add 3 v11 (.nu .i64 1) = some r22) : X96 K [1, 1, 0, 1, 0, 0] s h .normal (W (W (W (W (W (W (W (W (W (W (W (W (W s 12 tt) 13 r13) 14 r14) 5 r14) 15 v3) 16 r14) 17 r17) 18 r18) 3 r18) 19 r18) 20 ff) 22 r22) 11 r22) h :=
  (sq (f96_r3 (h := h) (r12 := tt) hk i11 i10 ‹_›) (sq (cT 12 rfl sk) (sq (Runs.blockN (sq (f96_r4 (h := h) hk i9 i11 ‹_› ‹_›) (sq (f96_r5 (h := h) (v5 := r14) hk i3 rfl ‹_› ‹_›) (sq (f96_r6 (h := h) (v3 := r18) (r20 := ff) hk rfl ‹_›) (cF 20 rfl sk))))) (f96_r8 (h := h) hk i11 ‹_›))))
theorem f96_b110100_F {v11 v10 : CV} (i11 : s.at 11 = v11) (i10 : s.at 10 = v10) (o12 : bineq K.P .lss 3 v11 v10 = some ff) : X96 K [1, 1, 0, 1, 0, 0] s h (.exit 0) (W s 12 ff) h :=
  (sq (f96_r3 (h := h) (r12 := ff) hk i11 i10 ‹_›) (sx (cF 12 rfl Runs.exit) (by simp)))
theorem f96_b11110100_T {v27 v26 v25 r29 r30 v6 r33 r34 : CV} {g1 : Hp} (i27 : s.at 27 = v27) (i26 : s.at 26 = v26) (i25 : s.at 25 = v25) (i6 : s.at 6 = v6) (o28 : bineq K.P .lss 3 v27 v26 = some tt) (o29 : qIndexAddr v25 v27 (tyk K.P 28) = some r29) (o30 : qLoad h r29 (tsz K.P 22) = some r30) (wg1 : wApp h v6 r30 (tyk K.P 22) (tyk K.P 22) = some (r33, g1)) (o34 : bineq K.P .add 3 v27 (.nu .i64 1) = some r34) : X96 K [1, 1, 1, 1, 0, 1, 0, 0] s h .normal (W (W (W (W (W (W (W (W (W (W s 28 tt) 29 r29) 30 r30) 8 r30) 31 v6) 32 r30) 33 r33) 6 r33) 34 r34) 27 r34) g1 :=
  (sq (f96_r11 (h := h) (r28 := tt) hk i27 i26 ‹_›) (sq (cT 28 rfl sk) (sq (Runs.blockN (sq (f96_r12 (h := h) hk i25 i27 ‹_› ‹_›) (f96_r13 (h := h) (v8 := r30) hk i6 rfl ‹_›))) (f96_r14 (h := g1) hk i27 ‹_›))))
theorem f96_b11110100_F {v27 v26 : CV} (i27 : s.at 27 = v27) (i26 : s.at 26 = v26) (o28 : bineq K.P .lss 3 v27 v26 = some ff) : X96 K [1, 1, 1, 1, 0, 1, 0, 0] s h (.exit 2) (W s 28 ff) h :=
  (sq (f96_r11 (h := h) (r28 := ff) hk i27 i26 ‹_›) (sx (cF 28 rfl Runs.exit) (by simp)))
theorem f96_b11111 {v6 : CV} (i6 : s.at 6 = v6) : X96 K [1, 1, 1, 1, 1] s h .ret (W (W s 35 v6) 2 v6) h :=
  (sq (f96_r15 (h := h) hk i6) Runs.ret)
theorem f128_b_FT {v1 v0 r10 r12 r13 r14 r20 r22 r24 r25 : CV} {g1 : Hp} (i1 : s.at 1 = v1) (i0 : s.at 0 = v0) (o6 : bineq K.P .lss 3 v1 n0 = some ff) (o10 : qCap (tyk K.P 22) v0 = some r10) (o12 : qLen h v0 (tyk K.P 22) = some r12) (o13 : bineq K.P .sub 3 r10 r12 = some r13) (o14 : bineq K.P .sub 3 v1 r13 = some r14) (o16 : bineq K.P .gtr 3 r14 n0 = some tt) (o20 : qSliceV none (some r10) h v0 (tyk K.P 22) = some r20) (wg1 : wApp h r20 r14 (tyk K.P 22) (tyk K.P 3) = some (r22, g1)) (o24 : qLen g1 v0 (tyk K.P 22) = some r24) (o25 : qSliceV none (some r24) g1 r22 (tyk K.P 22) = some r25) : X128 K [] s h .ret (W (W (W (W (W (W (W (W (W (W (W (W (W (W (W (W (W (W (W (W (W (W (W (W (W s 4 .nils) 5 v1) 6 ff) 8 v1) 9 v0) 10 r10) 11 v0) 12 r12) 13 r13) 14 r14) 1 r14) 15 r14) 16 tt) 17 v0) 18 v0) 19 r10) 20 r20) 21 r14) 22 r22) 23 v0) 24 r24) 25 r25) 0 r25) 26 r25) 4 r25) g1 :=
  (sq (f128_r0 (h := h) hk) (sq (sq (f128_r1 (h := h) (r6 := ff) hk i1 ‹_›) (cF 6 rfl sk)) (sq (sq (f128_r3 (h := h) hk i1 i0 ‹_› ‹_› ‹_› ‹_›) (sq (f128_r4 (h := h) (v1 := r14) (r16 := tt) hk rfl ‹_›) (cT 16 rfl (f128_r5 (h := h) (r19 := r10) (v1 := r14) hk i0 rfl ‹_› ‹_› ‹_› ‹_› ‹_›)))) (sq (f128_r6 (h := g1) (v0 := r25) hk rfl) Runs.ret))))
theorem f128_b_FF {v1 v0 r10 r12 r13 r14 : CV} (i1 : s.at 1 = v1) (i0 : s.at 0 = v0) (o6 : bineq K.P .lss 3 v1 n0 = some ff) (o10 : qCap (tyk K.P 22) v0 = some r10) (o12 : qLen h v0 (tyk K.P 22) = some r12) (o13 : bineq K.P .sub 3 r10 r12 = some r13) (o14 : bineq K.P .sub 3 v1 r13 = some r14) (o16 : bineq K.P .gtr 3 r14 n0 = some ff) : X128 K [] s h .ret (W (W (W (W (W (W (W (W (W (W (W (W (W (W (W s 4 .nils) 5 v1) 6 ff) 8 v1) 9 v0) 10 r10) 11 v0) 12 r12) 13 r13) 14 r14) 1 r14) 15 r14) 16 ff) 26 v0) 4 v0) h :=
  (sq (f128_r0 (h := h) hk) (sq (sq (f128_r1 (h := h) (r6 := ff) hk i1 ‹_›) (cF 6 rfl sk)) (sq (sq (f128_r3 (h := h) hk i1 i0 ‹_› ‹_› ‹_› ‹_›) (sq (f128_r4 (h := h) (v1 := r14) (r16 := ff) hk rfl ‹_›) (cF 16 rfl sk))) (sq (f128_r6 (h := h) hk i0) Runs.ret))))
end Go.CP
/- The regions of some functions, at whatever their slots hold. -/
namespace Go.CP
open Go.Proofs
variable [LG] [HK] {K : Ctx} {s : Fr} {h : Hp} (hk : ∀ o, HK.keep o = false)
include hk
end Go.CP
/- Ways through code without loops, at whatever the slots hold. -/
namespace Go.CP
open Go.Proofs
structure PlansE [LG] [HK] (K : Ctx) : Prop where
variable [LG] [HK] {K : Ctx} {s : Fr} {h : Hp} (hk : ∀ o, HK.keep o = false) (pr : ∀ f args, K.prim f args = none) (Pl : PlansE K)
include hk pr Pl
-- NOT PRINTED 126 1100: 150 ways
-- NOT PRINTED 143 1100: 150 ways
end Go.CP
/- The regions of some functions, at whatever their slots hold. -/
namespace Go.CP
open Go.Proofs
variable [LG] [HK] {K : Ctx} {s : Fr} {h : Hp} (hk : ∀ o, HK.keep o = false)
include hk
theorem f9_r0 : X9 K [0] s h .normal (W s 4 ff) h :=
  rg (Ra (v := ff) rfl rfl rfl (RunL.nil))
theorem f9_r1_TT {v0 r20 : CV} (i0 : s.at 0 = v0) (o20 : qLen h v0 (tyk K.P 26) = some r20) (o21 : bineq K.P .gtr 3 r20 (.nu .i64 40) = some tt) (o26 : qPick tt .skp tt = some tt) : X9 K [1, 0, 0] s h .normal (W (W (W (W (W (W (W (W (W (W (W (W s 19 v0) 20 r20) 21 tt) 22 tt) 23 .skp) 24 .skp) 25 .skp) 26 tt) 27 tt) 28 .skp) 29 .skp) 30 tt) h :=
  rg (Rm rfl rfl i0 (R1 (v := r20) rfl (Q_len rfl rfl rfl rfl rfl o20) (Rb rfl rfl rfl rfl o21 (Rm (v := tt) rfl rfl rfl (RunL.pass rfl (RunL.pass rfl (RunL.pass rfl (R1 (v := tt) rfl (Q_pick rfl rfl rfl rfl o26) (Rm (v := tt) rfl rfl rfl (RunL.pass rfl (RunL.pass rfl (R1 (v := tt) rfl (Q_pick rfl rfl rfl rfl o26) (RunL.nil)))))))))))))
theorem f9_r1_FT {v0 r20 v1 r24 r25 r30 : CV} (i0 : s.at 0 = v0) (i1 : s.at 1 = v1) (o20 : qLen h v0 (tyk K.P 26) = some r20) (o21 : bineq K.P .gtr 3 r20 (.nu .i64 40) = some ff) (o24 : qLen h v1 (tyk K.P 26) = some r24) (o25 : bineq K.P .gtr 3 r24 (.nu .i64 40) = some r25) (o26 : qPick tt r25 ff = some tt) (o30 : qPick tt .skp tt = some r30) : X9 K [1, 0, 0] s h .normal (W (W (W (W (W (W (W (W (W (W (W (W s 19 v0) 20 r20) 21 ff) 22 ff) 23 v1) 24 r24) 25 r25) 26 tt) 27 tt) 28 .skp) 29 .skp) 30 r30) h :=
  rg (Rm rfl rfl i0 (R1 (v := r20) rfl (Q_len rfl rfl rfl rfl rfl o20) (Rb rfl rfl rfl rfl o21 (Rm (v := ff) rfl rfl rfl (Rm rfl rfl i1 (R1 (v := r24) rfl (Q_len rfl rfl rfl rfl rfl o24) (Rb rfl rfl rfl rfl o25 (R1 (v := tt) rfl (Q_pick rfl rfl rfl rfl o26) (Rm (v := tt) rfl rfl rfl (RunL.pass rfl (RunL.pass rfl (R1 (v := r30) rfl (Q_pick rfl rfl rfl rfl o30) (RunL.nil)))))))))))))
theorem f9_r1_FF {v0 r20 v1 r24 r25 r28 r29 r30 : CV} {g1 : Hp} (i0 : s.at 0 = v0) (i1 : s.at 1 = v1) (o20 : qLen h v0 (tyk K.P 26) = some r20) (o21 : bineq K.P .gtr 3 r20 (.nu .i64 40) = some ff) (o24 : qLen h v1 (tyk K.P 26) = some r24) (o25 : bineq K.P .gtr 3 r24 (.nu .i64 40) = some r25) (o26 : qPick tt r25 ff = some ff) (pg1 : K.prim 14 [] = none) (wg1 : Comes K 14 [] h r28 g1) (o29 : aun .not r28 = some r29) (o30 : qPick tt r29 ff = some r30) : X9 K [1, 0, 0] s h .normal (W (W (W (W (W (W (W (W (W (W (W (W s 19 v0) 20 r20) 21 ff) 22 ff) 23 v1) 24 r24) 25 r25) 26 ff) 27 ff) 28 r28) 29 r29) 30 r30) g1 :=
  rg (Rm rfl rfl i0 (R1 (v := r20) rfl (Q_len rfl rfl rfl rfl rfl o20) (Rb rfl rfl rfl rfl o21 (Rm (v := ff) rfl rfl rfl (Rm rfl rfl i1 (R1 (v := r24) rfl (Q_len rfl rfl rfl rfl rfl o24) (Rb rfl rfl rfl rfl o25 (R1 (v := ff) rfl (Q_pick rfl rfl rfl rfl o26) (Rm (v := ff) rfl rfl rfl (RunL.call (v := r28) rfl rfl rfl rfl rfl pg1 wg1 (R1 (v := r29) rfl (Q_un rfl rfl o29) (R1 (v := r30) rfl (Q_pick rfl rfl rfl rfl o30) (RunL.nil)))))))))))))
theorem f9_r2 {r31 : CV} {g1 : Hp} (pg1 : K.prim 14 [] = none) (wg1 : Comes K 14 [] h r31 g1) : X9 K [1, 0, 1, 0, 0] s h .normal (W (W s 31 r31) 4 r31) g1 :=
  rg (RunL.call (v := r31) rfl rfl rfl rfl rfl pg1 wg1 (Ra (v := r31) rfl rfl rfl (RunL.nil)))
theorem f9_r3 {v0 r33 v1 r35 : CV} {g1 g2 : Hp} (i0 : s.at 0 = v0) (i1 : s.at 1 = v1) (pg1 : K.prim 15 [v0, (.nu .i64 6), (.nu .i64 4), (.nu .i64 9)] = none) (wg1 : Comes K 15 [v0, (.nu .i64 6), (.nu .i64 4), (.nu .i64 9)] h r33 g1) (pg2 : K.prim 15 [v1, (.nu .i64 6), (.nu .i64 4), (.nu .i64 9)] = none) (wg2 : Comes K 15 [v1, (.nu .i64 6), (.nu .i64 4), (.nu .i64 9)] g1 r35 g2) : X9 K [1, 1, 0] s h .normal (W (W (W (W (W (W s 32 v0) 33 r33) 34 v1) 35 r35) 5 r33) 6 r35) g2 :=
  rg (Rm rfl rfl i0 (RunL.call (v := r33) rfl rfl rfl rfl rfl pg1 wg1 (Rm rfl rfl i1 (RunL.call (v := r35) rfl rfl rfl rfl rfl pg2 wg2 (Ra (v := r33) rfl rfl rfl (Ra (v := r35) rfl rfl rfl (RunL.nil)))))))
theorem f9_r4 {v5 v6 r39 r40 r41 : CV} {g1 : Hp} (i5 : s.at 5 = v5) (i6 : s.at 6 = v6) (pg1 : K.prim 46 [v5, v6] = none) (wg1 : Comes K 46 [v5, v6] h r39 g1) (o40 : qExtract 0 r39 = some r40) (o41 : qExtract 1 r39 = some r41) : X9 K [1, 1, 1, 0] s h .normal (W (W (W (W (W (W (W (W s 37 v5) 38 v6) 39 r39) 36 r39) 40 r40) 41 r41) 7 r40) 8 r41) g1 :=
  rg (Rm rfl rfl i5 (Rm rfl rfl i6 (RunL.call (v := r39) rfl rfl rfl rfl rfl pg1 wg1 (Rm (v := r39) rfl rfl rfl (R1 (v := r40) rfl (Q_extract rfl rfl o40) (R1 (v := r41) rfl (Q_extract rfl rfl o41) (Ra (v := r40) rfl rfl rfl (Ra (v := r41) rfl rfl rfl (RunL.nil)))))))))
theorem f9_r5 {v5 v6 r45 r46 r47 : CV} {g1 : Hp} (i5 : s.at 5 = v5) (i6 : s.at 6 = v6) (pg1 : K.prim 47 [v5, v6] = none) (wg1 : Comes K 47 [v5, v6] h r45 g1) (o46 : qExtract 0 r45 = some r46) (o47 : qExtract 1 r45 = some r47) : X9 K [1, 1, 1, 1, 0] s h .normal (W (W (W (W (W (W (W (W s 43 v5) 44 v6) 45 r45) 42 r45) 46 r46) 47 r47) 9 r46) 10 r47) g1 :=
  rg (Rm rfl rfl i5 (Rm rfl rfl i6 (RunL.call (v := r45) rfl rfl rfl rfl rfl pg1 wg1 (Rm (v := r45) rfl rfl rfl (R1 (v := r46) rfl (Q_extract rfl rfl o46) (R1 (v := r47) rfl (Q_extract rfl rfl o47) (Ra (v := r46) rfl rfl rfl (Ra (v := r47) rfl rfl rfl (RunL.nil)))))))))
theorem f9_r6 {v5 r50 r51 r52 : CV} {g1 : Hp} (i5 : s.at 5 = v5) (pg1 : K.prim 35 [v5] = none) (wg1 : Comes K 35 [v5] h r50 g1) (o51 : qExtract 0 r50 = some r51) (o52 : qExtract 1 r50 = some r52) : X9 K [1, 1, 1, 1, 1, 0] s h .normal (W (W (W (W (W (W (W s 49 v5) 50 r50) 48 r50) 51 r51) 52 r52) 11 r51) 12 r52) g1 :=
  rg (Rm rfl rfl i5 (RunL.call (v := r50) rfl rfl rfl rfl rfl pg1 wg1 (Rm (v := r50) rfl rfl rfl (R1 (v := r51) rfl (Q_extract rfl rfl o51) (R1 (v := r52) rfl (Q_extract rfl rfl o52) (Ra (v := r51) rfl rfl rfl (Ra (v := r52) rfl rfl rfl (RunL.nil))))))))
theorem f9_r7 {v6 r55 r56 r57 : CV} {g1 : Hp} (i6 : s.at 6 = v6) (pg1 : K.prim 35 [v6] = none) (wg1 : Comes K 35 [v6] h r55 g1) (o56 : qExtract 0 r55 = some r56) (o57 : qExtract 1 r55 = some r57) : X9 K [1, 1, 1, 1, 1, 1, 0] s h .normal (W (W (W (W (W (W (W s 54 v6) 55 r55) 53 r55) 56 r56) 57 r57) 13 r56) 14 r57) g1 :=
  rg (Rm rfl rfl i6 (RunL.call (v := r55) rfl rfl rfl rfl rfl pg1 wg1 (Rm (v := r55) rfl rfl rfl (R1 (v := r56) rfl (Q_extract rfl rfl o56) (R1 (v := r57) rfl (Q_extract rfl rfl o57) (Ra (v := r56) rfl rfl rfl (Ra (v := r57) rfl rfl rfl (RunL.nil))))))))
theorem f9_r8 {v7 r60 r61 r62 : CV} {g1 : Hp} (i7 : s.at 7 = v7) (pg1 : K.prim 35 [v7] = none) (wg1 : Comes K 35 [v7] h r60 g1) (o61 : qExtract 0 r60 = some r61) (o62 : qExtract 1 r60 = some r62) : X9 K [1, 1, 1, 1, 1, 1, 1, 0] s h .normal (W (W (W (W (W (W (W s 59 v7) 60 r60) 58 r60) 61 r61) 62 r62) 15 r61) 16 r62) g1 :=
  rg (Rm rfl rfl i7 (RunL.call (v := r60) rfl rfl rfl rfl rfl pg1 wg1 (Rm (v := r60) rfl rfl rfl (R1 (v := r61) rfl (Q_extract rfl rfl o61) (R1 (v := r62) rfl (Q_extract rfl rfl o62) (Ra (v := r61) rfl rfl rfl (Ra (v := r62) rfl rfl rfl (RunL.nil))))))))
theorem f9_r9 {v9 r65 r66 r67 : CV} {g1 : Hp} (i9 : s.at 9 = v9) (pg1 : K.prim 35 [v9] = none) (wg1 : Comes K 35 [v9] h r65 g1) (o66 : qExtract 0 r65 = some r66) (o67 : qExtract 1 r65 = some r67) : X9 K [1, 1, 1, 1, 1, 1, 1, 1, 0] s h .normal (W (W (W (W (W (W (W s 64 v9) 65 r65) 63 r65) 66 r66) 67 r67) 17 r66) 18 r67) g1 :=
  rg (Rm rfl rfl i9 (RunL.call (v := r65) rfl rfl rfl rfl rfl pg1 wg1 (Rm (v := r65) rfl rfl rfl (R1 (v := r66) rfl (Q_extract rfl rfl o66) (R1 (v := r67) rfl (Q_extract rfl rfl o67) (Ra (v := r66) rfl rfl rfl (Ra (v := r67) rfl rfl rfl (RunL.nil))))))))
-- NOT PRINTED 9 region 10: many guards
end Go.CP
/- The regions of some functions, at whatever their slots hold. -/
namespace Go.CP
open Go.Proofs
variable [LG] [HK] {K : Ctx} {s : Fr} {h : Hp} (hk : ∀ o, HK.keep o = false)
include hk
end Go.CP
/- The regions of some functions, at whatever their slots hold. -/
namespace Go.CP
open Go.Proofs
variable [LG] [HK] {K : Ctx} {s : Fr} {h : Hp} (hk : ∀ o, HK.keep o = false)
include hk
end Go.CP
/- The regions of some functions, at whatever their slots hold. -/
namespace Go.CP
open Go.Proofs
variable [LG] [HK] {K : Ctx} {s : Fr} {h : Hp} (hk : ∀ o, HK.keep o = false)
include hk
theorem f9_r10_A {v8 v10 r72 v12 r76 v14 r80 v16 r84 v18 r88 v15 v11 v13 r94 v17 r96 r97 v7 r101 v5 r103 v6 r105 r106 v9 r108 r109 r110 r111 : CV} (i8 : s.at 8 = v8) (i10 : s.at 10 = v10) (i12 : s.at 12 = v12) (i14 : s.at 14 = v14) (i16 : s.at 16 = v16) (i18 : s.at 18 = v18) (i15 : s.at 15 = v15) (i11 : s.at 11 = v11) (i13 : s.at 13 = v13) (i17 : s.at 17 = v17) (i7 : s.at 7 = v7) (i5 : s.at 5 = v5) (i6 : s.at 6 = v6) (i9 : s.at 9 = v9) (o69 : bineq K.P .eql 29 v8 n0 = some tt) (o72 : bineq K.P .eql 29 v10 n0 = some r72) (o73 : qPick r72 ff tt = some tt) (o76 : bineq K.P .eql 29 v12 n0 = some r76) (o77 : qPick r76 ff tt = some tt) (o80 : bineq K.P .eql 29 v14 n0 = some r80) (o81 : qPick r80 ff tt = some tt) (o84 : bineq K.P .eql 29 v16 n0 = some r84) (o85 : qPick r84 ff tt = some tt) (o88 : bineq K.P .eql 29 v18 n0 = some r88) (o89 : qPick r88 ff tt = some tt) (o94 : bineq K.P .add 3 v11 v13 = some r94) (o96 : bineq K.P .sub 3 r94 v17 = some r96) (o97 : bineq K.P .eql 3 v15 r96 = some r97) (o98 : qPick r97 ff tt = some tt) (o101 : qLen h v7 (tyk K.P 22) = some r101) (o103 : qLen h v5 (tyk K.P 22) = some r103) (o105 : qLen h v6 (tyk K.P 22) = some r105) (o106 : bineq K.P .add 3 r103 r105 = some r106) (o108 : qLen h v9 (tyk K.P 22) = some r108) (o109 : bineq K.P .sub 3 r106 r108 = some r109) (o110 : bineq K.P .eql 3 r101 r109 = some r110) (o111 : qPick r110 ff tt = some r111) : X9 K [1, 1, 1, 1, 1, 1, 1, 1, 1, 0] s h .normal (W (W (W (W (W (W (W (W (W (W (W (W (W (W (W (W (W (W (W (W (W (W (W (W (W (W (W (W (W (W (W (W (W (W (W (W (W (W (W (W (W (W (W (W (W s 68 v8) 69 tt) 70 tt) 71 v10) 72 r72) 73 tt) 74 tt) 75 v12) 76 r76) 77 tt) 78 tt) 79 v14) 80 r80) 81 tt) 82 tt) 83 v16) 84 r84) 85 tt) 86 tt) 87 v18) 88 r88) 89 tt) 90 tt) 91 v15) 92 v11) 93 v13) 94 r94) 95 v17) 96 r96) 97 r97) 98 tt) 99 tt) 100 v7) 101 r101) 102 v5) 103 r103) 104 v6) 105 r105) 106 r106) 107 v9) 108 r108) 109 r109) 110 r110) 111 r111) 4 r111) h :=
  rg (Rm rfl rfl i8 (Rb rfl rfl rfl rfl o69 (Rm (v := tt) rfl rfl rfl (Rm rfl rfl i10 (Rb rfl rfl rfl rfl o72 (R1 (v := tt) rfl (Q_pick rfl rfl rfl rfl o73) (Rm (v := tt) rfl rfl rfl (Rm rfl rfl i12 (Rb rfl rfl rfl rfl o76 (R1 (v := tt) rfl (Q_pick rfl rfl rfl rfl o77) (Rm (v := tt) rfl rfl rfl (Rm rfl rfl i14 (Rb rfl rfl rfl rfl o80 (R1 (v := tt) rfl (Q_pick rfl rfl rfl rfl o81) (Rm (v := tt) rfl rfl rfl (Rm rfl rfl i16 (Rb rfl rfl rfl rfl o84 (R1 (v := tt) rfl (Q_pick rfl rfl rfl rfl o85) (Rm (v := tt) rfl rfl rfl (Rm rfl rfl i18 (Rb rfl rfl rfl rfl o88 (R1 (v := tt) rfl (Q_pick rfl rfl rfl rfl o89) (Rm (v := tt) rfl rfl rfl (Rm rfl rfl i15 (Rm rfl rfl i11 (Rm rfl rfl i13 (Rb rfl rfl rfl rfl o94 (Rm rfl rfl i17 (Rb rfl rfl rfl rfl o96 (Rb rfl rfl rfl rfl o97 (R1 (v := tt) rfl (Q_pick rfl rfl rfl rfl o98) (Rm (v := tt) rfl rfl rfl (Rm rfl rfl i7 (R1 (v := r101) rfl (Q_len rfl rfl rfl rfl rfl o101) (Rm rfl rfl i5 (R1 (v := r103) rfl (Q_len rfl rfl rfl rfl rfl o103) (Rm rfl rfl i6 (R1 (v := r105) rfl (Q_len rfl rfl rfl rfl rfl o105) (Rb rfl rfl rfl rfl o106 (Rm rfl rfl i9 (R1 (v := r108) rfl (Q_len rfl rfl rfl rfl rfl o108) (Rb rfl rfl rfl rfl o109 (Rb rfl rfl rfl rfl o110 (R1 (v := r111) rfl (Q_pick rfl rfl rfl rfl o111) (Ra (v := r111) rfl rfl rfl (RunL.nil))))))))))))))))))))))))))))))))))))))))))))))
end Go.CP
