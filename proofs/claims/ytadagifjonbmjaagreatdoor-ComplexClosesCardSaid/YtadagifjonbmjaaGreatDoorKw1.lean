import Derived.Test.YtadagifjonbmjaaGreatDoorKq0
import Derived.Test.YtadagifjonbmjaaGreatDoorProg
set_option linter.all false
set_option maxHeartbeats 2000000
/- The regions of some functions, at whatever their slots hold. -/
namespace Go.CP
open Go.Proofs
abbrev X25 [LG] [HK] (K : Ctx) (p : List Nat) := Runs K 25 46 none (sub1 p (bodyOf Tryz.f25))
abbrev X70 [LG] [HK] (K : Ctx) (p : List Nat) := Runs K 70 23 none (sub1 p (bodyOf Tryz.f70))
abbrev X72 [LG] [HK] (K : Ctx) (p : List Nat) := Runs K 72 20 none (sub1 p (bodyOf Tryz.f72))
abbrev X115 [LG] [HK] (K : Ctx) (p : List Nat) := Runs K 115 6 none (sub1 p (bodyOf Tryz.f115))
abbrev X4 [LG] [HK] (K : Ctx) (p : List Nat) := Runs K 4 62 none (sub1 p (bodyOf Tryz.f4))
variable [LG] [HK] {K : Ctx} {s : Fr} {h : Hp} (hk : ∀ o, HK.keep o = false)
include hk
theorem f25_r0 : X25 K [0] s h .normal (W (W s 2 .nils) 3 n0) h :=
  rg (Ra (v := .nils) rfl rfl rfl (Ra (v := n0) rfl rfl rfl (RunL.nil)))
theorem f25_r1 {v0 r12 r13 : CV} (i0 : s.at 0 = v0) (o12 : qLen h v0 (tyk K.P 22) = some r12) (o13 : bineq K.P .gtr 3 r12 (.nu .i64 1024) = some r13) : X25 K [1, 0, 0] s h .normal (W (W (W s 11 v0) 12 r12) 13 r13) h :=
  rg (Rm rfl rfl i0 (R1 (v := r12) rfl (Q_len rfl rfl rfl rfl rfl o12) (Rb rfl rfl rfl rfl o13 (RunL.nil))))
theorem f25_r2 : X25 K [1, 0, 1, 0, 0] s h .normal (W (W s 2 .nils) 3 (.nu .i64 3)) h :=
  rg (Ra (v := .nils) rfl rfl rfl (Ra (v := (.nu .i64 3)) rfl rfl rfl (RunL.nil)))
theorem f25_r3 : X25 K [1, 1, 0] s h .normal (W (W s 14 (.mp (h).n)) 4 (.mp (h).n)) (h.push (.mp [])) :=
  rg (RunL.op (v := (.mp (h).n)) rfl (L_map rfl) (Ra (v := (.mp (h).n)) rfl rfl rfl (RunL.nil)))
theorem f25_r4 {v0 r16 : CV} (i0 : s.at 0 = v0) (o16 : qLen h v0 (tyk K.P 22) = some r16) : X25 K [1, 1, 1, 0, 0] s h .normal (W (W (W s 15 v0) 16 r16) 17 n0) h :=
  rg (Rm rfl rfl i0 (R1 (v := r16) rfl (Q_len rfl rfl rfl rfl rfl o16) (Rm (v := n0) rfl rfl rfl (RunL.nil))))
theorem f25_r5 {v17 v16 r18 : CV} (i17 : s.at 17 = v17) (i16 : s.at 16 = v16) (o18 : bineq K.P .lss 3 v17 v16 = some r18) : X25 K [1, 1, 1, 0, 1, 0, 0, 0] s h .normal (W s 18 r18) h :=
  rg (Rb rfl rfl i17 i16 o18 (RunL.nil))
theorem f25_r6 {v15 v17 r19 r20 : CV} (i15 : s.at 15 = v15) (i17 : s.at 17 = v17) (o19 : qIndexAddr v15 v17 (tyk K.P 22) = some r19) (o20 : qLoad h r19 (tsz K.P 46) = some r20) : X25 K [1, 1, 1, 0, 1, 0, 0, 1, 1, 0, 0, 0] s h .normal (W (W (W s 19 r19) 20 r20) 6 r20) h :=
  rg (R1 (v := r19) rfl (Q_ia rfl i15 i17 o19) (R1 (v := r20) rfl (Q_load rfl rfl o20) (Ra (v := r20) rfl rfl rfl (RunL.nil))))
theorem f25_r7 {v6 r23 r24 r25 : CV} {g1 : Hp} (i6 : s.at 6 = v6) (pg1 : K.prim 70 [v6] = none) (wg1 : Comes K 70 [v6] h r23 g1) (o24 : qExtract 0 r23 = some r24) (o25 : qExtract 1 r23 = some r25) : X25 K [1, 1, 1, 0, 1, 0, 0, 1, 1, 0, 0, 1, 0] s h .normal (W (W (W (W (W (W (W s 22 v6) 23 r23) 21 r23) 24 r24) 25 r25) 7 r24) 8 r25) g1 :=
  rg (Rm rfl rfl i6 (RunL.call (v := r23) rfl rfl rfl rfl rfl pg1 wg1 (Rm (v := r23) rfl rfl rfl (R1 (v := r24) rfl (Q_extract rfl rfl o24) (R1 (v := r25) rfl (Q_extract rfl rfl o25) (Ra (v := r24) rfl rfl rfl (Ra (v := r25) rfl rfl rfl (RunL.nil))))))))
theorem f25_r8 {v8 r27 : CV} (i8 : s.at 8 = v8) (o27 : bineq K.P .neq 29 v8 n0 = some r27) : X25 K [1, 1, 1, 0, 1, 0, 0, 1, 1, 0, 0, 1, 1, 0, 0] s h .normal (W (W s 26 v8) 27 r27) h :=
  rg (Rm rfl rfl i8 (Rb rfl rfl rfl rfl o27 (RunL.nil)))
theorem f25_r9 {v8 : CV} (i8 : s.at 8 = v8) : X25 K [1, 1, 1, 0, 1, 0, 0, 1, 1, 0, 0, 1, 1, 0, 1, 0, 0] s h .normal (W (W (W s 28 v8) 2 .nils) 3 v8) h :=
  rg (Rm rfl rfl i8 (Ra (v := .nils) rfl rfl rfl (Ra (v := v8) rfl rfl rfl (RunL.nil))))
theorem f25_r10 {v7 r30 : CV} (i7 : s.at 7 = v7) (o30 : qLen h v7 (tyk K.P 22) = some r30) : X25 K [1, 1, 1, 0, 1, 0, 0, 1, 1, 0, 0, 1, 1, 1, 0] s h .normal (W (W (W s 29 v7) 30 r30) 31 n0) h :=
  rg (Rm rfl rfl i7 (R1 (v := r30) rfl (Q_len rfl rfl rfl rfl rfl o30) (Rm (v := n0) rfl rfl rfl (RunL.nil))))
theorem f25_r11 {v31 v30 r32 : CV} (i31 : s.at 31 = v31) (i30 : s.at 30 = v30) (o32 : bineq K.P .lss 3 v31 v30 = some r32) : X25 K [1, 1, 1, 0, 1, 0, 0, 1, 1, 0, 0, 1, 1, 1, 1, 0, 0, 0] s h .normal (W s 32 r32) h :=
  rg (Rb rfl rfl i31 i30 o32 (RunL.nil))
theorem f25_r12 {v29 v31 r33 r34 : CV} (i29 : s.at 29 = v29) (i31 : s.at 31 = v31) (o33 : qIndexAddr v29 v31 (tyk K.P 22) = some r33) (o34 : qLoad h r33 (tsz K.P 46) = some r34) : X25 K [1, 1, 1, 0, 1, 0, 0, 1, 1, 0, 0, 1, 1, 1, 1, 0, 0, 1, 1, 0, 0, 0] s h .normal (W (W (W s 33 r33) 34 r34) 10 r34) h :=
  rg (R1 (v := r33) rfl (Q_ia rfl i29 i31 o33) (R1 (v := r34) rfl (Q_load rfl rfl o34) (Ra (v := r34) rfl rfl rfl (RunL.nil))))
theorem f25_r13 {v4 v10 r37 : CV} {g1 g2 : Hp} (i4 : s.at 4 = v4) (i10 : s.at 10 = v10) (pg1 : K.prim 71 [v10] = none) (wg1 : Comes K 71 [v10] h r37 g1) (wg2 : wMap K.P g1 v4 r37 v10 (tyk K.P 100) = some (.undef, g2)) : X25 K [1, 1, 1, 0, 1, 0, 0, 1, 1, 0, 0, 1, 1, 1, 1, 0, 0, 1, 1, 0, 0, 1] s h .normal (W (W (W (W s 35 v4) 36 v10) 37 r37) 38 v10) g2 :=
  rg (Rm rfl rfl i4 (Rm rfl rfl i10 (RunL.call (v := r37) rfl rfl rfl rfl rfl pg1 wg1 (Rm rfl rfl i10 (RunL.op (v := .undef) rfl (W_map rfl rfl rfl rfl wg2) (RunL.nil))))))
theorem f25_r14 {v31 r39 : CV} (i31 : s.at 31 = v31) (o39 : bineq K.P .add 3 v31 (.nu .i64 1) = some r39) : X25 K [1, 1, 1, 0, 1, 0, 0, 1, 1, 0, 0, 1, 1, 1, 1, 0, 0, 1, 1, 1] s h .normal (W (W s 39 r39) 31 r39) h :=
  rg (Rb rfl rfl i31 rfl o39 (Rm (v := r39) rfl rfl rfl (RunL.nil)))
theorem f25_r15 {v17 r40 : CV} (i17 : s.at 17 = v17) (o40 : bineq K.P .add 3 v17 (.nu .i64 1) = some r40) : X25 K [1, 1, 1, 0, 1, 0, 0, 1, 1, 1] s h .normal (W (W s 40 r40) 17 r40) h :=
  rg (Rb rfl rfl i17 rfl o40 (Rm (v := r40) rfl rfl rfl (RunL.nil)))
theorem f25_r16 {v4 r42 r43 : CV} (i4 : s.at 4 = v4) (o42 : qLen h v4 (tyk K.P 100) = some r42) (o43 : bineq K.P .gtr 3 r42 (.nu .i64 1024) = some r43) : X25 K [1, 1, 1, 1, 0, 0] s h .normal (W (W (W s 41 v4) 42 r42) 43 r43) h :=
  rg (Rm rfl rfl i4 (R1 (v := r42) rfl (Q_len rfl rfl rfl rfl rfl o42) (Rb rfl rfl rfl rfl o43 (RunL.nil))))
theorem f25_r17 : X25 K [1, 1, 1, 1, 0, 1, 0, 0] s h .normal (W (W s 2 .nils) 3 (.nu .i64 3)) h :=
  rg (Ra (v := .nils) rfl rfl rfl (Ra (v := (.nu .i64 3)) rfl rfl rfl (RunL.nil)))
theorem f25_r18 {v4 r45 : CV} {g1 : Hp} (i4 : s.at 4 = v4) (pg1 : K.prim 72 [v4] = none) (wg1 : Comes K 72 [v4] h r45 g1) : X25 K [1, 1, 1, 1, 1, 0] s h .normal (W (W (W (W s 44 v4) 45 r45) 2 r45) 3 n0) g1 :=
  rg (Rm rfl rfl i4 (RunL.call (v := r45) rfl rfl rfl rfl rfl pg1 wg1 (Ra (v := r45) rfl rfl rfl (Ra (v := n0) rfl rfl rfl (RunL.nil)))))
theorem f70_r0 : X70 K [0] s h .normal (W (W s 2 .nils) 3 n0) h :=
  rg (Ra (v := .nils) rfl rfl rfl (Ra (v := n0) rfl rfl rfl (RunL.nil)))
theorem f70_r1 {v0 r6 : CV} {g1 : Hp} (i0 : s.at 0 = v0) (pg1 : K.prim 66 [v0] = none) (wg1 : Comes K 66 [v0] h r6 g1) : X70 K [1, 0, 0] s h .normal (W (W (W s 5 v0) 6 r6) 3 r6) g1 :=
  rg (Rm rfl rfl i0 (RunL.call (v := r6) rfl rfl rfl rfl rfl pg1 wg1 (Ra (v := r6) rfl rfl rfl (RunL.nil))))
theorem f70_r2 {v3 r8 : CV} (i3 : s.at 3 = v3) (o8 : bineq K.P .neq 29 v3 n0 = some r8) : X70 K [1, 0, 1, 0] s h .normal (W (W s 7 v3) 8 r8) h :=
  rg (Rm rfl rfl i3 (Rb rfl rfl rfl rfl o8 (RunL.nil)))
theorem f70_r3 {v3 : CV} (i3 : s.at 3 = v3) : X70 K [1, 0, 1, 1, 0, 0] s h .normal (W (W (W s 9 v3) 2 .nils) 3 v3) h :=
  rg (Rm rfl rfl i3 (Ra (v := .nils) rfl rfl rfl (Ra (v := v3) rfl rfl rfl (RunL.nil))))
theorem f70_r4 {v0 r11 : CV} (i0 : s.at 0 = v0) (o11 : qLen h v0 (tyk K.P 46) = some r11) : X70 K [1, 1, 0, 0] s h .normal (W (W (W s 10 v0) 11 r11) 12 n0) h :=
  rg (Rm rfl rfl i0 (R1 (v := r11) rfl (Q_len rfl rfl rfl rfl rfl o11) (Rm (v := n0) rfl rfl rfl (RunL.nil))))
theorem f70_r5 {v12 v11 r13 : CV} (i12 : s.at 12 = v12) (i11 : s.at 11 = v11) (o13 : bineq K.P .lss 3 v12 v11 = some r13) : X70 K [1, 1, 0, 1, 0, 0, 0] s h .normal (W s 13 r13) h :=
  rg (Rb rfl rfl i12 i11 o13 (RunL.nil))
theorem f70_r6 {v12 : CV} (i12 : s.at 12 = v12) : X70 K [1, 1, 0, 1, 0, 0, 1, 1, 0, 0, 0] s h .normal (W (W s 14 v12) 4 v12) h :=
  rg (Rm rfl rfl i12 (Ra (v := v12) rfl rfl rfl (RunL.nil)))
theorem f70_r7 {v2 v0 v4 r18 r19 r20 : CV} {g1 g2 : Hp} (i2 : s.at 2 = v2) (i0 : s.at 0 = v0) (i4 : s.at 4 = v4) (o18 : bineq K.P .add 3 v4 (.nu .i64 1) = some r18) (pg1 : K.prim 115 [v0, r18] = none) (wg1 : Comes K 115 [v0, r18] h r19 g1) (pg2 : K.prim 114 [v2, r19] = none) (wg2 : Comes K 114 [v2, r19] g1 r20 g2) : X70 K [1, 1, 0, 1, 0, 0, 1, 1, 0, 0, 1] s h .normal (W (W (W (W (W (W (W s 15 v2) 16 v0) 17 v4) 18 r18) 19 r19) 20 r20) 2 r20) g2 :=
  rg (Rm rfl rfl i2 (Rm rfl rfl i0 (Rm rfl rfl i4 (Rb rfl rfl rfl rfl o18 (RunL.call (v := r19) rfl rfl rfl rfl rfl pg1 wg1 (RunL.call (v := r20) rfl rfl rfl rfl rfl pg2 wg2 (Ra (v := r20) rfl rfl rfl (RunL.nil))))))))
theorem f70_r8 {v12 r21 : CV} (i12 : s.at 12 = v12) (o21 : bineq K.P .add 3 v12 (.nu .i64 1) = some r21) : X70 K [1, 1, 0, 1, 0, 0, 1, 1, 1] s h .normal (W (W s 21 r21) 12 r21) h :=
  rg (Rb rfl rfl i12 rfl o21 (Rm (v := r21) rfl rfl rfl (RunL.nil)))
theorem f70_r9 {v2 : CV} (i2 : s.at 2 = v2) : X70 K [1, 1, 1, 0] s h .normal (W (W (W s 22 v2) 2 v2) 3 n0) h :=
  rg (Rm rfl rfl i2 (Ra (v := v2) rfl rfl rfl (Ra (v := n0) rfl rfl rfl (RunL.nil))))
theorem f72_r0 : X72 K [0] s h .normal (W s 2 .nils) h :=
  rg (Ra (v := .nils) rfl rfl rfl (RunL.nil))
theorem f72_r1 : X72 K [1, 0] s h .normal (W s 3 .nils) h :=
  rg (Ra (v := .nils) rfl rfl rfl (RunL.nil))
-- NOT PRINTED 72 region 2: range
-- NOT PRINTED 72 region 3: next
-- NOT PRINTED 72 region 4: other
theorem f72_r5 {v3 v5 r14 r16 : CV} {F15 : Nat → CV} {B15 : HB} {g1 g2 : Hp} (i3 : s.at 3 = v3) (i5 : s.at 5 = v5) (pg1 : K.prim 69 [v5] = none) (wg1 : Comes K 69 [v5] h r14 g1) (o15 : lSlice 1 [(0, r14)] (tyk K.P 22) = some (F15, B15)) (wg2 : wApp (g1.push B15) v3 (F15 (g1).n) (tyk K.P 22) (tyk K.P 22) = some (r16, g2)) : X72 K [1, 1, 0, 1, 0, 0, 1, 1, 0, 1] s h .normal (W (W (W (W (W (W s 12 v3) 13 v5) 14 r14) 15 (F15 (g1).n)) 16 r16) 3 r16) g2 :=
  rg (Rm rfl rfl i3 (Rm rfl rfl i5 (RunL.call (v := r14) rfl rfl rfl rfl rfl pg1 wg1 (RunL.op (v := (F15 (g1).n)) rfl (L_slice rfl rfl o15) (RunL.op (v := r16) rfl (W_app hk rfl rfl rfl rfl rfl rfl wg2) (Ra (v := r16) rfl rfl rfl (RunL.nil)))))))
theorem f72_r6 {v3 r18 : CV} {g1 : Hp} (i3 : s.at 3 = v3) (pg1 : K.prim 116 [v3, (.fn 74 [])] = none) (wg1 : Comes K 116 [v3, (.fn 74 [])] h r18 g1) : X72 K [1, 1, 1, 0] s h .normal (W (W s 17 v3) 18 r18) g1 :=
  rg (Rm rfl rfl i3 (RunL.call (v := r18) rfl rfl rfl rfl rfl pg1 wg1 (RunL.nil)))
theorem f72_r7 {v3 : CV} (i3 : s.at 3 = v3) : X72 K [1, 1, 1, 1, 0] s h .normal (W (W s 19 v3) 2 v3) h :=
  rg (Rm rfl rfl i3 (Ra (v := v3) rfl rfl rfl (RunL.nil)))
theorem f115_r0 {v0 v1 : CV} {F2 F3 : Nat → CV} {B2 B3 : HB} (i0 : s.at 0 = v0) (i1 : s.at 1 = v1) (o2 : lBox 46 v0 (tsz K.P 46) = some (F2, B2)) (o3 : lBox 3 v1 (tsz K.P 3) = some (F3, B3)) : X115 K [0] s h .normal (W (W (W s 2 (F2 (h).n)) 3 (F3 ((h.push B2)).n)) 4 .nilf) ((h.push B2).push B3) :=
  rg (RunL.op (v := (F2 (h).n)) rfl (L_box rfl i0 o2) (RunL.op (v := (F3 ((h.push B2)).n)) rfl (L_box rfl i1 o3) (Ra (v := .nilf) rfl rfl rfl (RunL.nil))))
theorem f115_r1 {v3 v2 : CV} (i3 : s.at 3 = v3) (i2 : s.at 2 = v2) : X115 K [1, 0] s h .normal (W (W s 5 (.fn 142 [v3, v2])) 4 (.fn 142 [v3, v2])) h :=
  rg (R1 (v := (.fn 142 [v3, v2])) rfl (Q_func rfl (by simp only [ev, Fr.putO, Fr.at_set, reduceIte, Nat.reduceEqDiff, List.toList_toArray, List.map_cons, List.map_nil, Option.map_some, Option.map_none, i3, i2]; try rfl)) (Ra (v := (.fn 142 [v3, v2])) rfl rfl rfl (RunL.nil)))
end Go.CP
/- Ways through code without loops, at whatever the slots hold. -/
namespace Go.CP
open Go.Proofs
structure PlansD [LG] [HK] (K : Ctx) : Prop where
  p142_6 : K.plan 142 6 = some [.take 0, .take 1, .take 2, .take 3, .only 4 [3, 2, 1, 0], .only 5 [3, 2, 1, 0], .only 6 []]
variable [LG] [HK] {K : Ctx} {s : Fr} {h : Hp} (hk : ∀ o, HK.keep o = false) (pr : ∀ f args, K.prim f args = none) (Pl : PlansD K)
include hk pr Pl
theorem f25_b10_T {v0 r12 : CV} (i0 : s.at 0 = v0) (o12 : qLen h v0 (tyk K.P 22) = some r12) (o13 : bineq K.P .gtr 3 r12 (.nu .i64 1024) = some tt) : X25 K [1, 0] s h .ret (W (W (W (W (W s 11 v0) 12 r12) 13 tt) 2 .nils) 3 (.nu .i64 3)) h :=
  (sq (f25_r1 (h := h) (r13 := tt) hk i0 ‹_› ‹_›) (cT 13 rfl (sq (f25_r2 (h := h) hk) Runs.ret)))
theorem f25_b10_F {v0 r12 : CV} (i0 : s.at 0 = v0) (o12 : qLen h v0 (tyk K.P 22) = some r12) (o13 : bineq K.P .gtr 3 r12 (.nu .i64 1024) = some ff) : X25 K [1, 0] s h .normal (W (W (W s 11 v0) 12 r12) 13 ff) h :=
  (sq (f25_r1 (h := h) (r13 := ff) hk i0 ‹_› ‹_›) (cF 13 rfl sk))
theorem f25_b11101001100110_T {v8 : CV} (i8 : s.at 8 = v8) (o27 : bineq K.P .neq 29 v8 n0 = some tt) : X25 K [1, 1, 1, 0, 1, 0, 0, 1, 1, 0, 0, 1, 1, 0] s h .ret (W (W (W (W (W s 26 v8) 27 tt) 28 v8) 2 .nils) 3 v8) h :=
  (sq (f25_r8 (h := h) (r27 := tt) hk i8 ‹_›) (cT 27 rfl (sq (f25_r9 (h := h) hk i8) Runs.ret)))
theorem f25_b11101001100110_F {v8 : CV} (i8 : s.at 8 = v8) (o27 : bineq K.P .neq 29 v8 n0 = some ff) : X25 K [1, 1, 1, 0, 1, 0, 0, 1, 1, 0, 0, 1, 1, 0] s h .normal (W (W s 26 v8) 27 ff) h :=
  (sq (f25_r8 (h := h) (r27 := ff) hk i8 ‹_›) (cF 27 rfl sk))
theorem f25_b11101001100111100_T {v31 v30 v29 r33 r34 v4 r37 r39 : CV} {g1 g2 : Hp} (i31 : s.at 31 = v31) (i30 : s.at 30 = v30) (i29 : s.at 29 = v29) (i4 : s.at 4 = v4) (o32 : bineq K.P .lss 3 v31 v30 = some tt) (o33 : qIndexAddr v29 v31 (tyk K.P 22) = some r33) (o34 : qLoad h r33 (tsz K.P 46) = some r34) (wg1 : Comes K 71 [r34] h r37 g1) (wg2 : wMap K.P g1 v4 r37 r34 (tyk K.P 100) = some (.undef, g2)) (o39 : bineq K.P .add 3 v31 (.nu .i64 1) = some r39) : X25 K [1, 1, 1, 0, 1, 0, 0, 1, 1, 0, 0, 1, 1, 1, 1, 0, 0] s h .normal (W (W (W (W (W (W (W (W (W (W s 32 tt) 33 r33) 34 r34) 10 r34) 35 v4) 36 r34) 37 r37) 38 r34) 39 r39) 31 r39) g2 :=
  (sq (f25_r11 (h := h) (r32 := tt) hk i31 i30 ‹_›) (sq (cT 32 rfl sk) (sq (Runs.blockN (sq (f25_r12 (h := h) hk i29 i31 ‹_› ‹_›) (f25_r13 (h := h) (v10 := r34) hk i4 rfl (pr _ _) ‹_› ‹_›))) (f25_r14 (h := g2) hk i31 ‹_›))))
theorem f25_b11101001100111100_F {v31 v30 : CV} (i31 : s.at 31 = v31) (i30 : s.at 30 = v30) (o32 : bineq K.P .lss 3 v31 v30 = some ff) : X25 K [1, 1, 1, 0, 1, 0, 0, 1, 1, 0, 0, 1, 1, 1, 1, 0, 0] s h (.exit 2) (W s 32 ff) h :=
  (sq (f25_r11 (h := h) (r32 := ff) hk i31 i30 ‹_›) (sx (cF 32 rfl Runs.exit) (by simp)))
theorem f25_b1111_T {v4 r42 : CV} (i4 : s.at 4 = v4) (o42 : qLen h v4 (tyk K.P 100) = some r42) (o43 : bineq K.P .gtr 3 r42 (.nu .i64 1024) = some tt) : X25 K [1, 1, 1, 1] s h .ret (W (W (W (W (W s 41 v4) 42 r42) 43 tt) 2 .nils) 3 (.nu .i64 3)) h :=
  (sx (sq (f25_r16 (h := h) (r43 := tt) hk i4 ‹_› ‹_›) (cT 43 rfl (sq (f25_r17 (h := h) hk) Runs.ret))) (by simp))
theorem f25_b1111_F {v4 r42 r45 : CV} {g1 : Hp} (i4 : s.at 4 = v4) (o42 : qLen h v4 (tyk K.P 100) = some r42) (o43 : bineq K.P .gtr 3 r42 (.nu .i64 1024) = some ff) (wg1 : Comes K 72 [v4] h r45 g1) : X25 K [1, 1, 1, 1] s h .ret (W (W (W (W (W (W (W s 41 v4) 42 r42) 43 ff) 44 v4) 45 r45) 2 r45) 3 n0) g1 :=
  (sq (sq (f25_r16 (h := h) (r43 := ff) hk i4 ‹_› ‹_›) (cF 43 rfl sk)) (sq (f25_r18 (h := h) hk i4 (pr _ _) ‹_›) Runs.ret))
theorem f70_b10_T {v0 r6 : CV} {g1 : Hp} (i0 : s.at 0 = v0) (wg1 : Comes K 66 [v0] h r6 g1) (o8 : bineq K.P .neq 29 r6 n0 = some tt) : X70 K [1, 0] s h .ret (W (W (W (W (W (W (W (W s 5 v0) 6 r6) 3 r6) 7 r6) 8 tt) 9 r6) 2 .nils) 3 r6) g1 :=
  (sq (f70_r1 (h := h) hk i0 (pr _ _) ‹_›) (sq (f70_r2 (h := g1) (v3 := r6) (r8 := tt) hk rfl ‹_›) (cT 8 rfl (sq (f70_r3 (h := g1) (v3 := r6) hk rfl) Runs.ret))))
theorem f70_b10_F {v0 r6 : CV} {g1 : Hp} (i0 : s.at 0 = v0) (wg1 : Comes K 66 [v0] h r6 g1) (o8 : bineq K.P .neq 29 r6 n0 = some ff) : X70 K [1, 0] s h .normal (W (W (W (W (W s 5 v0) 6 r6) 3 r6) 7 r6) 8 ff) g1 :=
  (sq (f70_r1 (h := h) hk i0 (pr _ _) ‹_›) (sq (f70_r2 (h := g1) (v3 := r6) (r8 := ff) hk rfl ‹_›) (cF 8 rfl sk)))
theorem f70_b110100_T {v12 v11 v2 v0 r18 r19 r20 : CV} {g1 g2 : Hp} (i12 : s.at 12 = v12) (i11 : s.at 11 = v11) (i2 : s.at 2 = v2) (i0 : s.at 0 = v0) (o13 : bineq K.P .lss 3 v12 v11 = some tt) (o18 : bineq K.P .add 3 v12 (.nu .i64 1) = some r18) (wg1 : Comes K 115 [v0, r18] h r19 g1) (wg2 : Comes K 114 [v2, r19] g1 r20 g2) : X70 K [1, 1, 0, 1, 0, 0] s h .normal (W (W (W (W (W (W (W (W (W (W (W (W s 13 tt) 14 v12) 4 v12) 15 v2) 16 v0) 17 v12) 18 r18) 19 r19) 20 r20) 2 r20) 21 r18) 12 r18) g2 :=
  (sq (f70_r5 (h := h) (r13 := tt) hk i12 i11 ‹_›) (sq (cT 13 rfl sk) (sq (Runs.blockN (sq (f70_r6 (h := h) hk i12) (f70_r7 (h := h) (v4 := v12) hk i2 i0 rfl ‹_› (pr _ _) ‹_› (pr _ _) ‹_›))) (f70_r8 (h := g2) (r21 := r18) hk i12 ‹_›))))
theorem f70_b110100_F {v12 v11 : CV} (i12 : s.at 12 = v12) (i11 : s.at 11 = v11) (o13 : bineq K.P .lss 3 v12 v11 = some ff) : X70 K [1, 1, 0, 1, 0, 0] s h (.exit 0) (W s 13 ff) h :=
  (sq (f70_r5 (h := h) (r13 := ff) hk i12 i11 ‹_›) (sx (cF 13 rfl Runs.exit) (by simp)))
theorem f70_b111 {v2 : CV} (i2 : s.at 2 = v2) : X70 K [1, 1, 1] s h .ret (W (W (W s 22 v2) 2 v2) 3 n0) h :=
  (sq (f70_r9 (h := h) hk i2) Runs.ret)
-- NOT PRINTED f72_b110100_T: next
-- NOT PRINTED f72_b110100_F: next
theorem f115_b {v0 v1 : CV} {F2 F3 : Nat → CV} {B2 B3 : HB} (i0 : s.at 0 = v0) (i1 : s.at 1 = v1) (o2 : lBox 46 v0 (tsz K.P 46) = some (F2, B2)) (o3 : lBox 3 v1 (tsz K.P 3) = some (F3, B3)) : X115 K [] s h .ret (W (W (W (W (W s 2 (F2 (h).n)) 3 (F3 ((h.push B2)).n)) 4 .nilf) 5 (.fn 142 [(F3 ((h.push B2)).n), (F2 (h).n)])) 4 (.fn 142 [(F3 ((h.push B2)).n), (F2 (h).n)])) ((h.push B2).push B3) :=
  (sq (f115_r0 (h := h) hk i0 i1 ‹_› ‹_›) (sq (f115_r1 (h := ((h.push B2).push B3)) (v3 := (F3 ((h.push B2)).n)) (v2 := (F2 (h).n)) hk rfl rfl) Runs.ret))
end Go.CP
/- The regions of some functions, at whatever their slots hold. -/
namespace Go.CP
open Go.Proofs
variable [LG] [HK] {K : Ctx} {s : Fr} {h : Hp} (hk : ∀ o, HK.keep o = false)
include hk
end Go.CP
/- Ways through code without loops, at whatever the slots hold. -/
namespace Go.CP
open Go.Proofs
structure PlansE [LG] [HK] (K : Ctx) : Prop where
variable [LG] [HK] {K : Ctx} {s : Fr} {h : Hp} (hk : ∀ o, HK.keep o = false) (pr : ∀ f args, K.prim f args = none) (Pl : PlansE K)
include hk pr Pl
-- NOT PRINTED 126 1100: 150 ways
-- NOT PRINTED 143 1100: 150 ways
end Go.CP
/- The regions of some functions, at whatever their slots hold. -/
namespace Go.CP
open Go.Proofs
variable [LG] [HK] {K : Ctx} {s : Fr} {h : Hp} (hk : ∀ o, HK.keep o = false)
include hk
theorem f4_r0 : X4 K [0] s h .normal (W s 2 ff) h :=
  rg (Ra (v := ff) rfl rfl rfl (RunL.nil))
theorem f4_r1_T {v0 r11 r16 : CV} (i0 : s.at 0 = v0) (o11 : qLen h v0 (tyk K.P 26) = some r11) (o12 : bineq K.P .gtr 3 r11 (.nu .i64 40) = some tt) (o16 : qPick tt .skp tt = some r16) : X4 K [1, 0, 0] s h .normal (W (W (W (W (W (W (W s 10 v0) 11 r11) 12 tt) 13 tt) 14 .skp) 15 .skp) 16 r16) h :=
  rg (Rm rfl rfl i0 (R1 (v := r11) rfl (Q_len rfl rfl rfl rfl rfl o11) (Rb rfl rfl rfl rfl o12 (Rm (v := tt) rfl rfl rfl (RunL.pass rfl (RunL.pass rfl (R1 (v := r16) rfl (Q_pick rfl rfl rfl rfl o16) (RunL.nil))))))))
theorem f4_r1_F {v0 r11 r14 r15 r16 : CV} {g1 : Hp} (i0 : s.at 0 = v0) (o11 : qLen h v0 (tyk K.P 26) = some r11) (o12 : bineq K.P .gtr 3 r11 (.nu .i64 40) = some ff) (pg1 : K.prim 14 [] = none) (wg1 : Comes K 14 [] h r14 g1) (o15 : aun .not r14 = some r15) (o16 : qPick tt r15 ff = some r16) : X4 K [1, 0, 0] s h .normal (W (W (W (W (W (W (W s 10 v0) 11 r11) 12 ff) 13 ff) 14 r14) 15 r15) 16 r16) g1 :=
  rg (Rm rfl rfl i0 (R1 (v := r11) rfl (Q_len rfl rfl rfl rfl rfl o11) (Rb rfl rfl rfl rfl o12 (Rm (v := ff) rfl rfl rfl (RunL.call (v := r14) rfl rfl rfl rfl rfl pg1 wg1 (R1 (v := r15) rfl (Q_un rfl rfl o15) (R1 (v := r16) rfl (Q_pick rfl rfl rfl rfl o16) (RunL.nil))))))))
theorem f4_r2 {r17 : CV} {g1 : Hp} (pg1 : K.prim 14 [] = none) (wg1 : Comes K 14 [] h r17 g1) : X4 K [1, 0, 1, 0, 0] s h .normal (W (W s 17 r17) 2 r17) g1 :=
  rg (RunL.call (v := r17) rfl rfl rfl rfl rfl pg1 wg1 (Ra (v := r17) rfl rfl rfl (RunL.nil)))
theorem f4_r3 {v0 r19 : CV} {g1 : Hp} (i0 : s.at 0 = v0) (pg1 : K.prim 15 [v0, (.nu .i64 6), (.nu .i64 4), (.nu .i64 9)] = none) (wg1 : Comes K 15 [v0, (.nu .i64 6), (.nu .i64 4), (.nu .i64 9)] h r19 g1) : X4 K [1, 1, 0] s h .normal (W (W (W s 18 v0) 19 r19) 3 r19) g1 :=
  rg (Rm rfl rfl i0 (RunL.call (v := r19) rfl rfl rfl rfl rfl pg1 wg1 (Ra (v := r19) rfl rfl rfl (RunL.nil))))
theorem f4_r4 {v3 r22 r23 r24 : CV} {g1 : Hp} (i3 : s.at 3 = v3) (pg1 : K.prim 24 [v3] = none) (wg1 : Comes K 24 [v3] h r22 g1) (o23 : qExtract 0 r22 = some r23) (o24 : qExtract 1 r22 = some r24) : X4 K [1, 1, 1, 0] s h .normal (W (W (W (W (W (W (W s 21 v3) 22 r22) 20 r22) 23 r23) 24 r24) 4 r23) 5 r24) g1 :=
  rg (Rm rfl rfl i3 (RunL.call (v := r22) rfl rfl rfl rfl rfl pg1 wg1 (Rm (v := r22) rfl rfl rfl (R1 (v := r23) rfl (Q_extract rfl rfl o23) (R1 (v := r24) rfl (Q_extract rfl rfl o24) (Ra (v := r23) rfl rfl rfl (Ra (v := r24) rfl rfl rfl (RunL.nil))))))))
theorem f4_r5 {v4 r27 r28 r29 : CV} {g1 : Hp} (i4 : s.at 4 = v4) (pg1 : K.prim 25 [v4] = none) (wg1 : Comes K 25 [v4] h r27 g1) (o28 : qExtract 0 r27 = some r28) (o29 : qExtract 1 r27 = some r29) : X4 K [1, 1, 1, 1, 0] s h .normal (W (W (W (W (W (W (W s 26 v4) 27 r27) 25 r27) 28 r28) 29 r29) 6 r28) 7 r29) g1 :=
  rg (Rm rfl rfl i4 (RunL.call (v := r27) rfl rfl rfl rfl rfl pg1 wg1 (Rm (v := r27) rfl rfl rfl (R1 (v := r28) rfl (Q_extract rfl rfl o28) (R1 (v := r29) rfl (Q_extract rfl rfl o29) (Ra (v := r28) rfl rfl rfl (Ra (v := r29) rfl rfl rfl (RunL.nil))))))))
theorem f4_r6 {v3 r32 r33 r34 : CV} {g1 : Hp} (i3 : s.at 3 = v3) (pg1 : K.prim 25 [v3] = none) (wg1 : Comes K 25 [v3] h r32 g1) (o33 : qExtract 0 r32 = some r33) (o34 : qExtract 1 r32 = some r34) : X4 K [1, 1, 1, 1, 1, 0] s h .normal (W (W (W (W (W (W (W s 31 v3) 32 r32) 30 r32) 33 r33) 34 r34) 8 r33) 9 r34) g1 :=
  rg (Rm rfl rfl i3 (RunL.call (v := r32) rfl rfl rfl rfl rfl pg1 wg1 (Rm (v := r32) rfl rfl rfl (R1 (v := r33) rfl (Q_extract rfl rfl o33) (R1 (v := r34) rfl (Q_extract rfl rfl o34) (Ra (v := r33) rfl rfl rfl (Ra (v := r34) rfl rfl rfl (RunL.nil))))))))
theorem f4_r7_TTTTT {v5 v7 r39 v9 r43 v3 r47 r48 v6 r53 r54 v8 r59 r60 r61 : CV} {g1 g2 g3 g4 g5 : Hp} (i5 : s.at 5 = v5) (i7 : s.at 7 = v7) (i9 : s.at 9 = v9) (i3 : s.at 3 = v3) (i6 : s.at 6 = v6) (i8 : s.at 8 = v8) (o36 : bineq K.P .eql 29 v5 n0 = some tt) (o39 : bineq K.P .eql 29 v7 n0 = some r39) (o40 : qPick r39 ff tt = some tt) (o43 : bineq K.P .eql 29 v9 n0 = some r43) (o44 : qPick r43 ff tt = some tt) (pg1 : K.prim 26 [v3] = none) (wg1 : Comes K 26 [v3] h r47 g1) (o48 : bineq K.P .eql 29 r47 n0 = some r48) (o49 : qPick r48 ff tt = some tt) (pg2 : K.prim 16 [v3] = none) (wg2 : Comes K 16 [v3] g1 r53 g2) (pg3 : K.prim 23 [v6, r53] = none) (wg3 : Comes K 23 [v6, r53] g2 r54 g3) (o55 : qPick r54 ff tt = some tt) (pg4 : K.prim 16 [v3] = none) (wg4 : Comes K 16 [v3] g3 r59 g4) (pg5 : K.prim 23 [v8, r59] = none) (wg5 : Comes K 23 [v8, r59] g4 r60 g5) (o61 : qPick r60 ff tt = some r61) : X4 K [1, 1, 1, 1, 1, 1, 0] s h .normal (W (W (W (W (W (W (W (W (W (W (W (W (W (W (W (W (W (W (W (W (W (W (W (W (W (W (W (W s 35 v5) 36 tt) 37 tt) 38 v7) 39 r39) 40 tt) 41 tt) 42 v9) 43 r43) 44 tt) 45 tt) 46 v3) 47 r47) 48 r48) 49 tt) 50 tt) 51 v6) 52 v3) 53 r53) 54 r54) 55 tt) 56 tt) 57 v8) 58 v3) 59 r59) 60 r60) 61 r61) 2 r61) g5 :=
  rg (Rm rfl rfl i5 (Rb rfl rfl rfl rfl o36 (Rm (v := tt) rfl rfl rfl (Rm rfl rfl i7 (Rb rfl rfl rfl rfl o39 (R1 (v := tt) rfl (Q_pick rfl rfl rfl rfl o40) (Rm (v := tt) rfl rfl rfl (Rm rfl rfl i9 (Rb rfl rfl rfl rfl o43 (R1 (v := tt) rfl (Q_pick rfl rfl rfl rfl o44) (Rm (v := tt) rfl rfl rfl (Rm rfl rfl i3 (RunL.call (v := r47) rfl rfl rfl rfl rfl pg1 wg1 (Rb rfl rfl rfl rfl o48 (R1 (v := tt) rfl (Q_pick rfl rfl rfl rfl o49) (Rm (v := tt) rfl rfl rfl (Rm rfl rfl i6 (Rm rfl rfl i3 (RunL.call (v := r53) rfl rfl rfl rfl rfl pg2 wg2 (RunL.call (v := r54) rfl rfl rfl rfl rfl pg3 wg3 (R1 (v := tt) rfl (Q_pick rfl rfl rfl rfl o55) (Rm (v := tt) rfl rfl rfl (Rm rfl rfl i8 (Rm rfl rfl i3 (RunL.call (v := r59) rfl rfl rfl rfl rfl pg4 wg4 (RunL.call (v := r60) rfl rfl rfl rfl rfl pg5 wg5 (R1 (v := r61) rfl (Q_pick rfl rfl rfl rfl o61) (Ra (v := r61) rfl rfl rfl (RunL.nil)))))))))))))))))))))))))))))
end Go.CP
/- The regions of some functions, at whatever their slots hold. -/
namespace Go.CP
open Go.Proofs
variable [LG] [HK] {K : Ctx} {s : Fr} {h : Hp} (hk : ∀ o, HK.keep o = false)
include hk
end Go.CP
/- The regions of some functions, at whatever their slots hold. -/
namespace Go.CP
open Go.Proofs
variable [LG] [HK] {K : Ctx} {s : Fr} {h : Hp} (hk : ∀ o, HK.keep o = false)
include hk
end Go.CP
/- The regions of some functions, at whatever their slots hold. -/
namespace Go.CP
open Go.Proofs
variable [LG] [HK] {K : Ctx} {s : Fr} {h : Hp} (hk : ∀ o, HK.keep o = false)
include hk
end Go.CP
/- The regions of some functions, at whatever their slots hold. -/
namespace Go.CP
open Go.Proofs
variable [LG] [HK] {K : Ctx} {ro : Option Nat} {s : Fr} {h : Hp} (hk : ∀ o, HK.keep o = false)
include hk
theorem f114_r0 {v0 : CV} {F2 : Nat → CV} {B2 : HB} (i0 : s.at 0 = v0) (o2 : lBox 22 v0 (tsz K.P 22) = some (F2, B2)) : Runs K 114 13 ro (sub1 [0] (bodyOf Tryz.f114)) s h .normal (W (W s 2 (F2 (h).n)) 4 .nils) (h.push B2) :=
  rg (RunL.op (v := (F2 (h).n)) rfl (L_box rfl i0 o2) (Ra (v := .nils) rfl rfl rfl (RunL.nil)))
theorem f114_r1 {v1 : CV} (i1 : s.at 1 = v1) : Runs K 114 13 ro (sub1 [1, 0, 0] (bodyOf Tryz.f114)) s h .normal (W s 6 v1) h :=
  rg (Rm rfl rfl i1 (RunL.nil))
theorem f114_r2 {v7 : CV} (i7 : s.at 7 = v7) : Runs K 114 13 ro (sub1 [1, 0, 1, 0, 0] (bodyOf Tryz.f114)) s h .normal (W s 5 v7) h :=
  rg (Ra (v := v7) rfl rfl i7 (RunL.nil))
theorem f114_r3 {v2 r8 v5 r11 : CV} {F10 : Nat → CV} {B10 : HB} {g1 g2 : Hp} (i2 : s.at 2 = v2) (i5 : s.at 5 = v5) (o8 : qLoad h v2 (tsz K.P 22) = some r8) (o10 : lSlice 1 [(0, v5)] (tyk K.P 22) = some (F10, B10)) (wg1 : wApp (h.push B10) r8 (F10 (h).n) (tyk K.P 22) (tyk K.P 22) = some (r11, g1)) (wg2 : wStore g1 v2 r11 (tsz K.P 22) = some (.undef, g2)) : Runs K 114 13 ro (sub1 [1, 0, 1, 0, 1, 0] (bodyOf Tryz.f114)) s h .normal (W (W (W (W s 8 r8) 9 v5) 10 (F10 (h).n)) 11 r11) g2 :=
  rg (R1 (v := r8) rfl (Q_load rfl i2 o8) (Rm rfl rfl i5 (RunL.op (v := (F10 (h).n)) rfl (L_slice rfl rfl o10) (RunL.op (v := r11) rfl (W_app hk rfl rfl rfl rfl rfl rfl wg1) (RunL.op (v := .undef) rfl (W_store rfl i2 rfl wg2) (RunL.nil))))))
theorem f114_r4 {v2 r12 : CV} (i2 : s.at 2 = v2) (o12 : qLoad h v2 (tsz K.P 22) = some r12) : Runs K 114 13 ro (sub1 [1, 1, 0] (bodyOf Tryz.f114)) s h .normal (W (W s 12 r12) 4 r12) h :=
  rg (R1 (v := r12) rfl (Q_load rfl i2 o12) (Ra (v := r12) rfl rfl rfl (RunL.nil)))
theorem f142_r0 {v0 : CV} {F3 : Nat → CV} {B3 : HB} (i0 : s.at 0 = v0) (o3 : lBox 110 v0 (tsz K.P 110) = some (F3, B3)) : Runs K 142 37 ro (sub1 [0] (bodyOf Tryz.f142)) s h .normal (W s 3 (F3 (h).n)) (h.push B3) :=
  rg (RunL.op (v := (F3 (h).n)) rfl (L_box rfl i0 o3) (RunL.nil))
theorem f142_r1 {v1 r6 r7 : CV} (i1 : s.at 1 = v1) (o6 : qLoad h v1 (tsz K.P 3) = some r6) (o7 : bineq K.P .eql 3 r6 n0 = some r7) : Runs K 142 37 ro (sub1 [1, 0, 0] (bodyOf Tryz.f142)) s h .normal (W (W s 6 r6) 7 r7) h :=
  rg (R1 (v := r6) rfl (Q_load rfl i1 o6) (Rb rfl rfl rfl rfl o7 (RunL.nil)))
theorem f142_r2 {v3 r8 r9 : CV} {g1 : Hp} (i3 : s.at 3 = v3) (o8 : qLoad h v3 (tsz K.P 110) = some r8) (wg1 : ComesV K r8 [.nils] h r9 g1) : Runs K 142 37 ro (sub1 [1, 0, 1, 0, 0] (bodyOf Tryz.f142)) s h .normal (W (W s 8 r8) 9 r9) g1 :=
  rg (R1 (v := r8) rfl (Q_load rfl i3 o8) (RunL.callV (v := r9) rfl rfl rfl rfl rfl wg1 (RunL.nil)))
theorem f142_r3 {F4 : Nat → CV} {B4 : HB} {g2 : Hp} (o4 : lAlloc 3 (tzero K.P 3) = some (F4, B4)) (wg2 : wStore (h.push B4) (F4 (h).n) n0 (tsz K.P 3) = some (.undef, g2)) : Runs K 142 37 ro (sub1 [1, 1, 0] (bodyOf Tryz.f142)) s h .normal (W s 4 (F4 (h).n)) g2 :=
  rg (RunL.op (v := (F4 (h).n)) rfl (L_alloc rfl o4) (RunL.op (v := .undef) rfl (W_store rfl rfl rfl wg2) (RunL.nil)))
theorem f142_r4 {v4 r10 v1 r11 r12 v2 r13 r14 r15 : CV} (i4 : s.at 4 = v4) (i1 : s.at 1 = v1) (i2 : s.at 2 = v2) (o10 : qLoad h v4 (tsz K.P 3) = some r10) (o11 : qLoad h v1 (tsz K.P 3) = some r11) (o12 : bineq K.P .add 3 r10 r11 = some r12) (o13 : qLoad h v2 (tsz K.P 46) = some r13) (o14 : qLen h r13 (tyk K.P 46) = some r14) (o15 : bineq K.P .leq 3 r12 r14 = some r15) : Runs K 142 37 ro (sub1 [1, 1, 1, 0, 0, 0, 0] (bodyOf Tryz.f142)) s h .normal (W (W (W (W (W (W s 10 r10) 11 r11) 12 r12) 13 r13) 14 r14) 15 r15) h :=
  rg (R1 (v := r10) rfl (Q_load rfl i4 o10) (R1 (v := r11) rfl (Q_load rfl i1 o11) (Rb rfl rfl rfl rfl o12 (R1 (v := r13) rfl (Q_load rfl i2 o13) (R1 (v := r14) rfl (Q_len rfl rfl rfl rfl rfl o14) (Rb rfl rfl rfl rfl o15 (RunL.nil)))))))
theorem f142_r6 {v2 r18 v4 r19 r20 r21 v1 r22 r23 r24 : CV} {g1 : Hp} (hp : K.plan 142 6 = some [.take 0, .take 1, .take 2, .take 3, .only 4 [3, 2, 1, 0], .only 5 [3, 2, 1, 0], .only 6 []]) (i2 : s.at 2 = v2) (i4 : s.at 4 = v4) (i1 : s.at 1 = v1) (o18 : qLoad h v2 (tsz K.P 46) = some r18) (q18 : ceq r18 r18 = true) (o19 : qLoad h v4 (tsz K.P 3) = some r19) (q19 : ceq r19 r19 = true) (o20 : bineq K.P .add 3 r19 (.nu .i64 1) = some r20) (o21 : qSliceV (some r20) none h r18 (tyk K.P 46) = some r21) (q21 : ceq r21 r21 = true) (o22 : qLoad h v1 (tsz K.P 3) = some r22) (o23 : bineq K.P .sub 3 r22 (.nu .i64 1) = some r23) (pg1 : K.prim 115 [r21, r23] = none) (wg1 : Comes K 115 [r21, r23] h r24 g1) : Runs K 142 37 ro (sub1 [1, 1, 1, 0, 0, 1, 0, 0, 0] (bodyOf Tryz.f142)) s h .normal (W (W (W (W (W (W (W s 18 r18) 19 r19) 20 r20) 21 r21) 22 r22) 23 r23) 24 r24) g1 :=
  Runs.drawn hp (RunP.q (v := r18) rfl rfl (Q_load rfl i2 o18) (RunP.q (v := r19) rfl rfl (Q_load rfl i4 o19) (RunP.q (v := r20) rfl rfl (Q_bin rfl rfl rfl o20) (RunP.q (v := r21) rfl rfl (Q_slice rfl rfl rfl rfl o21) (RunP.only (v := r22) rfl rfl (Q1.e (Q_load rfl i1 o22)) (by simp (decide := true) only [pdOk, looks, qX, ev, Fr.putO, Fr.at_set, reduceIte, Nat.reduceEqDiff, List.filter_cons, List.filter_nil, List.any_cons, List.any_nil, List.all_cons, List.all_nil, List.getElem_toArray, List.getElem_cons_succ, List.getElem_cons_zero, Option.map_some, Option.map_none, ofValue_int, qSlice_V, Bool.and_true, Bool.true_and, Bool.and_self, i2, i4, i1, o18, q18, o19, q19, o20, o21, q21, o22]) (RunP.only (v := r23) rfl rfl (Q1.e (Q_bin rfl rfl rfl o23)) (by simp (decide := true) only [pdOk, looks, qX, ev, Fr.putO, Fr.at_set, reduceIte, Nat.reduceEqDiff, List.filter_cons, List.filter_nil, List.any_cons, List.any_nil, List.all_cons, List.all_nil, List.getElem_toArray, List.getElem_cons_succ, List.getElem_cons_zero, Option.map_some, Option.map_none, ofValue_int, qSlice_V, Bool.and_true, Bool.true_and, Bool.and_self, i2, i4, i1, o18, q18, o19, q19, o20, o21, q21, o22, o23]) (RunP.call (v := r24) rfl rfl rfl rfl rfl rfl pg1 wg1 rfl (RunP.nil))))))))
theorem f142_r7 {v25 : CV} (i25 : s.at 25 = v25) : Runs K 142 37 ro (sub1 [1, 1, 1, 0, 0, 1, 0, 0, 1, 0, 0] (bodyOf Tryz.f142)) s h .normal (W s 5 v25) h :=
  rg (Ra (v := v25) rfl rfl i25 (RunL.nil))
theorem f142_r8 {v3 r26 v2 r27 v4 r28 r29 r30 v5 r33 r34 r35 : CV} {F31 : Nat → CV} {B31 : HB} {g1 g2 : Hp} (hp : K.plan 142 8 = some [.take 0, .take 1, .take 2, .take 3, .take 4, .take 5, .only 6 [5, 4, 3, 2, 1, 0], .only 7 [0], .only 8 [], .only 9 []]) (i3 : s.at 3 = v3) (i2 : s.at 2 = v2) (i4 : s.at 4 = v4) (i5 : s.at 5 = v5) (o26 : qLoad h v3 (tsz K.P 110) = some r26) (q26 : ceq r26 r26 = true) (o27 : qLoad h v2 (tsz K.P 46) = some r27) (q27 : ceq r27 r27 = true) (o28 : qLoad h v4 (tsz K.P 3) = some r28) (q28 : ceq r28 r28 = true) (o29 : qIndexAddr r27 r28 (tyk K.P 46) = some r29) (o30 : qLoad h r29 (tsz K.P 3) = some r30) (q30 : ceq r30 r30 = true) (o31 : lSlice 1 [(0, r30)] (tyk K.P 46) = some (F31, B31)) (z26 : qLoad (h.push B31) v3 (tsz K.P 110) = some r26) (z27 : qLoad (h.push B31) v2 (tsz K.P 46) = some r27) (z28 : qLoad (h.push B31) v4 (tsz K.P 3) = some r28) (z30 : qLoad (h.push B31) r29 (tsz K.P 3) = some r30) (hb : heq ((h.push B31).get h.n) B31 = true) (wg1 : wApp (h.push B31) (F31 h.n) v5 (tyk K.P 46) (tyk K.P 46) = some (r33, g1)) (y26 : qLoad g1 v3 (tsz K.P 110) = some r26) (wg2 : ComesV K r26 [r33] g1 r34 g2) (o35 : aun .not r34 = some r35) : Runs K 142 37 ro (sub1 [1, 1, 1, 0, 0, 1, 0, 0, 1, 0, 1, 0, 0] (bodyOf Tryz.f142)) s h .normal (W (W (W (W (W (W (W (W (W (W s 26 r26) 27 r27) 28 r28) 29 r29) 30 r30) 31 (F31 h.n)) 32 v5) 33 r33) 34 r34) 35 r35) g2 :=
  Runs.drawn hp (RunP.q (v := r26) rfl rfl (Q_load rfl i3 o26) (RunP.q (v := r27) rfl rfl (Q_load rfl i2 o27) (RunP.q (v := r28) rfl rfl (Q_load rfl i4 o28) (RunP.q (v := r29) rfl rfl (Q_ia rfl rfl rfl o29) (RunP.q (v := r30) rfl rfl (Q_load rfl rfl o30) (RunP.takeLay (F := F31) (b := B31) rfl rfl (show lSlice 1 [(0, r30)] (tyk K.P 46) = some (F31, B31) from o31) (by simp (decide := true) only [pdOk, looks, qX, ev, Fr.putO, Fr.at_set, reduceIte, Nat.reduceEqDiff, List.filter_cons, List.filter_nil, List.any_cons, List.any_nil, List.all_cons, List.all_nil, List.getElem_toArray, List.getElem_cons_succ, List.getElem_cons_zero, Option.map_some, Option.map_none, ofValue_int, qSlice_V, Bool.and_true, Bool.true_and, Bool.and_self, i3, i2, i4, i5, z26, z27, z28, z30, q26, q27, q28, q30, o29]) (RunP.only (v := v5) rfl rfl (Q1.e (Q_move rfl i5)) (by simp (decide := true) only [pdOk, looks, qX, ev, Fr.putO, Fr.at_set, reduceIte, Nat.reduceEqDiff, List.filter_cons, List.filter_nil, List.any_cons, List.any_nil, List.all_cons, List.all_nil, List.getElem_toArray, List.getElem_cons_succ, List.getElem_cons_zero, Option.map_some, Option.map_none, ofValue_int, qSlice_V, Bool.and_true, Bool.true_and, Bool.and_self, i3, i2, i4, i5, z26, z27, z28, z30, q26, q27, q28, q30, hb, o29]) (RunP.only (v := r33) rfl rfl (W_app hk rfl rfl rfl rfl rfl rfl wg1) (by simp (decide := true) only [pdOk, looks, qX, ev, Fr.putO, Fr.at_set, reduceIte, Nat.reduceEqDiff, List.filter_cons, List.filter_nil, List.any_cons, List.any_nil, List.all_cons, List.all_nil, List.getElem_toArray, List.getElem_cons_succ, List.getElem_cons_zero, Option.map_some, Option.map_none, ofValue_int, qSlice_V, Bool.and_true, Bool.true_and, Bool.and_self, i3, i2, i4, i5, y26, q26]) (RunP.callV (w := r34) rfl rfl rfl rfl rfl rfl wg2 rfl (RunP.only (v := r35) rfl rfl (Q1.e (Q_un rfl rfl o35)) rfl (RunP.nil)))))))))))
theorem f142_r9 {v4 r36 : CV} (i4 : s.at 4 = v4) (o36 : qLoad h v4 (tsz K.P 3) = some r36) : Runs K 142 37 ro (sub1 [1, 1, 1, 0, 0, 1, 1, 0, 0] (bodyOf Tryz.f142)) s h .normal (W s 36 r36) h :=
  rg (R1 (v := r36) rfl (Q_load rfl i4 o36) (RunL.nil))
theorem f142_r10 {v36 : CV} {F4 : Nat → CV} {B4 : HB} {g2 : Hp} (i36 : s.at 36 = v36) (o4 : lAlloc 3 (tzero K.P 3) = some (F4, B4)) (wg2 : wStore (h.push B4) (F4 (h).n) v36 (tsz K.P 3) = some (.undef, g2)) : Runs K 142 37 ro (sub1 [1, 1, 1, 0, 0, 1, 1, 0, 1] (bodyOf Tryz.f142)) s h .normal (W s 4 (F4 (h).n)) g2 :=
  rg (RunL.op (v := (F4 (h).n)) rfl (L_alloc rfl o4) (RunL.op (v := .undef) rfl (W_store rfl rfl i36 wg2) (RunL.nil)))
theorem f142_r5 {v4 r16 r17 : CV} {g1 : Hp} (i4 : s.at 4 = v4) (o16 : qLoad h v4 (tsz K.P 3) = some r16) (o17 : bineq K.P .add 3 r16 (.nu .i64 1) = some r17) (wg1 : wStore h v4 r17 (tsz K.P 3) = some (.undef, g1)) : Runs K 142 37 ro (sub1 [1, 1, 1, 0, 0, 1, 1, 1] (bodyOf Tryz.f142)) s h .normal (W (W s 16 r16) 17 r17) g1 :=
  rg (R1 (v := r16) rfl (Q_load rfl i4 o16) (Rb rfl rfl rfl rfl o17 (RunL.op (v := .undef) rfl (W_store rfl i4 rfl wg1) (RunL.nil))))
end Go.CP
