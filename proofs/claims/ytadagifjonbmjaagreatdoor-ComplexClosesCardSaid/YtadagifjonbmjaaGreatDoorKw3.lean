import Derived.Test.YtadagifjonbmjaaGreatDoorKq0
import Derived.Test.YtadagifjonbmjaaGreatDoorProg
set_option linter.all false
set_option maxHeartbeats 2000000
/- The regions of some functions, at whatever their slots hold. -/
namespace Go.CP
open Go.Proofs
abbrev X23 [LG] [HK] (K : Ctx) (p : List Nat) := Runs K 23 27 none (sub1 p (bodyOf Tryz.f23))
abbrev X24 [LG] [HK] (K : Ctx) (p : List Nat) := Runs K 24 46 none (sub1 p (bodyOf Tryz.f24))
abbrev X68 [LG] [HK] (K : Ctx) (p : List Nat) := Runs K 68 9 none (sub1 p (bodyOf Tryz.f68))
abbrev X111 [LG] [HK] (K : Ctx) (p : List Nat) := Runs K 111 9 none (sub1 p (bodyOf Tryz.f111))
abbrev X112 [LG] [HK] (K : Ctx) (p : List Nat) := Runs K 112 8 none (sub1 p (bodyOf Tryz.f112))
abbrev X140 [LG] [HK] (K : Ctx) (p : List Nat) := Runs K 140 19 none (sub1 p (bodyOf Tryz.f140))
variable [LG] [HK] {K : Ctx} {s : Fr} {h : Hp} (hk : ∀ o, HK.keep o = false)
include hk
theorem f23_r0 : X23 K [0] s h .normal (W s 4 ff) h :=
  rg (Ra (v := ff) rfl rfl rfl (RunL.nil))
theorem f23_r1 {v0 r7 v1 r9 r10 : CV} (i0 : s.at 0 = v0) (i1 : s.at 1 = v1) (o7 : qLen h v0 (tyk K.P 22) = some r7) (o9 : qLen h v1 (tyk K.P 26) = some r9) (o10 : bineq K.P .neq 3 r7 r9 = some r10) : X23 K [1, 0, 0] s h .normal (W (W (W (W (W s 6 v0) 7 r7) 8 v1) 9 r9) 10 r10) h :=
  rg (Rm rfl rfl i0 (R1 (v := r7) rfl (Q_len rfl rfl rfl rfl rfl o7) (Rm rfl rfl i1 (R1 (v := r9) rfl (Q_len rfl rfl rfl rfl rfl o9) (Rb rfl rfl rfl rfl o10 (RunL.nil))))))
theorem f23_r2 : X23 K [1, 0, 1, 0, 0] s h .normal (W s 4 ff) h :=
  rg (Ra (v := ff) rfl rfl rfl (RunL.nil))
theorem f23_r3 : X23 K [1, 1, 0, 0] s h .normal (W s 5 n0) h :=
  rg (Ra (v := n0) rfl rfl rfl (RunL.nil))
theorem f23_r4 {v5 v0 r13 r14 : CV} (i5 : s.at 5 = v5) (i0 : s.at 0 = v0) (o13 : qLen h v0 (tyk K.P 22) = some r13) (o14 : bineq K.P .lss 3 v5 r13 = some r14) : X23 K [1, 1, 0, 1, 0, 0, 0, 0] s h .normal (W (W (W (W s 11 v5) 12 v0) 13 r13) 14 r14) h :=
  rg (Rm rfl rfl i5 (Rm rfl rfl i0 (R1 (v := r13) rfl (Q_len rfl rfl rfl rfl rfl o13) (Rb rfl rfl rfl rfl o14 (RunL.nil)))))
theorem f23_r6 {v0 v5 r19 r20 v1 r23 r24 r25 r26 : CV} {g1 : Hp} (hp : K.plan 23 6 = some [.take 0, .take 1, .take 2, .take 3, .take 4, .only 5 [4, 3, 2, 1, 0], .only 6 [3, 2, 1, 0], .only 7 [3, 2, 1, 0], .only 8 [], .only 9 []]) (i0 : s.at 0 = v0) (i5 : s.at 5 = v5) (i1 : s.at 1 = v1) (o19 : qIndexAddr v0 v5 (tyk K.P 22) = some r19) (o20 : qLoad h r19 (tsz K.P 46) = some r20) (q20 : ceq r20 r20 = true) (o23 : qIndexAddr v1 v5 (tyk K.P 26) = some r23) (o24 : qLoad h r23 (tsz K.P 45) = some r24) (pg1 : K.prim 38 [r20, r24] = none) (wg1 : Comes K 38 [r20, r24] h r25 g1) (o26 : bineq K.P .neq 3 r25 n0 = some r26) : X23 K [1, 1, 0, 1, 0, 0, 1, 0, 0, 0] s h .normal (W (W (W (W (W (W (W (W (W (W s 17 v0) 18 v5) 19 r19) 20 r20) 21 v1) 22 v5) 23 r23) 24 r24) 25 r25) 26 r26) g1 :=
  Runs.drawn hp (RunP.q (v := v0) rfl rfl (Q_move rfl i0) (RunP.q (v := v5) rfl rfl (Q_move rfl i5) (RunP.q (v := r19) rfl rfl (Q_ia rfl rfl rfl o19) (RunP.q (v := r20) rfl rfl (Q_load rfl rfl o20) (RunP.q (v := v1) rfl rfl (Q_move rfl i1) (RunP.only (v := v5) rfl rfl (Q1.e (Q_move rfl i5)) (by simp (decide := true) only [pdOk, looks, qX, ev, Fr.putO, Fr.at_set, reduceIte, Nat.reduceEqDiff, List.filter_cons, List.filter_nil, List.any_cons, List.any_nil, List.all_cons, List.all_nil, List.getElem_toArray, List.getElem_cons_succ, List.getElem_cons_zero, Option.map_some, Option.map_none, ofValue_int, qSlice_V, Bool.and_true, Bool.true_and, Bool.and_self, i0, i5, i1, o19, o20, q20]) (RunP.only (v := r23) rfl rfl (Q1.e (Q_ia rfl rfl rfl o23)) (by simp (decide := true) only [pdOk, looks, qX, ev, Fr.putO, Fr.at_set, reduceIte, Nat.reduceEqDiff, List.filter_cons, List.filter_nil, List.any_cons, List.any_nil, List.all_cons, List.all_nil, List.getElem_toArray, List.getElem_cons_succ, List.getElem_cons_zero, Option.map_some, Option.map_none, ofValue_int, qSlice_V, Bool.and_true, Bool.true_and, Bool.and_self, i0, i5, i1, o19, o20, q20, o23]) (RunP.only (v := r24) rfl rfl (Q1.e (Q_load rfl rfl o24)) (by simp (decide := true) only [pdOk, looks, qX, ev, Fr.putO, Fr.at_set, reduceIte, Nat.reduceEqDiff, List.filter_cons, List.filter_nil, List.any_cons, List.any_nil, List.all_cons, List.all_nil, List.getElem_toArray, List.getElem_cons_succ, List.getElem_cons_zero, Option.map_some, Option.map_none, ofValue_int, qSlice_V, Bool.and_true, Bool.true_and, Bool.and_self, i0, i5, i1, o19, o20, q20, o23, o24]) (RunP.call (v := r25) rfl rfl rfl rfl rfl rfl pg1 wg1 rfl (RunP.only (v := r26) rfl rfl (Q1.e (Q_bin rfl rfl rfl o26)) rfl (RunP.nil)))))))))))
theorem f23_r7 : X23 K [1, 1, 0, 1, 0, 0, 1, 0, 0, 1, 0, 0] s h .normal (W s 4 ff) h :=
  rg (Ra (v := ff) rfl rfl rfl (RunL.nil))
theorem f23_r5 {v5 r16 : CV} (i5 : s.at 5 = v5) (o16 : bineq K.P .add 3 v5 (.nu .i64 1) = some r16) : X23 K [1, 1, 0, 1, 0, 0, 1, 1] s h .normal (W (W (W s 15 v5) 16 r16) 5 r16) h :=
  rg (Rm rfl rfl i5 (Rb rfl rfl rfl rfl o16 (Ra (v := r16) rfl rfl rfl (RunL.nil))))
theorem f23_r8 : X23 K [1, 1, 1, 0] s h .normal (W s 4 tt) h :=
  rg (Ra (v := tt) rfl rfl rfl (RunL.nil))
theorem f24_r0 : X24 K [0] s h .normal (W (W s 2 .nils) 3 n0) h :=
  rg (Ra (v := .nils) rfl rfl rfl (Ra (v := n0) rfl rfl rfl (RunL.nil)))
theorem f24_r1 {v0 r11 : CV} {g1 : Hp} (i0 : s.at 0 = v0) (pg1 : K.prim 26 [v0] = none) (wg1 : Comes K 26 [v0] h r11 g1) : X24 K [1, 0, 0, 0] s h .normal (W (W (W s 10 v0) 11 r11) 4 r11) g1 :=
  rg (Rm rfl rfl i0 (RunL.call (v := r11) rfl rfl rfl rfl rfl pg1 wg1 (Ra (v := r11) rfl rfl rfl (RunL.nil))))
theorem f24_r2 {v4 r13 : CV} (i4 : s.at 4 = v4) (o13 : bineq K.P .neq 29 v4 n0 = some r13) : X24 K [1, 0, 0, 1, 0] s h .normal (W (W s 12 v4) 13 r13) h :=
  rg (Rm rfl rfl i4 (Rb rfl rfl rfl rfl o13 (RunL.nil)))
theorem f24_r3 {v4 : CV} (i4 : s.at 4 = v4) : X24 K [1, 0, 0, 1, 1, 0, 0] s h .normal (W (W (W s 14 v4) 2 .nils) 3 v4) h :=
  rg (Rm rfl rfl i4 (Ra (v := .nils) rfl rfl rfl (Ra (v := v4) rfl rfl rfl (RunL.nil))))
theorem f24_r4 : X24 K [1, 0, 1, 0] s h .normal (W s 5 .nils) h :=
  rg (Ra (v := .nils) rfl rfl rfl (RunL.nil))
theorem f24_r5 {v0 r16 : CV} (i0 : s.at 0 = v0) (o16 : qLen h v0 (tyk K.P 22) = some r16) : X24 K [1, 0, 1, 1, 1, 0, 0] s h .normal (W (W (W s 15 v0) 16 r16) 17 n0) h :=
  rg (Rm rfl rfl i0 (R1 (v := r16) rfl (Q_len rfl rfl rfl rfl rfl o16) (Rm (v := n0) rfl rfl rfl (RunL.nil))))
theorem f24_r6 {v17 v16 r18 : CV} (i17 : s.at 17 = v17) (i16 : s.at 16 = v16) (o18 : bineq K.P .lss 3 v17 v16 = some r18) : X24 K [1, 0, 1, 1, 1, 0, 1, 0, 0, 0] s h .normal (W s 18 r18) h :=
  rg (Rb rfl rfl i17 i16 o18 (RunL.nil))
theorem f24_r7 {v15 v17 r19 r20 : CV} (i15 : s.at 15 = v15) (i17 : s.at 17 = v17) (o19 : qIndexAddr v15 v17 (tyk K.P 22) = some r19) (o20 : qLoad h r19 (tsz K.P 46) = some r20) : X24 K [1, 0, 1, 1, 1, 0, 1, 0, 0, 1, 1, 0, 0, 0] s h .normal (W (W (W s 19 r19) 20 r20) 7 r20) h :=
  rg (R1 (v := r19) rfl (Q_ia rfl i15 i17 o19) (R1 (v := r20) rfl (Q_load rfl rfl o20) (Ra (v := r20) rfl rfl rfl (RunL.nil))))
theorem f24_r8 {v0 r22 : CV} (i0 : s.at 0 = v0) (o22 : qLen h v0 (tyk K.P 22) = some r22) : X24 K [1, 0, 1, 1, 1, 0, 1, 0, 0, 1, 1, 0, 0, 1, 0, 0] s h .normal (W (W (W s 21 v0) 22 r22) 23 n0) h :=
  rg (Rm rfl rfl i0 (R1 (v := r22) rfl (Q_len rfl rfl rfl rfl rfl o22) (Rm (v := n0) rfl rfl rfl (RunL.nil))))
theorem f24_r9 {v23 v22 r24 : CV} (i23 : s.at 23 = v23) (i22 : s.at 22 = v22) (o24 : bineq K.P .lss 3 v23 v22 = some r24) : X24 K [1, 0, 1, 1, 1, 0, 1, 0, 0, 1, 1, 0, 0, 1, 0, 1, 0, 0, 0] s h .normal (W s 24 r24) h :=
  rg (Rb rfl rfl i23 i22 o24 (RunL.nil))
theorem f24_r10 {v21 v23 r25 r26 : CV} (i21 : s.at 21 = v21) (i23 : s.at 23 = v23) (o25 : qIndexAddr v21 v23 (tyk K.P 22) = some r25) (o26 : qLoad h r25 (tsz K.P 46) = some r26) : X24 K [1, 0, 1, 1, 1, 0, 1, 0, 0, 1, 1, 0, 0, 1, 0, 1, 0, 0, 1, 1, 0, 0, 0] s h .normal (W (W (W s 25 r25) 26 r26) 9 r26) h :=
  rg (R1 (v := r25) rfl (Q_ia rfl i21 i23 o25) (R1 (v := r26) rfl (Q_load rfl rfl o26) (Ra (v := r26) rfl rfl rfl (RunL.nil))))
theorem f24_r11_T {v9 r28 v7 r30 r31 r36 r37 : CV} {g1 : Hp} (i9 : s.at 9 = v9) (i7 : s.at 7 = v7) (o28 : qLen h v9 (tyk K.P 46) = some r28) (o30 : qLen h v7 (tyk K.P 46) = some r30) (o31 : bineq K.P .add 3 r30 (.nu .i64 1) = some r31) (o32 : bineq K.P .eql 3 r28 r31 = some tt) (pg1 : K.prim 68 [v9, v7] = none) (wg1 : Comes K 68 [v9, v7] h r36 g1) (o37 : qPick r36 ff tt = some r37) : X24 K [1, 0, 1, 1, 1, 0, 1, 0, 0, 1, 1, 0, 0, 1, 0, 1, 0, 0, 1, 1, 0, 0, 1, 0] s h .normal (W (W (W (W (W (W (W (W (W (W (W s 27 v9) 28 r28) 29 v7) 30 r30) 31 r31) 32 tt) 33 tt) 34 v9) 35 v7) 36 r36) 37 r37) g1 :=
  rg (Rm rfl rfl i9 (R1 (v := r28) rfl (Q_len rfl rfl rfl rfl rfl o28) (Rm rfl rfl i7 (R1 (v := r30) rfl (Q_len rfl rfl rfl rfl rfl o30) (Rb rfl rfl rfl rfl o31 (Rb rfl rfl rfl rfl o32 (Rm (v := tt) rfl rfl rfl (Rm rfl rfl i9 (Rm rfl rfl i7 (RunL.call (v := r36) rfl rfl rfl rfl rfl pg1 wg1 (R1 (v := r37) rfl (Q_pick rfl rfl rfl rfl o37) (RunL.nil))))))))))))
theorem f24_r11_F {v9 r28 v7 r30 r31 r37 : CV} (i9 : s.at 9 = v9) (i7 : s.at 7 = v7) (o28 : qLen h v9 (tyk K.P 46) = some r28) (o30 : qLen h v7 (tyk K.P 46) = some r30) (o31 : bineq K.P .add 3 r30 (.nu .i64 1) = some r31) (o32 : bineq K.P .eql 3 r28 r31 = some ff) (o37 : qPick .skp ff ff = some r37) : X24 K [1, 0, 1, 1, 1, 0, 1, 0, 0, 1, 1, 0, 0, 1, 0, 1, 0, 0, 1, 1, 0, 0, 1, 0] s h .normal (W (W (W (W (W (W (W (W (W (W (W s 27 v9) 28 r28) 29 v7) 30 r30) 31 r31) 32 ff) 33 ff) 34 .skp) 35 .skp) 36 .skp) 37 r37) h :=
  rg (Rm rfl rfl i9 (R1 (v := r28) rfl (Q_len rfl rfl rfl rfl rfl o28) (Rm rfl rfl i7 (R1 (v := r30) rfl (Q_len rfl rfl rfl rfl rfl o30) (Rb rfl rfl rfl rfl o31 (Rb rfl rfl rfl rfl o32 (Rm (v := ff) rfl rfl rfl (RunL.pass rfl (RunL.pass rfl (RunL.pass rfl (R1 (v := r37) rfl (Q_pick rfl rfl rfl rfl o37) (RunL.nil))))))))))))
theorem f24_r12 {v23 r38 : CV} (i23 : s.at 23 = v23) (o38 : bineq K.P .add 3 v23 (.nu .i64 1) = some r38) : X24 K [1, 0, 1, 1, 1, 0, 1, 0, 0, 1, 1, 0, 0, 1, 0, 1, 0, 0, 1, 1, 1] s h .normal (W (W s 38 r38) 23 r38) h :=
  rg (Rb rfl rfl i23 rfl o38 (Rm (v := r38) rfl rfl rfl (RunL.nil)))
theorem f24_r13 {v5 v7 r41 r43 : CV} {F42 : Nat → CV} {B42 : HB} {g1 g2 : Hp} (i5 : s.at 5 = v5) (i7 : s.at 7 = v7) (pg1 : K.prim 69 [v7] = none) (wg1 : Comes K 69 [v7] h r41 g1) (o42 : lSlice 1 [(0, r41)] (tyk K.P 22) = some (F42, B42)) (wg2 : wApp (g1.push B42) v5 (F42 (g1).n) (tyk K.P 22) (tyk K.P 22) = some (r43, g2)) : X24 K [1, 0, 1, 1, 1, 0, 1, 0, 0, 1, 1, 0, 0, 1, 1] s h .normal (W (W (W (W (W (W s 39 v5) 40 v7) 41 r41) 42 (F42 (g1).n)) 43 r43) 5 r43) g2 :=
  rg (Rm rfl rfl i5 (Rm rfl rfl i7 (RunL.call (v := r41) rfl rfl rfl rfl rfl pg1 wg1 (RunL.op (v := (F42 (g1).n)) rfl (L_slice rfl rfl o42) (RunL.op (v := r43) rfl (W_app hk rfl rfl rfl rfl rfl rfl wg2) (Ra (v := r43) rfl rfl rfl (RunL.nil)))))))
theorem f24_r14 {v17 r44 : CV} (i17 : s.at 17 = v17) (o44 : bineq K.P .add 3 v17 (.nu .i64 1) = some r44) : X24 K [1, 0, 1, 1, 1, 0, 1, 0, 0, 1, 1, 1] s h .normal (W (W s 44 r44) 17 r44) h :=
  rg (Rb rfl rfl i17 rfl o44 (Rm (v := r44) rfl rfl rfl (RunL.nil)))
theorem f24_r15 {v5 : CV} (i5 : s.at 5 = v5) : X24 K [1, 0, 1, 1, 1, 1, 0] s h .normal (W (W (W s 45 v5) 2 v5) 3 n0) h :=
  rg (Rm rfl rfl i5 (Ra (v := v5) rfl rfl rfl (Ra (v := n0) rfl rfl rfl (RunL.nil))))
theorem f68_r0 {v0 : CV} {F2 : Nat → CV} {B2 : HB} (i0 : s.at 0 = v0) (o2 : lBox 46 v0 (tsz K.P 46) = some (F2, B2)) : X68 K [0] s h .normal (W (W s 2 (F2 (h).n)) 4 ff) (h.push B2) :=
  rg (RunL.op (v := (F2 (h).n)) rfl (L_box rfl i0 o2) (Ra (v := ff) rfl rfl rfl (RunL.nil)))
theorem f68_r1 {v1 v2 r7 r8 : CV} {g1 : Hp} (i1 : s.at 1 = v1) (i2 : s.at 2 = v2) (pg1 : K.prim 111 [v1, (.fn 112 [v2])] = none) (wg1 : Comes K 111 [v1, (.fn 112 [v2])] h r7 g1) (o8 : aun .not r7 = some r8) : X68 K [1, 0] s h .normal (W (W (W (W (W s 5 v1) 6 (.fn 112 [v2])) 7 r7) 8 r8) 4 r8) g1 :=
  rg (Rm rfl rfl i1 (R1 (v := (.fn 112 [v2])) rfl (Q_func rfl (by simp only [ev, Fr.putO, Fr.at_set, reduceIte, Nat.reduceEqDiff, List.toList_toArray, List.map_cons, List.map_nil, Option.map_some, Option.map_none, i2]; try rfl)) (RunL.call (v := r7) rfl rfl rfl rfl rfl pg1 wg1 (R1 (v := r8) rfl (Q_un rfl rfl o8) (Ra (v := r8) rfl rfl rfl (RunL.nil))))))
theorem f111_r0 : X111 K [0] s h .normal (W s 4 ff) h :=
  rg (Ra (v := ff) rfl rfl rfl (RunL.nil))
theorem f111_r1 {v0 v1 r7 r8 : CV} {g1 : Hp} (i0 : s.at 0 = v0) (i1 : s.at 1 = v1) (pg1 : K.prim 140 [v0, v1] = none) (wg1 : Comes K 140 [v0, v1] h r7 g1) (o8 : bineq K.P .geq 3 r7 n0 = some r8) : X111 K [1, 0] s h .normal (W (W (W (W (W s 5 v0) 6 v1) 7 r7) 8 r8) 4 r8) g1 :=
  rg (Rm rfl rfl i0 (Rm rfl rfl i1 (RunL.call (v := r7) rfl rfl rfl rfl rfl pg1 wg1 (Rb rfl rfl rfl rfl o8 (Ra (v := r8) rfl rfl rfl (RunL.nil))))))
theorem f112_r0 : X112 K [0] s h .normal (W s 3 ff) h :=
  rg (Ra (v := ff) rfl rfl rfl (RunL.nil))
theorem f112_r1 {v1 r4 v0 r6 r7 : CV} {g1 : Hp} (i1 : s.at 1 = v1) (i0 : s.at 0 = v0) (o4 : qLoad h v1 (tsz K.P 46) = some r4) (pg1 : K.prim 113 [r4, v0] = none) (wg1 : Comes K 113 [r4, v0] h r6 g1) (o7 : aun .not r6 = some r7) : X112 K [1, 0] s h .normal (W (W (W (W (W s 4 r4) 5 v0) 6 r6) 7 r7) 3 r7) g1 :=
  rg (R1 (v := r4) rfl (Q_load rfl i1 o4) (Rm rfl rfl i0 (RunL.call (v := r6) rfl rfl rfl rfl rfl pg1 wg1 (R1 (v := r7) rfl (Q_un rfl rfl o7) (Ra (v := r7) rfl rfl rfl (RunL.nil))))))
theorem f140_r0 : X140 K [0] s h .normal (W s 4 n0) h :=
  rg (Ra (v := n0) rfl rfl rfl (RunL.nil))
theorem f140_r1 {v0 r7 : CV} (i0 : s.at 0 = v0) (o7 : qLen h v0 (tyk K.P 46) = some r7) : X140 K [1, 0, 0] s h .normal (W (W (W s 6 v0) 7 r7) 8 n0) h :=
  rg (Rm rfl rfl i0 (R1 (v := r7) rfl (Q_len rfl rfl rfl rfl rfl o7) (Rm (v := n0) rfl rfl rfl (RunL.nil))))
theorem f140_r2 {v8 v7 r9 : CV} (i8 : s.at 8 = v8) (i7 : s.at 7 = v7) (o9 : bineq K.P .lss 3 v8 v7 = some r9) : X140 K [1, 0, 1, 0, 0, 0] s h .normal (W s 9 r9) h :=
  rg (Rb rfl rfl i8 i7 o9 (RunL.nil))
theorem f140_r3 {v8 : CV} (i8 : s.at 8 = v8) : X140 K [1, 0, 1, 0, 0, 1, 1, 0, 0, 0] s h .normal (W (W s 10 v8) 5 v8) h :=
  rg (Rm rfl rfl i8 (Ra (v := v8) rfl rfl rfl (RunL.nil)))
theorem f140_r4 {v1 v0 v5 r14 r15 r16 : CV} {g1 : Hp} {G16 : FuncId} {C16 : List CV} (i1 : s.at 1 = v1) (i0 : s.at 0 = v0) (i5 : s.at 5 = v5) (o14 : qIndexAddr v0 v5 (tyk K.P 46) = some r14) (o15 : qLoad h r14 (tsz K.P 3) = some r15) (e16 : (v1 : CV) = .fn G16 C16) (pg1 : K.prim G16 ([r15] ++ C16) = none) (wg1 : Comes K G16 ([r15] ++ C16) h r16 g1) : X140 K [1, 0, 1, 0, 0, 1, 1, 0, 0, 1, 0] s h .normal (W (W (W (W (W (W s 11 v1) 12 v0) 13 v5) 14 r14) 15 r15) 16 r16) g1 :=
  rg (Rm rfl rfl i1 (Rm rfl rfl i0 (Rm rfl rfl i5 (R1 (v := r14) rfl (Q_ia rfl rfl rfl o14) (R1 (v := r15) rfl (Q_load rfl rfl o15) (RunL.call (v := r16) rfl rfl rfl e16 rfl pg1 wg1 (RunL.nil)))))))
theorem f140_r5 {v5 : CV} (i5 : s.at 5 = v5) : X140 K [1, 0, 1, 0, 0, 1, 1, 0, 0, 1, 1, 0, 0] s h .normal (W (W s 17 v5) 4 v5) h :=
  rg (Rm rfl rfl i5 (Ra (v := v5) rfl rfl rfl (RunL.nil)))
theorem f140_r6 {v8 r18 : CV} (i8 : s.at 8 = v8) (o18 : bineq K.P .add 3 v8 (.nu .i64 1) = some r18) : X140 K [1, 0, 1, 0, 0, 1, 1, 1] s h .normal (W (W s 18 r18) 8 r18) h :=
  rg (Rb rfl rfl i8 rfl o18 (Rm (v := r18) rfl rfl rfl (RunL.nil)))
theorem f140_r7 : X140 K [1, 1, 0] s h .normal (W s 4 (.nu .i64 (-1))) h :=
  rg (Ra (v := (.nu .i64 (-1))) rfl rfl rfl (RunL.nil))
end Go.CP
/- Ways through code without loops, at whatever the slots hold. -/
namespace Go.CP
open Go.Proofs
structure PlansB [LG] [HK] (K : Ctx) : Prop where
  p23_6 : K.plan 23 6 = some [.take 0, .take 1, .take 2, .take 3, .take 4, .only 5 [4, 3, 2, 1, 0], .only 6 [3, 2, 1, 0], .only 7 [3, 2, 1, 0], .only 8 [], .only 9 []]
variable [LG] [HK] {K : Ctx} {s : Fr} {h : Hp} (hk : ∀ o, HK.keep o = false) (pr : ∀ f args, K.prim f args = none) (Pl : PlansB K)
include hk pr Pl
theorem f23_b10_T {v0 r7 v1 r9 : CV} (i0 : s.at 0 = v0) (i1 : s.at 1 = v1) (o7 : qLen h v0 (tyk K.P 22) = some r7) (o9 : qLen h v1 (tyk K.P 26) = some r9) (o10 : bineq K.P .neq 3 r7 r9 = some tt) : X23 K [1, 0] s h .ret (W (W (W (W (W (W s 6 v0) 7 r7) 8 v1) 9 r9) 10 tt) 4 ff) h :=
  (sq (f23_r1 (h := h) (r10 := tt) hk i0 i1 ‹_› ‹_› ‹_›) (cT 10 rfl (sq (f23_r2 (h := h) hk) Runs.ret)))
theorem f23_b10_F {v0 r7 v1 r9 : CV} (i0 : s.at 0 = v0) (i1 : s.at 1 = v1) (o7 : qLen h v0 (tyk K.P 22) = some r7) (o9 : qLen h v1 (tyk K.P 26) = some r9) (o10 : bineq K.P .neq 3 r7 r9 = some ff) : X23 K [1, 0] s h .normal (W (W (W (W (W s 6 v0) 7 r7) 8 v1) 9 r9) 10 ff) h :=
  (sq (f23_r1 (h := h) (r10 := ff) hk i0 i1 ‹_› ‹_› ‹_›) (cF 10 rfl sk))
theorem f23_b110100_TT {v5 v0 r13 r19 r20 v1 r23 r24 r25 : CV} {g1 : Hp} (i5 : s.at 5 = v5) (i0 : s.at 0 = v0) (i1 : s.at 1 = v1) (o13 : qLen h v0 (tyk K.P 22) = some r13) (o14 : bineq K.P .lss 3 v5 r13 = some tt) (o19 : qIndexAddr v0 v5 (tyk K.P 22) = some r19) (o20 : qLoad h r19 (tsz K.P 46) = some r20) (q20 : ceq r20 r20 = true) (o23 : qIndexAddr v1 v5 (tyk K.P 26) = some r23) (o24 : qLoad h r23 (tsz K.P 45) = some r24) (wg1 : Comes K 38 [r20, r24] h r25 g1) (o26 : bineq K.P .neq 3 r25 n0 = some tt) : X23 K [1, 1, 0, 1, 0, 0] s h .ret (W (W (W (W (W (W (W (W (W (W (W (W (W (W (W s 11 v5) 12 v0) 13 r13) 14 tt) 17 v0) 18 v5) 19 r19) 20 r20) 21 v1) 22 v5) 23 r23) 24 r24) 25 r25) 26 tt) 4 ff) g1 :=
  (sq (sq (f23_r4 (h := h) (r14 := tt) hk i5 i0 ‹_› ‹_›) (cT 14 rfl sk)) (sx (Runs.blockR (sq (f23_r6 (h := h) (r26 := tt) hk Pl.p23_6 i0 i5 i1 ‹_› ‹_› ‹_› ‹_› ‹_› (pr _ _) ‹_› ‹_›) (cT 26 rfl (sq (f23_r7 (h := g1) hk) Runs.ret)))) (by simp)))
theorem f23_b110100_TF {v5 v0 r13 r19 r20 v1 r23 r24 r25 r16 : CV} {g1 : Hp} (i5 : s.at 5 = v5) (i0 : s.at 0 = v0) (i1 : s.at 1 = v1) (o13 : qLen h v0 (tyk K.P 22) = some r13) (o14 : bineq K.P .lss 3 v5 r13 = some tt) (o19 : qIndexAddr v0 v5 (tyk K.P 22) = some r19) (o20 : qLoad h r19 (tsz K.P 46) = some r20) (q20 : ceq r20 r20 = true) (o23 : qIndexAddr v1 v5 (tyk K.P 26) = some r23) (o24 : qLoad h r23 (tsz K.P 45) = some r24) (wg1 : Comes K 38 [r20, r24] h r25 g1) (o26 : bineq K.P .neq 3 r25 n0 = some ff) (o16 : bineq K.P .add 3 v5 (.nu .i64 1) = some r16) : X23 K [1, 1, 0, 1, 0, 0] s h .normal (W (W (W (W (W (W (W (W (W (W (W (W (W (W (W (W (W s 11 v5) 12 v0) 13 r13) 14 tt) 17 v0) 18 v5) 19 r19) 20 r20) 21 v1) 22 v5) 23 r23) 24 r24) 25 r25) 26 ff) 15 v5) 16 r16) 5 r16) g1 :=
  (sq (sq (f23_r4 (h := h) (r14 := tt) hk i5 i0 ‹_› ‹_›) (cT 14 rfl sk)) (sq (Runs.blockN (sq (f23_r6 (h := h) (r26 := ff) hk Pl.p23_6 i0 i5 i1 ‹_› ‹_› ‹_› ‹_› ‹_› (pr _ _) ‹_› ‹_›) (cF 26 rfl sk))) (f23_r5 (h := g1) hk i5 ‹_›)))
theorem f23_b110100_F {v5 v0 r13 : CV} (i5 : s.at 5 = v5) (i0 : s.at 0 = v0) (o13 : qLen h v0 (tyk K.P 22) = some r13) (o14 : bineq K.P .lss 3 v5 r13 = some ff) : X23 K [1, 1, 0, 1, 0, 0] s h (.exit 0) (W (W (W (W s 11 v5) 12 v0) 13 r13) 14 ff) h :=
  (sx (sq (f23_r4 (h := h) (r14 := ff) hk i5 i0 ‹_› ‹_›) (cF 14 rfl Runs.exit)) (by simp))
theorem f23_b111 : X23 K [1, 1, 1] s h .ret (W s 4 tt) h :=
  (sq (f23_r8 (h := h) hk) Runs.ret)
-- NOT PRINTED 24 1
theorem f68_b {v0 v1 r7 r8 : CV} {F2 : Nat → CV} {B2 : HB} {g1 : Hp} (i0 : s.at 0 = v0) (i1 : s.at 1 = v1) (o2 : lBox 46 v0 (tsz K.P 46) = some (F2, B2)) (wg1 : Comes K 111 [v1, (.fn 112 [(F2 (h).n)])] (h.push B2) r7 g1) (o8 : aun .not r7 = some r8) : X68 K [] s h .ret (W (W (W (W (W (W (W s 2 (F2 (h).n)) 4 ff) 5 v1) 6 (.fn 112 [(F2 (h).n)])) 7 r7) 8 r8) 4 r8) g1 :=
  (sq (f68_r0 (h := h) hk i0 ‹_›) (sq (f68_r1 (h := (h.push B2)) (v2 := (F2 (h).n)) hk i1 rfl (pr _ _) ‹_› ‹_›) Runs.ret))
theorem f111_b {v0 v1 r7 r8 : CV} {g1 : Hp} (i0 : s.at 0 = v0) (i1 : s.at 1 = v1) (wg1 : Comes K 140 [v0, v1] h r7 g1) (o8 : bineq K.P .geq 3 r7 n0 = some r8) : X111 K [] s h .ret (W (W (W (W (W (W s 4 ff) 5 v0) 6 v1) 7 r7) 8 r8) 4 r8) g1 :=
  (sq (f111_r0 (h := h) hk) (sq (f111_r1 (h := h) hk i0 i1 (pr _ _) ‹_› ‹_›) Runs.ret))
theorem f112_b {v1 r4 v0 r6 r7 : CV} {g1 : Hp} (i1 : s.at 1 = v1) (i0 : s.at 0 = v0) (o4 : qLoad h v1 (tsz K.P 46) = some r4) (wg1 : Comes K 113 [r4, v0] h r6 g1) (o7 : aun .not r6 = some r7) : X112 K [] s h .ret (W (W (W (W (W (W s 3 ff) 4 r4) 5 v0) 6 r6) 7 r7) 3 r7) g1 :=
  (sq (f112_r0 (h := h) hk) (sq (f112_r1 (h := h) hk i1 i0 ‹_› (pr _ _) ‹_› ‹_›) Runs.ret))
theorem f140_b10100_TT {v8 v7 v1 v0 r14 r15 : CV} {g1 : Hp} {G16 : FuncId} {C16 : List CV} (i8 : s.at 8 = v8) (i7 : s.at 7 = v7) (i1 : s.at 1 = v1) (i0 : s.at 0 = v0) (o9 : bineq K.P .lss 3 v8 v7 = some tt) (o14 : qIndexAddr v0 v8 (tyk K.P 46) = some r14) (o15 : qLoad h r14 (tsz K.P 3) = some r15) (e16 : (v1 : CV) = .fn G16 C16) (wg1 : Comes K G16 ([r15] ++ C16) h tt g1) : X140 K [1, 0, 1, 0, 0] s h .ret (W (W (W (W (W (W (W (W (W (W (W s 9 tt) 10 v8) 5 v8) 11 v1) 12 v0) 13 v8) 14 r14) 15 r15) 16 tt) 17 v8) 4 v8) g1 :=
  (sq (f140_r2 (h := h) (r9 := tt) hk i8 i7 ‹_›) (sq (cT 9 rfl sk) (sx (Runs.blockR (sq (f140_r3 (h := h) hk i8) (sq (f140_r4 (h := h) (v5 := v8) (r16 := tt) (G16 := G16) (C16 := C16) hk i1 i0 rfl ‹_› ‹_› ‹_› (pr _ _) ‹_›) (cT 16 rfl (sq (f140_r5 (h := g1) (v5 := v8) hk rfl) Runs.ret))))) (by simp))))
theorem f140_b10100_TF {v8 v7 v1 v0 r14 r15 r18 : CV} {g1 : Hp} {G16 : FuncId} {C16 : List CV} (i8 : s.at 8 = v8) (i7 : s.at 7 = v7) (i1 : s.at 1 = v1) (i0 : s.at 0 = v0) (o9 : bineq K.P .lss 3 v8 v7 = some tt) (o14 : qIndexAddr v0 v8 (tyk K.P 46) = some r14) (o15 : qLoad h r14 (tsz K.P 3) = some r15) (e16 : (v1 : CV) = .fn G16 C16) (wg1 : Comes K G16 ([r15] ++ C16) h ff g1) (o18 : bineq K.P .add 3 v8 (.nu .i64 1) = some r18) : X140 K [1, 0, 1, 0, 0] s h .normal (W (W (W (W (W (W (W (W (W (W (W s 9 tt) 10 v8) 5 v8) 11 v1) 12 v0) 13 v8) 14 r14) 15 r15) 16 ff) 18 r18) 8 r18) g1 :=
  (sq (f140_r2 (h := h) (r9 := tt) hk i8 i7 ‹_›) (sq (cT 9 rfl sk) (sq (Runs.blockN (sq (f140_r3 (h := h) hk i8) (sq (f140_r4 (h := h) (v5 := v8) (r16 := ff) (G16 := G16) (C16 := C16) hk i1 i0 rfl ‹_› ‹_› ‹_› (pr _ _) ‹_›) (cF 16 rfl sk)))) (f140_r6 (h := g1) hk i8 ‹_›))))
theorem f140_b10100_F {v8 v7 : CV} (i8 : s.at 8 = v8) (i7 : s.at 7 = v7) (o9 : bineq K.P .lss 3 v8 v7 = some ff) : X140 K [1, 0, 1, 0, 0] s h (.exit 0) (W s 9 ff) h :=
  (sq (f140_r2 (h := h) (r9 := ff) hk i8 i7 ‹_›) (sx (cF 9 rfl Runs.exit) (by simp)))
theorem f140_b11 : X140 K [1, 1] s h .ret (W s 4 (.nu .i64 (-1))) h :=
  (sq (f140_r7 (h := h) hk) Runs.ret)
end Go.CP
