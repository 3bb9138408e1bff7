import Derived.Test.YtadagifjonbmjaaGreatDoorKq0
import Derived.Test.YtadagifjonbmjaaGreatDoorProg
set_option linter.unusedVariables false
set_option linter.unusedSectionVars false
set_option linter.unusedSimpArgs false
set_option maxHeartbeats 2000000
/- The regions of some functions, at whatever their slots hold. -/
namespace Go.CP
open Go.Proofs
variable [LG] [HK] {K : Ctx} {s : Fr} {h : Hp} (hk : ∀ o, HK.keep o = false)
include hk
theorem f72_r0 : Runs K 72 20 none (sub1 [0] (bodyOf Tryz.f72)) s h .normal (T.set s 2 .nils) h := by
  refine Runs.region ?_
  refine RunL.op (v := .nils) rfl (Q1.e (Q_assign rfl rfl)) ?_
  exact RunL.nil
theorem f72_r1 : Runs K 72 20 none (sub1 [1, 0] (bodyOf Tryz.f72)) s h .normal (T.set s 3 .nils) h := by
  refine Runs.region ?_
  refine RunL.op (v := .nils) rfl (Q1.e (Q_assign rfl rfl)) ?_
  exact RunL.nil
-- NOT PRINTED 72 region 2: range
-- NOT PRINTED 72 region 3: next
-- NOT PRINTED 72 region 4: other
theorem f72_r5 {v3 v5 r14 r16 : CV} {F15 : Nat → CV} {B15 : HB} {g1 g2 : Hp} (i3 : s.at 3 = v3) (i5 : s.at 5 = v5) (pg1 : K.prim 69 [v5] = none) (wg1 : Comes K 69 [v5] h r14 g1) (o15 : lSlice 1 [(0, r14)] (tyk K.P 22) = some (F15, B15)) (wg2 : wApp (g1.push B15) v3 (F15 (g1).n) (tyk K.P 22) (tyk K.P 22) = some (r16, g2)) : Runs K 72 20 none (sub1 [1, 1, 0, 1, 0, 0, 1, 1, 0, 1] (bodyOf Tryz.f72)) s h .normal (T.set (T.set (T.set (T.set (T.set (T.set s 12 v3) 13 v5) 14 r14) 15 (F15 (g1).n)) 16 r16) 3 r16) g2 := by
  refine Runs.region ?_
  refine RunL.op (v := v3) rfl (Q1.e (Q_move rfl i3)) ?_
  refine RunL.op (v := v5) rfl (Q1.e (Q_move rfl i5)) ?_
  refine RunL.call (v := r14) rfl rfl rfl rfl rfl pg1 wg1 ?_
  refine RunL.op (v := (F15 (g1).n)) rfl (L_slice rfl rfl o15) ?_
  refine RunL.op (v := r16) rfl (W_app hk rfl rfl rfl rfl rfl rfl wg2) ?_
  refine RunL.op (v := r16) rfl (Q1.e (Q_assign rfl rfl)) ?_
  exact RunL.nil
theorem f72_r6 {v3 r18 : CV} {g1 : Hp} (i3 : s.at 3 = v3) (pg1 : K.prim 116 [v3, (.fn 74 [])] = none) (wg1 : Comes K 116 [v3, (.fn 74 [])] h r18 g1) : Runs K 72 20 none (sub1 [1, 1, 1, 0] (bodyOf Tryz.f72)) s h .normal (T.set (T.set s 17 v3) 18 r18) g1 := by
  refine Runs.region ?_
  refine RunL.op (v := v3) rfl (Q1.e (Q_move rfl i3)) ?_
  refine RunL.call (v := r18) rfl rfl rfl rfl rfl pg1 wg1 ?_
  exact RunL.nil
theorem f72_r7 {v3 : CV} (i3 : s.at 3 = v3) : Runs K 72 20 none (sub1 [1, 1, 1, 1, 0] (bodyOf Tryz.f72)) s h .normal (T.set (T.set s 19 v3) 2 v3) h := by
  refine Runs.region ?_
  refine RunL.op (v := v3) rfl (Q1.e (Q_move rfl i3)) ?_
  refine RunL.op (v := v3) rfl (Q1.e (Q_assign rfl rfl)) ?_
  exact RunL.nil
theorem f116_r0 {v0 r6 : CV} (i0 : s.at 0 = v0) (o6 : qLen h v0 (tyk K.P 22) = some r6) : Runs K 116 14 none (sub1 [0] (bodyOf Tryz.f116)) s h .normal (T.set (T.set (T.set s 5 v0) 6 r6) 4 r6) h := by
  refine Runs.region ?_
  refine RunL.op (v := v0) rfl (Q1.e (Q_move rfl i0)) ?_
  refine RunL.op (v := r6) rfl (Q1.e (Q_len rfl rfl rfl rfl rfl o6)) ?_
  refine RunL.op (v := r6) rfl (Q1.e (Q_assign rfl rfl)) ?_
  exact RunL.nil
theorem f116_r1 {v0 v4 r10 r11 v1 r13 : CV} {g1 g2 : Hp} (i0 : s.at 0 = v0) (i4 : s.at 4 = v4) (i1 : s.at 1 = v1) (l10 : lBytes K.P v4 (tyk K.P 3) (tyk K.P 126) = none) (o10 : qConv K.P h v4 (tyk K.P 3) (tyk K.P 126) = some r10) (pg1 : K.prim 127 [r10] = none) (wg1 : Comes K 127 [r10] h r11 g1) (pg2 : K.prim 143 [v0, (.nu .i64 0), v4, r11, v1] = none) (wg2 : Comes K 143 [v0, (.nu .i64 0), v4, r11, v1] g1 r13 g2) : Runs K 116 14 none (sub1 [1] (bodyOf Tryz.f116)) s h .normal (T.set (T.set (T.set (T.set (T.set (T.set (T.set s 7 v0) 8 v4) 9 v4) 10 r10) 11 r11) 12 v1) 13 r13) g2 := by
  refine Runs.region ?_
  refine RunL.op (v := v0) rfl (Q1.e (Q_move rfl i0)) ?_
  refine RunL.op (v := v4) rfl (Q1.e (Q_move rfl i4)) ?_
  refine RunL.op (v := v4) rfl (Q1.e (Q_move rfl i4)) ?_
  refine RunL.op (v := r10) rfl (Q1.e (Q_conv rfl rfl l10 o10)) ?_
  refine RunL.call (v := r11) rfl rfl rfl rfl rfl pg1 wg1 ?_
  refine RunL.op (v := v1) rfl (Q1.e (Q_move rfl i1)) ?_
  refine RunL.call (v := r13) rfl rfl rfl rfl rfl pg2 wg2 ?_
  exact RunL.nil
end Go.CP
/- Ways through code without loops, at whatever the slots hold. -/
namespace Go.CP
open Go.Proofs
structure PlansD [LG] [HK] (K : Ctx) : Prop where
  p142_6 : K.plan 142 6 = some [.take 0, .take 1, .take 2, .take 3, .only 4 [3, 2, 1, 0], .only 5 [3, 2, 1, 0], .only 6 []]
variable [LG] [HK] {K : Ctx} {s : Fr} {h : Hp} (hk : ∀ o, HK.keep o = false) (pr : ∀ f args, K.prim f args = none) (Pl : PlansD K)
include hk pr Pl
theorem f116_b {v0 r6 r10 r11 v1 r13 : CV} {g1 g2 : Hp} (i0 : s.at 0 = v0) (i1 : s.at 1 = v1) (o6 : qLen h v0 (tyk K.P 22) = some r6) (l10 : lBytes K.P r6 (tyk K.P 3) (tyk K.P 126) = none) (o10 : qConv K.P h r6 (tyk K.P 3) (tyk K.P 126) = some r10) (wg1 : Comes K 127 [r10] h r11 g1) (wg2 : Comes K 143 [v0, (.nu .i64 0), r6, r11, v1] g1 r13 g2) : Runs K 116 14 none (sub1 [] (bodyOf Tryz.f116)) s h .normal (T.set (T.set (T.set (T.set (T.set (T.set (T.set (T.set (T.set (T.set s 5 v0) 6 r6) 4 r6) 7 v0) 8 r6) 9 r6) 10 r10) 11 r11) 12 v1) 13 r13) g2 :=
  (Runs.seq (f116_r0 (h := h) (v0 := v0) (r6 := r6) hk i0 (by assumption)) (f116_r1 (h := h) (v0 := v0) (v4 := r6) (r10 := r10) (r11 := r11) (g1 := g1) (v1 := v1) (r13 := r13) (g2 := g2) hk i0 rfl i1 (by assumption) (by assumption) (pr _ _) (by assumption) (pr _ _) (by assumption)))
-- NOT PRINTED f128_b_TT: makeInterface
-- NOT PRINTED f128_b_TF: makeInterface
end Go.CP
/- The regions of some functions, at whatever their slots hold. -/
namespace Go.CP
open Go.Proofs
variable [LG] [HK] {K : Ctx} {s : Fr} {h : Hp} (hk : ∀ o, HK.keep o = false)
include hk
theorem f126_r0 : Runs K 126 134 none (sub1 [0] (bodyOf Tryz.f126)) s h .normal (T.set s 8 (.bo true)) h := by
  refine Runs.region ?_
  refine RunL.op (v := (.bo true)) rfl (Q1.e (Q_assign rfl rfl)) ?_
  exact RunL.nil
theorem f126_r1 : Runs K 126 134 none (sub1 [1, 0] (bodyOf Tryz.f126)) s h .normal (T.set s 9 (.bo true)) h := by
  refine Runs.region ?_
  refine RunL.op (v := (.bo true)) rfl (Q1.e (Q_assign rfl rfl)) ?_
  exact RunL.nil
theorem f126_r2 {v2 v1 r21 : CV} (i2 : s.at 2 = v2) (i1 : s.at 1 = v1) (o21 : bineq K.P .sub 3 v2 v1 = some r21) : Runs K 126 134 none (sub1 [1, 1, 0, 0, 0, 0] (bodyOf Tryz.f126)) s h .normal (T.set (T.set (T.set (T.set s 19 v2) 20 v1) 21 r21) 10 r21) h := by
  refine Runs.region ?_
  refine RunL.op (v := v2) rfl (Q1.e (Q_move rfl i2)) ?_
  refine RunL.op (v := v1) rfl (Q1.e (Q_move rfl i1)) ?_
  refine RunL.op (v := r21) rfl (Q1.e (Q_bin rfl rfl rfl o21)) ?_
  refine RunL.op (v := r21) rfl (Q1.e (Q_assign rfl rfl)) ?_
  exact RunL.nil
theorem f126_r3 {v10 r23 : CV} (i10 : s.at 10 = v10) (o23 : bineq K.P .leq 3 v10 (.nu .i64 12) = some r23) : Runs K 126 134 none (sub1 [1, 1, 0, 0, 0, 1, 0, 0] (bodyOf Tryz.f126)) s h .normal (T.set (T.set s 22 v10) 23 r23) h := by
  refine Runs.region ?_
  refine RunL.op (v := v10) rfl (Q1.e (Q_move rfl i10)) ?_
  refine RunL.op (v := r23) rfl (Q1.e (Q_bin rfl rfl rfl o23)) ?_
  exact RunL.nil
theorem f126_r4 {v0 v1 v2 r27 : CV} {g1 : Hp} (i0 : s.at 0 = v0) (i1 : s.at 1 = v1) (i2 : s.at 2 = v2) (pg1 : K.prim 146 [v0, v1, v2] = none) (wg1 : Comes K 146 [v0, v1, v2] h r27 g1) : Runs K 126 134 none (sub1 [1, 1, 0, 0, 0, 1, 0, 1, 0, 0] (bodyOf Tryz.f126)) s h .normal (T.set (T.set (T.set (T.set s 24 v0) 25 v1) 26 v2) 27 r27) g1 := by
  refine Runs.region ?_
  refine RunL.op (v := v0) rfl (Q1.e (Q_move rfl i0)) ?_
  refine RunL.op (v := v1) rfl (Q1.e (Q_move rfl i1)) ?_
  refine RunL.op (v := v2) rfl (Q1.e (Q_move rfl i2)) ?_
  refine RunL.call (v := r27) rfl rfl rfl rfl rfl pg1 wg1 ?_
  exact RunL.nil
theorem f143_r0 : Runs K 143 148 none (sub1 [0] (bodyOf Tryz.f143)) s h .normal (T.set s 10 (.bo true)) h := by
  refine Runs.region ?_
  refine RunL.op (v := (.bo true)) rfl (Q1.e (Q_assign rfl rfl)) ?_
  exact RunL.nil
theorem f143_r1 : Runs K 143 148 none (sub1 [1, 0] (bodyOf Tryz.f143)) s h .normal (T.set s 11 (.bo true)) h := by
  refine Runs.region ?_
  refine RunL.op (v := (.bo true)) rfl (Q1.e (Q_assign rfl rfl)) ?_
  exact RunL.nil
theorem f143_r2 {v2 v1 r23 : CV} (i2 : s.at 2 = v2) (i1 : s.at 1 = v1) (o23 : bineq K.P .sub 3 v2 v1 = some r23) : Runs K 143 148 none (sub1 [1, 1, 0, 0, 0, 0] (bodyOf Tryz.f143)) s h .normal (T.set (T.set (T.set (T.set s 21 v2) 22 v1) 23 r23) 12 r23) h := by
  refine Runs.region ?_
  refine RunL.op (v := v2) rfl (Q1.e (Q_move rfl i2)) ?_
  refine RunL.op (v := v1) rfl (Q1.e (Q_move rfl i1)) ?_
  refine RunL.op (v := r23) rfl (Q1.e (Q_bin rfl rfl rfl o23)) ?_
  refine RunL.op (v := r23) rfl (Q1.e (Q_assign rfl rfl)) ?_
  exact RunL.nil
theorem f143_r3 {v12 r25 : CV} (i12 : s.at 12 = v12) (o25 : bineq K.P .leq 3 v12 (.nu .i64 12) = some r25) : Runs K 143 148 none (sub1 [1, 1, 0, 0, 0, 1, 0, 0] (bodyOf Tryz.f143)) s h .normal (T.set (T.set s 24 v12) 25 r25) h := by
  refine Runs.region ?_
  refine RunL.op (v := v12) rfl (Q1.e (Q_move rfl i12)) ?_
  refine RunL.op (v := r25) rfl (Q1.e (Q_bin rfl rfl rfl o25)) ?_
  exact RunL.nil
theorem f143_r4 {v0 v1 v2 v4 r30 : CV} {g1 : Hp} (i0 : s.at 0 = v0) (i1 : s.at 1 = v1) (i2 : s.at 2 = v2) (i4 : s.at 4 = v4) (pg1 : K.prim 167 [v0, v1, v2, v4] = none) (wg1 : Comes K 167 [v0, v1, v2, v4] h r30 g1) : Runs K 143 148 none (sub1 [1, 1, 0, 0, 0, 1, 0, 1, 0, 0] (bodyOf Tryz.f143)) s h .normal (T.set (T.set (T.set (T.set (T.set s 26 v0) 27 v1) 28 v2) 29 v4) 30 r30) g1 := by
  refine Runs.region ?_
  refine RunL.op (v := v0) rfl (Q1.e (Q_move rfl i0)) ?_
  refine RunL.op (v := v1) rfl (Q1.e (Q_move rfl i1)) ?_
  refine RunL.op (v := v2) rfl (Q1.e (Q_move rfl i2)) ?_
  refine RunL.op (v := v4) rfl (Q1.e (Q_move rfl i4)) ?_
  refine RunL.call (v := r30) rfl rfl rfl rfl rfl pg1 wg1 ?_
  exact RunL.nil
theorem f167_r0 {v1 r11 : CV} (i1 : s.at 1 = v1) (o11 : bineq K.P .add 3 v1 (.nu .i64 1) = some r11) : Runs K 167 53 none (sub1 [0] (bodyOf Tryz.f167)) s h .normal (T.set (T.set (T.set s 10 v1) 11 r11) 8 r11) h := by
  refine Runs.region ?_
  refine RunL.op (v := v1) rfl (Q1.e (Q_move rfl i1)) ?_
  refine RunL.op (v := r11) rfl (Q1.e (Q_bin rfl rfl rfl o11)) ?_
  refine RunL.op (v := r11) rfl (Q1.e (Q_assign rfl rfl)) ?_
  exact RunL.nil
theorem f167_r1 {v8 v2 r14 : CV} (i8 : s.at 8 = v8) (i2 : s.at 2 = v2) (o14 : bineq K.P .lss 3 v8 v2 = some r14) : Runs K 167 53 none (sub1 [1, 0, 0, 0, 0] (bodyOf Tryz.f167)) s h .normal (T.set (T.set (T.set s 12 v8) 13 v2) 14 r14) h := by
  refine Runs.region ?_
  refine RunL.op (v := v8) rfl (Q1.e (Q_move rfl i8)) ?_
  refine RunL.op (v := v2) rfl (Q1.e (Q_move rfl i2)) ?_
  refine RunL.op (v := r14) rfl (Q1.e (Q_bin rfl rfl rfl o14)) ?_
  exact RunL.nil
theorem f167_r3 {v8 : CV} (i8 : s.at 8 = v8) : Runs K 167 53 none (sub1 [1, 0, 0, 1, 0, 0, 0] (bodyOf Tryz.f167)) s h .normal (T.set (T.set s 17 v8) 9 v8) h := by
  refine Runs.region ?_
  refine RunL.op (v := v8) rfl (Q1.e (Q_move rfl i8)) ?_
  refine RunL.op (v := v8) rfl (Q1.e (Q_assign rfl rfl)) ?_
  exact RunL.nil
theorem f167_r4_T {v9 v1 v3 v0 r25 r26 r29 r30 r31 r32 r33 r34 : CV} {g1 : Hp} {G32 : FuncId} {C32 : List CV} (hp : K.plan 167 4 = some [.take 0, .only 1 [0], .only 2 [], .only 3 [], .take 4, .take 5, .take 6, .take 7, .take 8, .take 9, .only 10 [9, 8, 7, 6, 5, 4], .only 11 [9, 8, 7, 6, 5, 4], .only 12 [8, 7, 6, 5, 4], .only 13 [8, 7, 6, 5, 4], .only 14 [], .only 15 [], .only 16 []]) (i9 : s.at 9 = v9) (i1 : s.at 1 = v1) (i3 : s.at 3 = v3) (i0 : s.at 0 = v0) (o20 : bineq K.P .gtr 3 v9 v1 = some (.bo true)) (o25 : qIndexAddr v0 v9 (tyk K.P 22) = some r25) (o26 : qLoad h r25 (tsz K.P 46) = some r26) (q26 : ceq r26 r26 = true) (o29 : bineq K.P .sub 3 v9 (.nu .i64 1) = some r29) (o30 : qIndexAddr v0 r29 (tyk K.P 22) = some r30) (o31 : qLoad h r30 (tsz K.P 46) = some r31) (e32 : (v3 : CV) = .fn G32 C32) (pg1 : K.prim G32 ([r26, r31] ++ C32) = none) (wg1 : Comes K G32 ([r26, r31] ++ C32) h r32 g1) (o33 : bineq K.P .lss 3 r32 (.nu .i64 0) = some r33) (o34 : qPick r33 (.bo false) (.bo true) = some r34) : Runs K 167 53 none (sub1 [1, 0, 0, 1, 0, 0, 1, 0, 0, 0, 0] (bodyOf Tryz.f167)) s h .normal (T.set (T.set (T.set (T.set (T.set (T.set (T.set (T.set (T.set (T.set (T.set (T.set (T.set (T.set (T.set (T.set (T.set s 18 v9) 19 v1) 20 (.bo true)) 21 (.bo true)) 22 v3) 23 v0) 24 v9) 25 r25) 26 r26) 27 v0) 28 v9) 29 r29) 30 r30) 31 r31) 32 r32) 33 r33) 34 r34) g1 := by
  refine Runs.drawn hp ?_
  refine RunP.q (v := v9) rfl rfl (Q_move rfl i9) ?_
  refine RunP.only (v := v1) rfl rfl (Q1.e (Q_move rfl i1)) rfl ?_
  refine RunP.only (v := (.bo true)) rfl rfl (Q1.e (Q_bin rfl rfl rfl o20)) rfl ?_
  refine RunP.only (v := (.bo true)) rfl rfl (Q1.e (Q_move rfl rfl)) rfl ?_
  refine RunP.q (v := v3) rfl rfl (Q_move rfl i3) ?_
  refine RunP.q (v := v0) rfl rfl (Q_move rfl i0) ?_
  refine RunP.q (v := v9) rfl rfl (Q_move rfl i9) ?_
  refine RunP.q (v := r25) rfl rfl (Q_ia rfl rfl rfl o25) ?_
  refine RunP.q (v := r26) rfl rfl (Q_load rfl rfl o26) ?_
  refine RunP.q (v := v0) rfl rfl (Q_move rfl i0) ?_
  refine RunP.only (v := v9) rfl rfl (Q1.e (Q_move rfl i9)) (by simp (decide := true) only [pdOk, looks, qX, ev, Fr.putO, Fr.at_set, reduceIte, Nat.reduceEqDiff, List.filter_cons, List.filter_nil, List.any_cons, List.any_nil, List.all_cons, List.all_nil, List.getElem_toArray, List.getElem_cons_succ, List.getElem_cons_zero, Option.map_some, Option.map_none, ofValue_int, qSlice_V, Bool.and_true, Bool.true_and, Bool.and_self, i9, i1, i3, i0, o20, o25, o26, q26]) ?_
  refine RunP.only (v := r29) rfl rfl (Q1.e (Q_bin rfl rfl rfl o29)) (by simp (decide := true) only [pdOk, looks, qX, ev, Fr.putO, Fr.at_set, reduceIte, Nat.reduceEqDiff, List.filter_cons, List.filter_nil, List.any_cons, List.any_nil, List.all_cons, List.all_nil, List.getElem_toArray, List.getElem_cons_succ, List.getElem_cons_zero, Option.map_some, Option.map_none, ofValue_int, qSlice_V, Bool.and_true, Bool.true_and, Bool.and_self, i9, i1, i3, i0, o20, o25, o26, q26, o29]) ?_
  refine RunP.only (v := r30) rfl rfl (Q1.e (Q_ia rfl rfl rfl o30)) (by simp (decide := true) only [pdOk, looks, qX, ev, Fr.putO, Fr.at_set, reduceIte, Nat.reduceEqDiff, List.filter_cons, List.filter_nil, List.any_cons, List.any_nil, List.all_cons, List.all_nil, List.getElem_toArray, List.getElem_cons_succ, List.getElem_cons_zero, Option.map_some, Option.map_none, ofValue_int, qSlice_V, Bool.and_true, Bool.true_and, Bool.and_self, i9, i1, i3, i0, o20, o25, o26, q26, o29, o30]) ?_
  refine RunP.only (v := r31) rfl rfl (Q1.e (Q_load rfl rfl o31)) (by simp (decide := true) only [pdOk, looks, qX, ev, Fr.putO, Fr.at_set, reduceIte, Nat.reduceEqDiff, List.filter_cons, List.filter_nil, List.any_cons, List.any_nil, List.all_cons, List.all_nil, List.getElem_toArray, List.getElem_cons_succ, List.getElem_cons_zero, Option.map_some, Option.map_none, ofValue_int, qSlice_V, Bool.and_true, Bool.true_and, Bool.and_self, i9, i1, i3, i0, o20, o25, o26, q26, o29, o30, o31]) ?_
  refine RunP.call (v := r32) rfl rfl rfl rfl e32 rfl pg1 wg1 rfl ?_
  refine RunP.only (v := r33) rfl rfl (Q1.e (Q_bin rfl rfl rfl o33)) rfl ?_
  refine RunP.only (v := r34) rfl rfl (Q1.e (Q_pick rfl rfl rfl rfl o34)) rfl ?_
  exact RunP.nil
theorem f167_r4_F {v9 v1 r34 : CV} (hp : K.plan 167 4 = some [.take 0, .only 1 [0], .only 2 [], .only 3 [], .take 4, .take 5, .take 6, .take 7, .take 8, .take 9, .only 10 [9, 8, 7, 6, 5, 4], .only 11 [9, 8, 7, 6, 5, 4], .only 12 [8, 7, 6, 5, 4], .only 13 [8, 7, 6, 5, 4], .only 14 [], .only 15 [], .only 16 []]) (i9 : s.at 9 = v9) (i1 : s.at 1 = v1) (o20 : bineq K.P .gtr 3 v9 v1 = some (.bo false)) (o34 : qPick .skp (.bo false) (.bo false) = some r34) : Runs K 167 53 none (sub1 [1, 0, 0, 1, 0, 0, 1, 0, 0, 0, 0] (bodyOf Tryz.f167)) s h .normal (T.set (T.set (T.set (T.set (T.set (T.set (T.set (T.set (T.set (T.set (T.set (T.set (T.set (T.set (T.set (T.set (T.set s 18 v9) 19 v1) 20 (.bo false)) 21 (.bo false)) 22 .skp) 23 .skp) 24 .skp) 25 .skp) 26 .skp) 27 .skp) 28 .skp) 29 .skp) 30 .skp) 31 .skp) 32 .skp) 33 .skp) 34 r34) h := by
  refine Runs.drawn hp ?_
  refine RunP.q (v := v9) rfl rfl (Q_move rfl i9) ?_
  refine RunP.only (v := v1) rfl rfl (Q1.e (Q_move rfl i1)) rfl ?_
  refine RunP.only (v := (.bo false)) rfl rfl (Q1.e (Q_bin rfl rfl rfl o20)) rfl ?_
  refine RunP.only (v := (.bo false)) rfl rfl (Q1.e (Q_move rfl rfl)) rfl ?_
  refine RunP.takeNot rfl rfl ?_
  refine RunP.takeNot rfl rfl ?_
  refine RunP.takeNot rfl rfl ?_
  refine RunP.takeNot rfl rfl ?_
  refine RunP.takeNot rfl rfl ?_
  refine RunP.takeNot rfl rfl ?_
  refine RunP.onlyNot rfl rfl ?_
  refine RunP.onlyNot rfl rfl ?_
  refine RunP.onlyNot rfl rfl ?_
  refine RunP.onlyNot rfl rfl ?_
  refine RunP.onlyNot rfl rfl ?_
  refine RunP.onlyNot rfl rfl ?_
  refine RunP.only (v := r34) rfl rfl (Q1.e (Q_pick rfl rfl rfl rfl o34)) rfl ?_
  exact RunP.nil
theorem f167_r6 {v0 v9 r41 r45 r46 r49 r50 : CV} {g1 g2 : Hp} (hp : K.plan 167 6 = some [.take 0, .take 1, .take 2, .take 3, .take 4, .take 5, .take 6, .take 7, .take 8, .take 9, .take 10, .only 11 [10, 9, 8, 7, 6, 5, 4, 3, 2, 1, 0], .only 12 [9, 8, 7, 6, 5, 4, 3, 2, 1, 0], .only 13 [9, 8, 7, 6, 5, 4, 3, 2, 1, 0], .only 14 [4, 3, 2], .only 15 [4, 3, 2], .only 16 [], .only 17 []]) (i0 : s.at 0 = v0) (i9 : s.at 9 = v9) (o41 : bineq K.P .sub 3 v9 (.nu .i64 1) = some r41) (o45 : qIndexAddr v0 r41 (tyk K.P 22) = some r45) (o46 : qLoad h r45 (tsz K.P 46) = some r46) (q46 : ceq r46 r46 = true) (o49 : qIndexAddr v0 v9 (tyk K.P 22) = some r49) (o50 : qLoad h r49 (tsz K.P 46) = some r50) (wg1 : wStore h r49 r46 (tsz K.P 46) = some (.undef, g1)) (wg2 : wStore g1 r45 r50 (tsz K.P 46) = some (.undef, g2)) : Runs K 167 53 none (sub1 [1, 0, 0, 1, 0, 0, 1, 0, 0, 1, 0, 0] (bodyOf Tryz.f167)) s h .normal (T.set (T.set (T.set (T.set (T.set (T.set (T.set (T.set (T.set (T.set (T.set (T.set (T.set (T.set (T.set (T.set s 37 v0) 38 v9) 39 v0) 40 v9) 41 r41) 42 v0) 43 v9) 44 r41) 45 r45) 46 r46) 47 v0) 48 v9) 49 r49) 50 r50) 51 r49) 52 r45) g2 := by
  refine Runs.drawn hp ?_
  refine RunP.q (v := v0) rfl rfl (Q_move rfl i0) ?_
  refine RunP.q (v := v9) rfl rfl (Q_move rfl i9) ?_
  refine RunP.q (v := v0) rfl rfl (Q_move rfl i0) ?_
  refine RunP.q (v := v9) rfl rfl (Q_move rfl i9) ?_
  refine RunP.q (v := r41) rfl rfl (Q_bin rfl rfl rfl o41) ?_
  refine RunP.q (v := v0) rfl rfl (Q_move rfl i0) ?_
  refine RunP.q (v := v9) rfl rfl (Q_move rfl i9) ?_
  refine RunP.q (v := r41) rfl rfl (Q_bin rfl rfl rfl o41) ?_
  refine RunP.q (v := r45) rfl rfl (Q_ia rfl rfl rfl o45) ?_
  refine RunP.q (v := r46) rfl rfl (Q_load rfl rfl o46) ?_
  refine RunP.q (v := v0) rfl rfl (Q_move rfl i0) ?_
  refine RunP.only (v := v9) rfl rfl (Q1.e (Q_move rfl i9)) (by simp (decide := true) only [pdOk, looks, qX, ev, Fr.putO, Fr.at_set, reduceIte, Nat.reduceEqDiff, List.filter_cons, List.filter_nil, List.any_cons, List.any_nil, List.all_cons, List.all_nil, List.getElem_toArray, List.getElem_cons_succ, List.getElem_cons_zero, Option.map_some, Option.map_none, ofValue_int, qSlice_V, Bool.and_true, Bool.true_and, Bool.and_self, i0, i9, o41, o45, o46, q46]) ?_
  refine RunP.only (v := r49) rfl rfl (Q1.e (Q_ia rfl rfl rfl o49)) (by simp (decide := true) only [pdOk, looks, qX, ev, Fr.putO, Fr.at_set, reduceIte, Nat.reduceEqDiff, List.filter_cons, List.filter_nil, List.any_cons, List.any_nil, List.all_cons, List.all_nil, List.getElem_toArray, List.getElem_cons_succ, List.getElem_cons_zero, Option.map_some, Option.map_none, ofValue_int, qSlice_V, Bool.and_true, Bool.true_and, Bool.and_self, i0, i9, o41, o45, o46, q46, o49]) ?_
  refine RunP.only (v := r50) rfl rfl (Q1.e (Q_load rfl rfl o50)) (by simp (decide := true) only [pdOk, looks, qX, ev, Fr.putO, Fr.at_set, reduceIte, Nat.reduceEqDiff, List.filter_cons, List.filter_nil, List.any_cons, List.any_nil, List.all_cons, List.all_nil, List.getElem_toArray, List.getElem_cons_succ, List.getElem_cons_zero, Option.map_some, Option.map_none, ofValue_int, qSlice_V, Bool.and_true, Bool.true_and, Bool.and_self, i0, i9, o41, o45, o46, q46, o49, o50]) ?_
  refine RunP.only (v := r49) rfl rfl (Q1.e (Q_ia rfl rfl rfl o49)) rfl ?_
  refine RunP.only (v := .undef) rfl rfl (W_store rfl rfl rfl wg1) rfl ?_
  refine RunP.only (v := r45) rfl rfl (Q1.e (Q_ia rfl rfl rfl o45)) rfl ?_
  refine RunP.only (v := .undef) rfl rfl (W_store rfl rfl rfl wg2) rfl ?_
  exact RunP.nil
theorem f167_r5 {v9 r36 : CV} (i9 : s.at 9 = v9) (o36 : bineq K.P .sub 3 v9 (.nu .i64 1) = some r36) : Runs K 167 53 none (sub1 [1, 0, 0, 1, 0, 0, 1, 0, 0, 1, 1] (bodyOf Tryz.f167)) s h .normal (T.set (T.set (T.set s 35 v9) 36 r36) 9 r36) h := by
  refine Runs.region ?_
  refine RunL.op (v := v9) rfl (Q1.e (Q_move rfl i9)) ?_
  refine RunL.op (v := r36) rfl (Q1.e (Q_bin rfl rfl rfl o36)) ?_
  refine RunL.op (v := r36) rfl (Q1.e (Q_assign rfl rfl)) ?_
  exact RunL.nil
theorem f167_r2 {v8 r16 : CV} (i8 : s.at 8 = v8) (o16 : bineq K.P .add 3 v8 (.nu .i64 1) = some r16) : Runs K 167 53 none (sub1 [1, 0, 0, 1, 1] (bodyOf Tryz.f167)) s h .normal (T.set (T.set (T.set s 15 v8) 16 r16) 8 r16) h := by
  refine Runs.region ?_
  refine RunL.op (v := v8) rfl (Q1.e (Q_move rfl i8)) ?_
  refine RunL.op (v := r16) rfl (Q1.e (Q_bin rfl rfl rfl o16)) ?_
  refine RunL.op (v := r16) rfl (Q1.e (Q_assign rfl rfl)) ?_
  exact RunL.nil
end Go.CP
/- Ways through code without loops, at whatever the slots hold. -/
namespace Go.CP
open Go.Proofs
structure PlansE [LG] [HK] (K : Ctx) : Prop where
  p126_17 : K.plan 126 17 = some [.only 0 [], .only 1 [], .only 2 [], .take 3, .take 4, .take 5, .take 6, .take 7, .take 8, .only 9 [8, 7, 6, 5, 4, 3], .only 10 [7, 6, 5, 4, 3], .only 11 [7, 6, 5, 4, 3], .only 12 [], .only 13 [], .only 14 []]
  p143_17 : K.plan 143 17 = some [.only 0 [], .only 1 [], .only 2 [], .take 3, .take 4, .take 5, .take 6, .take 7, .take 8, .take 9, .only 10 [9, 8, 7, 6, 5, 4, 3], .only 11 [8, 7, 6, 5, 4, 3], .only 12 [8, 7, 6, 5, 4, 3], .only 13 [], .only 14 [], .only 15 [], .only 16 []]
  p167_4 : K.plan 167 4 = some [.take 0, .only 1 [0], .only 2 [], .only 3 [], .take 4, .take 5, .take 6, .take 7, .take 8, .take 9, .only 10 [9, 8, 7, 6, 5, 4], .only 11 [9, 8, 7, 6, 5, 4], .only 12 [8, 7, 6, 5, 4], .only 13 [8, 7, 6, 5, 4], .only 14 [], .only 15 [], .only 16 []]
  p167_6 : K.plan 167 6 = some [.take 0, .take 1, .take 2, .take 3, .take 4, .take 5, .take 6, .take 7, .take 8, .take 9, .take 10, .only 11 [10, 9, 8, 7, 6, 5, 4, 3, 2, 1, 0], .only 12 [9, 8, 7, 6, 5, 4, 3, 2, 1, 0], .only 13 [9, 8, 7, 6, 5, 4, 3, 2, 1, 0], .only 14 [4, 3, 2], .only 15 [4, 3, 2], .only 16 [], .only 17 []]
  p168_10 : K.plan 168 10 = some [.take 0, .take 1, .take 2, .take 3, .take 4, .take 5, .take 6, .take 7, .take 8, .take 9, .take 10, .take 11, .take 12, .only 13 [12, 11, 10, 9, 8, 7, 6, 5, 4, 3, 2, 1, 0], .only 14 [11, 10, 9, 8, 7, 6, 5, 4, 3, 2, 1, 0], .only 15 [11, 10, 9, 8, 7, 6, 5, 4, 3, 2, 1, 0], .only 16 [5, 4, 3, 2], .only 17 [5, 4, 3, 2], .only 18 [], .only 19 []]
  p169_10 : K.plan 169 10 = some [.take 0, .take 1, .take 2, .take 3, .take 4, .take 5, .take 6, .take 7, .take 8, .take 9, .take 10, .take 11, .take 12, .only 13 [12, 11, 10, 9, 8, 7, 6, 5, 4, 3, 2, 1, 0], .only 14 [11, 10, 9, 8, 7, 6, 5, 4, 3, 2, 1, 0], .only 15 [11, 10, 9, 8, 7, 6, 5, 4, 3, 2, 1, 0], .only 16 [5, 4, 3, 2], .only 17 [5, 4, 3, 2], .only 18 [], .only 19 []]
  p171_3 : K.plan 171 3 = some [.take 0, .take 1, .take 2, .take 3, .take 4, .take 5, .take 6, .take 7, .take 8, .only 9 [8, 7, 6, 5, 4, 3, 2, 1, 0], .only 10 [7, 6, 5, 4, 3, 2, 1, 0], .only 11 [7, 6, 5, 4, 3, 2, 1, 0], .only 12 [3, 2], .only 13 [3, 2], .only 14 [], .only 15 []]
  p172_5 : K.plan 172 5 = some [.take 0, .only 1 [0], .only 2 [], .only 3 [], .take 4, .take 5, .take 6, .take 7, .take 8, .take 9, .only 10 [9, 8, 7, 6, 5, 4], .only 11 [9, 8, 7, 6, 5, 4], .only 12 [8, 7, 6, 5, 4], .only 13 [8, 7, 6, 5, 4], .only 14 [], .only 15 [], .only 16 [], .only 17 []]
  p172_11 : K.plan 172 11 = some [.take 0, .take 1, .take 2, .take 3, .take 4, .take 5, .take 6, .take 7, .take 8, .take 9, .take 10, .only 11 [10, 9, 8, 7, 6, 5, 4, 3, 2, 1, 0], .only 12 [9, 8, 7, 6, 5, 4, 3, 2, 1, 0], .only 13 [9, 8, 7, 6, 5, 4, 3, 2, 1, 0], .only 14 [4, 3, 2], .only 15 [4, 3, 2], .only 16 [], .only 17 []]
  p172_16 : K.plan 172 16 = some [.take 0, .take 1, .take 2, .take 3, .take 4, .take 5, .only 6 [5, 4, 3, 2, 1, 0], .only 7 [5, 4, 3, 2, 1, 0], .only 8 [4, 3, 2, 1, 0], .only 9 [4, 3, 2, 1, 0], .only 10 [], .only 11 [], .only 12 []]
  p172_17 : K.plan 172 17 = some [.take 0, .take 1, .take 2, .take 3, .take 4, .take 5, .take 6, .take 7, .take 8, .take 9, .take 10, .only 11 [10, 9, 8, 7, 6, 5, 4, 3, 2, 1, 0], .only 12 [9, 8, 7, 6, 5, 4, 3, 2, 1, 0], .only 13 [9, 8, 7, 6, 5, 4, 3, 2, 1, 0], .only 14 [4, 3, 2], .only 15 [4, 3, 2], .only 16 [], .only 17 []]
  p172_22 : K.plan 172 22 = some [.take 0, .take 1, .take 2, .take 3, .take 4, .take 5, .only 6 [5, 4, 3, 2, 1, 0], .only 7 [5, 4, 3, 2, 1, 0], .only 8 [4, 3, 2, 1, 0], .only 9 [4, 3, 2, 1, 0], .only 10 [], .only 11 [], .only 12 []]
  p172_23 : K.plan 172 23 = some [.take 0, .take 1, .take 2, .take 3, .take 4, .take 5, .take 6, .take 7, .take 8, .take 9, .take 10, .only 11 [10, 9, 8, 7, 6, 5, 4, 3, 2, 1, 0], .only 12 [9, 8, 7, 6, 5, 4, 3, 2, 1, 0], .only 13 [9, 8, 7, 6, 5, 4, 3, 2, 1, 0], .only 14 [4, 3, 2], .only 15 [4, 3, 2], .only 16 [], .only 17 []]
  p173_1 : K.plan 173 1 = some [.take 0, .take 1, .take 2, .take 3, .take 4, .take 5, .take 6, .take 7, .take 8, .only 9 [8, 7, 6, 5, 4, 3, 2, 1, 0], .only 10 [7, 6, 5, 4, 3, 2, 1, 0], .only 11 [7, 6, 5, 4, 3, 2, 1, 0], .only 12 [3, 2], .only 13 [3, 2], .only 14 [], .only 15 []]
  p173_3 : K.plan 173 3 = some [.take 0, .only 1 [0], .only 2 [], .only 3 [], .take 4, .take 5, .take 6, .take 7, .take 8, .take 9, .only 10 [9, 8, 7, 6, 5, 4], .only 11 [8, 7, 6, 5, 4], .only 12 [8, 7, 6, 5, 4], .only 13 [], .only 14 [], .only 15 [], .only 16 []]
  p173_5 : K.plan 173 5 = some [.take 0, .only 1 [0], .only 2 [], .only 3 [], .take 4, .take 5, .take 6, .take 7, .take 8, .take 9, .only 10 [9, 8, 7, 6, 5, 4], .only 11 [8, 7, 6, 5, 4], .only 12 [8, 7, 6, 5, 4], .only 13 [], .only 14 [], .only 15 []]
  p173_8 : K.plan 173 8 = some [.take 0, .take 1, .take 2, .take 3, .take 4, .take 5, .take 6, .take 7, .take 8, .only 9 [8, 7, 6, 5, 4, 3, 2, 1, 0], .only 10 [7, 6, 5, 4, 3, 2, 1, 0], .only 11 [7, 6, 5, 4, 3, 2, 1, 0], .only 12 [3, 2], .only 13 [3, 2], .only 14 [], .only 15 []]
  p174_1 : K.plan 174 1 = some [.take 0, .take 1, .take 2, .take 3, .take 4, .take 5, .take 6, .take 7, .take 8, .only 9 [8, 7, 6, 5, 4, 3, 2, 1, 0], .only 10 [7, 6, 5, 4, 3, 2, 1, 0], .only 11 [7, 6, 5, 4, 3, 2, 1, 0], .only 12 [3, 2], .only 13 [3, 2], .only 14 [], .only 15 []]
  p174_3 : K.plan 174 3 = some [.take 0, .only 1 [0], .only 2 [], .only 3 [], .take 4, .take 5, .take 6, .take 7, .take 8, .take 9, .only 10 [9, 8, 7, 6, 5, 4], .only 11 [8, 7, 6, 5, 4], .only 12 [8, 7, 6, 5, 4], .only 13 [], .only 14 [], .only 15 []]
  p174_5 : K.plan 174 5 = some [.take 0, .only 1 [0], .only 2 [], .only 3 [], .take 4, .take 5, .take 6, .take 7, .take 8, .take 9, .only 10 [9, 8, 7, 6, 5, 4], .only 11 [8, 7, 6, 5, 4], .only 12 [8, 7, 6, 5, 4], .only 13 [], .only 14 [], .only 15 [], .only 16 []]
  p174_8 : K.plan 174 8 = some [.take 0, .take 1, .take 2, .take 3, .take 4, .take 5, .take 6, .take 7, .take 8, .only 9 [8, 7, 6, 5, 4, 3, 2, 1, 0], .only 10 [7, 6, 5, 4, 3, 2, 1, 0], .only 11 [7, 6, 5, 4, 3, 2, 1, 0], .only 12 [3, 2], .only 13 [3, 2], .only 14 [], .only 15 []]
  p174_10 : K.plan 174 10 = some [.take 0, .take 1, .take 2, .take 3, .take 4, .take 5, .take 6, .take 7, .take 8, .only 9 [8, 7, 6, 5, 4, 3, 2, 1, 0], .only 10 [7, 6, 5, 4, 3, 2, 1, 0], .only 11 [7, 6, 5, 4, 3, 2, 1, 0], .only 12 [3, 2], .only 13 [3, 2], .only 14 [], .only 15 []]
  p174_13 : K.plan 174 13 = some [.take 0, .only 1 [0], .only 2 [], .only 3 [], .take 4, .take 5, .take 6, .take 7, .take 8, .take 9, .only 10 [9, 8, 7, 6, 5, 4], .only 11 [8, 7, 6, 5, 4], .only 12 [8, 7, 6, 5, 4], .only 13 [], .only 14 [], .only 15 []]
  p174_15 : K.plan 174 15 = some [.take 0, .only 1 [0], .only 2 [], .only 3 [], .take 4, .take 5, .take 6, .take 7, .take 8, .take 9, .only 10 [9, 8, 7, 6, 5, 4], .only 11 [8, 7, 6, 5, 4], .only 12 [8, 7, 6, 5, 4], .only 13 [], .only 14 [], .only 15 [], .only 16 []]
  p174_18 : K.plan 174 18 = some [.take 0, .take 1, .take 2, .take 3, .take 4, .take 5, .take 6, .take 7, .take 8, .only 9 [8, 7, 6, 5, 4, 3, 2, 1, 0], .only 10 [7, 6, 5, 4, 3, 2, 1, 0], .only 11 [7, 6, 5, 4, 3, 2, 1, 0], .only 12 [3, 2], .only 13 [3, 2], .only 14 [], .only 15 []]
  p174_21 : K.plan 174 21 = some [.take 0, .take 1, .take 2, .take 3, .take 4, .take 5, .take 6, .take 7, .take 8, .only 9 [8, 7, 6, 5, 4, 3, 2, 1, 0], .only 10 [7, 6, 5, 4, 3, 2, 1, 0], .only 11 [7, 6, 5, 4, 3, 2, 1, 0], .only 12 [3, 2], .only 13 [3, 2], .only 14 [], .only 15 []]
  p177_1 : K.plan 177 1 = some [.take 0, .take 1, .take 2, .only 3 [2, 1, 0], .only 4 [2, 1, 0], .only 5 [2, 1, 0], .only 6 [2, 1, 0], .only 7 [], .only 8 [], .only 9 []]
  p177_2 : K.plan 177 2 = some [.take 0, .take 1, .take 2, .only 3 [2, 1, 0], .only 4 [2, 1, 0], .only 5 [2, 1, 0], .only 6 [2, 1, 0], .only 7 [], .only 8 [], .only 9 []]
  p177_3 : K.plan 177 3 = some [.take 0, .take 1, .take 2, .only 3 [2, 1, 0], .only 4 [2, 1, 0], .only 5 [2, 1, 0], .only 6 [2, 1, 0], .only 7 [], .only 8 [], .only 9 []]
  p189_3 : K.plan 189 3 = some [.take 0, .take 1, .only 2 [1, 0], .only 3 [], .only 4 [], .take 5, .take 6, .take 7, .take 8, .take 9, .take 10, .take 11, .take 12, .take 13, .only 14 [13, 12, 11, 10, 9, 8, 7, 6, 5], .only 15 [12, 11, 10, 9, 8, 7, 6, 5], .only 16 [12, 11, 10, 9, 8, 7, 6, 5], .only 17 [11, 10, 9, 8, 7, 6, 5], .only 18 [11, 10, 9, 8, 7, 6, 5], .only 19 [], .only 20 [], .only 21 []]
  p189_5 : K.plan 189 5 = some [.take 0, .take 1, .take 2, .take 3, .take 4, .take 5, .take 6, .take 7, .take 8, .only 9 [8, 7, 6, 5, 4, 3, 2, 1, 0], .only 10 [7, 6, 5, 4, 3, 2, 1, 0], .only 11 [6, 5, 4, 3, 2, 1, 0], .only 12 [6, 5, 4, 3, 2, 1, 0], .only 13 [], .only 14 [], .only 15 []]
  p189_6 : K.plan 189 6 = some [.take 0, .take 1, .take 2, .take 3, .take 4, .take 5, .take 6, .take 7, .take 8, .take 9, .take 10, .take 11, .take 12, .take 13, .take 14, .take 15, .only 16 [15, 14, 13, 12, 11, 10, 9, 8, 7, 6, 5, 4, 3, 2, 1, 0], .only 17 [14, 13, 12, 11, 10, 9, 8, 7, 6, 5, 4, 3, 2, 1, 0], .only 18 [13, 12, 11, 10, 9, 8, 7, 6, 5, 4, 3, 2, 1, 0], .only 19 [13, 12, 11, 10, 9, 8, 7, 6, 5, 4, 3, 2, 1, 0], .only 20 [7, 6, 5, 4], .only 21 [7, 6, 5, 4], .only 22 [], .only 23 []]
  p197_1 : K.plan 197 1 = some [.take 0, .take 1, .take 2, .take 3, .take 4, .take 5, .only 6 [5, 4, 3, 2, 1, 0], .only 7 [4, 3, 2, 1, 0], .only 8 [4, 3, 2, 1, 0], .only 9 [], .only 10 []]
variable [LG] [HK] {K : Ctx} {s : Fr} {h : Hp} (hk : ∀ o, HK.keep o = false) (pr : ∀ f args, K.prim f args = none) (Pl : PlansE K)
include hk pr Pl
-- NOT PRINTED 126 1100: 150 ways
-- NOT PRINTED 143 1100: 150 ways
theorem f167_b1000_T {v8 v2 : CV} (i8 : s.at 8 = v8) (i2 : s.at 2 = v2) (o14 : bineq K.P .lss 3 v8 v2 = some (.bo true)) : Runs K 167 53 none (sub1 [1, 0, 0, 0] (bodyOf Tryz.f167)) s h .normal (T.set (T.set (T.set s 12 v8) 13 v2) 14 (.bo true)) h :=
  (Runs.seq (f167_r1 (h := h) (v8 := v8) (v2 := v2) (r14 := (.bo true)) hk i8 i2 (by assumption)) (Runs.condT (o := .tmp 14) rfl Runs.skip))
theorem f167_b1000_F {v8 v2 : CV} (i8 : s.at 8 = v8) (i2 : s.at 2 = v2) (o14 : bineq K.P .lss 3 v8 v2 = some (.bo false)) : Runs K 167 53 none (sub1 [1, 0, 0, 0] (bodyOf Tryz.f167)) s h (.exit 0) (T.set (T.set (T.set s 12 v8) 13 v2) 14 (.bo false)) h :=
  (Runs.seq (f167_r1 (h := h) (v8 := v8) (v2 := v2) (r14 := (.bo false)) hk i8 i2 (by assumption)) (Runs.condF (o := .tmp 14) rfl Runs.exit))
theorem f167_b100100100_tT {v9 v1 v3 v0 r25 r26 r29 r30 r31 r32 r33 r46 r50 : CV} {g1 g2 g3 : Hp} {G32 : FuncId} {C32 : List CV} (i9 : s.at 9 = v9) (i1 : s.at 1 = v1) (i3 : s.at 3 = v3) (i0 : s.at 0 = v0) (o20 : bineq K.P .gtr 3 v9 v1 = some (.bo true)) (o25 : qIndexAddr v0 v9 (tyk K.P 22) = some r25) (o26 : qLoad h r25 (tsz K.P 46) = some r26) (q26 : ceq r26 r26 = true) (o29 : bineq K.P .sub 3 v9 (.nu .i64 1) = some r29) (o30 : qIndexAddr v0 r29 (tyk K.P 22) = some r30) (o31 : qLoad h r30 (tsz K.P 46) = some r31) (e32 : (v3 : CV) = .fn G32 C32) (wg1 : Comes K G32 ([r26, r31] ++ C32) h r32 g1) (o33 : bineq K.P .lss 3 r32 (.nu .i64 0) = some r33) (o34 : qPick r33 (.bo false) (.bo true) = some (.bo true)) (o46 : qLoad g1 r30 (tsz K.P 46) = some r46) (q46 : ceq r46 r46 = true) (o50 : qLoad g1 r25 (tsz K.P 46) = some r50) (wg2 : wStore g1 r25 r46 (tsz K.P 46) = some (.undef, g2)) (wg3 : wStore g2 r30 r50 (tsz K.P 46) = some (.undef, g3)) : Runs K 167 53 none (sub1 [1, 0, 0, 1, 0, 0, 1, 0, 0] (bodyOf Tryz.f167)) s h .normal (T.set (T.set (T.set (T.set (T.set (T.set (T.set (T.set (T.set (T.set (T.set (T.set (T.set (T.set (T.set (T.set (T.set (T.set (T.set (T.set (T.set (T.set (T.set (T.set (T.set (T.set (T.set (T.set (T.set (T.set (T.set (T.set (T.set (T.set (T.set (T.set s 18 v9) 19 v1) 20 (.bo true)) 21 (.bo true)) 22 v3) 23 v0) 24 v9) 25 r25) 26 r26) 27 v0) 28 v9) 29 r29) 30 r30) 31 r31) 32 r32) 33 r33) 34 (.bo true)) 37 v0) 38 v9) 39 v0) 40 v9) 41 r29) 42 v0) 43 v9) 44 r29) 45 r30) 46 r46) 47 v0) 48 v9) 49 r25) 50 r50) 51 r25) 52 r30) 35 v9) 36 r29) 9 r29) g3 :=
  (Runs.seq (Runs.seq (f167_r4_T (h := h) (v9 := v9) (v1 := v1) (v3 := v3) (v0 := v0) (r25 := r25) (r26 := r26) (r29 := r29) (r30 := r30) (r31 := r31) (r32 := r32) (g1 := g1) (G32 := G32) (C32 := C32) (r33 := r33) (r34 := (.bo true)) hk Pl.p167_4 i9 i1 i3 i0 (by assumption) (by assumption) (by assumption) (by assumption) (by assumption) (by assumption) (by assumption) (by assumption) (pr _ _) (by assumption) (by assumption) (by assumption)) (Runs.condT (o := .tmp 34) rfl Runs.skip)) (Runs.seq (Runs.blockN (f167_r6 (h := g1) (v0 := v0) (v9 := v9) (r41 := r29) (r45 := r30) (r46 := r46) (r49 := r25) (r50 := r50) (g1 := g2) (g2 := g3) hk Pl.p167_6 i0 i9 (by assumption) (by assumption) (by assumption) (by assumption) (by assumption) (by assumption) (by assumption) (by assumption))) (f167_r5 (h := g3) (v9 := v9) (r36 := r29) hk i9 (by assumption))))
theorem f167_b100100100_tF {v9 v1 v3 v0 r25 r26 r29 r30 r31 r32 r33 : CV} {g1 : Hp} {G32 : FuncId} {C32 : List CV} (i9 : s.at 9 = v9) (i1 : s.at 1 = v1) (i3 : s.at 3 = v3) (i0 : s.at 0 = v0) (o20 : bineq K.P .gtr 3 v9 v1 = some (.bo true)) (o25 : qIndexAddr v0 v9 (tyk K.P 22) = some r25) (o26 : qLoad h r25 (tsz K.P 46) = some r26) (q26 : ceq r26 r26 = true) (o29 : bineq K.P .sub 3 v9 (.nu .i64 1) = some r29) (o30 : qIndexAddr v0 r29 (tyk K.P 22) = some r30) (o31 : qLoad h r30 (tsz K.P 46) = some r31) (e32 : (v3 : CV) = .fn G32 C32) (wg1 : Comes K G32 ([r26, r31] ++ C32) h r32 g1) (o33 : bineq K.P .lss 3 r32 (.nu .i64 0) = some r33) (o34 : qPick r33 (.bo false) (.bo true) = some (.bo false)) : Runs K 167 53 none (sub1 [1, 0, 0, 1, 0, 0, 1, 0, 0] (bodyOf Tryz.f167)) s h (.exit 2) (T.set (T.set (T.set (T.set (T.set (T.set (T.set (T.set (T.set (T.set (T.set (T.set (T.set (T.set (T.set (T.set (T.set s 18 v9) 19 v1) 20 (.bo true)) 21 (.bo true)) 22 v3) 23 v0) 24 v9) 25 r25) 26 r26) 27 v0) 28 v9) 29 r29) 30 r30) 31 r31) 32 r32) 33 r33) 34 (.bo false)) g1 :=
  (Runs.seqX (Runs.seq (f167_r4_T (h := h) (v9 := v9) (v1 := v1) (v3 := v3) (v0 := v0) (r25 := r25) (r26 := r26) (r29 := r29) (r30 := r30) (r31 := r31) (r32 := r32) (g1 := g1) (G32 := G32) (C32 := C32) (r33 := r33) (r34 := (.bo false)) hk Pl.p167_4 i9 i1 i3 i0 (by assumption) (by assumption) (by assumption) (by assumption) (by assumption) (by assumption) (by assumption) (by assumption) (pr _ _) (by assumption) (by assumption) (by assumption)) (Runs.condF (o := .tmp 34) rfl Runs.exit)) (by simp))
theorem f167_b100100100_fF {v9 v1 : CV} (i9 : s.at 9 = v9) (i1 : s.at 1 = v1) (o20 : bineq K.P .gtr 3 v9 v1 = some (.bo false)) (o34 : qPick .skp (.bo false) (.bo false) = some (.bo false)) : Runs K 167 53 none (sub1 [1, 0, 0, 1, 0, 0, 1, 0, 0] (bodyOf Tryz.f167)) s h (.exit 2) (T.set (T.set (T.set (T.set (T.set (T.set (T.set (T.set (T.set (T.set (T.set (T.set (T.set (T.set (T.set (T.set (T.set s 18 v9) 19 v1) 20 (.bo false)) 21 (.bo false)) 22 .skp) 23 .skp) 24 .skp) 25 .skp) 26 .skp) 27 .skp) 28 .skp) 29 .skp) 30 .skp) 31 .skp) 32 .skp) 33 .skp) 34 (.bo false)) h :=
  (Runs.seqX (Runs.seq (f167_r4_F (h := h) (v9 := v9) (v1 := v1) (r34 := (.bo false)) hk Pl.p167_4 i9 i1 (by assumption) (by assumption)) (Runs.condF (o := .tmp 34) rfl Runs.exit)) (by simp))
end Go.CP
/- The regions of some functions, at whatever their slots hold. -/
namespace Go.CP
open Go.Proofs
variable [LG] [HK] {K : Ctx} {s : Fr} {h : Hp} (hk : ∀ o, HK.keep o = false)
include hk
theorem f5_r0 : Runs K 5 81 none (sub1 [0] (bodyOf Tryz.f5)) s h .normal (T.set s 6 (.bo false)) h := by
  refine Runs.region ?_
  refine RunL.op (v := (.bo false)) rfl (Q1.e (Q_assign rfl rfl)) ?_
  exact RunL.nil
theorem f5_r1_TT {v0 r15 : CV} (i0 : s.at 0 = v0) (o15 : qLen h v0 (tyk K.P 26) = some r15) (o16 : bineq K.P .gtr 3 r15 (.nu .i64 40) = some (.bo true)) (o21 : qPick (.bo true) .skp (.bo true) = some (.bo true)) : Runs K 5 81 none (sub1 [1, 0, 0] (bodyOf Tryz.f5)) s h .normal (T.set (T.set (T.set (T.set (T.set (T.set (T.set (T.set (T.set (T.set (T.set (T.set s 14 v0) 15 r15) 16 (.bo true)) 17 (.bo true)) 18 .skp) 19 .skp) 20 .skp) 21 (.bo true)) 22 (.bo true)) 23 .skp) 24 .skp) 25 (.bo true)) h := by
  refine Runs.region ?_
  refine RunL.op (v := v0) rfl (Q1.e (Q_move rfl i0)) ?_
  refine RunL.op (v := r15) rfl (Q1.e (Q_len rfl rfl rfl rfl rfl o15)) ?_
  refine RunL.op (v := (.bo true)) rfl (Q1.e (Q_bin rfl rfl rfl o16)) ?_
  refine RunL.op (v := (.bo true)) rfl (Q1.e (Q_move rfl rfl)) ?_
  refine RunL.pass rfl ?_
  refine RunL.pass rfl ?_
  refine RunL.pass rfl ?_
  refine RunL.op (v := (.bo true)) rfl (Q1.e (Q_pick rfl rfl rfl rfl o21)) ?_
  refine RunL.op (v := (.bo true)) rfl (Q1.e (Q_move rfl rfl)) ?_
  refine RunL.pass rfl ?_
  refine RunL.pass rfl ?_
  refine RunL.op (v := (.bo true)) rfl (Q1.e (Q_pick rfl rfl rfl rfl o21)) ?_
  exact RunL.nil
theorem f5_r1_FT {v0 r15 r20 r25 : CV} (i0 : s.at 0 = v0) (o15 : qLen h v0 (tyk K.P 26) = some r15) (o16 : bineq K.P .gtr 3 r15 (.nu .i64 40) = some (.bo false)) (o20 : bineq K.P .eql 3 r15 (.nu .i64 0) = some r20) (o21 : qPick (.bo true) r20 (.bo false) = some (.bo true)) (o25 : qPick (.bo true) .skp (.bo true) = some r25) : Runs K 5 81 none (sub1 [1, 0, 0] (bodyOf Tryz.f5)) s h .normal (T.set (T.set (T.set (T.set (T.set (T.set (T.set (T.set (T.set (T.set (T.set (T.set s 14 v0) 15 r15) 16 (.bo false)) 17 (.bo false)) 18 v0) 19 r15) 20 r20) 21 (.bo true)) 22 (.bo true)) 23 .skp) 24 .skp) 25 r25) h := by
  refine Runs.region ?_
  refine RunL.op (v := v0) rfl (Q1.e (Q_move rfl i0)) ?_
  refine RunL.op (v := r15) rfl (Q1.e (Q_len rfl rfl rfl rfl rfl o15)) ?_
  refine RunL.op (v := (.bo false)) rfl (Q1.e (Q_bin rfl rfl rfl o16)) ?_
  refine RunL.op (v := (.bo false)) rfl (Q1.e (Q_move rfl rfl)) ?_
  refine RunL.op (v := v0) rfl (Q1.e (Q_move rfl i0)) ?_
  refine RunL.op (v := r15) rfl (Q1.e (Q_len rfl rfl rfl rfl rfl o15)) ?_
  refine RunL.op (v := r20) rfl (Q1.e (Q_bin rfl rfl rfl o20)) ?_
  refine RunL.op (v := (.bo true)) rfl (Q1.e (Q_pick rfl rfl rfl rfl o21)) ?_
  refine RunL.op (v := (.bo true)) rfl (Q1.e (Q_move rfl rfl)) ?_
  refine RunL.pass rfl ?_
  refine RunL.pass rfl ?_
  refine RunL.op (v := r25) rfl (Q1.e (Q_pick rfl rfl rfl rfl o25)) ?_
  exact RunL.nil
theorem f5_r1_FF {v0 r15 r20 r23 r24 r25 : CV} {g1 : Hp} (i0 : s.at 0 = v0) (o15 : qLen h v0 (tyk K.P 26) = some r15) (o16 : bineq K.P .gtr 3 r15 (.nu .i64 40) = some (.bo false)) (o20 : bineq K.P .eql 3 r15 (.nu .i64 0) = some r20) (o21 : qPick (.bo true) r20 (.bo false) = some (.bo false)) (pg1 : K.prim 14 [] = none) (wg1 : Comes K 14 [] h r23 g1) (o24 : aun .not r23 = some r24) (o25 : qPick (.bo true) r24 (.bo false) = some r25) : Runs K 5 81 none (sub1 [1, 0, 0] (bodyOf Tryz.f5)) s h .normal (T.set (T.set (T.set (T.set (T.set (T.set (T.set (T.set (T.set (T.set (T.set (T.set s 14 v0) 15 r15) 16 (.bo false)) 17 (.bo false)) 18 v0) 19 r15) 20 r20) 21 (.bo false)) 22 (.bo false)) 23 r23) 24 r24) 25 r25) g1 := by
  refine Runs.region ?_
  refine RunL.op (v := v0) rfl (Q1.e (Q_move rfl i0)) ?_
  refine RunL.op (v := r15) rfl (Q1.e (Q_len rfl rfl rfl rfl rfl o15)) ?_
  refine RunL.op (v := (.bo false)) rfl (Q1.e (Q_bin rfl rfl rfl o16)) ?_
  refine RunL.op (v := (.bo false)) rfl (Q1.e (Q_move rfl rfl)) ?_
  refine RunL.op (v := v0) rfl (Q1.e (Q_move rfl i0)) ?_
  refine RunL.op (v := r15) rfl (Q1.e (Q_len rfl rfl rfl rfl rfl o15)) ?_
  refine RunL.op (v := r20) rfl (Q1.e (Q_bin rfl rfl rfl o20)) ?_
  refine RunL.op (v := (.bo false)) rfl (Q1.e (Q_pick rfl rfl rfl rfl o21)) ?_
  refine RunL.op (v := (.bo false)) rfl (Q1.e (Q_move rfl rfl)) ?_
  refine RunL.call (v := r23) rfl rfl rfl rfl rfl pg1 wg1 ?_
  refine RunL.op (v := r24) rfl (Q1.e (Q_un rfl rfl o24)) ?_
  refine RunL.op (v := r25) rfl (Q1.e (Q_pick rfl rfl rfl rfl o25)) ?_
  exact RunL.nil
theorem f5_r2 {r26 : CV} {g1 : Hp} (pg1 : K.prim 14 [] = none) (wg1 : Comes K 14 [] h r26 g1) : Runs K 5 81 none (sub1 [1, 0, 1, 0, 0] (bodyOf Tryz.f5)) s h .normal (T.set (T.set s 26 r26) 6 r26) g1 := by
  refine Runs.region ?_
  refine RunL.call (v := r26) rfl rfl rfl rfl rfl pg1 wg1 ?_
  refine RunL.op (v := r26) rfl (Q1.e (Q_assign rfl rfl)) ?_
  exact RunL.nil
theorem f5_r3 {v0 r28 : CV} {g1 : Hp} (i0 : s.at 0 = v0) (pg1 : K.prim 15 [v0, (.nu .i64 6), (.nu .i64 3), (.nu .i64 8)] = none) (wg1 : Comes K 15 [v0, (.nu .i64 6), (.nu .i64 3), (.nu .i64 8)] h r28 g1) : Runs K 5 81 none (sub1 [1, 1, 0] (bodyOf Tryz.f5)) s h .normal (T.set (T.set (T.set s 27 v0) 28 r28) 7 r28) g1 := by
  refine Runs.region ?_
  refine RunL.op (v := v0) rfl (Q1.e (Q_move rfl i0)) ?_
  refine RunL.call (v := r28) rfl rfl rfl rfl rfl pg1 wg1 ?_
  refine RunL.op (v := r28) rfl (Q1.e (Q_assign rfl rfl)) ?_
  exact RunL.nil
theorem f5_r4 {v7 v1 r31 r33 r34 r35 r36 v2 r39 r42 r43 r44 : CV} (hp : K.plan 5 4 = some [.take 0, .take 1, .take 2, .take 3, .take 4, .take 5, .take 6, .take 7, .take 8, .take 9, .take 10, .take 11, .take 12, .take 13, .take 14, .take 15, .only 16 [15, 14, 13, 12, 11, 10, 9, 8], .only 17 []]) (i7 : s.at 7 = v7) (i1 : s.at 1 = v1) (i2 : s.at 2 = v2) (l31 : lBytes K.P v1 (tyk K.P 5) (tyk K.P 3) = none) (o31 : qConv K.P h v1 (tyk K.P 5) (tyk K.P 3) = some r31) (q31 : ceq r31 r31 = true) (o33 : qLen h v7 (tyk K.P 22) = some r33) (m22 : mapK (tyk K.P 22) = false) (o34 : bineq K.P .rem 3 r31 r33 = some r34) (o35 : qIndexAddr v7 r34 (tyk K.P 22) = some r35) (o36 : qLoad h r35 (tsz K.P 46) = some r36) (q36 : ceq r36 r36 = true) (l39 : lBytes K.P v2 (tyk K.P 5) (tyk K.P 3) = none) (o39 : qConv K.P h v2 (tyk K.P 5) (tyk K.P 3) = some r39) (q39 : ceq r39 r39 = true) (o42 : bineq K.P .rem 3 r39 r33 = some r42) (o43 : qIndexAddr v7 r42 (tyk K.P 22) = some r43) (o44 : qLoad h r43 (tsz K.P 46) = some r44) (q44 : ceq r44 r44 = true) : Runs K 5 81 none (sub1 [1, 1, 1, 0] (bodyOf Tryz.f5)) s h .normal (T.set (T.set (T.set (T.set (T.set (T.set (T.set (T.set (T.set (T.set (T.set (T.set (T.set (T.set (T.set (T.set (T.set (T.set s 29 v7) 30 v1) 31 r31) 32 v7) 33 r33) 34 r34) 35 r35) 36 r36) 37 v7) 38 v2) 39 r39) 40 v7) 41 r33) 42 r42) 43 r43) 44 r44) 8 r36) 9 r44) h := by
  refine Runs.drawn hp ?_
  refine RunP.q (v := v7) rfl rfl (Q_move rfl i7) ?_
  refine RunP.q (v := v1) rfl rfl (Q_move rfl i1) ?_
  refine RunP.q (v := r31) rfl rfl (Q_conv rfl rfl l31 o31) ?_
  refine RunP.q (v := v7) rfl rfl (Q_move rfl i7) ?_
  refine RunP.q (v := r33) rfl rfl (Q_len rfl rfl rfl rfl rfl o33) ?_
  refine RunP.q (v := r34) rfl rfl (Q_bin rfl rfl rfl o34) ?_
  refine RunP.q (v := r35) rfl rfl (Q_ia rfl rfl rfl o35) ?_
  refine RunP.q (v := r36) rfl rfl (Q_load rfl rfl o36) ?_
  refine RunP.q (v := v7) rfl rfl (Q_move rfl i7) ?_
  refine RunP.q (v := v2) rfl rfl (Q_move rfl i2) ?_
  refine RunP.q (v := r39) rfl rfl (Q_conv rfl rfl l39 o39) ?_
  refine RunP.q (v := v7) rfl rfl (Q_move rfl i7) ?_
  refine RunP.q (v := r33) rfl rfl (Q_len rfl rfl rfl rfl rfl o33) ?_
  refine RunP.q (v := r42) rfl rfl (Q_bin rfl rfl rfl o42) ?_
  refine RunP.q (v := r43) rfl rfl (Q_ia rfl rfl rfl o43) ?_
  refine RunP.q (v := r44) rfl rfl (Q_load rfl rfl o44) ?_
  refine RunP.only (v := r36) rfl rfl (Q1.e (Q_assign rfl rfl)) (by simp (decide := true) only [pdOk, looks, qX, ev, Fr.putO, Fr.at_set, reduceIte, Nat.reduceEqDiff, List.filter_cons, List.filter_nil, List.any_cons, List.any_nil, List.all_cons, List.all_nil, List.getElem_toArray, List.getElem_cons_succ, List.getElem_cons_zero, Option.map_some, Option.map_none, ofValue_int, qSlice_V, Bool.and_true, Bool.true_and, Bool.and_self, i7, i1, i2, l31, o31, q31, o33, m22, o34, o35, o36, q36, l39, o39, q39, o42, o43, o44, q44]) ?_
  refine RunP.only (v := r44) rfl rfl (Q1.e (Q_assign rfl rfl)) rfl ?_
  exact RunP.nil
theorem f5_r5 {v7 v8 r48 r49 r50 : CV} {g1 : Hp} (i7 : s.at 7 = v7) (i8 : s.at 8 = v8) (pg1 : K.prim 27 [v7, v8] = none) (wg1 : Comes K 27 [v7, v8] h r48 g1) (o49 : qExtract 0 r48 = some r49) (o50 : qExtract 1 r48 = some r50) : Runs K 5 81 none (sub1 [1, 1, 1, 1, 0] (bodyOf Tryz.f5)) s h .normal (T.set (T.set (T.set (T.set (T.set (T.set (T.set (T.set s 46 v7) 47 v8) 48 r48) 45 r48) 49 r49) 50 r50) 10 r49) 11 r50) g1 := by
  refine Runs.region ?_
  refine RunL.op (v := v7) rfl (Q1.e (Q_move rfl i7)) ?_
  refine RunL.op (v := v8) rfl (Q1.e (Q_move rfl i8)) ?_
  refine RunL.call (v := r48) rfl rfl rfl rfl rfl pg1 wg1 ?_
  refine RunL.op (v := r48) rfl (Q1.e (Q_move rfl rfl)) ?_
  refine RunL.op (v := r49) rfl (Q1.e (Q_extract rfl rfl o49)) ?_
  refine RunL.op (v := r50) rfl (Q1.e (Q_extract rfl rfl o50)) ?_
  refine RunL.op (v := r49) rfl (Q1.e (Q_assign rfl rfl)) ?_
  refine RunL.op (v := r50) rfl (Q1.e (Q_assign rfl rfl)) ?_
  exact RunL.nil
theorem f5_r6 {v7 v9 r54 r55 r56 : CV} {g1 : Hp} (i7 : s.at 7 = v7) (i9 : s.at 9 = v9) (pg1 : K.prim 27 [v7, v9] = none) (wg1 : Comes K 27 [v7, v9] h r54 g1) (o55 : qExtract 0 r54 = some r55) (o56 : qExtract 1 r54 = some r56) : Runs K 5 81 none (sub1 [1, 1, 1, 1, 1, 0] (bodyOf Tryz.f5)) s h .normal (T.set (T.set (T.set (T.set (T.set (T.set (T.set (T.set s 52 v7) 53 v9) 54 r54) 51 r54) 55 r55) 56 r56) 12 r55) 13 r56) g1 := by
  refine Runs.region ?_
  refine RunL.op (v := v7) rfl (Q1.e (Q_move rfl i7)) ?_
  refine RunL.op (v := v9) rfl (Q1.e (Q_move rfl i9)) ?_
  refine RunL.call (v := r54) rfl rfl rfl rfl rfl pg1 wg1 ?_
  refine RunL.op (v := r54) rfl (Q1.e (Q_move rfl rfl)) ?_
  refine RunL.op (v := r55) rfl (Q1.e (Q_extract rfl rfl o55)) ?_
  refine RunL.op (v := r56) rfl (Q1.e (Q_extract rfl rfl o56)) ?_
  refine RunL.op (v := r55) rfl (Q1.e (Q_assign rfl rfl)) ?_
  refine RunL.op (v := r56) rfl (Q1.e (Q_assign rfl rfl)) ?_
  exact RunL.nil
theorem f5_r7_TTT {v11 v13 r61 v10 r65 r66 r70 v9 r72 r73 v12 r75 v8 r77 r78 r79 r80 : CV} {g1 g2 g3 g4 g5 : Hp} (i11 : s.at 11 = v11) (i13 : s.at 13 = v13) (i10 : s.at 10 = v10) (i9 : s.at 9 = v9) (i12 : s.at 12 = v12) (i8 : s.at 8 = v8) (o58 : bineq K.P .eql 29 v11 (.nu .i64 0) = some (.bo true)) (o61 : bineq K.P .eql 29 v13 (.nu .i64 0) = some r61) (o62 : qPick r61 (.bo false) (.bo true) = some (.bo true)) (pg1 : K.prim 26 [v10] = none) (wg1 : Comes K 26 [v10] h r65 g1) (o66 : bineq K.P .eql 29 r65 (.nu .i64 0) = some r66) (o67 : qPick r66 (.bo false) (.bo true) = some (.bo true)) (pg2 : K.prim 16 [v10] = none) (wg2 : Comes K 16 [v10] g1 r70 g2) (pg3 : K.prim 28 [r70, v9] = none) (wg3 : Comes K 28 [r70, v9] g2 r72 g3) (o73 : bineq K.P .geq 3 r72 (.nu .i64 0) = some r73) (pg4 : K.prim 16 [v12] = none) (wg4 : Comes K 16 [v12] g3 r75 g4) (pg5 : K.prim 28 [r75, v8] = none) (wg5 : Comes K 28 [r75, v8] g4 r77 g5) (o78 : bineq K.P .geq 3 r77 (.nu .i64 0) = some r78) (o79 : bineq K.P .eql 4 r73 r78 = some r79) (o80 : qPick r79 (.bo false) (.bo true) = some r80) : Runs K 5 81 none (sub1 [1, 1, 1, 1, 1, 1, 0] (bodyOf Tryz.f5)) s h .normal (T.set (T.set (T.set (T.set (T.set (T.set (T.set (T.set (T.set (T.set (T.set (T.set (T.set (T.set (T.set (T.set (T.set (T.set (T.set (T.set (T.set (T.set (T.set (T.set (T.set s 57 v11) 58 (.bo true)) 59 (.bo true)) 60 v13) 61 r61) 62 (.bo true)) 63 (.bo true)) 64 v10) 65 r65) 66 r66) 67 (.bo true)) 68 (.bo true)) 69 v10) 70 r70) 71 v9) 72 r72) 73 r73) 74 v12) 75 r75) 76 v8) 77 r77) 78 r78) 79 r79) 80 r80) 6 r80) g5 := by
  refine Runs.region ?_
  refine RunL.op (v := v11) rfl (Q1.e (Q_move rfl i11)) ?_
  refine RunL.op (v := (.bo true)) rfl (Q1.e (Q_bin rfl rfl rfl o58)) ?_
  refine RunL.op (v := (.bo true)) rfl (Q1.e (Q_move rfl rfl)) ?_
  refine RunL.op (v := v13) rfl (Q1.e (Q_move rfl i13)) ?_
  refine RunL.op (v := r61) rfl (Q1.e (Q_bin rfl rfl rfl o61)) ?_
  refine RunL.op (v := (.bo true)) rfl (Q1.e (Q_pick rfl rfl rfl rfl o62)) ?_
  refine RunL.op (v := (.bo true)) rfl (Q1.e (Q_move rfl rfl)) ?_
  refine RunL.op (v := v10) rfl (Q1.e (Q_move rfl i10)) ?_
  refine RunL.call (v := r65) rfl rfl rfl rfl rfl pg1 wg1 ?_
  refine RunL.op (v := r66) rfl (Q1.e (Q_bin rfl rfl rfl o66)) ?_
  refine RunL.op (v := (.bo true)) rfl (Q1.e (Q_pick rfl rfl rfl rfl o67)) ?_
  refine RunL.op (v := (.bo true)) rfl (Q1.e (Q_move rfl rfl)) ?_
  refine RunL.op (v := v10) rfl (Q1.e (Q_move rfl i10)) ?_
  refine RunL.call (v := r70) rfl rfl rfl rfl rfl pg2 wg2 ?_
  refine RunL.op (v := v9) rfl (Q1.e (Q_move rfl i9)) ?_
  refine RunL.call (v := r72) rfl rfl rfl rfl rfl pg3 wg3 ?_
  refine RunL.op (v := r73) rfl (Q1.e (Q_bin rfl rfl rfl o73)) ?_
  refine RunL.op (v := v12) rfl (Q1.e (Q_move rfl i12)) ?_
  refine RunL.call (v := r75) rfl rfl rfl rfl rfl pg4 wg4 ?_
  refine RunL.op (v := v8) rfl (Q1.e (Q_move rfl i8)) ?_
  refine RunL.call (v := r77) rfl rfl rfl rfl rfl pg5 wg5 ?_
  refine RunL.op (v := r78) rfl (Q1.e (Q_bin rfl rfl rfl o78)) ?_
  refine RunL.op (v := r79) rfl (Q1.e (Q_bin rfl rfl rfl o79)) ?_
  refine RunL.op (v := r80) rfl (Q1.e (Q_pick rfl rfl rfl rfl o80)) ?_
  refine RunL.op (v := r80) rfl (Q1.e (Q_assign rfl rfl)) ?_
  exact RunL.nil
end Go.CP
