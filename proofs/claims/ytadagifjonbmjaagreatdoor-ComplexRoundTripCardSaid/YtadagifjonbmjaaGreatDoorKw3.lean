import Derived.Test.YtadagifjonbmjaaGreatDoorKq0
import Derived.Test.YtadagifjonbmjaaGreatDoorProg
set_option linter.all false
set_option maxHeartbeats 2000000
namespace Go.CP
open Go.Proofs
abbrev jd [LG] [HK] (K : Ctx) (p : List Nat) := Runs K 23 27 none (aD p (am Tryz.f23))
abbrev eI [LG] [HK] (K : Ctx) (p : List Nat) := Runs K 24 46 none (aD p (am Tryz.f24))
abbrev LM [LG] [HK] (K : Ctx) (p : List Nat) := Runs K 68 9 none (aD p (am Tryz.f68))
abbrev Fi [LG] [HK] (K : Ctx) (p : List Nat) := Runs K 111 9 none (aD p (am Tryz.f111))
abbrev Fj [LG] [HK] (K : Ctx) (p : List Nat) := Runs K 112 8 none (aD p (am Tryz.f112))
abbrev hY [LG] [HK] (K : Ctx) (p : List Nat) := Runs K 140 19 none (aD p (am Tryz.f140))
variable [LG] [HK] {K : Ctx} {s : Fr} {h : Hp} (hk : ∀ o, HK.keep o = false)
include hk
theorem wW : jd K [0] s h .normal (W s 4 ff) h :=
 rg (Ra (v := ff) rfl rfl rfl (RunL.nil))
theorem C3 {v0 r7 v1 r9 r10 : CV} (i0 : s.at 0 = v0) (i1 : s.at 1 = v1) (o7 : an h v0 (ae K.P 22) = some r7) (o9 : an h v1 (ae K.P 26) = some r9) (o10 : ab K.P .neq 3 r7 r9 = some r10) : jd K [1, 0, 0] s h .normal (W (W4 s 6 v0 7 r7 8 v1 9 r9) 10 r10) h :=
 rg (Rm rfl rfl i0 (R1 (v := r7) rfl (aK rfl rfl rfl rfl rfl o7) (Rm rfl rfl i1 (R1 (v := r9) rfl (aK rfl rfl rfl rfl rfl o9) (Rb rfl rfl rfl rfl o10 (RunL.nil))))))
theorem LN : jd K [1, 0, 1, 0, 0] s h .normal (W s 4 ff) h :=
 rg (Ra (v := ff) rfl rfl rfl (RunL.nil))
theorem C4 : jd K [1, 1, 0, 0] s h .normal (W s 5 n0) h :=
 rg (Ra (v := n0) rfl rfl rfl (RunL.nil))
theorem wY {v5 v0 r13 r14 : CV} (i5 : s.at 5 = v5) (i0 : s.at 0 = v0) (o13 : an h v0 (ae K.P 22) = some r13) (o14 : ab K.P .lss 3 v5 r13 = some r14) : jd K [1, 1, 0, 1, 0, 0, 0, 0] s h .normal (W4 s 11 v5 12 v0 13 r13 14 r14) h :=
 rg (Rm rfl rfl i5 (Rm rfl rfl i0 (R1 (v := r13) rfl (aK rfl rfl rfl rfl rfl o13) (Rb rfl rfl rfl rfl o14 (RunL.nil)))))
theorem C5 {v0 v5 r19 r20 v1 r23 r24 r25 r26 : CV} {g1 : Hp} (hp : K.plan 23 6 = some [.t 0,.t 1,.t 2,.t 3,.t 4,.o 5 [4, 3, 2, 1, 0],.o 6 [3, 2, 1, 0],.o 7 [3, 2, 1, 0],.o 8 [],.o 9 []]) (i0 : s.at 0 = v0) (i5 : s.at 5 = v5) (i1 : s.at 1 = v1) (o19 : ai v0 v5 (ae K.P 22) = some r19) (o20 : ap h r19 (ar K.P 46) = some r20) (q20 : ceq r20 r20 = true) (o23 : ai v1 v5 (ae K.P 26) = some r23) (o24 : ap h r23 (ar K.P 45) = some r24) (pg1 : K.prim 38 [r20, r24] = none) (wg1 : Comes K 38 [r20, r24] h r25 g1) (o26 : ab K.P .neq 3 r25 n0 = some r26) : jd K [1, 1, 0, 1, 0, 0, 1, 0, 0, 0] s h .normal (W (W (W8 s 17 v0 18 v5 19 r19 20 r20 21 v1 22 v5 23 r23 24 r24) 25 r25) 26 r26) g1 :=
 Runs.drawn hp (RunP.q (v := v0) rfl rfl (aS rfl i0) (RunP.q (v := v5) rfl rfl (aS rfl i5) (RunP.q (v := r19) rfl rfl (bw rfl rfl rfl o19) (RunP.q (v := r20) rfl rfl (aJ rfl rfl o20) (RunP.q (v := v1) rfl rfl (aS rfl i1) (RunP.only (v := v5) rfl rfl (Q1.e (aS rfl i5)) (by simp (decide := true) only [bV, bS, qX, ev, Fr.putO, aI, reduceIte, Nat.reduceEqDiff, List.filter_cons, List.filter_nil, List.any_cons, List.any_nil, List.all_cons, List.all_nil, List.getElem_toArray, List.getElem_cons_succ, List.getElem_cons_zero, Option.map_some, Option.map_none, aV, bj, Bool.and_true, Bool.true_and, Bool.and_self, i0, i5, i1, o19, o20, q20]) (RunP.only (v := r23) rfl rfl (Q1.e (bw rfl rfl rfl o23)) (by simp (decide := true) only [bV, bS, qX, ev, Fr.putO, aI, reduceIte, Nat.reduceEqDiff, List.filter_cons, List.filter_nil, List.any_cons, List.any_nil, List.all_cons, List.all_nil, List.getElem_toArray, List.getElem_cons_succ, List.getElem_cons_zero, Option.map_some, Option.map_none, aV, bj, Bool.and_true, Bool.true_and, Bool.and_self, i0, i5, i1, o19, o20, q20, o23]) (RunP.only (v := r24) rfl rfl (Q1.e (aJ rfl rfl o24)) (by simp (decide := true) only [bV, bS, qX, ev, Fr.putO, aI, reduceIte, Nat.reduceEqDiff, List.filter_cons, List.filter_nil, List.any_cons, List.any_nil, List.all_cons, List.all_nil, List.getElem_toArray, List.getElem_cons_succ, List.getElem_cons_zero, Option.map_some, Option.map_none, aV, bj, Bool.and_true, Bool.true_and, Bool.and_self, i0, i5, i1, o19, o20, q20, o23, o24]) (RunP.call (v := r25) rfl rfl rfl rfl rfl rfl pg1 wg1 rfl (RunP.only (v := r26) rfl rfl (Q1.e (eQ rfl rfl rfl o26)) rfl (RunP.nil)))))))))))
theorem LO : jd K [1, 1, 0, 1, 0, 0, 1, 0, 0, 1, 0, 0] s h .normal (W s 4 ff) h :=
 rg (Ra (v := ff) rfl rfl rfl (RunL.nil))
theorem LP {v5 r16 : CV} (i5 : s.at 5 = v5) (o16 : ab K.P .add 3 v5 (.nu .i64 1) = some r16) : jd K [1, 1, 0, 1, 0, 0, 1, 1] s h .normal (W (W (W s 15 v5) 16 r16) 5 r16) h :=
 rg (Rm rfl rfl i5 (Rb rfl rfl rfl rfl o16 (Ra (v := r16) rfl rfl rfl (RunL.nil))))
theorem LQ : jd K [1, 1, 1, 0] s h .normal (W s 4 tt) h :=
 rg (Ra (v := tt) rfl rfl rfl (RunL.nil))
theorem C6 : eI K [0] s h .normal (W (W s 2 .nils) 3 n0) h :=
 rg (Ra (v := .nils) rfl rfl rfl (Ra (v := n0) rfl rfl rfl (RunL.nil)))
theorem C7 {v0 r11 : CV} {g1 : Hp} (i0 : s.at 0 = v0) (pg1 : K.prim 26 [v0] = none) (wg1 : Comes K 26 [v0] h r11 g1) : eI K [1, 0, 0, 0] s h .normal (W (W (W s 10 v0) 11 r11) 4 r11) g1 :=
 rg (Rm rfl rfl i0 (RunL.call (v := r11) rfl rfl rfl rfl rfl pg1 wg1 (Ra (v := r11) rfl rfl rfl (RunL.nil))))
theorem C8 {v4 r13 : CV} (i4 : s.at 4 = v4) (o13 : ab K.P .neq 29 v4 n0 = some r13) : eI K [1, 0, 0, 1, 0] s h .normal (W (W s 12 v4) 13 r13) h :=
 rg (Rm rfl rfl i4 (Rb rfl rfl rfl rfl o13 (RunL.nil)))
theorem LR {v4 : CV} (i4 : s.at 4 = v4) : eI K [1, 0, 0, 1, 1, 0, 0] s h .normal (W (W (W s 14 v4) 2 .nils) 3 v4) h :=
 rg (Rm rfl rfl i4 (Ra (v := .nils) rfl rfl rfl (Ra (v := v4) rfl rfl rfl (RunL.nil))))
theorem LS : eI K [1, 0, 1, 0] s h .normal (W s 5 .nils) h :=
 rg (Ra (v := .nils) rfl rfl rfl (RunL.nil))
theorem LU {v0 r16 : CV} (i0 : s.at 0 = v0) (o16 : an h v0 (ae K.P 22) = some r16) : eI K [1, 0, 1, 1, 1, 0, 0] s h .normal (W (W (W s 15 v0) 16 r16) 17 n0) h :=
 rg (Rm rfl rfl i0 (R1 (v := r16) rfl (aK rfl rfl rfl rfl rfl o16) (Rm (v := n0) rfl rfl rfl (RunL.nil))))
theorem C9 {v17 v16 r18 : CV} (i17 : s.at 17 = v17) (i16 : s.at 16 = v16) (o18 : ab K.P .lss 3 v17 v16 = some r18) : eI K [1, 0, 1, 1, 1, 0, 1, 0, 0, 0] s h .normal (W s 18 r18) h :=
 rg (Rb rfl rfl i17 i16 o18 (RunL.nil))
theorem LV {v15 v17 r19 r20 : CV} (i15 : s.at 15 = v15) (i17 : s.at 17 = v17) (o19 : ai v15 v17 (ae K.P 22) = some r19) (o20 : ap h r19 (ar K.P 46) = some r20) : eI K [1, 0, 1, 1, 1, 0, 1, 0, 0, 1, 1, 0, 0, 0] s h .normal (W (W (W s 19 r19) 20 r20) 7 r20) h :=
 rg (R1 (v := r19) rfl (bw rfl i15 i17 o19) (R1 (v := r20) rfl (aJ rfl rfl o20) (Ra (v := r20) rfl rfl rfl (RunL.nil))))
theorem LW {v0 r22 : CV} (i0 : s.at 0 = v0) (o22 : an h v0 (ae K.P 22) = some r22) : eI K [1, 0, 1, 1, 1, 0, 1, 0, 0, 1, 1, 0, 0, 1, 0, 0] s h .normal (W (W (W s 21 v0) 22 r22) 23 n0) h :=
 rg (Rm rfl rfl i0 (R1 (v := r22) rfl (aK rfl rfl rfl rfl rfl o22) (Rm (v := n0) rfl rfl rfl (RunL.nil))))
theorem Da {v23 v22 r24 : CV} (i23 : s.at 23 = v23) (i22 : s.at 22 = v22) (o24 : ab K.P .lss 3 v23 v22 = some r24) : eI K [1, 0, 1, 1, 1, 0, 1, 0, 0, 1, 1, 0, 0, 1, 0, 1, 0, 0, 0] s h .normal (W s 24 r24) h :=
 rg (Rb rfl rfl i23 i22 o24 (RunL.nil))
theorem IR {v21 v23 r25 r26 : CV} (i21 : s.at 21 = v21) (i23 : s.at 23 = v23) (o25 : ai v21 v23 (ae K.P 22) = some r25) (o26 : ap h r25 (ar K.P 46) = some r26) : eI K [1, 0, 1, 1, 1, 0, 1, 0, 0, 1, 1, 0, 0, 1, 0, 1, 0, 0, 1, 1, 0, 0, 0] s h .normal (W (W (W s 25 r25) 26 r26) 9 r26) h :=
 rg (R1 (v := r25) rfl (bw rfl i21 i23 o25) (R1 (v := r26) rfl (aJ rfl rfl o26) (Ra (v := r26) rfl rfl rfl (RunL.nil))))
theorem Db {v9 r28 v7 r30 r31 r36 r37 : CV} {g1 : Hp} (i9 : s.at 9 = v9) (i7 : s.at 7 = v7) (o28 : an h v9 (ae K.P 46) = some r28) (o30 : an h v7 (ae K.P 46) = some r30) (o31 : ab K.P .add 3 r30 (.nu .i64 1) = some r31) (o32 : ab K.P .eql 3 r28 r31 = some tt) (pg1 : K.prim 68 [v9, v7] = none) (wg1 : Comes K 68 [v9, v7] h r36 g1) (o37 : aA r36 ff tt = some r37) : eI K [1, 0, 1, 1, 1, 0, 1, 0, 0, 1, 1, 0, 0, 1, 0, 1, 0, 0, 1, 1, 0, 0, 1, 0] s h .normal (W (W (W (W8 s 27 v9 28 r28 29 v7 30 r30 31 r31 32 tt 33 tt 34 v9) 35 v7) 36 r36) 37 r37) g1 :=
 rg (Rm rfl rfl i9 (R1 (v := r28) rfl (aK rfl rfl rfl rfl rfl o28) (Rm rfl rfl i7 (R1 (v := r30) rfl (aK rfl rfl rfl rfl rfl o30) (Rb rfl rfl rfl rfl o31 (Rb rfl rfl rfl rfl o32 (Rm (v := tt) rfl rfl rfl (Rm rfl rfl i9 (Rm rfl rfl i7 (RunL.call (v := r36) rfl rfl rfl rfl rfl pg1 wg1 (R1 (v := r37) rfl (aU rfl rfl rfl rfl o37) (RunL.nil))))))))))))
theorem Dc {v9 r28 v7 r30 r31 r37 : CV} (i9 : s.at 9 = v9) (i7 : s.at 7 = v7) (o28 : an h v9 (ae K.P 46) = some r28) (o30 : an h v7 (ae K.P 46) = some r30) (o31 : ab K.P .add 3 r30 (.nu .i64 1) = some r31) (o32 : ab K.P .eql 3 r28 r31 = some ff) (o37 : aA .skp ff ff = some r37) : eI K [1, 0, 1, 1, 1, 0, 1, 0, 0, 1, 1, 0, 0, 1, 0, 1, 0, 0, 1, 1, 0, 0, 1, 0] s h .normal (W (W (W (W8 s 27 v9 28 r28 29 v7 30 r30 31 r31 32 ff 33 ff 34 .skp) 35 .skp) 36 .skp) 37 r37) h :=
 rg (Rm rfl rfl i9 (R1 (v := r28) rfl (aK rfl rfl rfl rfl rfl o28) (Rm rfl rfl i7 (R1 (v := r30) rfl (aK rfl rfl rfl rfl rfl o30) (Rb rfl rfl rfl rfl o31 (Rb rfl rfl rfl rfl o32 (Rm (v := ff) rfl rfl rfl (RunL.pass rfl (RunL.pass rfl (RunL.pass rfl (R1 (v := r37) rfl (aU rfl rfl rfl rfl o37) (RunL.nil))))))))))))
theorem zB {v23 r38 : CV} (i23 : s.at 23 = v23) (o38 : ab K.P .add 3 v23 (.nu .i64 1) = some r38) : eI K [1, 0, 1, 1, 1, 0, 1, 0, 0, 1, 1, 0, 0, 1, 0, 1, 0, 0, 1, 1, 1] s h .normal (W (W s 38 r38) 23 r38) h :=
 rg (Rb rfl rfl i23 rfl o38 (Rm (v := r38) rfl rfl rfl (RunL.nil)))
theorem IS {v5 v7 r41 r43 : CV} {F42 : Nat → CV} {B42 : HB} {g1 g2 : Hp} (i5 : s.at 5 = v5) (i7 : s.at 7 = v7) (pg1 : K.prim 69 [v7] = none) (wg1 : Comes K 69 [v7] h r41 g1) (o42 : aL 1 [(0, r41)] (ae K.P 22) = some (F42, B42)) (wg2 : aQ (g1.push B42) v5 (F42 (g1).n) (ae K.P 22) (ae K.P 22) = some (r43, g2)) : eI K [1, 0, 1, 1, 1, 0, 1, 0, 0, 1, 1, 0, 0, 1, 1] s h .normal (W (W (W4 s 39 v5 40 v7 41 r41 42 (F42 (g1).n)) 43 r43) 5 r43) g2 :=
 rg (Rm rfl rfl i5 (Rm rfl rfl i7 (RunL.call (v := r41) rfl rfl rfl rfl rfl pg1 wg1 (RunL.op (v := (F42 (g1).n)) rfl (bZ rfl rfl o42) (RunL.op (v := r43) rfl (cO hk rfl rfl rfl rfl rfl rfl wg2) (Ra (v := r43) rfl rfl rfl (RunL.nil)))))))
theorem zC {v17 r44 : CV} (i17 : s.at 17 = v17) (o44 : ab K.P .add 3 v17 (.nu .i64 1) = some r44) : eI K [1, 0, 1, 1, 1, 0, 1, 0, 0, 1, 1, 1] s h .normal (W (W s 44 r44) 17 r44) h :=
 rg (Rb rfl rfl i17 rfl o44 (Rm (v := r44) rfl rfl rfl (RunL.nil)))
theorem IT {v5 : CV} (i5 : s.at 5 = v5) : eI K [1, 0, 1, 1, 1, 1, 0] s h .normal (W (W (W s 45 v5) 2 v5) 3 n0) h :=
 rg (Rm rfl rfl i5 (Ra (v := v5) rfl rfl rfl (Ra (v := n0) rfl rfl rfl (RunL.nil))))
theorem LX {v0 : CV} {F2 : Nat → CV} {B2 : HB} (i0 : s.at 0 = v0) (o2 : fK 46 v0 (ar K.P 46) = some (F2, B2)) : LM K [0] s h .normal (W (W s 2 (F2 (h).n)) 4 ff) (h.push B2) :=
 rg (RunL.op (v := (F2 (h).n)) rfl (qJ rfl i0 o2) (Ra (v := ff) rfl rfl rfl (RunL.nil)))
theorem LY {v1 v2 r7 r8 : CV} {g1 : Hp} (i1 : s.at 1 = v1) (i2 : s.at 2 = v2) (pg1 : K.prim 111 [v1, (.fn 112 [v2])] = none) (wg1 : Comes K 111 [v1, (.fn 112 [v2])] h r7 g1) (o8 : dC .not r7 = some r8) : LM K [1, 0] s h .normal (W (W4 s 5 v1 6 (.fn 112 [v2]) 7 r7 8 r8) 4 r8) g1 :=
 rg (Rm rfl rfl i1 (R1 (v := (.fn 112 [v2])) rfl (BG rfl (by simp only [ev, Fr.putO, aI, reduceIte, Nat.reduceEqDiff, List.toList_toArray, List.map_cons, List.map_nil, Option.map_some, Option.map_none, i2]; try rfl)) (RunL.call (v := r7) rfl rfl rfl rfl rfl pg1 wg1 (R1 (v := r8) rfl (jV rfl rfl o8) (Ra (v := r8) rfl rfl rfl (RunL.nil))))))
theorem IU : Fi K [0] s h .normal (W s 4 ff) h :=
 rg (Ra (v := ff) rfl rfl rfl (RunL.nil))
theorem IV {v0 v1 r7 r8 : CV} {g1 : Hp} (i0 : s.at 0 = v0) (i1 : s.at 1 = v1) (pg1 : K.prim 140 [v0, v1] = none) (wg1 : Comes K 140 [v0, v1] h r7 g1) (o8 : ab K.P .geq 3 r7 n0 = some r8) : Fi K [1, 0] s h .normal (W (W4 s 5 v0 6 v1 7 r7 8 r8) 4 r8) g1 :=
 rg (Rm rfl rfl i0 (Rm rfl rfl i1 (RunL.call (v := r7) rfl rfl rfl rfl rfl pg1 wg1 (Rb rfl rfl rfl rfl o8 (Ra (v := r8) rfl rfl rfl (RunL.nil))))))
theorem IW : Fj K [0] s h .normal (W s 3 ff) h :=
 rg (Ra (v := ff) rfl rfl rfl (RunL.nil))
theorem IX {v1 r4 v0 r6 r7 : CV} {g1 : Hp} (i1 : s.at 1 = v1) (i0 : s.at 0 = v0) (o4 : ap h v1 (ar K.P 46) = some r4) (pg1 : K.prim 113 [r4, v0] = none) (wg1 : Comes K 113 [r4, v0] h r6 g1) (o7 : dC .not r6 = some r7) : Fj K [1, 0] s h .normal (W (W4 s 4 r4 5 v0 6 r6 7 r7) 3 r7) g1 :=
 rg (R1 (v := r4) rfl (aJ rfl i1 o4) (Rm rfl rfl i0 (RunL.call (v := r6) rfl rfl rfl rfl rfl pg1 wg1 (R1 (v := r7) rfl (jV rfl rfl o7) (Ra (v := r7) rfl rfl rfl (RunL.nil))))))
theorem zD : hY K [0] s h .normal (W s 4 n0) h :=
 rg (Ra (v := n0) rfl rfl rfl (RunL.nil))
theorem IY {v0 r7 : CV} (i0 : s.at 0 = v0) (o7 : an h v0 (ae K.P 46) = some r7) : hY K [1, 0, 0] s h .normal (W (W (W s 6 v0) 7 r7) 8 n0) h :=
 rg (Rm rfl rfl i0 (R1 (v := r7) rfl (aK rfl rfl rfl rfl rfl o7) (Rm (v := n0) rfl rfl rfl (RunL.nil))))
theorem ti {v8 v7 r9 : CV} (i8 : s.at 8 = v8) (i7 : s.at 7 = v7) (o9 : ab K.P .lss 3 v8 v7 = some r9) : hY K [1, 0, 1, 0, 0, 0] s h .normal (W s 9 r9) h :=
 rg (Rb rfl rfl i8 i7 o9 (RunL.nil))
theorem zE {v8 : CV} (i8 : s.at 8 = v8) : hY K [1, 0, 1, 0, 0, 1, 1, 0, 0, 0] s h .normal (W (W s 10 v8) 5 v8) h :=
 rg (Rm rfl rfl i8 (Ra (v := v8) rfl rfl rfl (RunL.nil)))
theorem zF {v1 v0 v5 r14 r15 r16 : CV} {g1 : Hp} {G16 : FuncId} {C16 : List CV} (i1 : s.at 1 = v1) (i0 : s.at 0 = v0) (i5 : s.at 5 = v5) (o14 : ai v0 v5 (ae K.P 46) = some r14) (o15 : ap h r14 (ar K.P 3) = some r15) (e16 : (v1 : CV) = .fn G16 C16) (pg1 : K.prim G16 ([r15] ++ C16) = none) (wg1 : Comes K G16 ([r15] ++ C16) h r16 g1) : hY K [1, 0, 1, 0, 0, 1, 1, 0, 0, 1, 0] s h .normal (W (W (W4 s 11 v1 12 v0 13 v5 14 r14) 15 r15) 16 r16) g1 :=
 rg (Rm rfl rfl i1 (Rm rfl rfl i0 (Rm rfl rfl i5 (R1 (v := r14) rfl (bw rfl rfl rfl o14) (R1 (v := r15) rfl (aJ rfl rfl o15) (RunL.call (v := r16) rfl rfl rfl e16 rfl pg1 wg1 (RunL.nil)))))))
theorem IZ {v5 : CV} (i5 : s.at 5 = v5) : hY K [1, 0, 1, 0, 0, 1, 1, 0, 0, 1, 1, 0, 0] s h .normal (W (W s 17 v5) 4 v5) h :=
 rg (Rm rfl rfl i5 (Ra (v := v5) rfl rfl rfl (RunL.nil)))
theorem I0 {v8 r18 : CV} (i8 : s.at 8 = v8) (o18 : ab K.P .add 3 v8 (.nu .i64 1) = some r18) : hY K [1, 0, 1, 0, 0, 1, 1, 1] s h .normal (W (W s 18 r18) 8 r18) h :=
 rg (Rb rfl rfl i8 rfl o18 (Rm (v := r18) rfl rfl rfl (RunL.nil)))
theorem I1 : hY K [1, 1, 0] s h .normal (W s 4 (.nu .i64 (-1))) h :=
 rg (Ra (v := (.nu .i64 (-1))) rfl rfl rfl (RunL.nil))
end Go.CP
namespace Go.CP
open Go.Proofs
structure fT [LG] [HK] (K : Ctx) : Prop where
 p23_6 : K.plan 23 6 = some [.t 0,.t 1,.t 2,.t 3,.t 4,.o 5 [4, 3, 2, 1, 0],.o 6 [3, 2, 1, 0],.o 7 [3, 2, 1, 0],.o 8 [],.o 9 []]
variable [LG] [HK] {K : Ctx} {s : Fr} {h : Hp} (hk : ∀ o, HK.keep o = false) (pr : ∀ f args, K.prim f args = none) (Pl : fT K)
include hk pr Pl
theorem Dd {v0 r7 v1 r9 : CV} (i0 : s.at 0 = v0) (i1 : s.at 1 = v1) (o7 : an h v0 (ae K.P 22) = some r7) (o9 : an h v1 (ae K.P 26) = some r9) (o10 : ab K.P .neq 3 r7 r9 = some tt) : jd K [1, 0] s h .ret (W (W (W4 s 6 v0 7 r7 8 v1 9 r9) 10 tt) 4 ff) h :=
 (sq (C3 (h := h) (r10 := tt) hk i0 i1 o7 o9 o10) (cT 10 rfl (sq (LN (h := h) hk) Runs.ret)))
theorem De {v0 r7 v1 r9 : CV} (i0 : s.at 0 = v0) (i1 : s.at 1 = v1) (o7 : an h v0 (ae K.P 22) = some r7) (o9 : an h v1 (ae K.P 26) = some r9) (o10 : ab K.P .neq 3 r7 r9 = some ff) : jd K [1, 0] s h .normal (W (W4 s 6 v0 7 r7 8 v1 9 r9) 10 ff) h :=
 (sq (C3 (h := h) (r10 := ff) hk i0 i1 o7 o9 o10) (cF 10 rfl sk))
theorem tj {v5 v0 r13 r19 r20 v1 r23 r24 r25 : CV} {g1 : Hp} (i5 : s.at 5 = v5) (i0 : s.at 0 = v0) (i1 : s.at 1 = v1) (o13 : an h v0 (ae K.P 22) = some r13) (o14 : ab K.P .lss 3 v5 r13 = some tt) (o19 : ai v0 v5 (ae K.P 22) = some r19) (o20 : ap h r19 (ar K.P 46) = some r20) (q20 : ceq r20 r20 = true) (o23 : ai v1 v5 (ae K.P 26) = some r23) (o24 : ap h r23 (ar K.P 45) = some r24) (wg1 : Comes K 38 [r20, r24] h r25 g1) (o26 : ab K.P .neq 3 r25 n0 = some tt) : jd K [1, 1, 0, 1, 0, 0] s h .ret (W (W (W (W4 (W8 s 11 v5 12 v0 13 r13 14 tt 17 v0 18 v5 19 r19 20 r20) 21 v1 22 v5 23 r23 24 r24) 25 r25) 26 tt) 4 ff) g1 :=
 (sq (sq (wY (h := h) (r14 := tt) hk i5 i0 o13 o14) (cT 14 rfl sk)) (sx (aF (sq (C5 (h := h) (r26 := tt) hk Pl.p23_6 i0 i5 i1 o19 o20 q20 o23 o24 (pr _ _) ‹_› o26) (cT 26 rfl (sq (LO (h := g1) hk) Runs.ret)))) (by simp)))
theorem tk {v5 v0 r13 r19 r20 v1 r23 r24 r25 r16 : CV} {g1 : Hp} (i5 : s.at 5 = v5) (i0 : s.at 0 = v0) (i1 : s.at 1 = v1) (o13 : an h v0 (ae K.P 22) = some r13) (o14 : ab K.P .lss 3 v5 r13 = some tt) (o19 : ai v0 v5 (ae K.P 22) = some r19) (o20 : ap h r19 (ar K.P 46) = some r20) (q20 : ceq r20 r20 = true) (o23 : ai v1 v5 (ae K.P 26) = some r23) (o24 : ap h r23 (ar K.P 45) = some r24) (wg1 : Comes K 38 [r20, r24] h r25 g1) (o26 : ab K.P .neq 3 r25 n0 = some ff) (o16 : ab K.P .add 3 v5 (.nu .i64 1) = some r16) : jd K [1, 1, 0, 1, 0, 0] s h .normal (W (W8 (W8 s 11 v5 12 v0 13 r13 14 tt 17 v0 18 v5 19 r19 20 r20) 21 v1 22 v5 23 r23 24 r24 25 r25 26 ff 15 v5 16 r16) 5 r16) g1 :=
 (sq (sq (wY (h := h) (r14 := tt) hk i5 i0 o13 o14) (cT 14 rfl sk)) (sq (aB (sq (C5 (h := h) (r26 := ff) hk Pl.p23_6 i0 i5 i1 o19 o20 q20 o23 o24 (pr _ _) ‹_› o26) (cF 26 rfl sk))) (LP (h := g1) hk i5 o16)))
theorem ve {v5 v0 r13 : CV} (i5 : s.at 5 = v5) (i0 : s.at 0 = v0) (o13 : an h v0 (ae K.P 22) = some r13) (o14 : ab K.P .lss 3 v5 r13 = some ff) : jd K [1, 1, 0, 1, 0, 0] s h (.exit 0) (W4 s 11 v5 12 v0 13 r13 14 ff) h :=
 (sx (sq (wY (h := h) (r14 := ff) hk i5 i0 o13 o14) (cF 14 rfl Runs.exit)) (by simp))
theorem Fk : jd K [1, 1, 1] s h .ret (W s 4 tt) h :=
 (sq (LQ (h := h) hk) Runs.ret)
theorem MT {v0 v1 r7 r8 : CV} {F2 : Nat → CV} {B2 : HB} {g1 : Hp} (i0 : s.at 0 = v0) (i1 : s.at 1 = v1) (o2 : fK 46 v0 (ar K.P 46) = some (F2, B2)) (wg1 : Comes K 111 [v1, (.fn 112 [(F2 (h).n)])] (h.push B2) r7 g1) (o8 : dC .not r7 = some r8) : LM K [] s h .ret (W (W (W (W4 s 2 (F2 (h).n) 4 ff 5 v1 6 (.fn 112 [(F2 (h).n)])) 7 r7) 8 r8) 4 r8) g1 :=
 (sq (LX (h := h) hk i0 o2) (sq (LY (h := (h.push B2)) (v2 := (F2 (h).n)) hk i1 rfl (pr _ _) ‹_› o8) Runs.ret))
theorem LZ {v0 v1 r7 r8 : CV} {g1 : Hp} (i0 : s.at 0 = v0) (i1 : s.at 1 = v1) (wg1 : Comes K 140 [v0, v1] h r7 g1) (o8 : ab K.P .geq 3 r7 n0 = some r8) : Fi K [] s h .ret (W (W (W4 s 4 ff 5 v0 6 v1 7 r7) 8 r8) 4 r8) g1 :=
 (sq (IU (h := h) hk) (sq (IV (h := h) hk i0 i1 (pr _ _) ‹_› o8) Runs.ret))
theorem L0 {v1 r4 v0 r6 r7 : CV} {g1 : Hp} (i1 : s.at 1 = v1) (i0 : s.at 0 = v0) (o4 : ap h v1 (ar K.P 46) = some r4) (wg1 : Comes K 113 [r4, v0] h r6 g1) (o7 : dC .not r6 = some r7) : Fj K [] s h .ret (W (W (W4 s 3 ff 4 r4 5 v0 6 r6) 7 r7) 3 r7) g1 :=
 (sq (IW (h := h) hk) (sq (IX (h := h) hk i1 i0 o4 (pr _ _) ‹_› o7) Runs.ret))
theorem tl {v8 v7 v1 v0 r14 r15 : CV} {g1 : Hp} {G16 : FuncId} {C16 : List CV} (i8 : s.at 8 = v8) (i7 : s.at 7 = v7) (i1 : s.at 1 = v1) (i0 : s.at 0 = v0) (o9 : ab K.P .lss 3 v8 v7 = some tt) (o14 : ai v0 v8 (ae K.P 46) = some r14) (o15 : ap h r14 (ar K.P 3) = some r15) (e16 : (v1 : CV) = .fn G16 C16) (wg1 : Comes K G16 ([r15] ++ C16) h tt g1) : hY K [1, 0, 1, 0, 0] s h .ret (W (W (W (W8 s 9 tt 10 v8 5 v8 11 v1 12 v0 13 v8 14 r14 15 r15) 16 tt) 17 v8) 4 v8) g1 :=
 (sq (ti (h := h) (r9 := tt) hk i8 i7 o9) (sq (cT 9 rfl sk) (sx (aF (sq (zE (h := h) hk i8) (sq (zF (h := h) (v5 := v8) (r16 := tt) (G16 := G16) (C16 := C16) hk i1 i0 rfl o14 o15 ‹_› (pr _ _) ‹_›) (cT 16 rfl (sq (IZ (h := g1) (v5 := v8) hk rfl) Runs.ret))))) (by simp))))
theorem tp {v8 v7 v1 v0 r14 r15 r18 : CV} {g1 : Hp} {G16 : FuncId} {C16 : List CV} (i8 : s.at 8 = v8) (i7 : s.at 7 = v7) (i1 : s.at 1 = v1) (i0 : s.at 0 = v0) (o9 : ab K.P .lss 3 v8 v7 = some tt) (o14 : ai v0 v8 (ae K.P 46) = some r14) (o15 : ap h r14 (ar K.P 3) = some r15) (e16 : (v1 : CV) = .fn G16 C16) (wg1 : Comes K G16 ([r15] ++ C16) h ff g1) (o18 : ab K.P .add 3 v8 (.nu .i64 1) = some r18) : hY K [1, 0, 1, 0, 0] s h .normal (W (W (W (W8 s 9 tt 10 v8 5 v8 11 v1 12 v0 13 v8 14 r14 15 r15) 16 ff) 18 r18) 8 r18) g1 :=
 (sq (ti (h := h) (r9 := tt) hk i8 i7 o9) (sq (cT 9 rfl sk) (sq (aB (sq (zE (h := h) hk i8) (sq (zF (h := h) (v5 := v8) (r16 := ff) (G16 := G16) (C16 := C16) hk i1 i0 rfl o14 o15 ‹_› (pr _ _) ‹_›) (cF 16 rfl sk)))) (I0 (h := g1) hk i8 o18))))
theorem vf {v8 v7 : CV} (i8 : s.at 8 = v8) (i7 : s.at 7 = v7) (o9 : ab K.P .lss 3 v8 v7 = some ff) : hY K [1, 0, 1, 0, 0] s h (.exit 0) (W s 9 ff) h :=
 (sq (ti (h := h) (r9 := ff) hk i8 i7 o9) (sx (cF 9 rfl Runs.exit) (by simp)))
theorem Fl : hY K [1, 1] s h .ret (W s 4 (.nu .i64 (-1))) h :=
 (sq (I1 (h := h) hk) Runs.ret)
end Go.CP
